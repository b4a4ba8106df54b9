/- Walks: alive of chapter 7. -/
import Derived.Test.YtnhookblhckmlaaK6
import Derived.Lib.Strings
namespace Go.Proofs.Ytnhookblhckmlaa
open Go.RowKit Mk Go.Sort

def kK : ByteArray := ⟨#[107]⟩
def cA : CellM := ⟨⟨#[107]⟩, 5, false, ⟨#[97]⟩⟩
def cB : CellM := ⟨⟨#[107]⟩, 3, false, ⟨#[98]⟩⟩
def cE : CellM := ⟨⟨#[]⟩, 1, false, ⟨#[]⟩⟩
theorem mayA : mayM cA = 0 := by simp [mayM, cA, Lib.toList_data, ByteArray.size]
theorem mayB : mayM cB = 0 := by simp [mayM, cB, Lib.toList_data, ByteArray.size]
theorem mayE : mayM cE = 2 := by simp [mayM, cE, Lib.toList_data, ByteArray.size]
theorem tailAB : Tail [] [cA, cB] := by
  intro i x hx
  match i, hx with
  | 0, hx =>
    simp at hx
    subst hx
    exact ⟨mayA, rfl, rfl⟩
  | 1, hx =>
    simp at hx
    subst hx
    refine ⟨mayB, ?_, ?_⟩
    · simp [bsM, bsGo, cmpM, cA, cB, ordS_self, ordN]
    · simp [bsIs, bsM, bsGo, cmpM, cA, cB, ordS_self, ordN]
theorem seenAB : seenM [cA, cB] ⟨#[107]⟩ 4 = some cB := by
  have h : bsM [cA, cB] ⟨⟨#[107]⟩, 4, false, ⟨#[]⟩⟩ = 1 := by simp [bsM, bsGo, cmpM, cA, cB, ordS_self, ordN]
  unfold seenM
  rw [h]
  simp [cB]
theorem has_two {w : World} {g : Nat} (a b : CellM) (h : w.heap[g]? = some (.cells #[.string a.key, .int .u64 a.time, .bool a.del, .string a.val, .string b.key, .int .u64 b.time, .bool b.del, .string b.val] 24)) : Has w (.slice (some ⟨g, 0, none⟩) 2 2) [a, b] :=
  ⟨by simp [cellsL, cellL], Or.inr ⟨g, 2, _, rfl, h, Nat.le_refl _, by decide, by simp, by simp [cellsL, cellL]⟩⟩
theorem has_one {w : World} {g : Nat} (a : CellM) (h : w.heap[g]? = some (.cells #[.string a.key, .int .u64 a.time, .bool a.del, .string a.val] 24)) : Has w (.slice (some ⟨g, 0, none⟩) 1 1) [a] :=
  ⟨by simp [cellsL, cellL], Or.inr ⟨g, 1, _, rfl, h, Nat.le_refl _, by decide, by simp, by simp [cellsL, cellL]⟩⟩

set_option maxRecDepth 100000 in
set_option maxHeartbeats 2000000 in
theorem alive_any (w : World) :
    Calls Try.prog 10 #[] w fun e w' => e = .returned (.bool true) ∧ RowKit.Below w.heap.size w w' := by
  obtain ⟨W1, HW1⟩ : ∃ W, Hid (w.alloc (.cells #[.slice none 0 0, .bool true] 65) = W) := ⟨_, Lib.hid rfl⟩
  have hb1 : RowKit.Below w.heap.size w W1 := by rw [← HW1.out]; exact (Below.refl w.heap.size w).alloc (Nat.le_refl _) _
  have hx1 : W1.heap[w.heap.size]? = some (.cells #[.slice none 0 0, .bool true] 65) := by rw [← HW1.out]; exact Go.heap_alloc_new _ _
  have hs1 : W1.heap.size = w.heap.size + 1 := by rw [← HW1.out]; simp
  obtain ⟨W2, HW2⟩ : ∃ W, Hid (W1.alloc (.cells #[.string ⟨#[107]⟩, .int .u64 5, .bool false, .string ⟨#[97]⟩, .string ⟨#[107]⟩, .int .u64 3, .bool false, .string ⟨#[98]⟩] 24) = W) := ⟨_, Lib.hid rfl⟩
  have hb2 : RowKit.Below W1.heap.size W1 W2 := by rw [← HW2.out]; exact (Below.refl W1.heap.size W1).alloc (Nat.le_refl _) _
  have hx2 : W2.heap[W1.heap.size]? = some (.cells #[.string ⟨#[107]⟩, .int .u64 5, .bool false, .string ⟨#[97]⟩, .string ⟨#[107]⟩, .int .u64 3, .bool false, .string ⟨#[98]⟩] 24) := by rw [← HW2.out]; exact Go.heap_alloc_new _ _
  have hcr : CR W2 w.heap.size (.slice none 0 0) [] := ⟨cell_alloc_keep hx1 hb2, sl_nil _ _ _, by simp [Value.ownBlock]⟩
  have hrow : Has W2 (.slice (some ⟨W1.heap.size, 0, none⟩) 2 2) [cA, cB] := has_two cA cB hx2
  have P1 := put_tail hcr hrow (by simp [Value.ownBlock]; omega) (by intro g _; simp [Value.ownBlock]) tailAB (by decide)
  have HB2 := Lib.hid (hb1.trans (hb2.mono hb1.size))
  have N := new_any w
  clear hx1 hx2 hcr hrow hb1 hb2
  rw [HW1.out] at N
  go_enter Try.func10, Try.ntmps10
  go_wp2_with fail
  refine N.mono ?_
  rintro e w' ⟨rfl, rfl⟩
  go_wp2_with fail
  rw [HW2.out, ← hs1]
  refine P1.mono ?_
  rintro e w3 ⟨rfl, hp⟩
  obtain ⟨⟨lv', hcr, -⟩, hch⟩ := hp
  have hb3 : RowKit.Below w.heap.size w w3 := HB2.out.trans (hch.below (B := w.heap.size) (fun i e => by
    rcases e with e | e
    · omega
    · simp [Value.ownBlock] at e) HB2.out.size)
  have hcr : CR w3 w.heap.size lv' [cA, cB] := hcr
  have G := get_any hcr.blk hcr.has (by decide) ⟨#[107]⟩ 4
  rw [seenAB] at G
  unfold seenV cellV cB at G
  simp only at G
  have HCR := Lib.hid hcr
  have HB3 := Lib.hid hb3
  clear hcr hb3 hch P1 N HB2 HW2 W2 hs1
  go_wp2_with fail
  refine G.mono ?_
  rintro e w4 ⟨rfl, hb4⟩
  have HCR4 := Lib.hid (HCR.out.stay hb4)
  have HB4 := Lib.hid (HB3.out.trans (hb4.mono HB3.out.size))
  clear hb4 G HCR HB3
  obtain ⟨W5, HW5⟩ : ∃ W, Hid (w4.alloc (.cells #[.string ⟨#[107]⟩, .int .u64 3, .bool false, .string ⟨#[98]⟩] 24) = W) := ⟨_, Lib.hid rfl⟩
  have hb5 : RowKit.Below w4.heap.size w4 W5 := by rw [← HW5.out]; exact (Below.refl w4.heap.size w4).alloc (Nat.le_refl _) _
  have hx5 : W5.heap[w4.heap.size]? = some (.cells #[.string ⟨#[107]⟩, .int .u64 3, .bool false, .string ⟨#[98]⟩] 24) := by rw [← HW5.out]; exact Go.heap_alloc_new _ _
  obtain ⟨W6, HW6⟩ : ∃ W, Hid (W5.alloc (.cells #[.string ⟨#[]⟩, .int .u64 1, .bool false, .string ⟨#[]⟩] 24) = W) := ⟨_, Lib.hid rfl⟩
  have hb6 : RowKit.Below W5.heap.size W5 W6 := by rw [← HW6.out]; exact (Below.refl W5.heap.size W5).alloc (Nat.le_refl _) _
  have hx6 : W6.heap[W5.heap.size]? = some (.cells #[.string ⟨#[]⟩, .int .u64 1, .bool false, .string ⟨#[]⟩] 24) := by rw [← HW6.out]; exact Go.heap_alloc_new _ _
  have hs5 : W5.heap.size = w4.heap.size + 1 := by rw [← HW5.out]; simp
  have hcr6 := (HCR4.out.stay hb5).stay hb6
  have P2 := put_bad hcr6 (has_one cE hx6) (by rw [mayE]; decide)
  rw [mayE] at P2
  have HCR6 := Lib.hid hcr6
  have HX6 := Lib.hid (cell_alloc_keep hx5 hb6)
  have HB6 := Lib.hid ((HB4.out.trans (hb5.mono HB4.out.size)).trans (hb6.mono (HB4.out.trans (hb5.mono HB4.out.size)).size))
  clear hcr6 hx5 hx6 hb5 hb6 HCR4 HB4
  go_wp2_with fail
  rw [HW5.out, HW6.out, ← hs5]
  refine P2.mono ?_
  rintro e w7 ⟨rfl, hb7⟩
  have hx7 := cell_alloc_keep HX6.out hb7
  have x3 : w7.cell? ⟨w4.heap.size, 3, none⟩ = some (.string ⟨#[98]⟩) := cell_of hx7 rfl
  have hcr7 := HCR6.out.stay hb7
  have HB7 := Lib.hid (HB6.out.trans (hb7.mono HB6.out.size))
  obtain ⟨lo, lc, rfl⟩ := hcr7.has.shape
  have LN := len_any hcr7.blk
  have HL := Lib.hid LN
  clear hx7 hcr7 HCR6 HX6 HB6 P2 hb7 LN
  have q : ((⟨#[98]⟩ : ByteArray).toList == (⟨#[98]⟩ : ByteArray).toList) = true := by simp
  go_wp2_with (go_at_call 24; refine HL.out.mono ?_; rintro e w8 ⟨rfl, rfl⟩)
  go_ret
  exact ⟨rfl, HB7.out⟩
end Go.Proofs.Ytnhookblhckmlaa
