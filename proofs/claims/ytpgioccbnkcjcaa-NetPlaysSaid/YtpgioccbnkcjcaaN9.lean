/- Walks: alive. -/
import Derived.Test.YtpgioccbnkcjcaaN8
namespace Go.Proofs.Ytpgioccbnkcjcaa
open Go.RowKit Mk

theorem ev1 (N : NetM) (h : N.ms.length = 2) (hl : N.l = []) : sendM N 1 2 ⟨#[97]⟩ = (⟨N.ms, [⟨1, 2, ⟨#[97]⟩⟩]⟩, 0) := by
  unfold sendM; rw [h, hl]; rfl
theorem ev2 (ms : List Mach) (h : ms.length = 2) : sendM ⟨ms, [⟨1, 2, ⟨#[97]⟩⟩]⟩ 1 2 ⟨#[98]⟩ = (⟨ms, [⟨1, 2, ⟨#[97]⟩⟩, ⟨1, 2, ⟨#[98]⟩⟩]⟩, 0) := by
  unfold sendM; simp only [h]; rfl
theorem ev3 (ms : List Mach) (h : ms.length = 2) : peekM ⟨ms, [⟨1, 2, ⟨#[97]⟩⟩, ⟨1, 2, ⟨#[98]⟩⟩]⟩ 1 2 1 = (⟨#[98]⟩, 0) := by
  unfold peekM; simp only [h]; rfl
theorem ev4 (ms : List Mach) (h : ms.length = 2) (hp : ∀ m ∈ ms, m.side = false) : takeM ⟨ms, [⟨1, 2, ⟨#[97]⟩⟩, ⟨1, 2, ⟨#[98]⟩⟩]⟩ 1 2 1 = (⟨ms, [⟨1, 2, ⟨#[97]⟩⟩]⟩, pkt 1 2 ⟨#[98]⟩, 0) := by
  unfold takeM dropM
  rw [ev3 ms h]
  have hq : partedM ms 1 2 = false := by
    match ms, h, hp with
    | [a, b], _, hp => simp [partedM, sideOf, may, hp a (by simp), hp b (by simp)]
  simp only [hq]
  rfl
theorem ev5 (ms : List Mach) (h : ms.length = 2) : sendM ⟨ms, [⟨1, 2, ⟨#[97]⟩⟩]⟩ 1 3 ⟨#[120]⟩ = (⟨ms, [⟨1, 2, ⟨#[97]⟩⟩]⟩, 2) := by
  unfold sendM; simp only [h]; rfl
theorem msN_side (N seed k : Nat) : ∀ m ∈ msN N seed k, m.side = false := by
  intro m hm
  obtain ⟨i, _, rfl⟩ := List.mem_map.1 hm
  rfl

/-- As the contracts, of a net whose inner blocks are not named. -/
theorem send_is {w : World} {b : Nat} {F : Nat → Prop} {n : NetM} (h : NetIs w b F n) (i k : Int) (s : ByteArray) (hi : i64 i) (hk : i64 k) :
    Calls Try.prog 9 #[.pointer (some ⟨b, 0, none⟩), .int .i64 i, .int .i64 k, .string s] w fun e w' => e = .returned (.int .i64 (sendM n i k s).2) ∧ NetIs w' b (fun g => F g ∨ w.heap.size ≤ g) (sendM n i k s).1 ∧ Chg F w w' := by
  obtain ⟨r, mb, L, h⟩ := h
  exact send_any h i k s hi hk
theorem take_is {w : World} {b : Nat} {F : Nat → Prop} {n : NetM} (h : NetIs w b F n) (i k j : Int) (hi : i64 i) (hk : i64 k) (hj : i64 j) :
    Calls Try.prog 16 #[.pointer (some ⟨b, 0, none⟩), .int .i64 i, .int .i64 k, .int .i64 j] w fun e w' => e = .returned (.tuple #[(takeM n i k j).2.1, .int .i64 (takeM n i k j).2.2]) ∧ NetIs w' b (fun g => F g ∨ w.heap.size ≤ g) (takeM n i k j).1 ∧ Chg F w w' := by
  obtain ⟨r, mb, L, h⟩ := h
  exact take_any h i k j hi hk hj
theorem len_is {w : World} {b : Nat} {F : Nat → Prop} {n : NetM} (h : NetIs w b F n) (i k : Int) (hi : i64 i) (hk : i64 k) :
    Calls Try.prog 25 #[.pointer (some ⟨b, 0, none⟩), .int .i64 i, .int .i64 k] w fun e w' => e = .returned (.int .i64 (q n.l (i, k)).length) ∧ w' = w := by
  obtain ⟨r, mb, L, h⟩ := h
  exact len_any h i k hi hk

instance (n : Int) : Decidable (i64 n) := inferInstanceAs (Decidable (_ ∧ _))

set_option maxRecDepth 100000 in
set_option maxHeartbeats 1000000 in
theorem alive_any (w : World) : Calls Try.prog 10 #[] w fun e w' => e = .returned (.bool true) ∧ Chg (fun _ => False) w w' := by
  have e1 := Lib.hid (ev1 (newM 2 7) (msN_len 2 7 2) rfl)
  have e2 := Lib.hid (ev2 (msN 2 7 2) (msN_len 2 7 2))
  have e4 := Lib.hid (ev4 (msN 2 7 2) (msN_len 2 7 2) (msN_side 2 7 2))
  have e5 := Lib.hid (ev5 (msN 2 7 2) (msN_len 2 7 2))
  go_enter Try.func10, Try.ntmps10
  go_wp2_with fail
  refine (new_any w 2 7 (by decide) (by decide) (by decide)).mono ?_
  rintro e w0 ⟨b, rfl, hn, hc⟩
  have HN := Lib.hid hn
  have HC := Lib.hid hc
  clear hn hc
  go_wp2_with fail
  refine (send_is HN.out 1 2 _ (by decide) (by decide)).mono ?_
  rintro e w1 ⟨rfl, hn, hc⟩
  rw [e1.out] at hn
  rw [e1.out]
  have HN1 := Lib.hid (hn.wide (G := fun g => w.heap.size ≤ g) (fun g h => by have := HC.out.size; rcases h with a | a; exact a; omega))
  have HC1 := Lib.hid (HC.out.trans' hc (fun g h => Or.inr h))
  clear hn hc HN HC
  go_wp2_with fail
  refine (send_is HN1.out 1 2 _ (by decide) (by decide)).mono ?_
  rintro e w2 ⟨rfl, hn, hc⟩
  simp only [newM, e2.out] at hn
  simp only [newM, e2.out]
  have HN2 := Lib.hid (hn.wide (G := fun g => w.heap.size ≤ g) (fun g h => by have := HC1.out.size; rcases h with a | a; exact a; omega))
  have HC2 := Lib.hid (HC1.out.trans' hc (fun g h => Or.inr h))
  clear hn hc HN1 HC1
  go_wp2_with fail
  refine (take_is HN2.out 1 2 1 (by decide) (by decide) (by decide)).mono ?_
  rintro e w3 ⟨rfl, hn, hc⟩
  rw [e4.out] at hn
  rw [e4.out]
  simp only [pkt]
  have HN3 := Lib.hid (hn.wide (G := fun g => w.heap.size ≤ g) (fun g h => by have := HC2.out.size; rcases h with a | a; exact a; omega))
  have HC3 := Lib.hid (HC2.out.trans' hc (fun g h => Or.inr h))
  clear hn hc HN2 HC2
  go_wp2_with fail
  have HB := Lib.hid (show (w3.alloc (.cells #[.int .i64 1, .int .i64 2, .string ⟨#[98]⟩] 42)).heap[w3.heap.size]? = some (.cells #[.int .i64 1, .int .i64 2, .string ⟨#[98]⟩] 42) from Go.heap_alloc_new _ _)
  have HSZ := Lib.hid (show w3.heap.size < (w3.alloc (.cells #[.int .i64 1, .int .i64 2, .string ⟨#[98]⟩] 42)).heap.size by simp)
  have HNT := Lib.hid (HN3.out.tight.stay (w' := w3.alloc (.cells #[.int .i64 1, .int .i64 2, .string ⟨#[98]⟩] 42)) (G := fun _ => False) ((Chg.refl _ _).alloc _) (fun _ _ h => h))
  have HCT := Lib.hid (HC3.out.alloc (.cells #[.int .i64 1, .int .i64 2, .string ⟨#[98]⟩] 42))
  have HLE := Lib.hid HC3.out.size
  clear HN3 HC3
  generalize w3.alloc (.cells #[.int .i64 1, .int .i64 2, .string ⟨#[98]⟩] 42) = W at *
  generalize hkb : w3.heap.size = kb at *
  refine (send_is HNT.out 1 3 _ (by decide) (by decide)).mono ?_
  rintro e w4 ⟨rfl, hn, hc⟩
  rw [e5.out] at hn
  rw [e5.out]
  have HN4 := Lib.hid hn
  have HC4 := Lib.hid (HCT.out.trans' hc (fun g h => Or.inr h.1))
  have hb4 := (hc.block kb HSZ.out (fun h => Nat.lt_irrefl _ h.2)).trans HB.out
  have q0 : w4.cell? ⟨kb, 0, none⟩ = some (.int .i64 1) := cell_of hb4 (by simp)
  have q1 : w4.cell? ⟨kb, 1, none⟩ = some (.int .i64 2) := cell_of hb4 (by simp)
  have q2 : w4.cell? ⟨kb, 2, none⟩ = some (.string ⟨#[98]⟩) := cell_of hb4 (by simp)
  clear hn hc hb4 HNT HCT HB HSZ
  go_wp2_with fail
  refine (len_is HN4.out 1 2 (by decide) (by decide)).mono ?_
  rintro e w5 ⟨rfl, rfl⟩
  simp only [show (q [⟨1, 2, ⟨#[97]⟩⟩] (1, 2)).length = 1 from rfl]
  go_wp2
  go_ret
  exact ⟨rfl, HC4.out⟩
end Go.Proofs.Ytpgioccbnkcjcaa
