/- ApplyOnce: the entry of an act; Last. -/
import Derived.Test.YtcaemfogknaioaaE1
namespace Go.Proofs.Ytcaemfogknaioaa
open Go.RowKit Mk Go.Sort

theorem fin4 {w : World} {kb : Nat} {t : TypeId} {c0 c1 c2 c3 : Value} (h : w.heap[kb]? = some (.cells #[c0, c1, c2, c3] t)) (v0 v1 v2 v3 : Value) :
    ((((w.setCell ⟨kb, 0, none⟩ v0).setCell ⟨kb, 1, none⟩ v1).setCell ⟨kb, 2, none⟩ v2).setCell ⟨kb, 3, none⟩ v3).heap[kb]? = some (.cells #[v0, v1, v2, v3] t) ∧ Chg (fun g => g = kb) w ((((w.setCell ⟨kb, 0, none⟩ v0).setCell ⟨kb, 1, none⟩ v1).setCell ⟨kb, 2, none⟩ v2).setCell ⟨kb, 3, none⟩ v3) :=
  ⟨by rw [Mk.heap_setCell_same (Mk.heap_setCell_same (Mk.heap_setCell_same (Mk.heap_setCell_same h v0) v1) v2) v3]; rfl,
    ((((Chg.refl (fun g => g = kb) w).setCell (a := ⟨kb, 0, none⟩) (Or.inl rfl) v0).setCell (a := ⟨kb, 1, none⟩) (Or.inl rfl) v1).setCell (a := ⟨kb, 2, none⟩) (Or.inl rfl) v2).setCell (a := ⟨kb, 3, none⟩) (Or.inl rfl) v3⟩

theorem three (w : World) (A B C : Obj) {w1 : World} (hb : RowKit.Below (((w.alloc A).alloc B).alloc C).heap.size (((w.alloc A).alloc B).alloc C) w1) :
    w1.heap[w.heap.size + 1]? = some B ∧ w1.heap[w.heap.size + 1 + 1]? = some C ∧ RowKit.Below w.heap.size w w1 := by
  have z1 : (w.alloc A).heap.size = w.heap.size + 1 := by simp
  have z2 : ((w.alloc A).alloc B).heap.size = w.heap.size + 1 + 1 := by simp
  have z3 : (((w.alloc A).alloc B).alloc C).heap.size = w.heap.size + 1 + 1 + 1 := by simp
  refine ⟨?_, ?_, ?_⟩
  · rw [hb.block _ (by omega), RowKit.Below.heap_alloc _ _ _ (by omega)]
    have := Go.heap_alloc_new (w.alloc A) B
    rwa [z1] at this
  · rw [hb.block _ (by omega)]
    have := Go.heap_alloc_new ((w.alloc A).alloc B) C
    rwa [z2] at this
  · have h0 : RowKit.Below w.heap.size w (((w.alloc A).alloc B).alloc C) := below_of_chg ((((Chg.refl _ w).alloc A).alloc B).alloc C)
    exact h0.trans (hb.mono h0.size)

def entryV (k : Nat) (s : ByteArray) : Value := .agg #[.int .u64 1, .int .u8 k, .string s, .slice none 0 0]

set_option maxRecDepth 100000 in
set_option maxHeartbeats 1000000 in
theorem entry_any (c n k t : Nat) (d s : ByteArray) (e0 : Nat) (hc : c < 18446744073709551616) (hn : n < 18446744073709551616) (hd : d.size ≤ 2097152) (hv : cmdV c n d.data.toList = .tuple #[.string s, .int .i64 e0]) (w : World) :
    Calls Try.prog 15 #[.agg #[.int .u64 c, .int .u64 n, .string d, .bool false, .int .u8 k, .int .u64 t]] w fun e w' => e = .returned (entryV k s) ∧ Below w.heap.size w w' := by
  have C := Lib.hid (fun w => rcommand_any c n d hc hn hd w)
  rw [hv] at C
  obtain ⟨p, hp⟩ : ∃ p, w.heap.size = p := ⟨_, rfl⟩
  go_enter Try.func15, Try.ntmps15
  go_wp2_with fail
  refine (C.out _).mono ?_
  rintro e w1 ⟨rfl, hb⟩
  obtain ⟨hB, hC, b0⟩ := three w _ _ _ hb
  rw [hp] at hB hC
  have fB := frozen_of (i := 0) hB
  have fB1 := frozen_of (i := 1) hB
  have fB2 := frozen_of (i := 2) hB
  have fB3 := frozen_of (i := 3) hB
  have fC := frozen_of (i := 2) hC
  have gB0 : w1.cell? ⟨p + 1, 0, none⟩ = some (.int .u64 0) := cell_of hB (by simp)
  have gB1 : w1.cell? ⟨p + 1, 1, none⟩ = some (.int .u8 0) := cell_of hB (by simp)
  have gB2 : w1.cell? ⟨p + 1, 2, none⟩ = some (.string ⟨#[]⟩) := cell_of hB (by simp)
  have gB3 : w1.cell? ⟨p + 1, 3, none⟩ = some (.slice none 0 0) := cell_of hB (by simp)
  have gC0 : w1.cell? ⟨p + 1 + 1, 0, none⟩ = some (.int .u64 1) := cell_of hC (by simp)
  have gC1 : w1.cell? ⟨p + 1 + 1, 1, none⟩ = some (.int .u8 k) := cell_of hC (by simp)
  have gC2 : w1.cell? ⟨p + 1 + 1, 2, none⟩ = some (.string d) := cell_of hC (by simp)
  have gC3 : w1.cell? ⟨p + 1 + 1, 3, none⟩ = some (.slice none 0 0) := cell_of hC (by simp)
  have hB2 : (w1.setCell ⟨p + 1 + 1, 2, none⟩ (.string s)).heap[p + 1]? = _ := (RowKit.Below.heap_setCell _ _ _ _ (by show p + 1 ≠ p + 1 + 1; omega)).trans hB
  have c0 : Chg (fun g => w.heap.size ≤ g) w1 (w1.setCell ⟨p + 1 + 1, 2, none⟩ (.string s)) := (Chg.refl _ w1).setCell (Or.inl (by show w.heap.size ≤ p + 1 + 1; omega)) _
  have HB2 := Lib.hid hB2
  have HC0 := Lib.hid c0
  have B0 := Lib.hid b0
  have HP := Lib.hid hp
  clear hb hB hC c0 hB2 b0 C
  go_wp2
  obtain ⟨hh, hc⟩ := fin4 HB2.out (.int .u64 1) (.int .u8 k) (.string s) (.slice none 0 0)
  refine bodyPost_ret (results_cell_row (p := 2) (ty := 45) rfl _ _ (p + 1) 45 _ (0, 0) _ rfl hh Try.underlying45 rfl (by kernel_rfl)) rfl ⟨rfl, ?_⟩
  have h1 := HC0.out.trans' hc (fun g e => Or.inl (by subst e; have := HP.out; omega))
  exact B0.out.trans (h1.below (fun _ h => h) B0.out.size)

theorem last_any {w : World} {b S : Nat} {F : Nat → Prop} {m : LoopM} (h : LoopIs w b F S m) (c : Nat) (hc : okU c) :
    Calls Try.prog 19 #[.pointer (some ⟨b, 0, none⟩), .int .u64 c] w fun e w' => e = .returned (.tuple #[.int .u64 ((lk m.clients c).getD (0, ⟨#[]⟩)).1, .string ((lk m.clients c).getD (0, ⟨#[]⟩)).2, .bool (lk m.clients c).isSome]) ∧ Below w.heap.size w w' := by
  obtain ⟨r, h⟩ := h
  have A := Lib.hid (not_any h)
  have c3 := h.cells.2.2.2
  have hl := h.look hc
  obtain ⟨x, hx⟩ : ∃ x, (lk m.clients c).getD (0, ⟨#[]⟩) = x := ⟨_, rfl⟩
  obtain ⟨q, a⟩ := x
  rw [hx] at hl ⊢
  unfold lastV at hl
  generalize (lk m.clients c).isSome = is at *
  simp only at hl ⊢
  have hB : Below w.heap.size w (w.alloc (.cells #[.int .u64 q, .string a] 82)) := (Below.refl _ _).alloc (Nat.le_refl _) _
  have hC : ∀ m, (((w.alloc (.cells #[.int .u64 q, .string a] 82)).drewN m).cell? ⟨w.heap.size, 0, none⟩ = some (.int .u64 q)) := fun m => cell_of (Go.heap_alloc_new w _) (by simp)
  have hD : ∀ m, (((w.alloc (.cells #[.int .u64 q, .string a] 82)).drewN m).cell? ⟨w.heap.size, 1, none⟩ = some (.string a)) := fun m => cell_of (Go.heap_alloc_new w _) (by simp)
  clear h hx
  go_enter Try.func19, Try.ntmps19
  go_wp2_with fail
  refine A.out.mono ?_
  rintro e w' ⟨rfl, rfl⟩
  go_wp2
  go_quiet (fail)
  go_wp2
  go_ret3
  exact ⟨rfl, hB.trans ((below_drewN _ _).mono hB.size)⟩
end Go.Proofs.Ytcaemfogknaioaa
