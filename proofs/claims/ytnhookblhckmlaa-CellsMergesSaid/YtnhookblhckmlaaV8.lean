/- Walks: ahead and what it makes. -/
import Derived.Test.YtnhookblhckmlaaV7
import Derived.Test.YtnhookblhckmlaaKm
namespace Go.Proofs.Ytnhookblhckmlaa
set_option linter.unusedVariables false
set_option linter.unusedSimpArgs false
open Go.RowKit Mk Go.Sort

set_option maxRecDepth 100000 in
set_option maxHeartbeats 1000000 in
theorem ahead_any (so : Option Addr) (n cap : Nat) (w : World) : Calls Try.prog 50 #[.slice so n cap] w fun e w' => e = .returned (.func (.func 56) #[] #[.pointer (some ⟨w.heap.size, 0, none⟩)]) ∧ w' = w.alloc (.cells #[.slice so n cap] 28) := by
  go_enter Try.func50, Try.ntmps50
  go_wp2
  go_ret
  exact ⟨rfl, rfl⟩
/-- Where the rest's slice begins. -/
def tlS (g o cap : Nat) : Option Addr := if cap = 1 then some ⟨g, o, none⟩ else some ⟨g, o + 4, none⟩
def zeroV : Value := .agg #[.string ⟨#[]⟩, .int .u64 0, .bool false, .string ⟨#[]⟩]
set_option maxRecDepth 100000 in
set_option maxHeartbeats 1000000 in
theorem next_nil {w : World} {nb : Nat} {so : Option Addr} {cap : Nat} (hb : w.heap[nb]? = some (.cells #[.slice so 0 cap] 28)) :
    Calls Try.prog 56 #[.pointer (some ⟨nb, 0, none⟩)] w fun e w' => e = .returned (.tuple #[zeroV, .bool false]) ∧ RowKit.Below w.heap.size w w' := by
  have d0 : w.cell? ⟨nb, 0, none⟩ = some (.slice so 0 cap) := cell_of hb rfl
  have hbl := (Array.getElem?_eq_some_iff.1 hb).1
  clear hb
  go_enter Try.func56, Try.ntmps56
  go_wp2
  have hh := Go.heap_alloc_new w (.cells #[.string ⟨#[]⟩, .int .u64 0, .bool false, .string ⟨#[]⟩] 24)
  exact bodyPost_ret (results_cell_row_tmp (p := 1) (u := 2) (ty := 24) rfl _ _ _ 24 _ (0, 0) _ rfl hh Try.underlying24 rfl (by kernel_rfl)) rfl ⟨rfl, (Below.refl _ w).alloc (Nat.le_refl _) _⟩
set_option maxRecDepth 100000 in
set_option maxHeartbeats 1000000 in
theorem next_cons {w : World} {nb : Nat} {g o : Nat} {cap n : Nat} {c : CellM} (hb : w.heap[nb]? = some (.cells #[.slice (some ⟨g, o, none⟩) (n + 1) cap] 28)) (hg : g < w.heap.size)
    (h0 : w.cell? ⟨g, o, none⟩ = some (.string c.key)) (h1 : w.cell? ⟨g, o + 1, none⟩ = some (.int .u64 c.time)) (h2 : w.cell? ⟨g, o + 2, none⟩ = some (.bool c.del)) (h3 : w.cell? ⟨g, o + 3, none⟩ = some (.string c.val))
    (hcap : n + 1 ≤ cap) (hcm : cap ≤ maxLen) :
    Calls Try.prog 56 #[.pointer (some ⟨nb, 0, none⟩)] w fun e w' => e = .returned (.tuple #[cellV c, .bool true]) ∧ w'.heap[nb]? = some (.cells #[.slice (tlS g o cap) n (cap - 1)] 28) ∧ Chg (fun i => i = nb) w w' := by
  have d0 : w.cell? ⟨nb, 0, none⟩ = some (.slice (some ⟨g, o, none⟩) (n + 1) cap) := cell_of hb rfl
  have f0 : w.frozen? ⟨nb, 0, none⟩ = false := frozen_of hb
  have hbl := (Array.getElem?_eq_some_iff.1 hb).1
  have HB := Lib.hid hb
  have l0 : (0 : Int) < ((n + 1 : Nat) : Int) := by omega
  have l1 : (1 : Int) ≤ ((n + 1 : Nat) : Int) := by omega
  have l2 : ((n + 1 : Nat) : Int) ≤ cap := by omega
  simp only [maxLen] at hcm
  clear hb
  obtain ⟨ck, ct, cd, cv⟩ := c
  simp only at h0 h1 h2 h3
  unfold cellV
  obtain ⟨so', hso⟩ : ∃ s, tlS g o cap = s := ⟨_, rfl⟩
  have HSO := Lib.hid (show (if cap = 1 then some (⟨g, o, none⟩ : Addr) else some ⟨g, o + 4, none⟩) = so' from hso)
  rw [hso]
  clear hso
  go_enter Try.func56, Try.ntmps56
  go_wp2
  go_region
  rw [show (if cap = 1 then some (⟨g, o, none⟩ : Addr) else some ⟨g, o + 4, none⟩) = so' from HSO.out]
  obtain ⟨W, HW⟩ : ∃ W, Hid (((w.setCell ⟨nb, 0, none⟩ (.slice so' n (cap - 1))).alloc (.cells #[.string ck, .int .u64 ct, .bool cd, .string cv] 24)).drew = W) := ⟨_, Lib.hid rfl⟩
  rw [HW.out]
  have hsz : (w.setCell ⟨nb, 0, none⟩ (.slice so' n (cap - 1))).heap.size = w.heap.size := by simp [World.setCell]
  have hrow : W.heap[w.heap.size]? = some (.cells #[.string ck, .int .u64 ct, .bool cd, .string cv] 24) := by
    rw [← HW.out, ← hsz]; exact Go.heap_alloc_new _ _
  have hnb : W.heap[nb]? = some (.cells #[.slice so' n (cap - 1)] 28) := by
    rw [← HW.out]; exact (Below.heap_alloc _ _ nb (by rw [hsz]; exact hbl)).trans (Mk.heap_setCell_same (i := 0) HB.out _)
  have hch : Chg (fun i => i = nb) w W := by
    rw [← HW.out]; exact (Chg.alloc (Chg.setCell (F := fun i => i = nb) (Chg.refl _ w) (.inl rfl) _) _).drew
  have HQ := Lib.hid (And.intro hnb (And.intro hch hrow))
  have x0 : W.cell? ⟨w.heap.size, 0, none⟩ = some (.string ck) := cell_of hrow rfl
  have x1 : W.cell? ⟨w.heap.size, 1, none⟩ = some (.int .u64 ct) := cell_of hrow rfl
  have x2 : W.cell? ⟨w.heap.size, 2, none⟩ = some (.bool cd) := cell_of hrow rfl
  have x3 : W.cell? ⟨w.heap.size, 3, none⟩ = some (.string cv) := cell_of hrow rfl
  have y0 : W.frozen? ⟨w.heap.size, 0, none⟩ = false := frozen_of hrow
  have y1 : W.frozen? ⟨w.heap.size, 1, none⟩ = false := frozen_of hrow
  have y2 : W.frozen? ⟨w.heap.size, 2, none⟩ = false := frozen_of hrow
  have y3 : W.frozen? ⟨w.heap.size, 3, none⟩ = false := frozen_of hrow
  have hWl := (Array.getElem?_eq_some_iff.1 hrow).1
  clear h0 h1 h2 h3 d0 f0 hrow hnb hch
  go_wp2
  obtain ⟨hh, hc⟩ := fin4 HQ.out.2.2 (.string ck) (.int .u64 ct) (.bool cd) (.string cv)
  refine bodyPost_ret (results_cell_row_tmp (p := 1) (u := 2) (ty := 24) rfl _ _ w.heap.size 24 _ (0, 0) _ rfl hh Try.underlying24 rfl (by kernel_rfl)) rfl ⟨rfl, ?_, ?_⟩
  · exact (hc.block nb (by omega) (fun e => by omega)).trans HQ.out.1
  · exact ⟨hc.os.trans HQ.out.2.1.os, hc.tape.trans HQ.out.2.1.tape, hc.output.trans HQ.out.2.1.output, Nat.le_trans HQ.out.2.1.size hc.size, fun i hi hF => (hc.block i (by omega) (fun e => by omega)).trans (HQ.out.2.1.block i hi hF)⟩
end Go.Proofs.Ytnhookblhckmlaa
