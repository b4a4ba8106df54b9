/- Walks: cmp.Or of two, Cmp. -/
import Derived.Test.YtnhookblhckmlaaK1
import Derived.Deep.RegionHeld3
namespace Go.Proofs.Ytnhookblhckmlaa
open Go.RowKit Mk

theorem or_two {w : World} {b : Nat} {t : TypeId} (x y : Int) (h : w.heap[b]? = some (.cells #[.int .i64 x, .int .i64 y] t)) :
    Calls Try.prog 27 #[.slice (some ⟨b, 0, none⟩) 2 2] w fun e w' => e = .returned (.int .i64 (if x ≠ 0 then x else y)) ∧ w' = w := by
  have c0 : w.cell? ⟨b, 0, none⟩ = some (.int .i64 x) := cell_of h (by simp)
  have c1 : w.cell? ⟨b, 1, none⟩ = some (.int .i64 y) := cell_of h (by simp)
  have HE := Lib.hid (rfl : (if x ≠ 0 then x else y) = if x ≠ 0 then x else y)
  generalize hz : (if x ≠ 0 then x else y) = z at *
  have H0 := Lib.hid (show x ≠ 0 → z = x from fun h => by rw [← hz, if_pos h])
  have H1 := Lib.hid (show x = 0 → z = y from fun h => by rw [← hz, if_neg (by simpa using h)])
  clear h hz HE
  go_enter Try.func27, Try.ntmps27
  go_wp2
  go_loopw [8] (fun i wr => ∃ k : Nat, k ≤ 2 ∧ i = .int .i64 k ∧ wr = w ∧ (0 < k → x = 0) ∧ (1 < k → y = 0)) (fun i _ => 2 - (intOf i).toNat)
  case atStart => exact ⟨0, by omega, rfl, rfl, by omega, by omega⟩
  case round =>
    obtain ⟨k, hk, rfl, rfl, h1, h2⟩ := hrel
    match k, hk, h1, h2 with
    | 0, _, _, _ =>
      by_cases hx : x = 0
      · have q : (x != 0) = false := by simpa using hx
        go_wp2
        go_round
        case rel => exact ⟨1, by omega, rfl, trivial, fun _ => hx, by omega⟩
        case measure => simp [intOf]
      · have q : (x != 0) = true := by simpa using hx
        have e := H0.out hx
        go_wp2
        go_ret
        exact ⟨by rw [e]; rfl, rfl⟩
    | 1, _, h1, _ =>
      have e := H1.out (h1 (by omega))
      by_cases hx : y = 0
      · have q : (y != 0) = false := by simpa using hx
        go_wp2
        go_round
        case rel => exact ⟨2, by omega, rfl, trivial, fun _ => h1 (by omega), fun _ => hx⟩
        case measure => simp [intOf]
      · have q : (y != 0) = true := by simpa using hx
        go_wp2
        go_ret
        exact ⟨by rw [e]; rfl, rfl⟩
    | 2, _, h1, h2 =>
      have e := H1.out (h1 (by omega))
      have e2 := h2 (by omega)
      go_wp2
      go_ret
      exact ⟨by rw [e, e2]; rfl, rfl⟩

/-- A cell: its key, time, whether it is deleted, its value. -/
structure CellM where
  key : ByteArray
  time : Nat
  del : Bool
  val : ByteArray
def cmpM (a b : CellM) : Int := if ordS a.key b.key ≠ 0 then ordS a.key b.key else ordN b.time a.time
def cellV (a : CellM) : Value := .agg #[.string a.key, .int .u64 a.time, .bool a.del, .string a.val]

set_option maxHeartbeats 1000000 in
theorem cmp_any (a b : CellM) (w : World) :
    Calls Try.prog 8 #[cellV a, cellV b] w fun e w' => e = .returned (.int .i64 (cmpM a b)) ∧ Below w.heap.size w w' := by
  obtain ⟨k, t, d, v⟩ := a
  obtain ⟨k', t', d', v'⟩ := b
  have A := Lib.hid (cmpS_any k k')
  have B := Lib.hid (cmpN_any t' t)
  unfold cmpM cellV
  simp only
  generalize ordS k k' = x at *
  generalize ordN t' t = y at *
  have C := Lib.hid (fun (w : World) (b : Nat) (t : TypeId) (h : w.heap[b]? = some (.cells #[.int .i64 x, .int .i64 y] t)) => or_two x y h)
  obtain ⟨W2, HW2⟩ : ∃ W, Hid ((w.alloc (.cells #[.string k, .int .u64 t, .bool d, .string v] 24)).alloc (.cells #[.string k', .int .u64 t', .bool d', .string v'] 24) = W) := ⟨_, Lib.hid rfl⟩
  have c1 : W2.cell? ⟨w.heap.size, 0, none⟩ = some (.string k) := by rw [← HW2.out]; simp [World.cell?_alloc_old, World.cell?_alloc_new]
  have c2 : W2.cell? ⟨w.heap.size, 1, none⟩ = some (.int .u64 t) := by rw [← HW2.out]; simp
  have c3 : W2.cell? ⟨w.heap.size + 1, 0, none⟩ = some (.string k') := by rw [← HW2.out]; simp
  have c4 : W2.cell? ⟨w.heap.size + 1, 1, none⟩ = some (.int .u64 t') := by rw [← HW2.out]; simp
  have HB := Lib.hid (show ∀ w', Below W2.heap.size W2 w' → Below w.heap.size w w' from fun w' hb => by
    have h1 := ((Below.refl w.heap.size w).alloc (Nat.le_refl _) (.cells #[.string k, .int .u64 t, .bool d, .string v] 24))
    have h2 := h1.alloc h1.size (.cells #[.string k', .int .u64 t', .bool d', .string v'] 24)
    rw [HW2.out] at h2
    exact h2.trans (hb.mono h2.size))
  have C' := Lib.hid (fun w : World => C.out (w.alloc (.cells #[.int .i64 x, .int .i64 y] 3)).drew w.heap.size 3 (Go.heap_alloc_new _ _))
  generalize (if x ≠ 0 then x else y) = z at *
  clear C
  go_enter Try.func8, Try.ntmps8
  go_wp2_with fail
  rw [HW2.out]
  go_region_held3 (fun v => v.cell? ⟨w.heap.size, 0, none⟩ = some (.string k) ∧ v.cell? ⟨w.heap.size, 1, none⟩ = some (.int .u64 t) ∧ v.cell? ⟨w.heap.size + 1, 0, none⟩ = some (.string k') ∧ v.cell? ⟨w.heap.size + 1, 1, none⟩ = some (.int .u64 t')) (first | go_keep | (refine ⟨?_, ?_, ?_, ?_⟩ <;> assumption)) (first | (go_at_call 28; refine (A.out _).mono ?_; rintro e w' ⟨rfl, rfl⟩) | (go_at_call 29; refine (B.out _).mono ?_; rintro e w' ⟨rfl, rfl⟩) | (go_at_call 27; refine (C'.out _).mono ?_; rintro e w' ⟨rfl, rfl⟩))
  go_wp2
  go_ret
  exact ⟨rfl, HB.out _ ((((Below.refl _ W2).alloc (Nat.le_refl _) _)).trans ⟨rfl, rfl, rfl, Nat.le_refl _, fun _ _ => rfl⟩)⟩
end Go.Proofs.Ytnhookblhckmlaa
