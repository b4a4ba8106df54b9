/- Walks: BinarySearchFunc over a row of cells. -/
import Derived.Test.YtnhookblhckmlaaK3
import Derived.Lib.QuietBelow
import Derived.Laws.EntriesVeiled
namespace Go.Proofs.Ytnhookblhckmlaa
open Go.RowKit Mk Go.Sort

theorem regrown_below {P : Program} {f : FuncId} {args : Array Value} {v : Value} (w : World)
    (h : ∀ w, Calls P f args w fun e w' => e = .returned v ∧ Below w.heap.size w w') :
    ∀ (d : Nat) (os : Array Obj), Calls P f args (grow (redrawn w d) os) fun e w'' => e = .returned v ∧ ∃ p : Regrown, w'' = grow (redrawn w p.d) p.os :=
  fun d os => Calls.regrown_of (h _)
theorem chg_of_below {w w' : World} (h : Below w.heap.size w w') : Chg (fun _ => False) w w' := ⟨h.os, h.tape, h.output, h.size, fun i hi _ => h.block i hi⟩

def cellL (c : CellM) : List Value := [.string c.key, .int .u64 c.time, .bool c.del, .string c.val]
def cellsL (L : List CellM) : List Value := L.flatMap cellL
theorem cellsL_len (L : List CellM) : (cellsL L).length = 4 * L.length := by
  induction L with
  | nil => rfl
  | cons c L ih => simp only [cellsL, List.flatMap_cons, List.length_append, List.length_cons] at *; rw [ih]; simp [cellL]; omega
theorem cellsL_get {L : List CellM} {i : Nat} {c : CellM} (h : L[i]? = some c) (j : Nat) (hj : j < 4) : (cellsL L)[i * 4 + j]? = (cellL c)[j]? := by
  induction L generalizing i with
  | nil => simp at h
  | cons a L ih =>
    simp only [cellsL, List.flatMap_cons] at *
    cases i with
    | zero =>
      simp at h
      subst h
      rw [List.getElem?_append_left (by simp [cellL]; omega)]
      simp
    | succ i =>
      simp at h
      rw [List.getElem?_append_right (by simp [cellL]; omega)]
      have := ih h
      rw [show (i + 1) * 4 + j - (cellL a).length = i * 4 + j by simp [cellL]; omega]
      exact this

/-- The slice lv holds the cells L. -/
def Has (w : World) (lv : Value) (L : List CellM) : Prop := sl w 24 4 lv L.length (cellsL L)
theorem Has.cells {w : World} {lv : Value} {L : List CellM} (h : Has w lv L) {i : Nat} {c : CellM} (hc : L[i]? = some c) : ∃ g cap, lv = .slice (some ⟨g, 0, none⟩) L.length cap ∧ w.cell? ⟨g, i * 4, none⟩ = some (.string c.key) ∧ w.cell? ⟨g, i * 4 + 1, none⟩ = some (.int .u64 c.time) ∧ w.cell? ⟨g, i * 4 + 2, none⟩ = some (.bool c.del) ∧ w.cell? ⟨g, i * 4 + 3, none⟩ = some (.string c.val) := by
  obtain ⟨g, cap, e, h0⟩ := sl.cell h (i := i * 4) (u := .string c.key) (by have := cellsL_get hc 0 (by omega); simpa [cellL] using this)
  obtain ⟨g1, cap1, e1, h1⟩ := sl.cell h (i := i * 4 + 1) (u := .int .u64 c.time) (by have := cellsL_get hc 1 (by omega); simpa [cellL] using this)
  obtain ⟨g2, cap2, e2, h2⟩ := sl.cell h (i := i * 4 + 2) (u := .bool c.del) (by have := cellsL_get hc 2 (by omega); simpa [cellL] using this)
  obtain ⟨g3, cap3, e3, h3⟩ := sl.cell h (i := i * 4 + 3) (u := .string c.val) (by have := cellsL_get hc 3 (by omega); simpa [cellL] using this)
  subst e
  cases e1
  cases e2
  cases e3
  exact ⟨g, cap, rfl, h0, h1, h2, h3⟩
theorem Has.stay {w w' : World} {lv : Value} {L : List CellM} (h : Has w lv L) (k : Below w.heap.size w w') : Has w' lv L := sl.stay h (fun _ hg => k.block _ (sl.lt h hg))
theorem Has.shape {w : World} {lv : Value} {L : List CellM} (h : Has w lv L) : ∃ o c, lv = .slice o L.length c := by
  rcases h.2 with ⟨rfl, e⟩ | ⟨g, cap, cur, rfl, _⟩
  · exact ⟨_, _, by rw [e]⟩
  · exact ⟨_, _, rfl⟩

/-- The search, as it goes. -/
def bsGo (L : List CellM) (x : CellM) : Nat → Nat → Nat → Nat
  | 0, i, _ => i
  | f + 1, i, j => if i < j then
      match L[(i + j) / 2]? with
      | some c => if cmpM c x < 0 then bsGo L x f ((i + j) / 2 + 1) j else bsGo L x f i ((i + j) / 2)
      | none => i
    else i
def bsM (L : List CellM) (x : CellM) : Nat := bsGo L x L.length 0 L.length
def bsIs (L : List CellM) (x : CellM) : Bool := match L[bsM L x]? with | some c => decide (cmpM c x = 0) | none => false
theorem bsGo_le (L : List CellM) (x : CellM) : ∀ f i j, i ≤ j → j ≤ L.length → bsGo L x f i j ≤ L.length := by
  intro f
  induction f with
  | zero => intro i j h1 h2; unfold bsGo; omega
  | succ f ih =>
    intro i j h1 h2
    unfold bsGo
    split
    · split
      · split
        · exact ih _ _ (by omega) (by omega)
        · exact ih _ _ (by omega) (by omega)
      · omega
    · omega
theorem bsM_le (L : List CellM) (x : CellM) : bsM L x ≤ L.length := bsGo_le L x _ _ _ (by omega) (by omega)

theorem enters_of {P : Program} {f : FuncId} {fn : Func} {c : Code} (hf : P.funcs[f]? = some fn) (hname : (fn.name == "runtime.NumGoroutine") = false) (hb : fn.body = some c) : ∀ args u, (callFunc f args).run P u = .ok (.enter f args) u := by
  intro args w
  have h1 : fn.name ≠ "runtime.NumGoroutine" := by simpa using hname
  simp [callFunc, hf, h1, hb, mark]
theorem enters8 : ∀ args u, (callFunc 8 args).run Try.prog u = .ok (.enter 8 args) u := enters_of Try.func8 (by kernel_rfl) rfl

set_option maxHeartbeats 2000000 in
theorem bsearch_any {w : World} {lv : Value} {L : List CellM} (h : Has w lv L) (hL : L.length ≤ 1099511627776) (x : CellM) :
    Calls Try.prog 32 #[lv, cellV x, .func (.func 8) #[] #[]] w fun e w' => e = .returned (.tuple #[.int .i64 (bsM L x), .bool (bsIs L x)]) ∧ Below w.heap.size w w' := by
  obtain ⟨o, c, rfl⟩ := h.shape
  have HC := Lib.hid (fun (a : CellM) (w : World) => cmp_any a x w)
  obtain ⟨k, t, d, v⟩ := x
  unfold cellV
  obtain ⟨W2, HW2⟩ : ∃ W, Hid (w.alloc (.cells #[.string k, .int .u64 t, .bool d, .string v] 24) = W) := ⟨_, Lib.hid rfl⟩
  have HB := Lib.hid (show Below w.heap.size w W2 from by rw [← HW2.out]; exact (Below.refl w.heap.size w).alloc (Nat.le_refl _) _)
  have HH := Lib.hid (h.stay HB.out)
  have HX := Lib.hid (show W2.heap[w.heap.size]? = some (.cells #[.string k, .int .u64 t, .bool d, .string v] 24) by rw [← HW2.out]; exact Go.heap_alloc_new _ _)
  obtain ⟨R, HR⟩ : ∃ R, Hid (bsM L ⟨k, t, d, v⟩ = R) := ⟨_, Lib.hid rfl⟩
  obtain ⟨Z, HZ⟩ : ∃ Z, Hid (bsIs L ⟨k, t, d, v⟩ = Z) := ⟨_, Lib.hid rfl⟩
  rw [HR.out, HZ.out]
  clear h
  go_enter Try.func32, Try.ntmps32
  go_wp2_with fail
  rw [HW2.out]
  go_wp2
  go_loopw [9, 10] (fun i j wr => ∃ (a b f : Nat), i = .int .i64 a ∧ j = .int .i64 b ∧ a ≤ b ∧ b ≤ L.length ∧ b - a ≤ f ∧ Hid (bsGo L ⟨k, t, d, v⟩ f a b = R ∧ Below W2.heap.size W2 wr)) (fun i j _ => (intOf j).toNat - (intOf i).toNat)
  case atStart => exact ⟨0, L.length, L.length, rfl, rfl, by omega, by omega, by omega, Lib.hid ⟨HR.out, Below.refl _ _⟩⟩
  case round =>
    obtain ⟨a, b, f, rfl, rfl, hab, hbL, hf, HS⟩ := hrel
    by_cases hlt : a < b
    · obtain ⟨y, hy⟩ : ∃ y, L[(a + b) / 2]? = some y := ⟨L[(a + b) / 2]'(by omega), List.getElem?_eq_getElem (by omega)⟩
      obtain ⟨g, cap, e, h0, h1, h2, h3⟩ := (HH.out.stay (HS.out.2)).cells hy
      cases e
      have hi8 := enters8
      have e1 : IntKind.u64.wrap ((a : Int) + b) = (a : Int) + b := by simp only [IntKind.wrap, IntKind.bits, IntKind.signed]; simp; omega
      have l1 : ((a : Int) + b) / 2 < L.length := by omega
      have l0 : (0 : Int) ≤ ((a : Int) + b) / 2 := by omega
      have l4 : ¬ 9223372036854775807 < (a : Int) + b := by omega
      have l5 : ¬ (a : Int) + b < -9223372036854775808 := by omega
      have HX' := Lib.hid ((HS.out.2.block _ (Array.getElem?_eq_some_iff.1 HX.out).1).trans HX.out)
      have x0 := fun p os => cell_regrown (cell_of (i := 0) (v := .string k) HX'.out rfl) p os
      have x1 := fun p os => cell_regrown (cell_of (i := 1) (v := .int .u64 t) HX'.out rfl) p os
      have x2 := fun p os => cell_regrown (cell_of (i := 2) (v := .bool d) HX'.out rfl) p os
      have x3 := fun p os => cell_regrown (cell_of (i := 3) (v := .string v) HX'.out rfl) p os
      have d0 := fun p os => cell_regrown h0 p os
      have d1 := fun p os => cell_regrown h1 p os
      have d2 := fun p os => cell_regrown h2 p os
      have d3 := fun p os => cell_regrown h3 p os
      have FC := regrown_below wr (fun u => HC.out y u)
      obtain ⟨z, hz⟩ : ∃ z, cmpM y ⟨k, t, d, v⟩ = z := ⟨_, rfl⟩
      rw [hz] at FC
      have HY := Lib.hid hz
      unfold cellV at FC
      simp only at FC
      clear hz HX' h0 h1 h2 h3
      go_wp2_with fail
      refine wp_region_quiet_below (by kernel_rfl) (by kernel_rfl) ?_
      repeat (go_big_quiet_step (exact FC _ _))
      refine wpQuiet_nil ?_
      intro _ hw'
      obtain ⟨⟨dq, osq⟩, hw''⟩ := hw'
      subst hw''
      have K5 := Lib.hid (HS.out.2.trans ((below_regrown wr dq osq).mono HS.out.2.size))
      clear x0 x1 x2 x3 d0 d1 d2 d3 FC
      generalize grow (redrawn wr dq) osq = w5 at *
      have HG := Lib.hid HS.out.1
      by_cases hz0 : z < 0
      · have q : decide (z < 0) = true := by simpa using hz0
        obtain ⟨f', rfl⟩ : ∃ f', f = f' + 1 := ⟨f - 1, by omega⟩
        have hG := HG.out
        unfold bsGo at hG
        rw [if_pos hlt, hy] at hG
        simp only at hG
        rw [HY.out, if_pos hz0] at hG
        have HG2 := Lib.hid hG
        clear hG
        go_wp2
        go_round
        case rel => exact ⟨(a + b) / 2 + 1, b, f', by go_num, rfl, by omega, by omega, by omega, Lib.hid ⟨HG2.out, K5.out⟩⟩
        case measure => simp [intOf]; omega
      · have q : decide (z < 0) = false := by simpa using hz0
        obtain ⟨f', rfl⟩ : ∃ f', f = f' + 1 := ⟨f - 1, by omega⟩
        have hG := HG.out
        unfold bsGo at hG
        rw [if_pos hlt, hy] at hG
        simp only at hG
        rw [HY.out, if_neg hz0] at hG
        have HG2 := Lib.hid hG
        clear hG
        go_wp2
        go_round
        case rel => exact ⟨a, (a + b) / 2, f', rfl, by go_num, by omega, by omega, by omega, Lib.hid ⟨HG2.out, K5.out⟩⟩
        case measure => simp [intOf]; omega
    · obtain rfl : a = b := by omega
      have hR : a = R := by
        rw [← HS.out.1]
        cases f with
        | zero => rfl
        | succ f => unfold bsGo; rw [if_neg hlt]
      have hZ := HZ.out
      unfold bsIs at hZ
      rw [HR.out] at hZ
      subst hR
      have HX' := Lib.hid ((HS.out.2.block _ (Array.getElem?_eq_some_iff.1 HX.out).1).trans HX.out)
      have HBW := Lib.hid (HB.out.trans (HS.out.2.mono HB.out.size))
      by_cases hn : a < L.length
      · obtain ⟨y, hy⟩ : ∃ y, L[a]? = some y := ⟨L[a]'hn, List.getElem?_eq_getElem hn⟩
        obtain ⟨g, cap, e, h0, h1, h2, h3⟩ := (HH.out.stay HS.out.2).cells hy
        cases e
        rw [hy] at hZ
        simp only at hZ
        have hi8 := enters8
        have l1 : (a : Int) < L.length := by omega
        have l0 : (0 : Int) ≤ a := by omega
        have x0 := fun p os => cell_regrown (cell_of (i := 0) (v := .string k) HX'.out rfl) p os
        have x1 := fun p os => cell_regrown (cell_of (i := 1) (v := .int .u64 t) HX'.out rfl) p os
        have x2 := fun p os => cell_regrown (cell_of (i := 2) (v := .bool d) HX'.out rfl) p os
        have x3 := fun p os => cell_regrown (cell_of (i := 3) (v := .string v) HX'.out rfl) p os
        have d0 := fun p os => cell_regrown h0 p os
        have d1 := fun p os => cell_regrown h1 p os
        have d2 := fun p os => cell_regrown h2 p os
        have d3 := fun p os => cell_regrown h3 p os
        have FC := regrown_below wr (fun u => HC.out y u)
        obtain ⟨z, hz⟩ : ∃ z, cmpM y ⟨k, t, d, v⟩ = z := ⟨_, rfl⟩
        rw [hz] at FC hZ
        have q : (z == 0) = decide (z = 0) := by rw [Bool.eq_iff_iff]; simp
        unfold cellV at FC
        simp only at FC
        rw [hZ] at q
        clear hz hZ HX' h0 h1 h2 h3 hlt hab hbL hf HH HC HX HB HR HZ
        go_wp2_with fail
        refine wp_region_quiet_below (by kernel_rfl) (by kernel_rfl) ?_
        repeat (go_big_quiet_step (exact FC _ _))
        refine wpQuiet_nil ?_
        intro _ hw'
        obtain ⟨⟨dq, osq⟩, hw''⟩ := hw'
        subst hw''
        go_wp2
        go_ret2
        exact ⟨rfl, HBW.out.trans ((below_regrown wr dq osq).mono HBW.out.size)⟩
      · obtain rfl : a = L.length := by omega
        have hn0 : L[L.length]? = none := List.getElem?_eq_none (by omega)
        rw [hn0] at hZ
        simp only at hZ
        subst hZ
        have FC : ∀ (p : Nat) (os : Array Obj), True := fun _ _ => trivial
        clear HX' hlt hab hbL hf HH HC HX HB hn0 HR HZ
        go_wp2_with fail
        refine wp_region_quiet_below (by kernel_rfl) (by kernel_rfl) ?_
        repeat (go_big_quiet_step (exact FC _ _))
        refine wpQuiet_nil ?_
        intro _ hw'
        obtain ⟨⟨dq, osq⟩, hw''⟩ := hw'
        subst hw''
        go_wp2
        go_ret2
        exact ⟨rfl, HBW.out.trans ((below_regrown wr dq osq).mono HBW.out.size)⟩
end Go.Proofs.Ytnhookblhckmlaa
