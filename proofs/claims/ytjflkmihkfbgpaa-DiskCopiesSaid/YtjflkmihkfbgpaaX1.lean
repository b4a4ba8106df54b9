/- Walks: able with two names; Remove, Trunc, Rename. -/
import Derived.Test.YtjflkmihkfbgpaaWb
namespace Go.Proofs.Ytjflkmihkfbgpaa
open Go.RowKit Mk Go.Sort
set_option linter.unusedVariables false
set_option linter.unusedSimpArgs false

section
variable {w : World} {b r1 r2 : Nat} {v : Value} {ts : List (Value × Thing)} {F : Nat → Prop} {S : Nat} {d : DiskM}

set_option maxRecDepth 100000 in
theorem able2_any (h : DiskRep w b r1 r2 v ts F S d) (g : Nat) (n m : ByteArray) (c1 : w.cell? ⟨g, 0, none⟩ = some (.string n)) (c2 : w.cell? ⟨g, 1, none⟩ = some (.string m)) :
    Calls Try.prog 28 #[.pointer (some ⟨b, 0, none⟩), .bool true, .slice (some ⟨g, 0, none⟩) 2 2] w fun e w' => e = .returned (.int .i64 (ableM2 n m d.now)) ∧ Chg (fun _ => False) w w' := by
  have A := Lib.hid (not_any h)
  have c0 := h.cells.2.1
  have N := Lib.hid (named_any n)
  have N2 := Lib.hid (named_any m)
  have hl : okS n → ∀ m, (Instr.lookup 54 (.map (some r1)) (.string n) true).run Try.prog (w.drewN m) = _ := fun hn m => (h.now.stay (w' := w.drewN m) rfl).lookup Try.underlying54 Try.underlying9 (Try.zeroValue9 _) hn true
  have HL := Lib.hid hl
  obtain ⟨E, HE⟩ : ∃ E, Hid (E = ableM2 n m d.now) := ⟨_, Lib.hid rfl⟩
  rw [← HE.out]
  clear hl h
  cases hn : named n
  · have HE2 : E = 2 := by rw [HE.out]; simp [ableM2, hn]
    subst HE2
    rw [hn] at N
    clear HL hn
    go_enter Try.func28, Try.ntmps28
    go_wp2_with fail
    refine A.out.mono ?_
    rintro e w' ⟨rfl, rfl⟩
    go_wp2
    refine wp_loop_rounds 3 ?_
    rw [rounds_succ]
    go_wp2_with fail
    refine (N.out _).mono ?_
    rintro e w' ⟨rfl, rfl⟩
    go_wp2
    go_ret
    exact ⟨rfl, Chg.refl _ _⟩
  cases hm : named m
  · have HE2 : E = 2 := by rw [HE.out]; simp [ableM2, hn, hm]
    subst HE2
    rw [hn] at N
    rw [hm] at N2
    clear HL hn hm
    go_enter Try.func28, Try.ntmps28
    go_wp2_with fail
    refine A.out.mono ?_
    rintro e w' ⟨rfl, rfl⟩
    go_wp2
    refine wp_loop_rounds 3 ?_
    rw [rounds_succ]
    go_wp2_with fail
    refine (N.out _).mono ?_
    rintro e w' ⟨rfl, rfl⟩
    go_wp2
    rw [rounds_succ]
    go_wp2_with fail
    refine (N2.out _).mono ?_
    rintro e w' ⟨rfl, rfl⟩
    go_wp2
    go_ret
    exact ⟨rfl, Chg.refl _ _⟩
  · have HB : ∃ x s, byt d.now n = s ∧ (lk d.now n).isSome = x ∧ Hid (E = if !x then 5 else 0) := ⟨_, _, rfl, rfl, Lib.hid (by rw [HE.out]; unfold ableM2; rw [hn, hm]; cases (lk d.now n).isSome <;> simp)⟩
    obtain ⟨x, s, e1, e2, HE2⟩ := HB
    have hl := HL.out (named_ok hn)
    simp only [e1, e2, if_true] at hl
    rw [hn] at N
    rw [hm] at N2
    clear HL hn hm e1 e2 HE
    cases x
    all_goals
      have HE3 := HE2.out
      simp at HE3
      subst HE3
      clear HE2
      go_enter Try.func28, Try.ntmps28
      go_wp2_with fail
      refine A.out.mono ?_
      rintro e w' ⟨rfl, rfl⟩
      go_wp2
      refine wp_loop_rounds 3 ?_
      rw [rounds_succ]
      go_wp2_with fail
      refine (N.out _).mono ?_
      rintro e w' ⟨rfl, rfl⟩
      go_wp2
      rw [rounds_succ]
      go_wp2_with fail
      refine (N2.out _).mono ?_
      rintro e w' ⟨rfl, rfl⟩
      go_wp2
      rw [rounds_succ]
      go_wp2
      go_quiet (fail)
      go_wp2
      go_ret
      exact ⟨rfl, Chg.drewN _ _⟩

def removeM (d : DiskM) (n : ByteArray) : DiskM × Int := if named n = false then (d, 2) else if (lk d.now n).isSome then (putM d (.rem n, ⟨#[]⟩), 0) else (d, 5)
def renameM (d : DiskM) (a c : ByteArray) : DiskM × Int := if named a = false ∨ named c = false then (d, 2) else if (lk d.now a).isSome then (putM d (.ren a c, ⟨#[]⟩), 0) else (d, 5)
def truncM (d : DiskM) (n : ByteArray) (k : Int) : DiskM × Int := if named n = false then (d, 2) else if (lk d.now n).isSome then (if k < 0 ∨ ((byt d.now n).size : Int) < k then (d, 2) else (putM d (.trunc n k.toNat, ⟨#[]⟩), 0)) else (d, 5)

set_option maxRecDepth 100000 in
set_option maxHeartbeats 1000000 in
theorem remove_any (h : DiskIs w b F S d) (n : ByteArray) (hS : S + 1 ≤ 1099511627776) :
    Calls Try.prog 26 #[.pointer (some ⟨b, 0, none⟩), .string n] w fun e w' => e = .returned (.int .i64 (removeM d n).2) ∧ To w b F (S + 1) (removeM d n).1 w' := by
  have hB := boxed w n
  obtain ⟨W, HW⟩ : ∃ W, Hid ((w.alloc (.cells #[.string n] 9)).alloc (.cells #[.string n] 9) = W) := ⟨_, Lib.hid rfl⟩
  rw [HW.out] at hB
  have HB := Lib.hid hB
  have H := Lib.hid h
  have A := Lib.hid (able_to h true n _ hB.chg hB.list)
  obtain ⟨E, HE⟩ : ∃ E, Hid (removeM d n = E) := ⟨_, Lib.hid rfl⟩
  rw [HE.out]
  by_cases hz : ableM true n d.now = 0
  · have hn : named n = true := by
      cases hn : named n
      · simp [ableM, hn] at hz
      · rfl
    have hk : (lk d.now n).isSome = true := by
      cases hk : (lk d.now n).isSome
      · simp [ableM, hn, hk] at hz
      · rfl
    have e0 : E = (putM d (.rem n, ⟨#[]⟩), 0) := by rw [← HE.out]; simp [removeM, hn, hk]
    subst e0
    rw [hz] at A
    have HD := Lib.hid (fun (w1 : World) (k : Chg (fun _ => False) w w1) (hb : w1.heap[w.heap.size]? = some (.cells #[.string n] 9)) => does_to (dd := .rem n) (h.same k) ⟨named_ok hn, _, rfl, hb⟩ trivial ⟨#[]⟩ (by have : (⟨#[]⟩ : ByteArray).size = 0 := rfl; omega))
    clear h HE hn hk hB hz
    go_enter Try.func26, Try.ntmps26
    go_wp2_with fail
    rw [HW.out]
    refine A.out.mono ?_
    rintro e w1 ⟨rfl, k1⟩
    have K1 := Lib.hid (HB.out.chg.trans k1)
    have HX := Lib.hid (k1.stays HB.out.box)
    have D := Lib.hid (HD.out w1 K1.out HX.out)
    clear k1 A HD
    go_wp2_with fail
    refine D.out.mono ?_
    rintro e w3 ⟨rfl, k3⟩
    have K3 := Lib.hid k3
    clear k3 D
    go_wp2
    go_ret
    exact ⟨rfl, To.behind K1.out K3.out⟩
  · obtain ⟨x, hx⟩ : ∃ x, ableM true n d.now = x := ⟨_, rfl⟩
    have e0 : E = (d, x) := by
      rw [← HE.out, ← hx]
      unfold ableM removeM at *
      cases hn : named n <;> cases hk : (lk d.now n).isSome <;> simp_all
    subst e0
    rw [hx] at A hz
    have hz2 : (x == 0) = false := by simpa using hz
    have hz3 : (x != 0) = true := by simpa using hz
    clear h HE hx hB hz
    go_enter Try.func26, Try.ntmps26
    go_wp2_with fail
    rw [HW.out]
    refine A.out.mono ?_
    rintro e w1 ⟨rfl, k1⟩
    go_wp2
    go_ret
    exact ⟨rfl, (To.of_same H.out (HB.out.chg.trans k1)).larger (by omega) hS⟩

theorem ableM_cases (n : ByteArray) (L : Files) : (ableM true n L = 0 ∧ named n = true ∧ (lk L n).isSome = true) ∨ (ableM true n L ≠ 0 ∧ ((named n = false ∧ ableM true n L = 2) ∨ (named n = true ∧ (lk L n).isSome = false ∧ ableM true n L = 5))) := by
  unfold ableM
  cases named n <;> cases (lk L n).isSome <;> simp

set_option maxRecDepth 100000 in
set_option maxHeartbeats 2000000 in
theorem trunc_any (h : DiskIs w b F S d) (n : ByteArray) (k : Int) (hS : S + 1 ≤ 1099511627776) :
    Calls Try.prog 24 #[.pointer (some ⟨b, 0, none⟩), .string n, .int .i64 k] w fun e w' => e = .returned (.int .i64 (truncM d n k).2) ∧ To w b F (S + 1) (truncM d n k).1 w' := by
  obtain ⟨W, HW⟩ : ∃ W, Hid (((w.alloc (.cells #[.string n] 9)).alloc (.cells #[.int .i64 k] 3)).alloc (.cells #[.string n] 9) = W) := ⟨_, Lib.hid rfl⟩
  have hc : Chg (fun _ => False) w W := by rw [← HW.out]; exact (((Chg.refl _ _).alloc _).alloc _).alloc _
  have x1 : W.heap[w.heap.size]? = some (.cells #[.string n] 9) := by
    rw [← HW.out, Below.heap_alloc _ _ _ (by simp; omega), Below.heap_alloc _ _ _ (by simp)]; exact Go.heap_alloc_new _ _
  have x2 : W.heap[w.heap.size + 1]? = some (.cells #[.int .i64 k] 3) := by
    rw [← HW.out, Below.heap_alloc _ _ _ (by simp)]
    have := Go.heap_alloc_new (w.alloc (.cells #[.string n] 9)) (.cells #[.int .i64 k] 3)
    simpa using this
  have x3 : W.cell? ⟨w.heap.size + 1 + 1, 0, none⟩ = some (.string n) := by
    rw [← HW.out]
    have := Go.heap_alloc_new ((w.alloc (.cells #[.string n] 9)).alloc (.cells #[.int .i64 k] 3)) (.cells #[.string n] 9)
    simp only [World.size_alloc] at this
    exact cell_of this (by simp)
  have HC := Lib.hid hc
  have H1 := Lib.hid x1
  have H2 := Lib.hid x2
  have H := Lib.hid h
  have A := Lib.hid (able_to h true n _ hc x3)
  obtain ⟨E, HE⟩ : ∃ E, Hid (truncM d n k = E) := ⟨_, Lib.hid rfl⟩
  rw [HE.out]
  rcases ableM_cases n d.now with ⟨hz, hn, hk⟩ | ⟨hz, hh⟩
  · rw [hz] at A
    obtain ⟨r1, r2, v, ts, h⟩ := h
    have hl : ∀ w1, Chg (fun _ => False) w w1 → ∀ m, (Instr.lookup 54 (.map (some r1)) (.string n) false).run Try.prog (w1.drewN m) = _ := fun w1 c m => ((h.same c).now.stay (w' := w1.drewN m) rfl).lookup Try.underlying54 Try.underlying9 (Try.zeroValue9 _) (named_ok hn) false
    have HL := Lib.hid hl
    have HCE := Lib.hid (fun (w1 : World) (c : Chg (fun _ => False) w w1) => (h.same c).cells.2.1)
    have hbt : (byt d.now n).size ≤ 1099511627776 := by have := byt_le d.now n; have := h.size; omega
    obtain ⟨s, hs⟩ : ∃ s, byt d.now n = s := ⟨_, rfl⟩
    rw [hs] at HL hbt
    by_cases k0 : k < 0
    · have e0 : E = (d, 2) := by rw [← HE.out]; simp [truncM, hn, hk, k0]
      subst e0
      have q1 : decide (k < 0) = true := by simpa using k0
      clear h HE hn hk hz hc x1 x2 x3 hl HL HCE
      go_enter Try.func24, Try.ntmps24
      go_wp2_with fail
      rw [HW.out]
      refine A.out.mono ?_
      rintro e w1 ⟨rfl, k1⟩
      have K1 := Lib.hid (HC.out.trans k1)
      have dK := cell_of (i := 0) (v := .int .i64 k) (k1.stays H2.out) rfl
      clear k1 A HW
      go_wp2
      go_quiet (fail)
      go_wp2
      go_ret
      exact ⟨rfl, (To.of_same H.out (K1.out.trans (Chg.drewN _ _))).larger (by omega) hS⟩
    · have q1 : decide (k < 0) = false := by simpa using k0
      by_cases k2 : (s.size : Int) < k
      · have e0 : E = (d, 2) := by rw [← HE.out]; unfold truncM; rw [hs]; simp [hn, hk, k0, k2]
        subst e0
        have q2 : decide ((s.size : Int) < k) = true := by simpa using k2
        clear h HE hn hk hz hc x1 x2 x3 hl
        go_enter Try.func24, Try.ntmps24
        go_wp2_with fail
        rw [HW.out]
        refine A.out.mono ?_
        rintro e w1 ⟨rfl, k1⟩
        have K1 := Lib.hid (HC.out.trans k1)
        have dK := cell_of (i := 0) (v := .int .i64 k) (k1.stays H2.out) rfl
        have dN := cell_of (i := 0) (v := .string n) (k1.stays H1.out) rfl
        have dM := HCE.out w1 K1.out
        have hl := HL.out w1 K1.out
        simp only [Bool.false_eq_true, if_false] at hl
        clear k1 A HW HL HCE
        go_wp2
        go_quiet (fail)
        go_wp2
        go_ret
        exact ⟨rfl, (To.of_same H.out (K1.out.trans (Chg.drewN _ _))).larger (by omega) hS⟩
      · obtain ⟨j, rfl⟩ : ∃ j : Nat, k = j := ⟨k.toNat, by omega⟩
        have e0 : E = (putM d (.trunc n j, ⟨#[]⟩), 0) := by rw [← HE.out]; unfold truncM; rw [hs]; simp [hn, hk]; omega
        subst e0
        have q2 : decide ((s.size : Int) < (j : Int)) = false := by simp; omega
        have q2' : decide (s.size < j) = false := by simp; omega
        have HD := Lib.hid (fun (w1 : World) (c : Chg (fun _ => False) w w1) (hb : w1.heap[w.heap.size]? = some (.cells #[.string n] 9)) (hb2 : w1.heap[w.heap.size + 1]? = some (.cells #[.int .i64 j] 3)) =>
          does_to (dd := .trunc n j) (H.out.same c) ⟨named_ok hn, _, _, rfl, hb, hb2⟩ (show j ≤ (byt d.now n).size by rw [hs]; omega) ⟨#[]⟩ (by have : (⟨#[]⟩ : ByteArray).size = 0 := rfl; omega))
        clear h HE hn hk hz hc x1 x2 x3 hl
        go_enter Try.func24, Try.ntmps24
        go_wp2_with fail
        rw [HW.out]
        refine A.out.mono ?_
        rintro e w1 ⟨rfl, k1⟩
        have K1 := Lib.hid (HC.out.trans k1)
        have Y1 := Lib.hid (k1.stays H1.out)
        have Y2 := Lib.hid (k1.stays H2.out)
        have dK := cell_of (i := 0) (v := .int .i64 j) Y2.out rfl
        have dN := cell_of (i := 0) (v := .string n) Y1.out rfl
        have dM := HCE.out w1 K1.out
        have hl := HL.out w1 K1.out
        simp only [Bool.false_eq_true, if_false] at hl
        clear k1 A HW HL HCE
        go_wp2
        go_quiet (fail)
        have HD2 := Lib.hid (fun m => HD.out (w1.drewN m) (K1.out.trans (Chg.drewN _ _)) Y1.out Y2.out)
        have K2 := Lib.hid (fun m => K1.out.trans (Chg.drewN w1 m))
        clear HD
        go_wp2_with fail
        refine (HD2.out _).mono ?_
        rintro e w3 ⟨rfl, k3⟩
        have K3 := Lib.hid k3
        clear k3 HD2
        go_wp2
        go_ret
        exact ⟨rfl, To.behind (K2.out _) K3.out⟩
  · obtain ⟨x, hx⟩ : ∃ x, ableM true n d.now = x := ⟨_, rfl⟩
    have e0 : E = (d, x) := by
      rw [← HE.out, ← hx]
      unfold truncM
      rcases hh with ⟨h1, h2⟩ | ⟨h1, h2, h3⟩
      · rw [h2]; simp [h1]
      · rw [h3, h1, h2]; simp
    subst e0
    rw [hx] at A hz
    have hz2 : (x == 0) = false := by simpa using hz
    have hz3 : (x != 0) = true := by simpa using hz
    clear h HE hx hz hh hc x1 x2 x3
    go_enter Try.func24, Try.ntmps24
    go_wp2_with fail
    rw [HW.out]
    refine A.out.mono ?_
    rintro e w1 ⟨rfl, k1⟩
    go_wp2
    go_ret
    exact ⟨rfl, (To.of_same H.out (HC.out.trans k1)).larger (by omega) hS⟩

set_option maxRecDepth 100000 in
set_option maxHeartbeats 2000000 in
theorem rename_any (h : DiskIs w b F S d) (n m : ByteArray) (hS : S + 1 ≤ 1099511627776) :
    Calls Try.prog 25 #[.pointer (some ⟨b, 0, none⟩), .string n, .string m] w fun e w' => e = .returned (.int .i64 (renameM d n m).2) ∧ To w b F (S + 1) (renameM d n m).1 w' := by
  obtain ⟨W, HW⟩ : ∃ W, Hid (((w.alloc (.cells #[.string n] 9)).alloc (.cells #[.string m] 9)).alloc (.cells #[.string n, .string m] 9) = W) := ⟨_, Lib.hid rfl⟩
  have hc : Chg (fun _ => False) w W := by rw [← HW.out]; exact (((Chg.refl _ _).alloc _).alloc _).alloc _
  have x1 : W.heap[w.heap.size]? = some (.cells #[.string n] 9) := by
    rw [← HW.out, Below.heap_alloc _ _ _ (by simp; omega), Below.heap_alloc _ _ _ (by simp)]; exact Go.heap_alloc_new _ _
  have x2 : W.heap[w.heap.size + 1]? = some (.cells #[.string m] 9) := by
    rw [← HW.out, Below.heap_alloc _ _ _ (by simp)]
    have := Go.heap_alloc_new (w.alloc (.cells #[.string n] 9)) (.cells #[.string m] 9)
    simpa using this
  have x3 : W.heap[w.heap.size + 1 + 1]? = some (.cells #[.string n, .string m] 9) := by
    rw [← HW.out]
    have := Go.heap_alloc_new ((w.alloc (.cells #[.string n] 9)).alloc (.cells #[.string m] 9)) (.cells #[.string n, .string m] 9)
    simp only [World.size_alloc] at this
    exact this
  have HC := Lib.hid hc
  have H1 := Lib.hid x1
  have H2 := Lib.hid x2
  have H := Lib.hid h
  obtain ⟨r1, r2, v, ts, h⟩ := h
  have A := Lib.hid (able2_any (h.same hc) (w.heap.size + 1 + 1) n m (cell_of x3 rfl) (cell_of x3 rfl))
  obtain ⟨E, HE⟩ : ∃ E, Hid (renameM d n m = E) := ⟨_, Lib.hid rfl⟩
  rw [HE.out]
  by_cases hz : ableM2 n m d.now = 0
  · have hnk : named n = true ∧ named m = true ∧ (lk d.now n).isSome = true := by
      unfold ableM2 at hz
      cases hn : named n <;> cases hm : named m <;> cases hk : (lk d.now n).isSome <;> simp_all
    obtain ⟨hn, hm, hk⟩ := hnk
    have e0 : E = (putM d (.ren n m, ⟨#[]⟩), 0) := by rw [← HE.out]; simp [renameM, hn, hm, hk]
    subst e0
    rw [hz] at A
    have HD := Lib.hid (fun (w1 : World) (k : Chg (fun _ => False) w w1) (hb : w1.heap[w.heap.size]? = some (.cells #[.string n] 9)) (hb2 : w1.heap[w.heap.size + 1]? = some (.cells #[.string m] 9)) =>
      does_to (dd := .ren n m) (H.out.same k) ⟨named_ok hn, named_ok hm, _, _, rfl, hb, hb2⟩ trivial ⟨#[]⟩ (by have : (⟨#[]⟩ : ByteArray).size = 0 := rfl; omega))
    clear h HE hn hm hk hz hc x1 x2 x3
    go_enter Try.func25, Try.ntmps25
    go_wp2_with fail
    rw [HW.out]
    refine A.out.mono ?_
    rintro e w1 ⟨rfl, k1⟩
    have K1 := Lib.hid (HC.out.trans k1)
    have D := Lib.hid (HD.out w1 K1.out (k1.stays H1.out) (k1.stays H2.out))
    clear k1 A HD
    go_wp2_with fail
    refine D.out.mono ?_
    rintro e w3 ⟨rfl, k3⟩
    have K3 := Lib.hid k3
    clear k3 D
    go_wp2
    go_ret
    exact ⟨rfl, To.behind K1.out K3.out⟩
  · obtain ⟨x, hx⟩ : ∃ x, ableM2 n m d.now = x := ⟨_, rfl⟩
    have e0 : E = (d, x) := by
      rw [← HE.out, ← hx]
      unfold ableM2 renameM at *
      cases hn : named n <;> cases hm : named m <;> cases hk : (lk d.now n).isSome <;> simp_all
    subst e0
    rw [hx] at A hz
    have hz2 : (x == 0) = false := by simpa using hz
    have hz3 : (x != 0) = true := by simpa using hz
    clear h HE hx hz hc x1 x2 x3
    go_enter Try.func25, Try.ntmps25
    go_wp2_with fail
    rw [HW.out]
    refine A.out.mono ?_
    rintro e w1 ⟨rfl, k1⟩
    go_wp2
    go_ret
    exact ⟨rfl, (To.of_same H.out (HC.out.trans k1)).larger (by omega) hS⟩
end
end Go.Proofs.Ytjflkmihkfbgpaa
