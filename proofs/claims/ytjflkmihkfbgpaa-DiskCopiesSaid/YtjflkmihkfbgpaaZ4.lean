/- Walks: Same of two disks; the document's Same. -/
import Derived.Test.YtjflkmihkfbgpaaZ3
import Derived.BigQuiet
namespace Go.Proofs.Ytjflkmihkfbgpaa
open Go.RowKit Mk Go.Sort
set_option linter.unusedVariables false
set_option linter.unusedSimpArgs false
section
variable {w : World} {a b x y n0 S S' : Nat} {F G : Nat → Prop} {d e : DiskM} {r q : RefM}
def sameM (d e : DiskM) : Bool := eqF d.now e.now && (eqF d.kept e.kept && decide (d.T.length = e.T.length))
theorem eq_quiet {W : World} {r1 r2 : Nat} {L M : Files} (h1 : files W r1 L) (h2 : files W r2 M) : ∀ (p : Nat) (os : Array Obj), Calls Try.prog 42 #[.map (some r1), .map (some r2)] (grow (redrawn W p) os) fun e w'' => e = .returned (.bool (eqF L M)) ∧ ∃ p : Regrown, w'' = grow (redrawn W p.d) p.os :=
  regrown_chg (fun w' hw => equal_any (h1.stay (hw.block _ h1.lt (fun f => f))) (h2.stay (hw.block _ h2.lt (fun f => f))))
theorem not_quiet {W : World} (h : DiskIs W b F S d) : ∀ (p : Nat) (os : Array Obj), Calls Try.prog 32 #[.pointer (some ⟨b, 0, none⟩)] (grow (redrawn W p) os) fun e w'' => e = .returned (.bool false) ∧ ∃ p : Regrown, w'' = grow (redrawn W p.d) p.os :=
  regrown_chg (fun w' hw => by
    obtain ⟨r1, r2, v, ts, h⟩ := h.same hw
    exact (not_any h).mono fun e w'' hh => ⟨hh.1, by rw [hh.2]; exact Chg.refl _ _⟩)
set_option maxRecDepth 100000 in
set_option maxHeartbeats 4000000 in
theorem dsame_any (ha : DiskIs w a F S d) (hb : DiskIs w b G S' e) :
    Calls Try.prog 22 #[.pointer (some ⟨a, 0, none⟩), .pointer (some ⟨b, 0, none⟩)] w fun en w' => en = .returned (.bool (sameM d e)) ∧ Chg (fun _ => False) w w' := by
  have NA := Lib.hid (not_quiet ha)
  have NB := Lib.hid (not_quiet hb)
  obtain ⟨a1, a2, av, ats, ha⟩ := ha
  obtain ⟨b1, b2, bv, bts, hb⟩ := hb
  have EN := Lib.hid (eq_quiet ha.now hb.now)
  have EK := Lib.hid (eq_quiet ha.kept hb.kept)
  obtain ⟨ao, ac, rfl⟩ := ha.shape
  obtain ⟨bo, bc, rfl⟩ := hb.shape
  have la : ats.length = d.T.length := by rw [← ha.things, List.length_map]
  have lb : bts.length = e.T.length := by rw [← hb.things, List.length_map]
  have p1 := fun p os => cell_regrown ha.cells.2.1 p os
  have p2 := fun p os => cell_regrown ha.cells.2.2.1 p os
  have p3 := fun p os => cell_regrown ha.cells.2.2.2 p os
  have q1 := fun p os => cell_regrown hb.cells.2.1 p os
  have q2 := fun p os => cell_regrown hb.cells.2.2.1 p os
  have q3 := fun p os => cell_regrown hb.cells.2.2.2 p os
  rw [la] at p3
  rw [lb] at q3
  have HS : Hid (sameM d e = (eqF d.now e.now && (eqF d.kept e.kept && decide (d.T.length = e.T.length)))) := Lib.hid rfl
  rw [HS.out]
  have dz : decide ((d.T.length : Int) = e.T.length) = decide (d.T.length = e.T.length) := by simp only [decide_eq_decide]; omega
  have dz' : ((d.T.length : Int) == e.T.length) = decide (d.T.length = e.T.length) := by rw [Bool.eq_iff_iff, beq_iff_eq, decide_eq_true_iff]; omega
  generalize decide (d.T.length = e.T.length) = Z at *
  generalize eqF d.now e.now = X at *
  generalize eqF d.kept e.kept = Y at *
  generalize d.T.length = dl at *
  generalize e.T.length = el at *
  clear ha hb la lb HS
  cases X <;> cases Y <;> cases Z
  all_goals
    go_enter Try.func22, Try.ntmps22
    go_wp2_with fail
    refine wp_region_quiet_below (by kernel_rfl) (by kernel_rfl) ?_
    repeat (go_big_quiet_step (first | (with_reducible exact NA.out _ _) | (with_reducible exact NB.out _ _) | (with_reducible exact EN.out _ _) | (with_reducible exact EK.out _ _)))
    refine wpQuiet_nil ?_
    intro _ hw'
    obtain ⟨⟨dq, osq⟩, hw''⟩ := hw'
    subst hw''
    go_wp2
    go_ret
    exact ⟨rfl, chg_of_below (below_regrown _ _ _)⟩

/-! The document's. -/
def sameFiles (A B : Files) : Bool := decide (A = B)
theorem sameFiles_at {A B : Files} (hl : A.length = B.length) (h : ∀ (k : Nat) p q, A[k]? = some p → B[k]? = some q → p = q) : A = B := by
  refine List.ext_getElem? fun k => ?_
  rcases Nat.lt_or_ge k A.length with hk | hk
  · have hk2 : k < B.length := by omega
    rw [List.getElem?_eq_getElem hk, List.getElem?_eq_getElem hk2, h k _ _ (List.getElem?_eq_getElem hk) (List.getElem?_eq_getElem hk2)]
  · rw [List.getElem?_eq_none hk, List.getElem?_eq_none (by omega)]
set_option maxRecDepth 100000 in
set_option maxHeartbeats 4000000 in
theorem sameFiles_any {v u : Value} {A B : Files} (hA : FL w v A) (hB : FL w u B) (hL : A.length ≤ 1099511627776) (hM : B.length ≤ 1099511627776) :
    Calls Try.prog 43 #[v, u] w fun en w' => en = .returned (.bool (sameFiles A B)) ∧ w'.heap = w.heap ∧ Chg (fun _ => False) w w' := by
  obtain ⟨vo, vc, rfl⟩ := hA.shape
  obtain ⟨uo, uc, rfl⟩ := hB.shape
  have HA := Lib.hid hA
  have HB := Lib.hid hB
  obtain ⟨E, HE⟩ : ∃ E, Hid (sameFiles A B = E) := ⟨_, Lib.hid rfl⟩
  rw [HE.out]
  clear hA hB
  by_cases hlen : A.length = B.length
  · have ql : decide ((A.length : Int) = B.length) = true := by rw [hlen]; simp
    have ql' : ((A.length : Int) == B.length) = true := by rw [hlen]; simp
    go_enter Try.func43, Try.ntmps43
    go_wp2
    go_loopw [5] (fun i wr => ∃ k : Nat, k ≤ A.length ∧ i = .int .i64 k ∧ Hid (Chg (fun _ => False) w wr ∧ wr.heap = w.heap ∧ ∀ (j : Nat) p q, j < k → A[j]? = some p → B[j]? = some q → p = q)) (fun i _ => A.length - (intOf i).toNat)
    case atStart => exact ⟨0, by omega, rfl, Lib.hid ⟨Chg.refl _ _, rfl, fun j p q h => by omega⟩⟩
    case round =>
      obtain ⟨k, hk, rfl, HI⟩ := hrel
      by_cases hlt : k < A.length
      · obtain ⟨⟨pn, ps⟩, hp⟩ : ∃ p, A[k]? = some p := ⟨A[k]'hlt, List.getElem?_eq_getElem hlt⟩
        obtain ⟨⟨qn, qs⟩, hq⟩ : ∃ p, B[k]? = some p := ⟨B[k]'(by omega), List.getElem?_eq_getElem (by omega)⟩
        obtain ⟨g, cap, e1, f0, f1⟩ := (HA.out.stay (below_of_chg HI.out.1)).cells hp
        cases e1
        obtain ⟨g2, cap2, e2, z0, z1⟩ := (HB.out.stay (below_of_chg HI.out.1)).cells hq
        cases e2
        simp only at f0 f1 z0 z1
        have l0 : (0 : Int) ≤ k := by omega
        have l1 : (k : Int) < A.length := by omega
        have l2 : (k : Int) < B.length := by omega
        have q : decide ((k : Int) < A.length) = true := by simp; omega
        have q' : decide (k < A.length) = true := by simpa using hlt
        by_cases hpq : pn = qn ∧ ps = qs
        · obtain ⟨rfl, rfl⟩ := hpq
          have v1 : (pn.toList == pn.toList) = true := by simp
          have v2 : (ps.toList == ps.toList) = true := by simp
          have HN : Hid (Chg (fun _ => False) w wr.drew ∧ wr.drew.heap = w.heap ∧ ∀ (j : Nat) p q, j < k + 1 → A[j]? = some p → B[j]? = some q → p = q) := Lib.hid ⟨HI.out.1.drew, HI.out.2.1, fun j p q hj h1 h2 => by
            by_cases e : j = k
            · subst e; rw [hp] at h1; rw [hq] at h2; cases h1; cases h2; rfl
            · exact HI.out.2.2 j p q (by omega) h1 h2⟩
          clear hp hq
          go_wp2
          go_region
          go_wp2
          go_roundw
          case rel => exact ⟨k + 1, by omega, by go_num, HN⟩
          case measure => simp [intOf]; omega
        · have hne : ¬ (A = B) := fun e => hpq (by rw [e, hq] at hp; cases hp; exact ⟨rfl, rfl⟩)
          have HE2 := Lib.hid (show sameFiles A B = false by unfold sameFiles; simpa using hne)
          have HD := Lib.hid (show (wr.drew.heap = w.heap) ∧ Chg (fun _ => False) w wr.drew from ⟨HI.out.2.1, HI.out.1.drew⟩)
          by_cases e1 : pn = qn
          · have v2 : (ps.toList == qs.toList) = false := beq_eq_false_iff_ne.2 (fun h => hpq ⟨e1, toList_inj h⟩)
            subst e1
            have v1 : (pn.toList == pn.toList) = true := by simp
            clear hp hq hne hpq
            go_wp2
            go_region
            go_wp2
            go_ret
            exact ⟨by rw [← HE.out, HE2.out]; rfl, HD.out⟩
          · have v1 : (pn.toList == qn.toList) = false := beq_eq_false_iff_ne.2 (fun h => e1 (toList_inj h))
            clear hp hq hne hpq e1
            cases v2 : (ps.toList == qs.toList)
            all_goals
              go_wp2
              go_region
              go_wp2
              go_ret
              exact ⟨by rw [← HE.out, HE2.out]; rfl, HD.out⟩
      · obtain rfl : k = A.length := by omega
        have q : decide ((A.length : Int) < A.length) = false := by simp
        have q' : decide (A.length < A.length) = false := by simp
        have HE2 := Lib.hid (show sameFiles A B = true by unfold sameFiles; simpa using sameFiles_at hlen (fun k p q h1 h2 => HI.out.2.2 k p q (List.getElem?_eq_some_iff.1 h1).1 h1 h2))
        have HC := Lib.hid (And.intro HI.out.2.1 HI.out.1)
        clear HI
        go_wp2
        go_ret
        exact ⟨by rw [← HE.out, HE2.out]; rfl, HC.out⟩
  · have ql : decide ((A.length : Int) = B.length) = false := by simp; omega
    have ql' : ((A.length : Int) == B.length) = false := by rw [beq_eq_false_iff_ne]; omega
    have HE2 := Lib.hid (show sameFiles A B = false by unfold sameFiles; simp; exact fun e => hlen (by rw [e]))
    clear hlen
    go_enter Try.func43, Try.ntmps43
    go_wp2
    go_ret
    exact ⟨by rw [← HE.out, HE2.out]; rfl, rfl, Chg.refl _ _⟩
end
end Go.Proofs.Ytjflkmihkfbgpaa
