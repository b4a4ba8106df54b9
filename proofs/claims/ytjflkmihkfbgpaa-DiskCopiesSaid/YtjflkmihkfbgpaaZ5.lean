/- Walks: the document's Same; both say the same. -/
import Derived.Test.YtjflkmihkfbgpaaZ4
namespace Go.Proofs.Ytjflkmihkfbgpaa
open Go.RowKit Mk Go.Sort
set_option linter.unusedVariables false
set_option linter.unusedSimpArgs false
section
variable {w : World} {a b x y n0 S S' : Nat} {F G : Nat → Prop} {d e : DiskM} {r q : RefM}
def rsameM (r q : RefM) : Bool := sameFiles r.N q.N && (sameFiles r.K q.K && decide (r.T.length = q.T.length))
theorem sf_quiet {W : World} {v u : Value} {A B : Files} (hA : FL W v A) (hB : FL W u B) (hL : A.length ≤ 1099511627776) (hM : B.length ≤ 1099511627776) : ∀ (p : Nat) (os : Array Obj), Calls Try.prog 43 #[v, u] (grow (redrawn W p) os) fun e w'' => e = .returned (.bool (sameFiles A B)) ∧ ∃ p : Regrown, w'' = grow (redrawn W p.d) p.os :=
  regrown_chg (fun w' hw => (sameFiles_any (hA.stay (below_of_chg hw)) (hB.stay (below_of_chg hw)) hL hM).mono fun e w'' hh => ⟨hh.1, hh.2.2⟩)
set_option maxRecDepth 100000 in
set_option maxHeartbeats 4000000 in
theorem rsame_any (ha : RIs w a F S r) (hb : RIs w b G S' q) :
    Calls Try.prog 23 #[.pointer (some ⟨a, 0, none⟩), .pointer (some ⟨b, 0, none⟩)] w fun en w' => en = .returned (.bool (rsameM r q)) ∧ Chg (fun _ => False) w w' := by
  obtain ⟨kv, ov, nv, ha⟩ := ha
  obtain ⟨kv2, ov2, nv2, hb⟩ := hb
  have EN := Lib.hid (sf_quiet ha.n hb.n (Nat.le_trans ha.len.2 ha.size.2.2) (Nat.le_trans hb.len.2 hb.size.2.2))
  have EK := Lib.hid (sf_quiet ha.k hb.k (by have := ha.len; have := ha.size; omega) (by have := hb.len; have := hb.size; omega))
  obtain ⟨ko, kc, rfl⟩ := ha.k.shape
  obtain ⟨no, nc, rfl⟩ := ha.n.shape
  obtain ⟨oo, oc, rfl⟩ := sl_shape ha.o
  obtain ⟨ko2, kc2, rfl⟩ := hb.k.shape
  obtain ⟨no2, nc2, rfl⟩ := hb.n.shape
  obtain ⟨oo2, oc2, rfl⟩ := sl_shape hb.o
  have p1 := fun p os => cell_regrown ha.cells.2.1 p os
  have p2 := fun p os => cell_regrown ha.cells.2.2.1 p os
  have p3 := fun p os => cell_regrown ha.cells.2.2.2 p os
  have q1 := fun p os => cell_regrown hb.cells.2.1 p os
  have q2 := fun p os => cell_regrown hb.cells.2.2.1 p os
  have q3 := fun p os => cell_regrown hb.cells.2.2.2 p os
  have HS : Hid (rsameM r q = (sameFiles r.N q.N && (sameFiles r.K q.K && decide (r.T.length = q.T.length)))) := Lib.hid rfl
  rw [HS.out]
  have dz : decide ((r.T.length : Int) = q.T.length) = decide (r.T.length = q.T.length) := by simp only [decide_eq_decide]; omega
  have dz' : ((r.T.length : Int) == q.T.length) = decide (r.T.length = q.T.length) := by rw [Bool.eq_iff_iff, beq_iff_eq, decide_eq_true_iff]; omega
  generalize decide (r.T.length = q.T.length) = Z at *
  generalize sameFiles r.N q.N = X at *
  generalize sameFiles r.K q.K = Y at *
  generalize r.T.length = dl at *
  generalize q.T.length = el at *
  generalize r.N.length = n1 at *
  generalize r.K.length = n2 at *
  generalize q.N.length = n3 at *
  generalize q.K.length = n4 at *
  clear ha hb HS
  cases X <;> cases Y <;> cases Z
  all_goals
    go_enter Try.func23, Try.ntmps23
    go_wp2_with fail
    refine wp_region_quiet_below (by kernel_rfl) (by kernel_rfl) ?_
    repeat (go_big_quiet_step (first | (with_reducible exact EN.out _ _) | (with_reducible exact EK.out _ _)))
    refine wpQuiet_nil ?_
    intro _ hw'
    obtain ⟨⟨dq, osq⟩, hw''⟩ := hw'
    subst hw''
    go_wp2
    go_ret
    exact ⟨rfl, chg_of_below (below_regrown _ _ _)⟩
theorem like_same (h : Like d r) (k : Like e q) : sameM d e = rsameM r q := by
  unfold sameM rsameM sameFiles
  rw [eqF_iff h.n1 k.n1 h.n2 k.n2, eqF_iff h.k1 k.k1 h.k2 k.k2, h.t, k.t]
theorem like_self (h : Like d r) : sameM d d = true := by
  rw [like_same h h]
  unfold rsameM sameFiles
  simp
end
end Go.Proofs.Ytjflkmihkfbgpaa
