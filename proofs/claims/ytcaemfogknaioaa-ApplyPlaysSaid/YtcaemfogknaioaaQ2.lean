/- Walks: the document's Last. -/
import Derived.Test.YtcaemfogknaioaaQ1
import Derived.Deep.RegionWith
import Derived.Deep.CutBlock
import Derived.BigQuiet
import Derived.OwnWalk
namespace Go.Proofs.Ytcaemfogknaioaa
set_option linter.unusedVariables false
set_option linter.unusedSimpArgs false
open Go.RowKit Mk Go.Sort

theorem rises_key : ∀ (C : List (Nat × Last)) (b : Nat), risesR b C → ∀ p ∈ C, okU p.1 ∧ okU p.2.1
  | [], b, h, p, hp => by simp at hp
  | q :: C, b, h, p, hp => by
    rcases List.mem_cons.1 hp with rfl | hp
    · exact ⟨h.2.1, h.2.2.1⟩
    · exact rises_key C _ h.2.2.2 p hp
/-- The document's loop in memory of its own: the blocks F. -/
structure RfRep (w : World) (b : Nat) (F : Nat → Prop) (v : Value) (m : LoopM) : Prop where
  box : w.heap[b]? = some (.cells #[.string m.state, .int .u64 (m.index : Nat), v] 63)
  cl : sl w 86 3 v m.clients.length (cliV m.clients)
  ix : m.index < 18446744073709551616
  fb : F b
  fv : ∀ g, v.ownBlock = some g → F g
section
variable {w w' : World} {b : Nat} {F G : Nat → Prop} {v : Value} {m : LoopM}
theorem RfRep.stay (h : RfRep w b F v m) (c : Chg G w w') (hd : ∀ i, F i → ¬ G i) : RfRep w' b F v m :=
  ⟨(c.block b (Array.getElem?_eq_some_iff.1 h.box).1 (hd b h.fb)).trans h.box, h.cl.stay fun g hg => c.block g (h.cl.lt hg) (hd g (h.fv g hg)), h.ix, h.fb, h.fv⟩
theorem cliV_at (C : List (Nat × Last)) {j : Nat} (h : j < C.length) : (cliV C)[j * 3]? = some (.int .u64 (C[j].1 : Nat)) ∧ (cliV C)[j * 3 + 1]? = some (.int .u64 (C[j].2.1 : Nat)) ∧ (cliV C)[j * 3 + 2]? = some (.string C[j].2.2) := by
  induction C generalizing j with
  | nil => simp at h
  | cons p C ih =>
    have hu : cliV (p :: C) = .int .u64 (p.1 : Nat) :: .int .u64 (p.2.1 : Nat) :: .string p.2.2 :: cliV C := rfl
    rw [hu]
    cases j with
    | zero => exact ⟨rfl, rfl, rfl⟩
    | succ j =>
      have := ih (j := j) (by simpa using h)
      rw [show (j + 1) * 3 = j * 3 + 1 + 1 + 1 by omega]
      exact this
/-- A client's three cells. -/
theorem RfRep.client (h : RfRep w b F v m) {j : Nat} (hj : j < m.clients.length) : ∃ g cap, v = .slice (some ⟨g, 0, none⟩) m.clients.length cap ∧ w.cell? ⟨g, j * 3, none⟩ = some (.int .u64 (m.clients[j].1 : Nat)) ∧ w.cell? ⟨g, j * 3 + 1, none⟩ = some (.int .u64 (m.clients[j].2.1 : Nat)) ∧ w.cell? ⟨g, j * 3 + 2, none⟩ = some (.string m.clients[j].2.2) := by
  obtain ⟨h0, h1, h2⟩ := cliV_at m.clients hj
  obtain ⟨g, cap, e, c0⟩ := sl.cell h.cl h0
  obtain ⟨g1, cap1, e1, c1⟩ := sl.cell h.cl h1
  obtain ⟨g2, cap2, e2, c2⟩ := sl.cell h.cl h2
  rw [e] at e1 e2
  injection e1 with e1 _ _
  injection e1 with e1
  injection e1 with e1
  injection e2 with e2 _ _
  injection e2 with e2
  injection e2 with e2
  subst e1 e2
  exact ⟨g, cap, e, c0, c1, c2⟩
theorem lk_drop {C : List (Nat × Last)} {c j : Nat} (hj : j < C.length) : lk (C.drop j) c = if C[j].1 = c then some C[j].2 else lk (C.drop (j + 1)) c := by
  rw [List.drop_eq_getElem_cons hj]
  rfl
set_option maxRecDepth 100000 in
set_option maxHeartbeats 4000000 in
theorem rlast_any (h : RfRep w b F v m) (c : Nat) (hc : okU c) :
    Calls Try.prog 27 #[.pointer (some ⟨b, 0, none⟩), .int .u64 c] w fun e w' => e = .returned (.tuple #[.int .u64 (((lk m.clients c).getD (0, ⟨#[]⟩)).1 : Nat), .string ((lk m.clients c).getD (0, ⟨#[]⟩)).2, .bool (lk m.clients c).isSome]) ∧ Chg (fun _ => False) w w' := by
  have H := Lib.hid h
  obtain ⟨vo, vc, rfl⟩ := sl_shape h.cl
  have c2 : w.cell? ⟨b, 2, none⟩ = some (.slice vo m.clients.length vc) := cell_of h.box rfl
  have hle := h.cl.le
  obtain ⟨R, HR⟩ : ∃ R, Hid (lk m.clients c = R) := ⟨_, Lib.hid rfl⟩
  rw [HR.out]
  obtain ⟨n, hn⟩ : ∃ n, m.clients.length = n := ⟨_, rfl⟩
  have HNN := Lib.hid hn
  rw [hn] at c2 hle
  clear h hn
  simp only [maxLen] at hle
  go_enter Try.func27, Try.ntmps27
  go_wp2_with fail
  go_loopw [7] (fun i wr => ∃ j : Nat, i = .int .i64 j ∧ j ≤ n ∧ wr = w ∧ Hid (lk (m.clients.drop j) c = R)) (fun i _ => n - (intOf i).toNat)
  case atStart => exact ⟨0, rfl, Nat.zero_le _, rfl, HR⟩
  case round =>
    obtain ⟨j, rfl, hj, rfl, HK⟩ := hrel
    by_cases hjn : j < n
    · have q1 : decide ((j : Int) < (n : Int)) = true := by simp; omega
      have hjC : j < m.clients.length := by rw [HNN.out]; exact hjn
      obtain ⟨g, cap, hv, d0, d1, d2⟩ := H.out.client hjC
      rw [HNN.out] at hv
      injection hv with hv1 hv2 hv3
      subst hv1 hv3
      have hstep := lk_drop (c := c) hjC
      rw [HK.out] at hstep
      have HST := Lib.hid hstep
      generalize m.clients[j] = p at *
      obtain ⟨k, q, a⟩ := p
      simp only at d0 d1 d2 hstep
      have l0 : (0 : Int) ≤ j := by omega
      have l1 : (j : Int) < n := by omega
      by_cases hk : k = c
      · have HE := Lib.hid (show R = some (q, a) by rw [hstep, if_pos hk])
        have q2 : ((k : Int) == (c : Int)) = true := by simp; omega
        have q3 : decide ((k : Int) = (c : Int)) = true := by simp; omega
        subst hk
        clear hstep HST
        go_wp2_with fail
        go_big_quiet (fail)
        go_wp2_with fail
        refine bodyPost_ret (results_tmp3 rfl _ _ _) rfl ?_
        exact ⟨by rw [HE.out]; rfl, chg_of_below (below_drewN _ _)⟩
      · have HE := Lib.hid (show lk (m.clients.drop (j + 1)) c = R by rw [hstep, if_neg hk])
        have q2 : ((k : Int) == (c : Int)) = false := by simp; omega
        have q3 : decide ((k : Int) = (c : Int)) = false := by simp; omega
        have q4 : decide (k = c) = false := decide_eq_false hk
        clear hstep HST
        go_wp2_with fail
        go_roundw
        case rel => exact ⟨j + 1, by go_num, by omega, trivial, HE⟩
        case measure => simp [intOf]; omega
    · have q1 : decide ((j : Int) < (n : Int)) = false := by simp; omega
      have HE := Lib.hid (show R = none by rw [← HK.out, List.drop_eq_nil_of_le (by rw [HNN.out]; omega)]; rfl)
      go_wp2_with fail
      refine bodyPost_ret (results_tmp3 rfl _ _ _) rfl ?_
      exact ⟨by rw [HE.out]; rfl, Chg.refl _ _⟩
end
end Go.Proofs.Ytcaemfogknaioaa
