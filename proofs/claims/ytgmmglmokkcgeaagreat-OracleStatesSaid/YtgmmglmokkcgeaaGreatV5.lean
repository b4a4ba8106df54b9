/- Walks: Same of any two states. Printed by genXc.py. -/
import Derived.Test.YtgmmglmokkcgeaaGreatXc
import Derived.Test.YtgmmglmokkcgeaaGreatXd
import Derived.Test.YtgmmglmokkcgeaaGreatXe
import Derived.Test.YtgmmglmokkcgeaaGreatX4
import Derived.Test.YtgmmglmokkcgeaaGreatZ6
import Derived.Test.YtgmmglmokkcgeaaGreatB6
import Derived.Test.YtgmmglmokkcgeaaGreatU1
import Derived.Deep.CutRange
import Derived.Deep.RegionHeld3
namespace Go.Proofs.YtgmmglmokkcgeaaGreat
set_option linter.unusedVariables false
set_option linter.unusedSimpArgs false
set_option linter.unusedSectionVars false
open Go.RowKit Mk Go.Sort

section
variable {w w' : World} {b c : Nat} {R R2 : Loc} {F F2 : Nat → Prop} {n n2 : OM}
/-- The two are told the same. -/
def SameM (R : Loc) (n : OM) (R2 : Loc) (n2 : OM) : Prop := n.time = n2.time ∧ n.uid = n2.uid ∧ n.mark = n2.mark ∧ (∀ x, lk n.dec x = lk n2.dec x) ∧ (∀ x, lk n.las x = lk n2.las x) ∧ (∀ x, lk n.tab x = lk n2.tab x) ∧ ∀ x, lk (rowsL R n) x = lk (rowsL R2 n2) x
theorem same_any (hx : RawRep w b R F n) (hy : RawRep w c R2 F2 n2) : Calls Tryz.prog 16 #[.pointer (some ⟨b, 0, none⟩), .pointer (some ⟨c, 0, none⟩)] w fun e w' => (∃ z, e = .returned (.bool z) ∧ (z = true ↔ SameM R n R2 n2)) ∧ Chg (fun _ => False) w w' := by
  have no : ¬ SameM R n R2 n2 → ∀ (e : Ending) (w' : World), (e = .returned (.bool false) ∧ Chg (fun _ => False) w w') → (∃ z, e = .returned (.bool z) ∧ (z = true ↔ SameM R n R2 n2)) ∧ Chg (fun _ => False) w w' := fun h e w' hh => ⟨⟨false, hh.1, ⟨fun e => Bool.noConfusion e, fun e => absurd e h⟩⟩, hh.2⟩
  by_cases e1 : n.time = n2.time
  case neg => exact (same_at1 hx hy e1).mono (no fun h => e1 h.1)
  by_cases e2 : n.uid = n2.uid
  case neg => exact (same_at2 hx hy e1 e2).mono (no fun h => e2 h.2.1)
  by_cases e3 : n.mark = n2.mark
  case neg => exact (same_at3 hx hy e1 e2 e3).mono (no fun h => e3 h.2.2.1)
  by_cases e4 : ∀ x, lk n.dec x = lk n2.dec x
  case neg => exact (same_at4 hx hy e1 e2 e3 e4).mono (no fun h => e4 h.2.2.2.1)
  by_cases e5 : ∀ x, lk n.las x = lk n2.las x
  case neg => exact (same_at5 hx hy e1 e2 e3 e4 e5).mono (no fun h => e5 h.2.2.2.2.1)
  by_cases e6 : ∀ x, lk n.tab x = lk n2.tab x
  case neg => exact (same_at6 hx hy e1 e2 e3 e4 e5 e6).mono (no fun h => e6 h.2.2.2.2.2.1)
  by_cases e7 : ∀ x, lk (rowsL R n) x = lk (rowsL R2 n2) x
  case neg => exact (same_at7 hx hy e1 e2 e3 e4 e5 e6 e7).mono (no fun h => e7 h.2.2.2.2.2.2)
  exact (same_at8 hx hy e1 e2 e3 e4 e5 e6 e7).mono fun e w' hh => ⟨⟨true, hh.1, ⟨fun _ => ⟨e1, e2, e3, e4, e5, e6, e7⟩, fun _ => rfl⟩⟩, hh.2⟩
theorem ris_ext {K V : Type} [DecidableEq K] {lt : K → K → Bool} (ho : Ordered lt) : ∀ {A B : List (K × V)}, Ris lt A → Ris lt B → (∀ p, p ∈ A ↔ p ∈ B) → A = B
  | [], [], _, _, _ => rfl
  | [], b :: B, _, _, h => absurd ((h b).2 (by simp)) (by simp)
  | a :: A, [], _, _, h => absurd ((h a).1 (by simp)) (by simp)
  | a :: A, b :: B, ha, hb, h => by
    obtain ⟨a1, a2⟩ := List.pairwise_cons.1 ha
    obtain ⟨b1, b2⟩ := List.pairwise_cons.1 hb
    have asy : ∀ x y : K, lt x y = true → lt y x = true → False := fun x y h1 h2 => by have := ho.tr x y x h1 h2; rw [ho.irr] at this; cases this
    have e : a = b := by
      rcases List.mem_cons.1 ((h a).1 (by simp)) with e | h1
      · exact e
      · rcases List.mem_cons.1 ((h b).2 (by simp)) with e | h2
        · exact e.symm
        · exact (asy _ _ (b1 _ h1) (a1 _ h2)).elim
    subst e
    rw [ris_ext ho a2 b2 (fun p => ?_)]
    constructor
    · intro hp
      rcases List.mem_cons.1 ((h p).1 (by simp [hp])) with e | h1
      · subst e; have := a1 _ hp; rw [ho.irr] at this; cases this
      · exact h1
    · intro hp
      rcases List.mem_cons.1 ((h p).2 (by simp [hp])) with e | h1
      · subst e; have := b1 _ hp; rw [ho.irr] at this; cases this
      · exact h1
theorem ris_eq {K V : Type} [DecidableEq K] {lt : K → K → Bool} (ho : Ordered lt) {A B : List (K × V)} (ha : Ris lt A) (hb : Ris lt B) (h : ∀ x, lk A x = lk B x) : A = B := by
  have hm : ∀ p, p ∈ A ↔ p ∈ B := fun p => by
    constructor
    · intro hp
      have h1 := lk_of_mem' (ha.apart ho) hp
      rw [h] at h1
      exact lk_mem h1
    · intro hp
      have h1 := lk_of_mem' (hb.apart ho) hp
      rw [← h] at h1
      exact lk_mem h1
  exact ris_ext ho ha hb hm
/-- The two that are told the same are of one list form, and the other way about. -/
theorem same_like {r r2 : RM} (h : LikeR R n r) (h2 : LikeR R2 n2 r2) : SameM R n R2 n2 ↔ r = r2 := by
  have ec : ∀ x, lk (rowsL R n) x = lk r.c x := fun x => by unfold rowsL; rw [lk_keyed, h.c]
  have ec2 : ∀ x, lk (rowsL R2 n2) x = lk r2.c x := fun x => by unfold rowsL; rw [lk_keyed, h2.c]
  constructor
  · rintro ⟨e1, e2, e3, e4, e5, e6, e7⟩
    obtain ⟨t, u, m, d, k, tt, cc⟩ := r
    obtain ⟨t', u', m', d', k', tt', cc'⟩ := r2
    have q1 := h.time; have q2 := h.uid; have q3 := h.mark
    have p1 := h2.time; have p2 := h2.uid; have p3 := h2.mark
    simp only at q1 q2 q3 p1 p2 p3
    have q4 : d = d' := ris_eq ltN_ord h.ds h2.ds (fun x => by rw [← h.d, ← h2.d, e4])
    have q5 : k = k' := ris_eq lessB_ord h.ks h2.ks (fun x => by rw [← h.k, ← h2.k, e5])
    have q6 : tt = tt' := ris_eq lessB_ord h.ts h2.ts (fun x => by rw [← h.t, ← h2.t, e6])
    have q7 : cc = cc' := ris_eq lessB_ord h.cs h2.cs (fun x => by rw [← ec, ← ec2, e7])
    subst q4 q5 q6 q7
    have a1 : t = t' := by rw [← q1, e1, p1]
    have a2 : u = u' := by rw [← q2, e2, p2]
    have a3 : m = m' := by rw [← q3, e3, p3]
    subst a1 a2 a3
    rfl
  · rintro rfl
    exact ⟨by rw [h.time, h2.time], by rw [h.uid, h2.uid], by rw [h.mark, h2.mark], fun x => by rw [h.d, h2.d], fun x => by rw [h.k, h2.k], fun x => by rw [h.t, h2.t], fun x => by rw [ec, ec2]⟩
end
end Go.Proofs.YtgmmglmokkcgeaaGreat
/- The list form of a state that commands made: how far it goes, and that its memory is told by it. -/
namespace Go.Proofs.YtgmmglmokkcgeaaGreat
set_option linter.unusedVariables false
set_option linter.unusedSimpArgs false
set_option linter.unusedSectionVars false
open Go.RowKit Mk Go.Sort

/-- Behind i commands. -/
structure Sz (r : RM) (i : Nat) : Prop where
  dl : r.d.length ≤ i
  kl : r.k.length ≤ 256 * i
  tl : r.t.length ≤ i
  cl : r.c.length ≤ 256 * i
  ct : ∀ p ∈ r.c, p.2.length ≤ 256 * i
  tw : ∀ p ∈ r.t, p.2.g < 4294967296 ∧ p.2.to < 4294967296
theorem Sz.new : Sz .new 0 := ⟨Nat.le_refl _, Nat.le_refl _, Nat.le_refl _, Nat.le_refl _, by simp [RM.new], by simp [RM.new]⟩
theorem Sz.mono {r : RM} {i j : Nat} (h : Sz r i) (hc : i ≤ j) : Sz r j := ⟨Nat.le_trans h.dl hc, Nat.le_trans h.kl (by omega), Nat.le_trans h.tl hc, Nat.le_trans h.cl (by omega), fun p hp => Nat.le_trans (h.ct p hp) (by omega), h.tw⟩
theorem Sz.setT {r : RM} {i : Nat} (h : Sz r i) (x : ByteArray) (t : Tb) (T : Nat) (ht : t.g < 4294967296 ∧ t.to < 4294967296) : Sz { r with time := T, t := lay lessB x t r.t } (i + 1) := by
  have h1 := h.mono (Nat.le_succ i)
  refine ⟨h1.dl, h1.kl, Nat.le_trans (lay_len _ _ _) (Nat.succ_le_succ h.tl), h1.cl, h1.ct, fun p hp => ?_⟩
  rcases lay_mem hp with rfl | hp
  · exact ht
  · exact h.tw p hp
theorem Sz.apply {r : RM} {i B : Nat} (h : Sz r i) (hf : Fit r B) (o : OpM) (hg : o.g < 4294967296) (hto : o.to < 4294967296) : Sz (rapplyM r o).1 (i + 1) := by
  have h1 := h.mono (Nat.le_succ i)
  unfold rapplyM
  cases hm : mayM o
  · rw [if_neg (by simp)]; exact h1
  rw [if_pos rfl]
  obtain ⟨k1, k9⟩ := may_kind hm
  have hc : o.k = 1 ∨ o.k = 2 ∨ (o.k = 3 ∨ o.k = 4) ∨ (o.k = 5 ∨ o.k = 6 ∨ o.k = 7 ∨ o.k = 8) ∨ o.k = 9 := by omega
  rcases hc with hk | hk | hk | hk | hk
  · have e : rdoM r o = ({ r with time := r.time + o.n }, ⟨0, r.time + 1, 0, .zero⟩) := by unfold rdoM; simp only [hk]
    rw [e]
    exact ⟨h1.dl, h1.kl, h1.tl, h1.cl, h1.ct, h1.tw⟩
  · have e : rdoM r o = ({ r with uid := r.uid + o.n }, ⟨0, r.uid + 1, 0, .zero⟩) := by unfold rdoM; simp only [hk]
    rw [e]
    exact ⟨h1.dl, h1.kl, h1.tl, h1.cl, h1.ct, h1.tw⟩
  · have e : rdoM r o = rendM r o := by unfold rdoM; rcases hk with hk | hk <;> rw [hk] <;> rfl
    rw [e]
    unfold rendM
    split
    · exact h1
    · split
      · exact h1
      · split
        · exact h1
        · split
          · exact ⟨Nat.le_trans (lay_len _ _ _) (Nat.succ_le_succ h.dl), h1.kl, h1.tl, h1.cl, h1.ct, h1.tw⟩
          · rename_i hno
            have hk3 : o.k = 3 := by
              rcases hk with hk | hk
              · exact hk
              · exact absurd (Or.inl hk) hno
            obtain ⟨n1, n2⟩ := may_keys hm hk3
            obtain ⟨a, b⟩ := rlastM_ris (r.time + 1) o.keys r.k hf.ks
            obtain ⟨c, d, e⟩ := rcomM_ris (r.time + 1) (256 * i) o.needs r.c (256 * i) hf.cs h.ct
            exact ⟨Nat.le_trans (lay_len _ _ _) (Nat.succ_le_succ h.dl), by have := h.kl; simp only; omega, h1.tl, by have := h.cl; simp only; omega, fun p hp => by have := e p hp; omega, h1.tw⟩
  · have e : rdoM r o = rturnM r o := by unfold rdoM; rcases hk with hk | hk | hk | hk <;> rw [hk] <;> rfl
    rw [e]
    unfold rturnM
    split
    · split
      · exact h1
      · exact h.setT o.pred ⟨o.pred, o.g, 0, 0, 1⟩ r.time ⟨hg, by simp⟩
    · split
      · exact h1
      · rename_i t ht
        obtain ⟨t1, t2⟩ := h.tw _ (lk_mem ht)
        simp only at t1 t2
        split
        · split
          · exact h1
          · split
            · exact h1
            · exact h.setT o.pred ⟨t.p, t.g, o.to, r.time + 1, t.tn + 1⟩ (r.time + 1) ⟨t1, hto⟩
        · split
          · exact h1
          · exact h.setT o.pred ⟨t.p, if o.k = 7 then t.to else t.g, 0, 0, t.tn + 1⟩ r.time ⟨by simp only; split <;> assumption, by simp⟩
  · have e : rdoM r o = rmarkM r o.at_ := by unfold rdoM; simp only [hk]
    rw [e]
    unfold rmarkM
    split
    · exact h1
    · split
      · exact h1
      · exact ⟨Nat.le_trans (List.length_filter_le _ _) h1.dl, Nat.le_trans (List.length_filter_le _ _) h1.kl, h1.tl, h1.cl, h1.ct, h1.tw⟩
/-- Behind i commands. -/
structure Good (r : RM) (i : Nat) : Prop where
  fit : Fit r (4096 * i)
  made : Made r
  sz : Sz r i
theorem Good.new : Good .new 0 := ⟨Fit.new, Made.new, Sz.new⟩
theorem Good.apply {r : RM} {i : Nat} (h : Good r i) (o : OpM) (hg : o.g < 4294967296) (hto : o.to < 4294967296) : Good (rapplyM r o).1 (i + 1) :=
  ⟨(h.fit.apply o).mono (by omega), h.made.apply h.fit.ts o, h.sz.apply h.fit o hg hto⟩
theorem predOk_size {x : ByteArray} (h : predOk x = true) : x.size ≤ 64 := by
  unfold predOk at h
  simp only [Bool.and_eq_true, decide_eq_true_eq] at h
  exact h.1.1.2
theorem Good.wid {r : RM} {i : Nat} (h : Good r i) (hi : i ≤ 1000000) : Wid r := by
  have hf := h.fit
  have ht := hf.time
  have pd : ∀ p ∈ r.d, p.2 ≤ r.time := fun p hp => (h.made.pos p hp).2.2
  refine ⟨by omega, by have := hf.uid; omega, by have := h.made.mt; omega, by have := h.sz.dl; omega, by have := h.sz.kl; omega, by have := h.sz.tl; omega, by have := h.sz.cl; omega, fun p hp => ?_, fun p hp => ?_, fun p hp => ?_, fun p hp => ?_, hf.ds, hf.ks, hf.ts, hf.cs⟩
  · obtain ⟨a, b, c⟩ := h.made.pos p hp
    omega
  · obtain ⟨a, b⟩ := h.made.ksz p hp
    obtain ⟨q, hq, e⟩ := h.made.kd p hp
    have := pd q hq
    omega
  · obtain ⟨a, b⟩ := h.made.tp p hp
    have := predOk_size b
    obtain ⟨c, d⟩ := h.sz.tw p hp
    obtain ⟨_, _, _, e, _⟩ := h.made.tg p hp
    have := hf.tn p hp
    exact ⟨a, by omega, c, d, by omega, by omega⟩
  · obtain ⟨_, ⟨t, ht2⟩, _⟩ := h.made.ct p hp
    have := predOk_size (h.made.tp _ (lk_mem ht2)).2
    simp only at this
    refine ⟨by omega, by have := h.sz.ct p hp; omega, fun x hx => ?_⟩
    obtain ⟨_, q, hq, e⟩ := h.made.cd p hp x hx
    have := pd q hq
    omega
theorem flat_le {α : Type} {f : α → List UInt8} {C : Nat} : ∀ (l : List α), (∀ x ∈ l, (f x).length ≤ C) → (l.flatMap f).length ≤ l.length * C
  | [], _ => by simp
  | x :: l, h => by
    have h1 := h x (by simp)
    have h2 := flat_le l (fun y hy => h y (by simp [hy]))
    simp only [List.flatMap_cons, List.length_append, List.length_cons, Nat.succ_mul]
    omega
/-- How long the bytes are. -/
theorem Good.len {r : RM} {i : Nat} (h : Good r i) (hi : i ≤ 100) : (bytesR r).length ≤ 17179869183 := by
  have hd := flat_le (f := decE) (C := 18) r.d (fun p hp => by unfold decE; have := nl9 p.1; have := nl9 p.2; simp only [List.length_append]; omega)
  have hk := flat_le (f := lasE) (C := 16402) r.k (fun p hp => by unfold lasE; have := text9 p.1; have := nl9 p.2; have := (h.made.ksz p hp).2; simp only [List.length_append]; omega)
  have htt := flat_le (f := tabE) (C := 109) r.t (fun p hp => by
    obtain ⟨a, b⟩ := h.made.tp p hp
    have := predOk_size b
    unfold tabE
    have := text9 p.2.p; have := nl9 p.2.g; have := nl9 p.2.to; have := nl9 p.2.at_; have := nl9 p.2.tn
    rw [a] at *
    simp only [List.length_append]
    omega)
  have hc := flat_le (f := comE) (C := 230482) r.c (fun p hp => by
    obtain ⟨_, ⟨t, ht2⟩, _⟩ := h.made.ct p hp
    have := predOk_size (h.made.tp _ (lk_mem ht2)).2
    simp only at this
    have h5 := flat_le (f := Cod.num) (C := 9) p.2 (fun x _ => nl9 x)
    have h6 := h.sz.ct p hp
    unfold comE
    have := text9 p.1; have := nl9 p.2.length
    simp only [List.length_append]
    omega)
  have l1 := h.sz.dl; have l2 := h.sz.kl; have l3 := h.sz.tl; have l4 := h.sz.cl
  have n1 := nl9 r.time; have n2 := nl9 r.uid; have n3 := nl9 r.mark; have n4 := nl9 r.d.length; have n5 := nl9 r.k.length; have n6 := nl9 r.t.length; have n7 := nl9 r.c.length
  unfold bytesR
  simp only [List.length_append]
  generalize (r.d.flatMap decE).length = a1 at *
  generalize (r.k.flatMap lasE).length = a2 at *
  generalize (r.t.flatMap tabE).length = a3 at *
  generalize (r.c.flatMap comE).length = a4 at *
  omega
theorem lim_alike {n : OM} {r : RM} {B : Nat} (h : Alike n r) (hf : Fit r B) : Lim n B := by
  refine ⟨by rw [h.time]; exact hf.time, by rw [h.uid]; exact hf.uid, fun p hp => ?_, fun x => ?_⟩
  · have h1 := lk_of_mem' h.ta hp
    rw [h.t] at h1
    exact hf.tn _ (lk_mem h1)
  · rw [h.c]
    cases hk : lk r.c x with
    | none => simp
    | some l => exact hf.ct _ (lk_mem hk)
section
variable {w : World} {b : Nat} {R : Loc} {F : Nat → Prop} {n : OM} {r : RM}
theorem like_of_alike (h : OrRep w b R F n) (ha : Alike n r) (hm : Made r) : LikeR R n r :=
  ⟨ha.time, ha.uid, ha.mark, ha.d, ha.ds, ha.k, ha.ks, ha.t, ha.ts, fun x => by
    have h1 := ha.c x
    cases hk : lk R.rows x with
    | none =>
      rw [h.gone x hk] at h1
      cases hc : lk r.c x with
      | none => rfl
      | some l =>
        rw [hc] at h1
        exact absurd h1.symm (hm.ct _ (lk_mem hc)).1
    | some v =>
      have h2 := h.full _ (lk_mem hk)
      cases hc : lk r.c x with
      | none => rw [hc] at h1; exact absurd h1 h2
      | some l => rw [hc] at h1; rw [Option.map_some, h1]; rfl, ha.cs⟩
theorem or_of_raw (h : RawRep w b R F n) (hl : LikeR R n r) (hm : Made r) : OrRep w b R F n ∧ Alike n r := by
  have row : ∀ x, n.com x = (lk r.c x).getD [] := fun x => by
    rw [hl.c]
    cases hk : lk R.rows x with
    | none => exact h.gone x hk
    | some v => rfl
  have some_ : ∀ x, n.com x = [] ∨ (x, n.com x) ∈ r.c := fun x => by
    cases hc : lk r.c x with
    | none => left; rw [row, hc]; rfl
    | some l => right; rw [row, hc]; exact lk_mem hc
  refine ⟨h.full (fun p hp => ?_), ⟨hl.time, hl.uid, hl.mark, hl.d, hl.ds, ?_, hl.k, hl.ks, ?_, hl.t, hl.ts, ?_, fun p hp => (hm.tp p hp).1, row, hl.cs, fun x => ?_, fun x t ht => ?_⟩⟩
  · have h1 := hl.c p.1
    rw [lk_of_mem' h.com.apart hp] at h1
    exact (hm.ct _ (lk_mem h1)).1
  · exact (List.pairwise_map (f := fun p : Nat × Nat => (p.1, nV p.2))).1 h.dec.apart
  · exact (List.pairwise_map (f := fun p : ByteArray × Nat => (p.1, nV p.2))).1 h.las.apart
  · exact (List.pairwise_map (f := fun p : ByteArray × Tb => (p.1, tbV p.2))).1 h.tab.apart
  · rcases some_ x with e | e
    · rw [e]; exact List.Pairwise.nil
    · exact (hm.ct _ e).2.2
  · rcases some_ x with e | e
    · rw [e] at ht; cases ht
    · obtain ⟨_, q, hq, e2⟩ := hm.cd _ e t ht
      have := (hm.pos q hq).2.2
      rw [hl.time]
      omega
end
end Go.Proofs.YtgmmglmokkcgeaaGreat
/- What OracleStates keeps: states in blocks of their own, each told by its list form. -/
namespace Go.Proofs.YtgmmglmokkcgeaaGreat
set_option linter.unusedVariables false
set_option linter.unusedSimpArgs false
set_option linter.unusedSectionVars false
open Go.RowKit Mk Go.Sort

/-- One state, made by i commands, in blocks of its own. -/
def St1 (w W : World) (b i : Nat) (r : RM) (F : Nat → Prop) : Prop := ∃ n, OrIs W b F n ∧ (∀ g, F g → w.heap.size ≤ g ∧ g < W.heap.size) ∧ Alike n r ∧ Good r i
section
variable {w w0 w2 u W W' : World} {b i b2 i2 : Nat} {r r2 : RM} {F G : Nat → Prop} {op : OpM} {ol : OpL}
theorem St1.stay (h : St1 w W b i r F) {K : Nat → Prop} (c : Chg K W W') (hd : ∀ g, F g → ¬ K g) : St1 w W' b i r F := by
  obtain ⟨n, hn, hf, ha, hg⟩ := h
  exact ⟨n, hn.stay c hd, fun g f => ⟨(hf g f).1, Nat.lt_of_lt_of_le (hf g f).2 c.size⟩, ha, hg⟩
theorem St1.same (h : St1 w W b i r F) (c : Chg (fun _ => False) W W') : St1 w W' b i r F := h.stay c (fun _ _ f => f)
theorem St1.good (h : St1 w W b i r F) : Good r i := by obtain ⟨_, _, _, _, h⟩ := h; exact h
theorem St1.raw (h : St1 w W b i r F) : ∃ R n, RawRep W b R F n ∧ LikeR R n r := by
  obtain ⟨n, ⟨R, hR⟩, hf, ha, hg⟩ := h
  exact ⟨R, n, hR.raw, like_of_alike hR ha hg.made⟩
theorem St1.fn (h : St1 w W b i r F) : ∀ g, F g → w.heap.size ≤ g ∧ g < W.heap.size := by obtain ⟨_, _, h, _, _⟩ := h; exact h
theorem St1.bytes (h : St1 w W b i r F) (hi : i ≤ 100) : Calls Tryz.prog 17 #[.pointer (some ⟨b, 0, none⟩)] W fun e w' => e = .returned (.string (str (bytesR r))) ∧ Chg (fun _ => False) W w' := by
  obtain ⟨R, n, h1, h2⟩ := h.raw
  have hg := h.good
  exact bytesS_any h1 (fun g f => (h.fn g f).2) h2 (hg.wid (by omega)) (by have := hg.len hi; omega) (fun p hp => by have := hg.sz.ct p hp; omega)
theorem St1.sameAs (h : St1 w W b i r F) (h2 : St1 w2 W b2 i2 r2 G) : Calls Tryz.prog 16 #[.pointer (some ⟨b, 0, none⟩), .pointer (some ⟨b2, 0, none⟩)] W fun e w' => (∃ z, e = .returned (.bool z) ∧ (z = true ↔ r = r2)) ∧ Chg (fun _ => False) W w' := by
  obtain ⟨R, n, a1, a2⟩ := h.raw
  obtain ⟨R2, n2, b1, b2⟩ := h2.raw
  refine (same_any a1 b1).mono ?_
  rintro e w' ⟨⟨z, e1, e2⟩, c⟩
  exact ⟨⟨z, e1, e2.trans (same_like a2 b2)⟩, c⟩
theorem St1.read (hg : Good r i) (hi : i ≤ 100) (hw : w0.heap.size ≤ w.heap.size) : Calls Tryz.prog 21 #[.string (str (bytesR r))] w fun e w' => ∃ b F, e = .returned (.tuple #[.pointer (some ⟨b, 0, none⟩), .int .i64 0]) ∧ St1 w0 w' b i r F ∧ (∀ g, F g → w.heap.size ≤ g) ∧ Chg (fun _ => False) w w' := by
  have hl := hg.len hi
  have hp := parse_back (hg.wid (by omega))
  refine (readState_any _ w (by rw [str_size]; exact hl)).mono ?_
  rintro e w' ⟨c, ⟨e1, e2⟩ | ⟨b, F, e1, e2, e3, e4, e5⟩⟩
  · exact absurd (by rw [hp]; exact ⟨rfl, rfl, hg.made⟩) e2
  · rw [hp] at e2
    obtain ⟨R, n, h1, h2⟩ := e2
    obtain ⟨h3, h4⟩ := or_of_raw h1 h2 hg.made
    exact ⟨b, F, e1, ⟨n, ⟨R, h3⟩, fun g f => ⟨Nat.le_trans hw (e3 g f).1, (e3 g f).2⟩, h4, hg⟩, fun g f => (e3 g f).1, c⟩
theorem St1.apply (h : St1 w W b i r F) (hi : i ≤ 1000) (hu : Chg (fun _ => False) w W) (ho : OpAt w op ol) (hps : op.pred.size ≤ maxLen) : Calls Tryz.prog 9 #[.pointer (some ⟨b, 0, none⟩), .agg (opC op ol)] W fun e w' => e = .returned (anV (rapplyM r op).2) ∧ ∃ F', St1 w w' b (i + 1) (rapplyM r op).1 F' ∧ Chg F W w' ∧ ∀ g, F' g → F g ∨ W.heap.size ≤ g := by
  obtain ⟨n, hn, hf, ha, hg⟩ := h
  obtain ⟨q1, q2⟩ := ha.apply op
  refine (apply_is_all hn (Chg.refl _ _) (ho.same hu) hps ((lim_alike ha hg.fit).mono (by omega)) (fun g o' e f => ?_)).mono ?_
  · have hgf := hf g f
    rcases e with ⟨e1, e2⟩ | ⟨e1, e2⟩
    · obtain ⟨g', o2, e3, h4, -⟩ := ho.keys.cell 0 (List.length_pos_iff.2 e1)
      rw [e2] at e3
      cases e3
      omega
    · obtain ⟨g', o2, e3, h4, -⟩ := ho.needs.cell 0 (List.length_pos_iff.2 e1)
      rw [e2] at e3
      cases e3
      omega
  · rintro e w' ⟨rfl, hT⟩
    refine ⟨by rw [q1], fun g => (F g ∨ W.heap.size ≤ g) ∧ g < w'.heap.size, ⟨_, hT.is.tight, ?_, q2, hg.apply op ho.g ho.to⟩, hT.chg, fun g f => f.1⟩
    rintro g ⟨a | a, e⟩
    · exact ⟨(hf g a).1, e⟩
    · exact ⟨Nat.le_trans hu.size a, e⟩
end
/-- Two states side by side. -/
structure Two (w W : World) (b i : Nat) (r : RM) (b2 i2 : Nat) (r2 : RM) : Prop where
  chg : Chg (fun _ => False) w W
  ex : ∃ F G, St1 w W b i r F ∧ St1 w W b2 i2 r2 G ∧ ∀ g, F g → ¬ G g
section
variable {w u W W' : World} {b i b2 i2 : Nat} {r r2 : RM} {op : OpM} {ol : OpL}
theorem Two.swap (h : Two w W b i r b2 i2 r2) : Two w W b2 i2 r2 b i r := by
  obtain ⟨c, F, G, h1, h2, h3⟩ := h
  exact ⟨c, G, F, h2, h1, fun g a b => h3 g b a⟩
theorem Two.same (h : Two w W b i r b2 i2 r2) (c : Chg (fun _ => False) W W') : Two w W' b i r b2 i2 r2 := by
  obtain ⟨c0, F, G, h1, h2, h3⟩ := h
  exact ⟨c0.trans c, F, G, h1.same c, h2.same c, h3⟩
theorem Two.app (h : Two w W b i r b2 i2 r2) (hi : i ≤ 1000) (ho : OpAt w op ol) (hps : op.pred.size ≤ maxLen) {u : World} (cu : Chg (fun _ => False) W u) : Calls Tryz.prog 9 #[.pointer (some ⟨b, 0, none⟩), .agg (opC op ol)] u fun e w' => e = .returned (anV (rapplyM r op).2) ∧ Hid (Two w w' b (i + 1) (rapplyM r op).1 b2 i2 r2) := by
  obtain ⟨c0, F, G, h1, h2, h3⟩ := h.same cu
  refine (h1.apply hi c0 ho hps).mono ?_
  rintro e w' ⟨rfl, F', a, b, c⟩
  refine ⟨rfl, Lib.hid ⟨c0.trans' b (fun g f => Or.inr (h1.fn g f).1), F', G, a, h2.stay b (fun g f e => h3 g e f), fun g f e => ?_⟩⟩
  rcases c g f with x | x
  · exact h3 g x e
  · have := (h2.fn g e).2; omega
end
end Go.Proofs.YtgmmglmokkcgeaaGreat
/- One command for both states of a pair; what a row of commands holds. -/
namespace Go.Proofs.YtgmmglmokkcgeaaGreat
set_option linter.unusedVariables false
set_option linter.unusedSimpArgs false
set_option linter.unusedSectionVars false
open Go.RowKit Mk Go.Sort

theorem Two.round {w W : World} {bx bs j : Nat} {rr : RM} {op : OpM} {ol : OpL} (h : Two w W bx j rr bs j rr) (hj : j ≤ 1000) (ho : OpAt w op ol) (hps : op.pred.size ≤ maxLen) :
    ∃ (r' : RM) (ac af am : Nat) (tp : ByteArray) (tg tt ta tn : Nat), (∀ u, Chg (fun _ => False) W u → Calls Tryz.prog 9 #[.pointer (some ⟨bx, 0, none⟩), .agg #[.int .u8 (op.k : Nat), .int .u32 (op.n : Nat), .int .u64 (op.st : Nat), .slice ol.ko op.keys.length ol.kc, .slice ol.no op.needs.length ol.nc, .string op.pred, .int .u32 (op.g : Nat), .int .u32 (op.to : Nat), .int .u64 (op.at_ : Nat)]] u (fun e w' => e = .returned (.agg #[.int .i64 (ac : Nat), .int .u64 (af : Nat), .int .u64 (am : Nat), .string tp, .int .u32 (tg : Nat), .int .u32 (tt : Nat), .int .u64 (ta : Nat), .int .u64 (tn : Nat)]) ∧ Hid (Two w w' bx (j + 1) r' bs j rr)))
      ∧ (∀ u, Chg (fun _ => False) W u → Calls Tryz.prog 9 #[.pointer (some ⟨bs, 0, none⟩), .agg #[.int .u8 (op.k : Nat), .int .u32 (op.n : Nat), .int .u64 (op.st : Nat), .slice ol.ko op.keys.length ol.kc, .slice ol.no op.needs.length ol.nc, .string op.pred, .int .u32 (op.g : Nat), .int .u32 (op.to : Nat), .int .u64 (op.at_ : Nat)]] u (fun e w' => e = .returned (.agg #[.int .i64 (ac : Nat), .int .u64 (af : Nat), .int .u64 (am : Nat), .string tp, .int .u32 (tg : Nat), .int .u32 (tt : Nat), .int .u64 (ta : Nat), .int .u64 (tn : Nat)]) ∧ Hid (Two w w' bs (j + 1) r' bx j rr)))
      ∧ (∀ u, Two w u bs (j + 1) r' bx j rr → Calls Tryz.prog 9 #[.pointer (some ⟨bx, 0, none⟩), .agg #[.int .u8 (op.k : Nat), .int .u32 (op.n : Nat), .int .u64 (op.st : Nat), .slice ol.ko op.keys.length ol.kc, .slice ol.no op.needs.length ol.nc, .string op.pred, .int .u32 (op.g : Nat), .int .u32 (op.to : Nat), .int .u64 (op.at_ : Nat)]] u (fun e w' => e = .returned (.agg #[.int .i64 (ac : Nat), .int .u64 (af : Nat), .int .u64 (am : Nat), .string tp, .int .u32 (tg : Nat), .int .u32 (tt : Nat), .int .u64 (ta : Nat), .int .u64 (tn : Nat)]) ∧ Hid (Two w w' bx (j + 1) r' bs (j + 1) r')))
      ∧ (∀ u, Two w u bx (j + 1) r' bs j rr → Calls Tryz.prog 9 #[.pointer (some ⟨bs, 0, none⟩), .agg #[.int .u8 (op.k : Nat), .int .u32 (op.n : Nat), .int .u64 (op.st : Nat), .slice ol.ko op.keys.length ol.kc, .slice ol.no op.needs.length ol.nc, .string op.pred, .int .u32 (op.g : Nat), .int .u32 (op.to : Nat), .int .u64 (op.at_ : Nat)]] u (fun e w' => e = .returned (.agg #[.int .i64 (ac : Nat), .int .u64 (af : Nat), .int .u64 (am : Nat), .string tp, .int .u32 (tg : Nat), .int .u32 (tt : Nat), .int .u64 (ta : Nat), .int .u64 (tn : Nat)]) ∧ Hid (Two w w' bs (j + 1) r' bx (j + 1) r'))) := by
  obtain ⟨an, han⟩ : ∃ a, (rapplyM rr op).2 = a := ⟨_, rfl⟩
  obtain ⟨ac, af, am, tp, tg, tt, ta, tn⟩ := an
  refine ⟨(rapplyM rr op).1, ac, af, am, tp, tg, tt, ta, tn, fun u cu => ?_, fun u cu => ?_, fun u hu => ?_, fun u hu => ?_⟩
  · have := h.app hj ho hps cu
    rw [han] at this
    exact this
  · have := h.swap.app hj ho hps cu
    rw [han] at this
    exact this
  · have := hu.swap.app hj ho hps (Chg.refl _ _)
    rw [han] at this
    exact this
  · have := hu.swap.app hj ho hps (Chg.refl _ _)
    rw [han] at this
    exact this
theorem Two.alone {w W : World} {b j b2 j2 : Nat} {rr r2 : RM} {op : OpM} {ol : OpL} (h : Two w W b j rr b2 j2 r2) (hj : j ≤ 1000) (ho : OpAt w op ol) (hps : op.pred.size ≤ maxLen) :
    ∃ (r' : RM) (v : Value), Calls Tryz.prog 9 #[.pointer (some ⟨b, 0, none⟩), .agg #[.int .u8 (op.k : Nat), .int .u32 (op.n : Nat), .int .u64 (op.st : Nat), .slice ol.ko op.keys.length ol.kc, .slice ol.no op.needs.length ol.nc, .string op.pred, .int .u32 (op.g : Nat), .int .u32 (op.to : Nat), .int .u64 (op.at_ : Nat)]] W (fun e w' => e = .returned v ∧ Hid (Two w w' b (j + 1) r' b2 j2 r2)) :=
  ⟨_, _, h.app hj ho hps (Chg.refl _ _)⟩
/-- One command of the row, in memory. -/
theorem OpsAt.one {w : World} {so : Option Addr} {L : List (OpM × OpL)} (h : OpsAt w so L) {k : Nat} (hk : k < L.length) :
    ∃ g o op ol, so = some ⟨g, o, none⟩ ∧ OpAt w op ol ∧ op.pred.size ≤ maxLen ∧ ∀ u, Chg (fun _ => False) w u → u.cell? ⟨g, o + k * 9, none⟩ = some (.int .u8 (op.k : Nat)) ∧ u.cell? ⟨g, o + k * 9 + 1, none⟩ = some (.int .u32 (op.n : Nat)) ∧ u.cell? ⟨g, o + k * 9 + 2, none⟩ = some (.int .u64 (op.st : Nat)) ∧ u.cell? ⟨g, o + k * 9 + 3, none⟩ = some (.slice ol.ko op.keys.length ol.kc) ∧ u.cell? ⟨g, o + k * 9 + 4, none⟩ = some (.slice ol.no op.needs.length ol.nc) ∧ u.cell? ⟨g, o + k * 9 + 5, none⟩ = some (.string op.pred) ∧ u.cell? ⟨g, o + k * 9 + 6, none⟩ = some (.int .u32 (op.g : Nat)) ∧ u.cell? ⟨g, o + k * 9 + 7, none⟩ = some (.int .u32 (op.to : Nat)) ∧ u.cell? ⟨g, o + k * 9 + 8, none⟩ = some (.int .u64 (op.at_ : Nat)) := by
  obtain ⟨g, o, rfl, hg, hc⟩ := h.cell k hk
  have hop := (h.ops _ (List.getElem_mem hk))
  obtain ⟨p, hp⟩ : ∃ p, L[k] = p := ⟨_, rfl⟩
  rw [hp] at hc hop
  obtain ⟨op, ol⟩ := p
  refine ⟨g, o, op, ol, rfl, hop.1, hop.2, fun u cu => ?_⟩
  have key := fun (c : Nat) (v : Value) (hv : (opC op ol)[c]? = some v) => (World.cell?_of_block (a := ⟨g, o + k * 9 + c, none⟩) (cu.block g hg (fun f => f))).trans (hc c v hv)
  exact ⟨key 0 _ rfl, key 1 _ rfl, key 2 _ rfl, key 3 _ rfl, key 4 _ rfl, key 5 _ rfl, key 6 _ rfl, key 7 _ rfl, key 8 _ rfl⟩
/-- The states that the law makes first. -/
theorem Two.start {w w2 w3 w4 : World} {bs bt : Nat} (c2 : Chg (fun _ => False) w w2) (hs : OrIs w3 bs (fun g => w2.heap.size ≤ g) .new) (c3 : Chg (fun _ => False) w2 w3) (ht : OrIs w4 bt (fun g => w3.heap.size ≤ g) .new) (c4 : Chg (fun _ => False) w3 w4) : Two w w4 bs 0 .new bt 0 .new :=
  ⟨(c2.trans c3).trans c4, _, _, ⟨_, hs.tight.same c4, fun g f => ⟨Nat.le_trans c2.size f.1, Nat.lt_of_lt_of_le f.2 c4.size⟩, Alike.new, Good.new⟩, ⟨_, ht.tight, fun g f => ⟨Nat.le_trans (c2.trans c3).size f.1, f.2⟩, Alike.new, Good.new⟩, fun g f e => by have := f.2; have := e.1; omega⟩
/-- Three states, the first apart from the second. -/
structure Three (w W : World) (bx i : Nat) (rx : RM) (bs j : Nat) (rs : RM) (bt k : Nat) (rt : RM) : Prop where
  two : Two w W bx i rx bs j rs
  t : ∃ H, St1 w W bt k rt H
section
variable {w W W' : World} {bx i bs j bt k : Nat} {rx rs rt : RM}
theorem Three.same (h : Three w W bx i rx bs j rs bt k rt) (c : Chg (fun _ => False) W W') : Three w W' bx i rx bs j rs bt k rt := ⟨h.two.same c, by obtain ⟨H, h⟩ := h.t; exact ⟨H, h.same c⟩⟩
theorem Two.bytes (h : Two w W bx i rx bs j rs) (hi : i ≤ 100) : Calls Tryz.prog 17 #[.pointer (some ⟨bx, 0, none⟩)] W fun e w' => e = .returned (.string (str (bytesR rx))) ∧ Chg (fun _ => False) W w' := by
  obtain ⟨_, F, G, h1, h2, _⟩ := h
  exact h1.bytes hi
theorem Two.good (h : Two w W bx i rx bs j rs) : Good rx i ∧ Good rs j := by
  obtain ⟨_, F, G, h1, h2, _⟩ := h
  exact ⟨h1.good, h2.good⟩
theorem Two.sameAs (h : Two w W bx i rx bs j rs) : Calls Tryz.prog 16 #[.pointer (some ⟨bx, 0, none⟩), .pointer (some ⟨bs, 0, none⟩)] W fun e w' => (∃ z, e = .returned (.bool z) ∧ (z = true ↔ rx = rs)) ∧ Chg (fun _ => False) W w' := by
  obtain ⟨_, F, G, h1, h2, _⟩ := h
  exact h1.sameAs h2
theorem Three.bytesT (h : Three w W bx i rx bs j rs bt k rt) (hi : k ≤ 100) : Calls Tryz.prog 17 #[.pointer (some ⟨bt, 0, none⟩)] W fun e w' => e = .returned (.string (str (bytesR rt))) ∧ Chg (fun _ => False) W w' := by
  obtain ⟨_, H, h1⟩ := h
  exact h1.bytes hi
theorem Three.sameST (h : Three w W bx i rx bs j rs bt k rt) {q : Bool} (hq : q = true ↔ rs = rt) : Calls Tryz.prog 16 #[.pointer (some ⟨bs, 0, none⟩), .pointer (some ⟨bt, 0, none⟩)] W fun e w' => e = .returned (.bool q) ∧ Chg (fun _ => False) W w' := by
  obtain ⟨⟨_, F, G, _, h2, _⟩, H, h1⟩ := h
  refine (h2.sameAs h1).mono ?_
  rintro e w' ⟨⟨z, rfl, hz⟩, c⟩
  have : z = q := Bool.eq_iff_iff.2 (hz.trans hq.symm)
  exact ⟨by rw [this], c⟩
theorem Three.sameXS (h : Three w W bx i rs bs j rs bt k rt) : Calls Tryz.prog 16 #[.pointer (some ⟨bx, 0, none⟩), .pointer (some ⟨bs, 0, none⟩)] W fun e w' => e = .returned (.bool true) ∧ Chg (fun _ => False) W w' := by
  refine h.two.sameAs.mono ?_
  rintro e w' ⟨⟨z, rfl, hz⟩, c⟩
  exact ⟨by rw [hz.2 rfl], c⟩
theorem Two.read (h : Two w W bs j rs bt k rt) (hj : j ≤ 100) {u : World} (cu : Chg (fun _ => False) W u) : Calls Tryz.prog 21 #[.string (str (bytesR rs))] u fun e w' => ∃ bx, e = .returned (.tuple #[.pointer (some ⟨bx, 0, none⟩), .int .i64 0]) ∧ Hid (Three w w' bx j rs bs j rs bt k rt) := by
  obtain ⟨c, F, G, h1, h2, _⟩ := h.same cu
  refine (St1.read (w0 := w) h1.good hj c.size).mono ?_
  rintro e w' ⟨bx, X, rfl, a, b, c2⟩
  exact ⟨bx, rfl, Lib.hid ⟨⟨c.trans c2, X, F, a, h1.same c2, fun g f e => by have := b g f; have := (h1.fn g e).2; omega⟩, G, h2.same c2⟩⟩
/-- What ReadState gives is written as it was read. -/
theorem read_bytes {e : Ending} {w w' : World} {B : ByteArray} (hB : B.size ≤ 30000) (h : ReadSays B w e w') : Chg (fun _ => False) w w' ∧ (e = .returned (.tuple #[.pointer none, .int .i64 200]) ∨ ∃ b, e = .returned (.tuple #[.pointer (some ⟨b, 0, none⟩), .int .i64 0]) ∧ Hid (Calls Tryz.prog 17 #[.pointer (some ⟨b, 0, none⟩)] w' fun e w2 => e = .returned (.string B) ∧ Chg (fun _ => False) w' w2)) := by
  obtain ⟨c, ⟨e1, _⟩ | ⟨b, F, e1, e2, e3, e4, e5⟩⟩ := h
  · exact ⟨c, Or.inl e1⟩
  · obtain ⟨R, n, h1, h2⟩ := e2
    refine ⟨c, Or.inr ⟨b, e1, Lib.hid ?_⟩⟩
    have := bytesS_any h1 (fun g f => (e3 g f).2) h2 (parse_wid (S := 30000) hB (by omega)) (by have := parse_len e4; omega) (fun p hp => by have := parse_rows hB p hp; omega)
    rw [e5] at this
    exact this
end
end Go.Proofs.YtgmmglmokkcgeaaGreat
/- Walk: OracleStates. Printed by genV3.py. -/
namespace Go.Proofs.YtgmmglmokkcgeaaGreat
set_option linter.unusedVariables false
set_option linter.unusedSimpArgs false
set_option linter.unusedSectionVars false
open Go.RowKit Mk Go.Sort

theorem str_inj {a b : List UInt8} (h : str a = str b) : a = b := by
  unfold str at h
  simpa using h
set_option maxRecDepth 100000 in
set_option maxHeartbeats 16000000 in
theorem walkOracleStates {w : World} {so so2 : Option Addr} {N cp M cp2 : Nat} {L L2 : List (OpM × OpL)} {B : ByteArray} (h : OpsAt w so L) (hl : L.length = N) (h2 : OpsAt w so2 L2) (hl2 : L2.length = M) :
    Calls Tryz.prog 4 #[.slice so N cp, .slice so2 M cp2, .string B] w fun e w' => e = .returned (.bool true) ∧ Chg (fun _ => False) w w' := by
  have H := Lib.hid h
  have HL := Lib.hid hl
  have H2 := Lib.hid h2
  have HL2 := Lib.hid hl2
  have ln := h.len
  have ln2 := h2.len
  rw [hl] at ln
  rw [hl2] at ln2
  obtain ⟨Q, HQ⟩ : ∃ Q : Ending → World → Prop, Hid ((fun e w' => e = .returned (.bool true) ∧ Chg (fun _ => False) w w') = Q) := ⟨_, Lib.hid rfl⟩
  rw [HQ.out]
  have DONE : ∀ w', Hid (Chg (fun _ => False) w w') → Q (.returned (.bool true)) w' := fun w' c => by rw [← HQ.out]; exact ⟨rfl, c.out⟩
  have DN := Lib.hid DONE
  clear h hl h2 hl2 DONE HQ
  go_enter Tryz.func4, Tryz.ntmps4
  go_wp2_with fail
  refine (lives_any _).mono ?_
  rintro e w1 ⟨rfl, c1⟩
  have C1 := Lib.hid c1
  have SM := Lib.hid (small_any (cp := cp) (H.out.stay c1) HL.out)
  clear c1
  go_wp2_with fail
  refine SM.out.mono ?_
  rintro e w2 ⟨z, rfl, hz, c2⟩
  have C2 := Lib.hid (C1.out.trans c2)
  clear c2 SM C1
  cases z
  · clear hz
    go_wp2_with fail
    exact DN.out _ C2
  have hN : N ≤ 100 := hz rfl
  clear hz
  have SM := Lib.hid (small_any (cp := cp2) (H2.out.stay C2.out) HL2.out)
  go_wp2_with fail
  refine SM.out.mono ?_
  rintro e w3 ⟨z, rfl, hz, c3⟩
  have C3 := Lib.hid (C2.out.trans c3)
  clear c3 SM C2
  cases z
  · clear hz
    go_wp2_with fail
    exact DN.out _ C3
  have hM : M ≤ 100 := hz rfl
  clear hz
  by_cases hb : B.size ≤ 30000
  case neg =>
    have b1 : decide ((B.size : Int) > 30000) = true := decide_eq_true (by omega)
    have b2 : decide ((30000 : Int) < (B.size : Int)) = true := decide_eq_true (by omega)
    have b3 : (30000 : Int) < (B.size : Int) := by omega
    have b4 : decide (30000 < B.size) = true := decide_eq_true (by omega)
    have b5 : 30000 < B.size := by omega
    go_wp2_with fail
    exact DN.out _ C3
  case pos =>
  have b1 : decide ((B.size : Int) > 30000) = false := decide_eq_false (by omega)
  have b2 : decide ((30000 : Int) < (B.size : Int)) = false := decide_eq_false (by omega)
  have b3 : ¬ (30000 : Int) < (B.size : Int) := by omega
  have b4 : decide (30000 < B.size) = false := decide_eq_false (by omega)
  have b5 : ¬ 30000 < B.size := by omega
  go_wp2_with fail
  clear b1 b2 b3 b4 b5
  refine (new_any _).mono ?_
  rintro e w4 ⟨bs, rfl, hs, c4⟩
  have HS := Lib.hid hs
  have C4 := Lib.hid c4
  clear hs c4
  go_wp2_with fail
  refine (new_any _).mono ?_
  rintro e w5 ⟨bt, rfl, ht, c5⟩
  have HP0 := Lib.hid (Two.start C3.out HS.out C4.out ht c5)
  clear ht c5 HS C4 C3
  go_wp2_with fail
  go_loopw [9] (fun i wr => ∃ (k : Nat) (rr : RM), i = .int .i64 k ∧ k ≤ N ∧ Hid (Two w wr bs k rr bt 0 .new)) (fun i _ => N - (intOf i).toNat)
  case atStart => exact ⟨0, _, rfl, Nat.zero_le _, HP0⟩
  case round =>
    clear HP0
    obtain ⟨k, rr, rfl, hk, HP⟩ := hrel
    generalize wr = W0 at *
    by_cases hlt : k < N
    · have d0 : decide ((k : Int) < N) = true := decide_eq_true (by omega)
      have l0 : (0 : Int) ≤ k := by omega
      have l1 : (k : Int) < N := by omega
      obtain ⟨g, o, op, ol, rfl, ho, hps, hc⟩ := H.out.one (k := k) (by rw [HL.out]; exact hlt)
      obtain ⟨x0, x1, x2, x3, x4, x5, x6, x7, x8⟩ := hc W0 HP.out.chg
      obtain ⟨r', v, hap⟩ := HP.out.alone (by omega) ho hps
      have AP := Lib.hid hap
      clear ho hps hc hap
      go_wp2_with fail
      refine AP.out.mono ?_
      rintro e W1 ⟨rfl, H1⟩
      clear x0 x1 x2 x3 x4 x5 x6 x7 x8 AP
      go_wp2_with fail
      go_roundw
      case rel => exact ⟨k + 1, r', by go_num, by omega, H1⟩
      case measure => simp [intOf]; omega
    · have d0 : decide ((k : Int) < N) = false := decide_eq_false (by omega)
      have HE : Hid (Two w W0 bs N rr bt 0 .new) := Lib.hid (by rw [← show k = N from by omega]; exact HP.out)
      have HP := Lib.hid HE.out.swap
      clear HE
      obtain ⟨rs, HRS⟩ : ∃ r, Hid (rr = r) := ⟨_, Lib.hid rfl⟩
      rw [HRS.out] at HP
      have HP0 := HP
      clear HP hk HRS
      go_wp2_with fail
      clear d0 hlt
      go_loopw [10] (fun i wr => ∃ (k : Nat) (rr : RM), i = .int .i64 k ∧ k ≤ M ∧ Hid (Two w wr bt k rr bs N rs)) (fun i _ => M - (intOf i).toNat)
      case atStart => exact ⟨0, _, rfl, Nat.zero_le _, HP0⟩
      case round =>
        clear HP0
        obtain ⟨k, rr, rfl, hk, HP⟩ := hrel
        generalize wr = W0 at *
        by_cases hlt : k < M
        · have d0 : decide ((k : Int) < M) = true := decide_eq_true (by omega)
          have l0 : (0 : Int) ≤ k := by omega
          have l1 : (k : Int) < M := by omega
          obtain ⟨g, o, op, ol, rfl, ho, hps, hc⟩ := H2.out.one (k := k) (by rw [HL2.out]; exact hlt)
          obtain ⟨x0, x1, x2, x3, x4, x5, x6, x7, x8⟩ := hc W0 HP.out.chg
          obtain ⟨r', v, hap⟩ := HP.out.alone (by omega) ho hps
          have AP := Lib.hid hap
          clear ho hps hc hap
          go_wp2_with fail
          refine AP.out.mono ?_
          rintro e W1 ⟨rfl, H1⟩
          clear x0 x1 x2 x3 x4 x5 x6 x7 x8 AP
          go_wp2_with fail
          go_roundw
          case rel => exact ⟨k + 1, r', by go_num, by omega, H1⟩
          case measure => simp [intOf]; omega
        · have d0 : decide ((k : Int) < M) = false := decide_eq_false (by omega)
          have HE : Hid (Two w W0 bt M rr bs N rs) := Lib.hid (by rw [← show k = M from by omega]; exact HP.out)
          have HP := Lib.hid HE.out.swap
          clear HE
          obtain ⟨rt, HRT⟩ : ∃ r, Hid (rr = r) := ⟨_, Lib.hid rfl⟩
          rw [HRT.out] at HP
          have BY := Lib.hid (HP.out.bytes (by omega))
          obtain ⟨AS, HAS⟩ : ∃ A, Hid (str (bytesR rs) = A) := ⟨_, Lib.hid rfl⟩
          obtain ⟨AT, HAT⟩ : ∃ A, Hid (str (bytesR rt) = A) := ⟨_, Lib.hid rfl⟩
          have RD := Lib.hid (fun (W u : World) (h : Two w W bs N rs bt M rt) (cu : Chg (fun _ => False) W u) => h.read hN cu)
          rw [HAS.out] at BY RD
          clear hk HRT
          go_wp2_with fail
          clear d0 hlt
          refine BY.out.mono ?_
          rintro e W1 ⟨rfl, c1⟩
          have RD := Lib.hid (RD.out _ _ HP.out c1)
          clear BY c1
          go_wp2_with fail
          refine RD.out.mono ?_
          rintro e W2 ⟨bx, rfl, HT⟩
          clear RD
          have HGS := Lib.hid HP.out.good
          clear HP
          obtain ⟨q, HQ⟩ : ∃ q : Bool, Hid (q = true ↔ rs = rt) := by
            by_cases e : rs = rt
            · exact ⟨true, Lib.hid ⟨fun _ => e, fun _ => rfl⟩⟩
            · exact ⟨false, Lib.hid ⟨fun h => Bool.noConfusion h, fun h => absurd h e⟩⟩
          have s0 : (AS.toList == AT.toList) = q := by
            rw [← HAS.out, ← HAT.out]
            refine Bool.eq_iff_iff.2 (Iff.trans ?_ HQ.out.symm)
            rw [beq_iff_eq]
            constructor
            · intro e
              have e2 := bytes_inj e
              exact bytesR_inj (HGS.out.1.wid (by omega)) (HGS.out.2.wid (by omega)) (str_inj e2)
            · intro e; rw [e]
          have SX := Lib.hid HT.out.sameXS
          clear HGS
          go_wp2_with fail
          refine SX.out.mono ?_
          rintro e W3 ⟨rfl, c3⟩
          have HT3 := Lib.hid (HT.out.same c3)
          clear HT SX c3
          have BY := Lib.hid (HT3.out.two.swap.bytes (by omega))
          rw [HAS.out] at BY
          go_wp2_with fail
          refine BY.out.mono ?_
          rintro e W4 ⟨rfl, c4⟩
          have HT4 := Lib.hid (HT3.out.same c4)
          clear HT3 BY c4
          have BY := Lib.hid (HT4.out.bytesT (by omega))
          rw [HAT.out] at BY
          go_wp2_with fail
          refine BY.out.mono ?_
          rintro e W5 ⟨rfl, c5⟩
          have HT5 := Lib.hid (HT4.out.same c5)
          clear HT4 BY c5
          have SX := Lib.hid (HT5.out.sameST HQ.out)
          go_wp2_with fail
          refine SX.out.mono ?_
          rintro e W6 ⟨rfl, c6⟩
          have HX := Lib.hid (HT5.out.same c6).two
          clear HT5 SX c6
          have qq : (q != q) = false := by simp
          have q2 : (q == q) = true := by simp
          go_wp2_with fail
          go_loopw [13] (fun i wr => ∃ (k : Nat) (rr : RM), i = .int .i64 k ∧ k ≤ M ∧ Hid (Two w wr bx (N + k) rr bs (N + k) rr)) (fun i _ => M - (intOf i).toNat)
          case atStart => exact ⟨0, _, rfl, Nat.zero_le _, HX⟩
          case round =>
            clear HX
            obtain ⟨k, rr, rfl, hk, HP⟩ := hrel
            generalize wr = W0 at *
            by_cases hlt : k < M
            · have d0 : decide ((k : Int) < M) = true := decide_eq_true (by omega)
              have l0 : (0 : Int) ≤ k := by omega
              have l1 : (k : Int) < M := by omega
              obtain ⟨g, o, op, ol, rfl, ho, hps, hc⟩ := H2.out.one (k := k) (by rw [HL2.out]; exact hlt)
              have KEY := Lib.hid hc
              obtain ⟨r', ac, af, am, tp, tg, tt, ta, tn, a0, b0, a1, b1⟩ := HP.out.round (by omega) ho hps
              have A0 := Lib.hid a0
              have B0 := Lib.hid b0
              have A1 := Lib.hid a1
              have B1 := Lib.hid b1
              have CW := Lib.hid HP.out.chg
              clear ho hps hc a0 b0 a1 b1
              go_wp2_with fail
              go_region_held3 (fun u => u.cell? ⟨g, o + k * 9, none⟩ = some (.int .u8 (op.k : Nat)) ∧ u.cell? ⟨g, o + k * 9 + 1, none⟩ = some (.int .u32 (op.n : Nat)) ∧ u.cell? ⟨g, o + k * 9 + 2, none⟩ = some (.int .u64 (op.st : Nat)) ∧ u.cell? ⟨g, o + k * 9 + 3, none⟩ = some (.slice ol.ko op.keys.length ol.kc) ∧ u.cell? ⟨g, o + k * 9 + 4, none⟩ = some (.slice ol.no op.needs.length ol.nc) ∧ u.cell? ⟨g, o + k * 9 + 5, none⟩ = some (.string op.pred) ∧ u.cell? ⟨g, o + k * 9 + 6, none⟩ = some (.int .u32 (op.g : Nat)) ∧ u.cell? ⟨g, o + k * 9 + 7, none⟩ = some (.int .u32 (op.to : Nat)) ∧ u.cell? ⟨g, o + k * 9 + 8, none⟩ = some (.int .u64 (op.at_ : Nat))) (first | with_reducible assumption | with_reducible exact KEY.out _ CW.out.drew | with_reducible exact KEY.out _ HX1.out.chg | with_reducible exact KEY.out _ HS1.out.chg | with_reducible exact KEY.out _ HF.out.chg) ((first
                | (go_at_call 9; (with_reducible refine (A1.out _ HS1.out).mono ?_); rintro e W2 ⟨rfl, HF⟩)
                | (go_at_call 9; (with_reducible refine (B1.out _ HX1.out).mono ?_); rintro e W2 ⟨rfl, HF⟩)
                | (go_at_call 9; (with_reducible refine (A0.out _ (Chg.refl _ _).drew).mono ?_); rintro e W1 ⟨rfl, HX1⟩)
                | (go_at_call 9; (with_reducible refine (B0.out _ (Chg.refl _ _).drew).mono ?_); rintro e W1 ⟨rfl, HS1⟩)))
              all_goals
                have HG : Hid (Two w W2 bx (N + k + 1) r' bs (N + k + 1) r') := Lib.hid (by first | exact HF.out | exact HF.out.swap)
                clear HF KEY A0 B0 A1 B1 CW HP
                go_wp2_with fail
                go_roundw
                case rel => exact ⟨k + 1, r', by go_num, by omega, HG⟩
                case measure => simp [intOf]; omega
            · have d0 : decide ((k : Int) < M) = false := decide_eq_false (by omega)
              have CW := Lib.hid HP.out.chg
              have RB := Lib.hid (fun u => readState_any B u (by omega))
              clear HP
              go_wp2_with fail
              refine (RB.out _).mono ?_
              intro e W1 hr
              obtain ⟨c, rfl | ⟨y, rfl, hby⟩⟩ := read_bytes hb hr
              · have C := Lib.hid (CW.out.trans c)
                clear c hr CW RB
                go_wp2_with fail
                exact DN.out _ C
              · have C := Lib.hid (CW.out.trans c)
                clear c hr CW RB
                have s0 : (B.toList == B.toList) = true := by simp
                go_wp2_with fail
                refine hby.out.mono ?_
                rintro e W2 ⟨rfl, c⟩
                have C2 := Lib.hid (C.out.trans c)
                clear c C hby
                go_wp2_with fail
                exact DN.out _ C2
end Go.Proofs.YtgmmglmokkcgeaaGreat
/- OracleStates' walk, as its frame wants it. -/
namespace Go.Proofs.YtgmmglmokkcgeaaGreat
open Go.RowKit Mk Go.Sort
theorem statesIs {v v2 : Value} {B : ByteArray} {W : World} (h : ∃ so n cp L, v = .slice so n cp ∧ L.length = n ∧ OpsAt W so L) (h2 : ∃ so n cp L, v2 = .slice so n cp ∧ L.length = n ∧ OpsAt W so L) :
    Calls Tryz.prog 4 #[v, v2, .string B] W fun e w' => e = .returned (.bool true) ∧ Below W.heap.size W w' := by
  obtain ⟨so, n, cp, L, rfl, hl, ha⟩ := h
  obtain ⟨so2, n2, cp2, L2, rfl, hl2, ha2⟩ := h2
  exact (walkOracleStates (cp := cp) (cp2 := cp2) ha hl ha2 hl2).mono fun e w' hh => ⟨hh.1, below_of_chg hh.2⟩
end Go.Proofs.YtgmmglmokkcgeaaGreat
