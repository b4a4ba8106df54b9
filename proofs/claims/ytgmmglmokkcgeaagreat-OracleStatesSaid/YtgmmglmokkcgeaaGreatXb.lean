/- Walks: slices.Equal of any two rows; maps.EqualFunc of any commits. -/
import Derived.Test.YtgmmglmokkcgeaaGreatXa
namespace Go.Proofs.YtgmmglmokkcgeaaGreat
set_option linter.unusedVariables false
set_option linter.unusedSimpArgs false
set_option linter.unusedSectionVars false
open Go.RowKit Mk Go.Sort

set_option maxRecDepth 100000 in
set_option maxHeartbeats 2000000 in
theorem seqR_any {w : World} {o1 o2 : Option Addr} {N1 N2 c1 c2 : Nat} {A B : List Nat} (h1 : NumsAt w (.slice o1 N1 c1) A) (h2 : NumsAt w (.slice o2 N2 c2) B) (e1 : A.length = N1) (e2 : B.length = N2) {z : Bool} (hz : A = B ↔ z = true) :
    Calls Tryz.prog 41 #[.slice o1 N1 c1, .slice o2 N2 c2] w fun e w' => e = .returned (.bool z) ∧ Chg (fun _ => False) w w' := by
  have H1 := Lib.hid h1
  have H2 := Lib.hid h2
  have HZ := Lib.hid hz
  have hN : N1 ≤ maxLen := by have := h1.le; omega
  unfold maxLen at hN
  have E1 := Lib.hid e1
  have E2 := Lib.hid e2
  by_cases hlen : N1 = N2
  · subst hlen
    have ql : decide ((N1 : Int) = (N1 : Int)) = true := decide_eq_true rfl
    have ql' : ((N1 : Int) == (N1 : Int)) = true := by simp
    clear h1 h2 hz e1 e2
    go_enter Tryz.func41, Tryz.ntmps41
    go_wp2_with fail
    go_loopw [13] (fun i wr => ∃ j : Nat, i = .int .i64 j ∧ j ≤ N1 ∧ Hid (Chg (fun _ => False) w wr ∧ ∀ i, i < j → A[i]? = B[i]?)) (fun i _ => N1 - (intOf i).toNat)
    case atStart => exact ⟨0, rfl, Nat.zero_le _, Lib.hid ⟨Chg.refl _ _, fun i hi => by omega⟩⟩
    case round =>
      obtain ⟨j, rfl, hj, HC⟩ := hrel
      by_cases hlt : j < N1
      · have hd : decide ((j : Int) < N1) = true := by simp; omega
        obtain ⟨x, hx⟩ : ∃ x, A[j]? = some x := ⟨_, List.getElem?_eq_getElem (by rw [E1.out]; exact hlt)⟩
        obtain ⟨y, hy⟩ : ∃ x, B[j]? = some x := ⟨_, List.getElem?_eq_getElem (by rw [E2.out]; exact hlt)⟩
        obtain ⟨g1, k1, a1⟩ := NumsAt.at_ (sl.stay H1.out (fun g hg => HC.out.1.block g (sl.lt H1.out hg) (fun f => f))) hx
        obtain ⟨g2, k2, a2⟩ := NumsAt.at_ (sl.stay H2.out (fun g hg => HC.out.1.block g (sl.lt H2.out hg) (fun f => f))) hy
        subst k1 k2
        have q0 : (0 : Int) ≤ (j : Int) := by omega
        have q1 : (j : Int) < N1 := by omega
        have HX := Lib.hid hx
        have HY := Lib.hid hy
        clear hx hy
        by_cases hxy : x = y
        · subst hxy
          have v1 : ((x : Int) == (x : Int)) = true := by simp
          have v2 : decide ((x : Int) = (x : Int)) = true := decide_eq_true rfl
          go_wp2_with fail
          go_quiet (fail)
          have HC2 := Lib.hid (show Chg (fun _ => False) w (wr.drewN nq) ∧ ∀ i, i < j + 1 → A[i]? = B[i]? from ⟨HC.out.1.trans (Chg.drewN' wr nq), fun i hi => by
            by_cases e : i = j
            · rw [e, HX.out, HY.out]
            · exact HC.out.2 i (by omega)⟩)
          go_wp2_with fail
          go_roundw
          case rel => exact ⟨j + 1, by go_num, by omega, HC2⟩
          case measure => simp [intOf]; omega
        · have v1 : ((x : Int) == (y : Int)) = false := by rw [beq_eq_false_iff_ne]; omega
          have v2 : decide ((x : Int) = (y : Int)) = false := decide_eq_false (by omega)
          have v3 : decide (x = y) = false := decide_eq_false hxy
          have v4 : (x == y) = false := by simp [hxy]
          have v5 : ((x : Int) != (y : Int)) = true := by rw [bne_iff_ne]; omega
          have hzf : z = false := by
            cases hzz : z
            · rfl
            · have h3 := HZ.out.2 hzz
              have h4 := HX.out
              rw [h3, HY.out] at h4
              exact absurd (Option.some.inj h4).symm hxy
          subst hzf
          have HCC := Lib.hid HC.out.1
          clear hxy HC
          go_wp2_with fail
          go_quiet (fail)
          go_wp2_with fail
          go_ret
          exact ⟨rfl, HCC.out.trans (Chg.drewN' wr nq)⟩
      · have hd : decide ((j : Int) < N1) = false := by simp; omega
        have hzt : z = true := HZ.out.1 (List.ext_getElem? (fun i => by
          by_cases hi : i < j
          · exact HC.out.2 i hi
          · rw [List.getElem?_eq_none (by rw [E1.out]; omega), List.getElem?_eq_none (by rw [E2.out]; omega)]))
        subst hzt
        have HCC := Lib.hid HC.out.1
        clear HC
        go_wp2_with fail
        go_ret
        exact ⟨rfl, HCC.out⟩
  · have hzf : z = false := by
      cases hzz : z
      · rfl
      · exact absurd (by rw [← e1, ← e2, hz.2 hzz]) hlen
    subst hzf
    have q1 : ((N1 : Int) == (N2 : Int)) = false := by rw [beq_eq_false_iff_ne]; omega
    have q2 : decide ((N1 : Int) = (N2 : Int)) = false := decide_eq_false (by omega)
    have q3 : (N1 == N2) = false := by simp [hlen]
    have q4 : decide (N1 = N2) = false := decide_eq_false hlen
    have q5 : ((N1 : Int) != (N2 : Int)) = true := by rw [bne_iff_ne]; omega
    clear hlen hz h1 h2 HZ e1 e2
    go_enter Tryz.func41, Tryz.ntmps41
    go_wp2_with fail
    go_ret
    exact ⟨rfl, Chg.refl _ _⟩
theorem lk_keyed {K V W : Type} [DecidableEq K] (f : K → W) (L : List (K × V)) (x : K) : lk (L.map fun p => (p.1, f p.1)) x = (lk L x).map (fun _ => f x) := by
  induction L with
  | nil => rfl
  | cons p L ih =>
    simp only [List.map_cons, lk, ih]
    by_cases e : p.1 = x
    · simp [e]
    · simp [e]
/-- The rows as told. -/
def rowsL (R : Loc) (n : OM) : List (ByteArray × List Nat) := R.rows.map fun p => (p.1, n.com p.1)
structure EqC (w : World) (R : Loc) (n : OM) (B : List (ByteArray × List Nat)) (left : List (ByteArray × Value)) (wr : World) : Prop where
  over : rangeAt okS kvS wr w.heap.size R.c R.rows left
  chg : Chg (fun _ => False) w wr
  seen : ∀ p ∈ R.rows, p ∉ left → lk B p.1 = some (n.com p.1)
theorem EqC.step {w : World} {R : Loc} {n : OM} {B : List (ByteArray × List Nat)} {left a bb : List (ByteArray × Value)} {p : ByteArray × Value} {wr w1 : World} (h : EqC w R n B left wr) (h0 : left = a ++ p :: bb) (hc : Chg (fun i => i = w.heap.size) wr w1) (ho : rangeAt okS kvS w1 w.heap.size R.c R.rows (a ++ bb)) (hp : lk B p.1 = some (n.com p.1)) : EqC w R n B (a ++ bb) w1 :=
  ⟨ho, h.chg.trans' hc (fun i e => Or.inr (by omega)), fun q hq hn => by
    by_cases e : q = p
    · rw [e]; exact hp
    · refine h.seen q hq (fun hh => hn ?_)
      rw [h0] at hh
      simp only [List.mem_append, List.mem_cons] at hh ⊢
      exact hh.imp id (fun h => h.resolve_left e)⟩
theorem EqC.same {w : World} {R : Loc} {n : OM} {B : List (ByteArray × List Nat)} {left : List (ByteArray × Value)} {wr w1 : World} (h : EqC w R n B left wr) (c : Chg (fun _ => False) wr w1) : EqC w R n B left w1 :=
  ⟨rangeAt.stay (ok := okS) (kv := kvS) h.over (c.block _ h.over.lt.1 (fun f => f)) (c.block _ h.over.lt.2.1 (fun f => f)), h.chg.trans c, h.seen⟩
section
variable {w w' : World} {b b2 : Nat} {R R2 : Loc} {F F2 : Nat → Prop} {n n2 : OM}
set_option maxRecDepth 100000 in
set_option maxHeartbeats 4000000 in
theorem equalC_any (h1 : RawRep w b R F n) (h2 : RawRep w b2 R2 F2 n2) {z : Bool} (hz : (∀ x, lk (rowsL R n) x = lk (rowsL R2 n2) x) ↔ z = true) :
    Calls Tryz.prog 40 #[.map (some R.c), .map (some R2.c), .func (.func 41) #[] #[]] w fun e w' => e = .returned (.bool z) ∧ Chg (fun _ => False) w w' := by
  have e41 := entersU Tryz.func41 (by kernel_rfl) rfl
  have hA : (rowsL R n).Pairwise (fun p q => p.1 ≠ q.1) := by unfold rowsL; exact (List.pairwise_map (f := fun p : ByteArray × Value => (p.1, n.com p.1))).2 h1.com.apart
  have hB : (rowsL R2 n2).Pairwise (fun p q => p.1 ≠ q.1) := by unfold rowsL; exact (List.pairwise_map (f := fun p : ByteArray × Value => (p.1, n2.com p.1))).2 h2.com.apart
  have HAA := Lib.hid hA
  have HBB := Lib.hid hB
  have HZ := Lib.hid hz
  have hl1 := fun ty => run_len (P := Tryz.prog) Tryz.underlying34 h1.com ty
  have hl2 := fun ty => run_len (P := Tryz.prog) Tryz.underlying34 h2.com ty
  by_cases hlen : R.rows.length = R2.rows.length
  · obtain ⟨it, hrg, ho⟩ := h1.com.range (P := Tryz.prog) Tryz.underlying34
    have HA := Lib.hid (show EqC w R n (rowsL R2 n2) R.rows (w.alloc it) from ⟨ho, (Chg.refl _ _).alloc _, fun p hp hn => absurd hp hn⟩)
    have H1 := Lib.hid h1
    have H2 := Lib.hid h2
    rw [← hlen] at hl2
    have HLEN := Lib.hid (show (rowsL R n).length = (rowsL R2 n2).length by simp [rowsL, hlen])
    obtain ⟨ln, HLN⟩ : ∃ k, Hid ((R.rows.length : Int) = k) := ⟨_, Lib.hid rfl⟩
    rw [HLN.out] at hl1 hl2
    have ql : decide (ln = ln) = true := decide_eq_true rfl
    have ql' : (ln == ln) = true := by simp
    have HOK := Lib.hid (show ∀ p ∈ R.rows, okS p.1 from by obtain ⟨_, _, _, E⟩ := h1.com; exact E.ok)
    clear ho h1 h2 hlen hA hB hz
    go_enter Tryz.func40, Tryz.ntmps40
    go_wp2_with fail
    go_loopw [] (fun wr => ∃ left, Hid (EqC w R n (rowsL R2 n2) left wr)) (fun wr => wr.rangeLeft R.c w.heap.size)
    case atStart => exact ⟨_, HA⟩
    case round =>
      obtain ⟨left, HU⟩ := hrel
      rcases HU.out.over.next (P := Tryz.prog) with ⟨h0, hn⟩ | ⟨a, p, bb, w1, h0, hn, hc, hsz, ho, hen⟩
      · have hzt : z = true := HZ.out.1 (lk_all HAA.out HBB.out HLEN.out (fun p hp => by
          obtain ⟨q, hq, rfl⟩ := List.mem_map.1 hp
          exact HU.out.seen q hq (by rw [h0]; simp)))
        have HCC := Lib.hid HU.out.chg
        subst hzt
        clear HA h0 HU
        go_wp2_with fail
        go_ret
        exact ⟨rfl, HCC.out⟩
      · obtain ⟨x, v⟩ := p
        have hen' := hen w1 rfl rfl
        have hC1 := HU.out.chg.trans' hc (fun i hi => Or.inr (by omega))
        have HC1 := Lib.hid hC1
        have hm : (x, v) ∈ R.rows := HU.out.over.sub.subset (by rw [h0]; simp)
        have r1 := H1.out.same hC1
        have r2 := H2.out.same hC1
        have hs1 : NumsAt w1 v (n.com x) := r1.rows _ hm
        have HSTEP := Lib.hid (fun (hp : lk (rowsL R2 n2) x = some (n.com x)) => HU.out.step h0 hc ho hp)
        have HRL := Lib.hid HU.out.over.left_eq
        have HLA := Lib.hid (show lk (rowsL R n) x = some (n.com x) from by unfold rowsL; rw [lk_keyed, lk_of_mem' r1.com.apart hm]; rfl)
        have hlk := run_lookup keysS Tryz.underlying34 (z := .slice none 0 0) (w := w1) (by simp [go_sem]) r2.com (HOK.out _ hm) true
        obtain ⟨o1, c1, e1⟩ := sl_shape hs1
        subst e1
        have H0 := Lib.hid h0
        cases hlb : lk R2.rows x with
        | none =>
          rw [hlb] at hlk
          simp only [if_true, Option.getD_none, Option.isSome_none] at hlk
          have hzf : z = false := by
            cases hzz : z
            · rfl
            · have := HZ.out.2 hzz x
              rw [HLA.out] at this
              unfold rowsL at this
              rw [lk_keyed, hlb] at this
              cases this
          subst hzf
          unfold kvS at *
          clear hen h0 hc ho hsz hrg HA hC1 hlb hm r1 r2 hs1 HSTEP HU
          go_wp2_with fail
          go_ret
          exact ⟨rfl, HC1.out⟩
        | some v2 =>
          rw [hlb] at hlk
          simp only [if_true, Option.getD_some, Option.isSome_some] at hlk
          have hs2 : NumsAt w1 v2 (n2.com x) := r2.rows _ (lk_mem hlb)
          obtain ⟨o2, c2, e2⟩ := sl_shape hs2
          subst e2
          have HLB := Lib.hid (show lk (rowsL R2 n2) x = some (n2.com x) from by unfold rowsL; rw [lk_keyed, hlb]; rfl)
          obtain ⟨y, HY⟩ : ∃ y, Hid (n.com x = n2.com x ↔ y = true) := ⟨decide (n.com x = n2.com x), Lib.hid (by simp)⟩
          have SE := Lib.hid (seqR_any hs1 hs2 rfl rfl HY.out)
          have HST2 := Lib.hid (fun (e : n.com x = n2.com x) => HSTEP.out (by rw [HLB.out, e]))
          have HNO := Lib.hid (fun (e : ¬ n.com x = n2.com x) (hzz : z = true) => e (by
            have := HZ.out.2 hzz x
            rw [HLA.out, HLB.out] at this
            exact Option.some.inj this))
          generalize (n.com x).length = L1 at *
          generalize (n2.com x).length = L2 at *
          unfold kvS at *
          clear hen h0 hc ho hsz hrg HA hC1 hlb hm r1 r2 hs1 hs2 HSTEP HU HLA HLB
          go_wp2_with fail
          refine SE.out.mono ?_
          rintro e w2 ⟨rfl, cc⟩
          have HCC := Lib.hid cc
          clear cc
          cases y with
          | true =>
            have HG := Lib.hid ((HST2.out (HY.out.2 rfl)).same HCC.out)
            clear HST2 HNO
            go_wp2_with fail
            go_roundw
            case rel => exact ⟨a ++ bb, HG⟩
            case measure => rw [HG.out.over.left_eq, HRL.out, H0.out]; simp
          | false =>
            have hzf : z = false := by
              cases hzz : z
              · rfl
              · exact (HNO.out (fun e => by have := HY.out.1 e; cases this) hzz).elim
            subst hzf
            have HCE := Lib.hid (HC1.out.trans HCC.out)
            clear HST2 HNO
            go_wp2_with fail
            go_ret
            exact ⟨rfl, HCE.out⟩
  · have hzf : z = false := by
      cases hzz : z
      · rfl
      · exact absurd (by have := len_of_lk hA hB (fun x => by rw [hz.2 hzz x]); simpa [rowsL] using this) hlen
    subst hzf
    have q1 : ((R.rows.length : Int) == (R2.rows.length : Int)) = false := by rw [beq_eq_false_iff_ne]; omega
    have q2 : decide ((R.rows.length : Int) = (R2.rows.length : Int)) = false := decide_eq_false (by omega)
    have q3 : (R.rows.length == R2.rows.length) = false := by simp [hlen]
    have q4 : decide (R.rows.length = R2.rows.length) = false := decide_eq_false hlen
    have q5 : ((R.rows.length : Int) != (R2.rows.length : Int)) = true := by rw [bne_iff_ne]; omega
    clear hlen hA hB hz h1 h2 HAA HBB HZ
    go_enter Tryz.func40, Tryz.ntmps40
    go_wp2_with fail
    go_ret
    exact ⟨rfl, Chg.refl _ _⟩
end
end Go.Proofs.YtgmmglmokkcgeaaGreat
