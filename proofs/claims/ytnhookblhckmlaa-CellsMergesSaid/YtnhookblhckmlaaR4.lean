/- Walks: the document's Trim; Same. -/
import Derived.Test.YtnhookblhckmlaaR3
import Derived.Test.YtnhookblhckmlaaKn
import Derived.Deep.CutBlock
import Derived.Deep.CutRange
namespace Go.Proofs.Ytnhookblhckmlaa
open Go.RowKit Mk Go.Sort

/-- The document's trimming: the key ahead, and whether one of it has been met. -/
def rtStep (b : Nat) (st : Option ByteArray × Bool) (x : CellM) : Bool × (Option ByteArray × Bool) :=
  if x.time ≤ b then (!((decide (st.1 = some x.key) && st.2) || x.del), (some x.key, true)) else (true, (some x.key, decide (st.1 = some x.key) && st.2))
def rtGo (b : Nat) : Option ByteArray × Bool → List CellM → List CellM
  | _, [] => []
  | st, x :: L => if (rtStep b st x).1 then x :: rtGo b (rtStep b st x).2 L else rtGo b (rtStep b st x).2 L
theorem rt_del (b : Nat) : ∀ (L : List CellM) (p : CellM) (s : TrS) (met : Bool), Ord (p :: L) → (met = true ↔ (s.any = true ∧ s.last = p.key)) → (s.any = true → s.last = p.key ∨ ∀ c ∈ p :: L, c.key ≠ s.last) →
    rtGo b (some p.key, met) L = delGo b s L := by
  intro L
  induction L with
  | nil => intros; rfl
  | cons x L ih =>
    intro p s met hO hm hs
    obtain ⟨g1, g2⟩ := List.pairwise_cons.1 hO
    have key : (s.any && (x.key.toList == s.last.toList)) = (decide (some p.key = some x.key) && met) := by
      by_cases hx : x.key = p.key
      · have e1 : decide (some p.key = some x.key) = true := by simp [hx]
        rw [e1, Bool.true_and, Bool.eq_iff_iff, hm]
        simp only [Bool.and_eq_true, beq_iff_eq]
        constructor
        · rintro ⟨h1, h2⟩; exact ⟨h1, by rw [← hx]; exact (toList_inj h2).symm⟩
        · rintro ⟨h1, h2⟩; exact ⟨h1, by rw [h2, hx]⟩
      · have e1 : decide (some p.key = some x.key) = false := by rw [decide_eq_false_iff_not]; exact fun e => hx (Option.some.inj e).symm
        rw [e1, Bool.false_and, Bool.and_eq_false_iff]
        by_cases h1 : s.any = true
        · right
          rw [beq_eq_false_iff_ne]
          intro h2
          rcases hs h1 with h3 | h3
          · exact hx (by rw [← h3]; exact toList_inj h2)
          · exact h3 x (by simp) (toList_inj h2)
        · left; simpa using h1
    have nx : ∀ c ∈ x :: L, s.any = true → s.last ≠ x.key → c.key ≠ s.last := fun c hc h1 h2 => by
      rcases hs h1 with h3 | h3
      · by_cases hx : x.key = p.key
        · exact absurd (h3.trans hx.symm) h2
        · rw [h3]; exact ord_key hO hx c hc
      · exact h3 c (List.mem_cons_of_mem _ hc)
    have hH : s.any = true → s.last = x.key ∨ ∀ c ∈ x :: L, c.key ≠ s.last := fun h1 => by
      by_cases h2 : s.last = x.key
      · exact Or.inl h2
      · exact Or.inr (fun c hc => nx c hc h1 h2)
    unfold rtGo delGo
    unfold rtStep trStep
    by_cases ht : x.time ≤ b
    · rw [if_pos ht, if_neg (by omega : ¬ b < x.time), key]
      simp only
      rw [ih x ⟨x.key, true⟩ true g2 (by simp) (fun _ => Or.inl rfl)]
      cases ((decide (some p.key = some x.key) && met) || x.del) <;> simp
    · rw [if_neg ht, if_pos (by omega : b < x.time)]
      simp only [if_true, Bool.false_eq_true, if_false]
      rw [ih x s _ g2 ?_ hH]
      rw [← key]
      simp only [Bool.and_eq_true, beq_iff_eq]
      constructor
      · rintro ⟨h1, h2⟩; exact ⟨h1, (toList_inj h2).symm⟩
      · rintro ⟨h1, h2⟩; exact ⟨h1, by rw [h2]⟩
theorem rt_trim {L : List CellM} (h : Ord L) (b : Nat) : rtGo b (none, false) L = trimM L b := by
  cases L with
  | nil => rfl
  | cons x L =>
    unfold trimM
    unfold rtGo delGo
    unfold rtStep trStep
    by_cases ht : x.time ≤ b
    · rw [if_pos ht, if_neg (by omega : ¬ b < x.time)]
      simp only [Bool.and_false, Bool.false_or, Bool.false_and]
      rw [rt_del b L x ⟨x.key, true⟩ true h (by simp) (fun _ => Or.inl rfl)]
      cases x.del <;> simp
    · rw [if_neg ht, if_pos (by omega : b < x.time)]
      simp only [if_true, Bool.false_eq_true, if_false]
      rw [rt_del b L x ⟨⟨#[]⟩, false⟩ _ h (by simp) (fun h => by simp at h)]

def RTrimPost (w : World) (M : List CellM) (e : Ending) (w' : World) : Prop :=
  ∃ v', e = .returned v' ∧ Has w' v' M ∧ RowKit.Below w.heap.size w w' ∧ ∀ g, v'.ownBlock = some g → w.heap.size ≤ g
/-- What has been collected. -/
structure OutAt (w : World) (A : List CellM) (v : Value) (wr : World) : Prop where
  has : Has wr v A
  own : ∀ g, v.ownBlock = some g → w.heap.size ≤ g
  below : RowKit.Below w.heap.size w wr
theorem OutAt.stay {w : World} {A : List CellM} {v : Value} {wr w2 : World} (h : OutAt w A v wr) (b : RowKit.Below wr.heap.size wr w2) : OutAt w A v w2 :=
  ⟨h.has.stay b, h.own, h.below.trans (b.mono h.below.size)⟩
/-- One cell more. -/
theorem OutAt.snoc {w : World} {A : List CellM} {v : Value} {wr w3 w4 : World} (h : OutAt w A v wr) {x : CellM} (hw3 : w3 = wr.alloc (.cells (cellL x).toArray 24)) {v' : Value} (hs : sl w4 24 4 v' (A.length + 1) (cellsL A ++ cellL x)) (hg : w3.grownBy w4 v.ownBlock) (ha : v'.ownBlock = v.ownBlock ∨ v'.ownBlock = some w3.heap.size) :
    (∃ o' c', v' = .slice o' (A.length + 1) c') ∧ OutAt w (A ++ [x]) v' w4 := by
  have hb : RowKit.Below wr.heap.size wr w3 := by rw [hw3]; exact (Below.refl _ wr).alloc (Nat.le_refl _) _
  have hhas : Has w4 v' (A ++ [x]) := by
    unfold Has
    rw [cellsL_append, cellsL_one, List.length_append]
    exact hs
  obtain ⟨o', c', e'⟩ := hhas.shape
  rw [List.length_append] at e'
  have h1 := hb.size
  have h2 := h.below.size
  refine ⟨⟨o', c', e'⟩, hhas, fun g hg' => ?_, ?_⟩
  · rcases ha with e | e
    · exact h.own g (by rw [← e]; exact hg')
    · rw [e] at hg'
      have := Option.some.inj hg'
      omega
  · exact (h.below.trans (hb.mono h.below.size)).trans ⟨hg.os, hg.tape, hg.output, hg.size, fun i hi => hg.block i (by omega) (fun e => by have := h.own i e.symm; omega)⟩
theorem sl_of_has {w : World} {v : Value} {A : List CellM} (h : Has w v A) (o : Obj) : sl (w.alloc o) 24 4 v A.length (cellsL A) := h.stay ((Below.refl _ w).alloc (Nat.le_refl _) _)

set_option maxRecDepth 100000 in
set_option maxHeartbeats 4000000 in
theorem rtrim_any {w : World} {lv : Value} {L : List CellM} (h : Has w lv L) (hL : L.length ≤ 1099511627776) (b : Nat) :
    Calls Try.prog 17 #[lv, .int .u64 b] w fun e w' => RTrimPost w (rtGo b (none, false) L) e w' := by
  obtain ⟨i6, z6, hi6, hz6, hsz6, hby6, hzs6⟩ := info24
  obtain ⟨o, c, rfl⟩ := h.shape
  have HH := Lib.hid h
  clear h
  go_enter Try.func17, Try.ntmps17
  go_wp2
  go_loopw [5, 6, 7] (fun v m i wr => ∃ (k : Nat) (A : List CellM) (met : Bool) (prev : Option ByteArray) (ao : Option Addr) (ac : Nat), k ≤ L.length ∧ i = .int .i64 k ∧ m = .bool met ∧ v = .slice ao A.length ac ∧ A.length ≤ k ∧ Hid (OutAt w A (.slice ao A.length ac) wr ∧ A ++ rtGo b (prev, met) (L.drop k) = rtGo b (none, false) L ∧ (k = 0 → prev = none) ∧ ∀ y, 0 < k → L[k - 1]? = some y → prev = some y.key)) (fun _ _ i _ => L.length - (intOf i).toNat)
  case atStart => exact ⟨0, [], false, none, none, 0, by omega, rfl, rfl, rfl, by simp, Lib.hid ⟨⟨sl_nil _ _ _, fun g hg => by simp [Value.ownBlock] at hg, Below.refl _ _⟩, rfl, fun _ => rfl, fun y h => by omega⟩⟩
  case round =>
    obtain ⟨k, A, met, prev, ao, ac, hk, rfl, rfl, rfl, hAk, HI⟩ := hrel
    have l0 : (0 : Int) ≤ k := by omega
    by_cases hlt : k < L.length
    · obtain ⟨x, hx⟩ : ∃ x, L[k]? = some x := ⟨L[k]'hlt, List.getElem?_eq_getElem hlt⟩
      have hd : L.drop k = x :: L.drop (k + 1) := by
        obtain ⟨hl, rfl⟩ := List.getElem?_eq_some_iff.1 hx
        exact List.drop_eq_getElem_cons hl
      have hhr := HH.out.stay HI.out.1.below
      obtain ⟨g, cap, e, h0, h1, h2, h3⟩ := hhr.cells hx
      cases e
      have l1 : (k : Int) < L.length := by omega
      have q : decide (k < L.length) = true := by simpa using hlt
      have hnext : ∀ y, 0 < k + 1 → L[k + 1 - 1]? = some y → (some x.key : Option ByteArray) = some y.key := fun y _ hy => by
        rw [Nat.add_sub_cancel, hx] at hy; cases hy; rfl
      have hgo := HI.out.2.1
      rw [hd] at hgo
      have hgo2 : ∀ B, A ++ rtGo b (prev, met) (x :: B) = A ++ ((if (rtStep b (prev, met) x).1 then [x] else []) ++ rtGo b (rtStep b (prev, met) x).2 B) := fun B => by
        show A ++ (if (rtStep b (prev, met) x).1 then x :: rtGo b (rtStep b (prev, met) x).2 B else rtGo b (rtStep b (prev, met) x).2 B) = _
        cases (rtStep b (prev, met) x).1 <;> rfl
      rw [hgo2] at hgo
      have HX := Lib.hid hx
      obtain ⟨m1, hm1⟩ : ∃ m1, (decide (prev = some x.key) && met) = m1 := ⟨_, rfl⟩
      have hst : rtStep b (prev, met) x = if x.time ≤ b then (!(m1 || x.del), (some x.key, true)) else (true, (some x.key, m1)) := by unfold rtStep; rw [← hm1]
      rw [hst] at hgo
      have HM1 := Lib.hid hm1
      have HGO := Lib.hid hgo
      have HNX := Lib.hid hnext
      obtain ⟨xk, xt, xd, xv⟩ := x
      simp only at h0 h1 h2 h3
      clear hx hd hgo hgo2 hst hm1 hnext
      go_upto_if 29 with fail
      go_cut [29] from 14 to 29 (fun s wc => ∃ rs : Bool, s = .bool rs ∧ Hid (m1 = (if rs then false else met)) ∧ Hid (RowKit.Below wr.heap.size wr wc))
      case first => as_aux_lemma =>
        have d0 := fun p os => cell_regrown h0 p os
        by_cases hk0 : k = 0
        · have q0 : ((k : Int) == 0) = true := by rw [beq_iff_eq]; omega
          have hm : m1 = false := by rw [← HM1.out, HI.out.2.2.1 hk0]; simp
          have FC : ∀ (p : Nat) (os : Array Obj), True := fun _ _ => trivial
          clear hk0
          go_wp2_with fail
          refine wp_region_quiet_below (by kernel_rfl) (by kernel_rfl) ?_
          repeat (go_big_quiet_step (exact FC _ _))
          refine wpQuiet_nil ?_
          intro _ hw'
          obtain ⟨⟨dq, osq⟩, hw''⟩ := hw'
          subst hw''
          have K8 := Lib.hid (below_regrown wr dq osq)
          clear d0 FC
          go_wp2
          go_meet
          case rel => exact ⟨true, rfl, Lib.hid (by rw [hm]; rfl), K8⟩
        · obtain ⟨y, hy⟩ : ∃ y, L[k - 1]? = some y := ⟨L[k - 1]'(by omega), List.getElem?_eq_getElem (by omega)⟩
          obtain ⟨g', cap', e, y0, y1, y2, y3⟩ := hhr.cells hy
          cases e
          have e0 := fun p os => cell_regrown y0 p os
          have q0 : ((k : Int) == 0) = false := by rw [beq_eq_false_iff_ne]; omega
          have hp := HI.out.2.2.2 y (by omega) hy
          have s1 : IntKind.i64.wrap ((k : Int) - 1) = (k : Int) - 1 := by rw [IntKind.wrap_i64]; omega
          have s2 : (0 : Int) ≤ (k : Int) - 1 := by omega
          have s3 : (k : Int) - 1 < L.length := by omega
          have s4 : ((k : Int) - 1).toNat = k - 1 := by omega
          obtain ⟨yk, yt, yd, yv⟩ := y
          simp only at hp y0 e0
          have FC : ∀ (p : Nat) (os : Array Obj), True := fun _ _ => trivial
          by_cases hkk : yk = xk
          · have q1 : (yk.toList == xk.toList) = true := by rw [hkk]; simp
            have hm : m1 = met := by rw [← HM1.out, hp, hkk]; simp
            clear hkk hk0 hy hp
            go_wp2_with fail
            refine wp_region_quiet_below (by kernel_rfl) (by kernel_rfl) ?_
            repeat (go_big_quiet_step (exact FC _ _))
            refine wpQuiet_nil ?_
            intro _ hw'
            obtain ⟨⟨dq, osq⟩, hw''⟩ := hw'
            subst hw''
            have K8 := Lib.hid (below_regrown wr dq osq)
            clear d0 FC e0 s1 s2 s3 s4
            go_wp2
            go_meet
            case rel => exact ⟨false, rfl, Lib.hid (by rw [hm]; rfl), K8⟩
          · have q1 : (yk.toList == xk.toList) = false := by rw [beq_eq_false_iff_ne]; exact fun e => hkk (toList_inj e)
            have hm : m1 = false := by rw [← HM1.out, hp]; simp [hkk]
            clear hkk hk0 hy hp
            go_wp2_with fail
            refine wp_region_quiet_below (by kernel_rfl) (by kernel_rfl) ?_
            repeat (go_big_quiet_step (exact FC _ _))
            refine wpQuiet_nil ?_
            intro _ hw'
            obtain ⟨⟨dq, osq⟩, hw''⟩ := hw'
            subst hw''
            have K8 := Lib.hid (below_regrown wr dq osq)
            clear d0 FC e0 s1 s2 s3 s4
            go_wp2
            go_meet
            case rel => exact ⟨true, rfl, Lib.hid (by rw [hm]; rfl), K8⟩
      case rest =>
        obtain ⟨rs, rfl, HRS, K8⟩ := hcut
        generalize wc = w8 at *
        obtain ⟨g', cap', e, h0, h1, h2, h3⟩ := (hhr.stay K8.out).cells HX.out
        cases e
        simp only at h0 h1 h2 h3
        have HO8 := Lib.hid (HI.out.1.stay K8.out)
        have hc3 := cell_new_four (Go.heap_alloc_new w8 (.cells #[.string xk, .int .u64 xt, .bool xd, .string xv] 24))
        have HC3 := Lib.hid hc3
        have HSL := Lib.hid (sl_of_has HO8.out.has (.cells #[.string xk, .int .u64 xt, .bool xd, .string xv] 24))
        have bb1 : A.length + 1 ≤ maxLen := by simp only [maxLen]; omega
        have bb2 : (A.length + 1) * 48 ≤ 140737488355328 := by omega
        -- how a round ends
        have END0 := Lib.hid (fun (m2 : Bool) (hg : A ++ ([] ++ rtGo b (some xk, m2) (L.drop (k + 1))) = rtGo b (none, false) L) => (show ∃ (k' : Nat) (A' : List CellM) (met' : Bool) (prev' : Option ByteArray) (ao' : Option Addr) (ac' : Nat), k' = k + 1 ∧ met' = m2 ∧ (.slice ao A.length ac : Value) = .slice ao' A'.length ac' ∧ A'.length ≤ k' ∧ Hid (OutAt w A' (.slice ao' A'.length ac') w8 ∧ A' ++ rtGo b (prev', met') (L.drop k') = rtGo b (none, false) L ∧ (k' = 0 → prev' = none) ∧ ∀ y, 0 < k' → L[k' - 1]? = some y → prev' = some y.key) from
          ⟨k + 1, A, m2, some xk, ao, ac, rfl, rfl, rfl, by omega, Lib.hid ⟨HO8.out, by simpa using hg, fun h => by omega, HNX.out⟩⟩))
        have END1 := Lib.hid (fun (m2 : Bool) (hg : A ++ ([(⟨xk, xt, xd, xv⟩ : CellM)] ++ rtGo b (some xk, m2) (L.drop (k + 1))) = rtGo b (none, false) L) (v' : Value) (w4 : World) (hs : sl w4 24 4 v' (A.length + 1) (cellsL A ++ [.string xk, .int .u64 xt, .bool xd, .string xv])) (hg4 : (w8.alloc (.cells #[.string xk, .int .u64 xt, .bool xd, .string xv] 24)).grownBy w4 (Value.slice ao A.length ac).ownBlock) (ha : v'.ownBlock = (Value.slice ao A.length ac).ownBlock ∨ v'.ownBlock = some (w8.alloc (.cells #[.string xk, .int .u64 xt, .bool xd, .string xv] 24)).heap.size) =>
          (show ∃ (k' : Nat) (A' : List CellM) (met' : Bool) (prev' : Option ByteArray) (ao' : Option Addr) (ac' : Nat), k' = k + 1 ∧ met' = m2 ∧ v' = .slice ao' A'.length ac' ∧ A'.length ≤ k' ∧ Hid (OutAt w A' (.slice ao' A'.length ac') w4 ∧ A' ++ rtGo b (prev', met') (L.drop k') = rtGo b (none, false) L ∧ (k' = 0 → prev' = none) ∧ ∀ y, 0 < k' → L[k' - 1]? = some y → prev' = some y.key) from by
            obtain ⟨⟨o', c', rfl⟩, ho⟩ := HO8.out.snoc (x := ⟨xk, xt, xd, xv⟩) rfl hs hg4 ha
            have hl : (A ++ [(⟨xk, xt, xd, xv⟩ : CellM)]).length = A.length + 1 := by simp
            exact ⟨k + 1, A ++ [⟨xk, xt, xd, xv⟩], m2, some xk, o', c', rfl, rfl, by rw [hl], by rw [hl]; omega, Lib.hid ⟨by rw [hl]; exact ho, by rw [List.append_assoc]; exact hg, fun h => by omega, HNX.out⟩⟩))
        have HRS2 := HRS.out
        clear HRS hc3 hhr HI HH
        have D : (rs = true ∧ m1 = false) ∨ (rs = false ∧ m1 = met) := by cases rs <;> simp at HRS2 <;> simp [HRS2]
        clear HRS2
        by_cases ht : xt ≤ b
        · have v2 : decide (xt ≤ b) = true := by simpa using ht
          have hgo := HGO.out
          rw [if_pos ht] at hgo
          have HG := Lib.hid hgo
          clear hgo ht HGO
          rcases D with ⟨rfl, rfl⟩ | ⟨rfl, rfl⟩
          · cases xd
            · have hn := HG.out
              simp only [Bool.or_self, Bool.not_false, if_true] at hn
              have E1 := Lib.hid (END1.out true hn)
              clear hn END1 END0
              go_wp2_with (refine wpList_append_sl (by rfl) (.tmp 45) (.tmp 50) 28 (by rfl) 24 i6 z6 4 48 Try.underlying28 hi6 hz6 hsz6 hby6 hzs6 (by decide) (.slice ao A.length ac) A.length (cellsL A) (by rfl) HSL.out (some ⟨w8.heap.size, 0, none⟩) 1 1 [.string xk, .int .u64 xt, .bool false, .string xv] (by rfl) (by rfl) (fun _ => ⟨_, rfl, HC3.out⟩) (fun h => absurd h (by decide)) (by simp [Value.oneCell']) bb1 bb2 ?_; intro v' w4 hs hg4 ha; obtain ⟨k', A', met', prev', ao', ac', hk', hm', hv', hl', HN⟩ := E1.out v' w4 hs hg4 ha; have HK' := Lib.hid hk'; have HM' := Lib.hid hm'; clear hs hg4 ha hk' hm'; subst hv')
              go_round
              case rel => exact ⟨k', A', met', prev', ao', ac', by rw [HK'.out]; omega, by rw [HK'.out]; go_num, by rw [HM'.out], rfl, hl', HN⟩
              case measure => simp [intOf]; omega
            · have hn := HG.out
              simp only [Bool.or_true, Bool.false_or, Bool.not_true, Bool.false_eq_true, if_false] at hn
              obtain ⟨k', A', met', prev', ao', ac', hk', hm', hv', hl', HN⟩ := END0.out true hn
              have HK' := Lib.hid hk'
              have HM' := Lib.hid hm'
              have HV' := Lib.hid hv'
              clear hn END1 END0 hk' hm' hv'
              go_wp2
              go_round
              case rel => exact ⟨k', A', met', prev', ao', ac', by rw [HK'.out]; omega, by rw [HK'.out]; go_num, by rw [HM'.out], HV'.out, hl', HN⟩
              case measure => simp [intOf]; omega
          · cases m1
            · cases xd
              · have hn := HG.out
                simp only [Bool.or_self, Bool.not_false, if_true] at hn
                have E1 := Lib.hid (END1.out true hn)
                clear hn END1 END0
                go_wp2_with (refine wpList_append_sl (by rfl) (.tmp 45) (.tmp 50) 28 (by rfl) 24 i6 z6 4 48 Try.underlying28 hi6 hz6 hsz6 hby6 hzs6 (by decide) (.slice ao A.length ac) A.length (cellsL A) (by rfl) HSL.out (some ⟨w8.heap.size, 0, none⟩) 1 1 [.string xk, .int .u64 xt, .bool false, .string xv] (by rfl) (by rfl) (fun _ => ⟨_, rfl, HC3.out⟩) (fun h => absurd h (by decide)) (by simp [Value.oneCell']) bb1 bb2 ?_; intro v' w4 hs hg4 ha; obtain ⟨k', A', met', prev', ao', ac', hk', hm', hv', hl', HN⟩ := E1.out v' w4 hs hg4 ha; have HK' := Lib.hid hk'; have HM' := Lib.hid hm'; clear hs hg4 ha hk' hm'; subst hv')
                go_round
                case rel => exact ⟨k', A', met', prev', ao', ac', by rw [HK'.out]; omega, by rw [HK'.out]; go_num, by rw [HM'.out], rfl, hl', HN⟩
                case measure => simp [intOf]; omega
              · have hn := HG.out
                simp only [Bool.or_true, Bool.false_or, Bool.not_true, Bool.false_eq_true, if_false] at hn
                obtain ⟨k', A', met', prev', ao', ac', hk', hm', hv', hl', HN⟩ := END0.out true hn
                have HK' := Lib.hid hk'
                have HM' := Lib.hid hm'
                have HV' := Lib.hid hv'
                clear hn END1 END0 hk' hm' hv'
                go_wp2
                go_round
                case rel => exact ⟨k', A', met', prev', ao', ac', by rw [HK'.out]; omega, by rw [HK'.out]; go_num, by rw [HM'.out], HV'.out, hl', HN⟩
                case measure => simp [intOf]; omega
            · have hn := HG.out
              simp only [Bool.true_or, Bool.not_true, Bool.false_eq_true, if_false] at hn
              obtain ⟨k', A', met', prev', ao', ac', hk', hm', hv', hl', HN⟩ := END0.out true hn
              have HK' := Lib.hid hk'
              have HM' := Lib.hid hm'
              have HV' := Lib.hid hv'
              clear hn END1 END0 hk' hm' hv'
              go_wp2
              go_round
              case rel => exact ⟨k', A', met', prev', ao', ac', by rw [HK'.out]; omega, by rw [HK'.out]; go_num, by rw [HM'.out], HV'.out, hl', HN⟩
              case measure => simp [intOf]; omega
        · have v2 : decide (xt ≤ b) = false := by simpa using ht
          have hgo := HGO.out
          rw [if_neg ht] at hgo
          simp only [if_true] at hgo
          have HG := Lib.hid hgo
          clear hgo ht HGO
          rcases D with ⟨rfl, rfl⟩ | ⟨rfl, rfl⟩
          · have hn := HG.out
            have E1 := Lib.hid (END1.out false hn)
            clear hn END1 END0
            go_wp2_with (refine wpList_append_sl (by rfl) (.tmp 45) (.tmp 50) 28 (by rfl) 24 i6 z6 4 48 Try.underlying28 hi6 hz6 hsz6 hby6 hzs6 (by decide) (.slice ao A.length ac) A.length (cellsL A) (by rfl) HSL.out (some ⟨w8.heap.size, 0, none⟩) 1 1 [.string xk, .int .u64 xt, .bool xd, .string xv] (by rfl) (by rfl) (fun _ => ⟨_, rfl, HC3.out⟩) (fun h => absurd h (by decide)) (by simp [Value.oneCell']) bb1 bb2 ?_; intro v' w4 hs hg4 ha; obtain ⟨k', A', met', prev', ao', ac', hk', hm', hv', hl', HN⟩ := E1.out v' w4 hs hg4 ha; have HK' := Lib.hid hk'; have HM' := Lib.hid hm'; clear hs hg4 ha hk' hm'; subst hv')
            go_round
            case rel => exact ⟨k', A', met', prev', ao', ac', by rw [HK'.out]; omega, by rw [HK'.out]; go_num, by rw [HM'.out], rfl, hl', HN⟩
            case measure => simp [intOf]; omega
          · have hn := HG.out
            have E1 := Lib.hid (END1.out m1 hn)
            clear hn END1 END0
            go_wp2_with (refine wpList_append_sl (by rfl) (.tmp 45) (.tmp 50) 28 (by rfl) 24 i6 z6 4 48 Try.underlying28 hi6 hz6 hsz6 hby6 hzs6 (by decide) (.slice ao A.length ac) A.length (cellsL A) (by rfl) HSL.out (some ⟨w8.heap.size, 0, none⟩) 1 1 [.string xk, .int .u64 xt, .bool xd, .string xv] (by rfl) (by rfl) (fun _ => ⟨_, rfl, HC3.out⟩) (fun h => absurd h (by decide)) (by simp [Value.oneCell']) bb1 bb2 ?_; intro v' w4 hs hg4 ha; obtain ⟨k', A', met', prev', ao', ac', hk', hm', hv', hl', HN⟩ := E1.out v' w4 hs hg4 ha; have HK' := Lib.hid hk'; have HM' := Lib.hid hm'; clear hs hg4 ha hk' hm'; subst hv')
            go_round
            case rel => exact ⟨k', A', met', prev', ao', ac', by rw [HK'.out]; omega, by rw [HK'.out]; go_num, by rw [HM'.out], rfl, hl', HN⟩
            case measure => simp [intOf]; omega
    · obtain rfl : k = L.length := by omega
      have q : decide (L.length < L.length) = false := by simp
      have HF := Lib.hid (show RTrimPost w (rtGo b (none, false) L) (.returned (.slice ao A.length ac)) wr from by
        have h2 := HI.out.2.1
        rw [List.drop_length] at h2
        refine ⟨_, rfl, ?_, HI.out.1.below, HI.out.1.own⟩
        rw [← h2]
        simpa [rtGo] using HI.out.1.has)
      go_wp2
      go_ret
      exact HF.out

set_option maxRecDepth 100000 in
set_option maxHeartbeats 2000000 in
theorem same_eq {w : World} {a b : Value} {L : List CellM} (ha : Has w a L) (hb : Has w b L) (hL : L.length ≤ 1099511627776) :
    Calls Try.prog 20 #[a, b] w fun e w' => e = .returned (.bool true) ∧ RowKit.Below w.heap.size w w' := by
  obtain ⟨ao, ac, rfl⟩ := ha.shape
  obtain ⟨bo, bc, rfl⟩ := hb.shape
  have HA := Lib.hid ha
  have HB := Lib.hid hb
  clear ha hb
  have q0 : ((L.length : Int) != L.length) = false := by simp
  go_enter Try.func20, Try.ntmps20
  go_wp2
  go_loopw [5] (fun i wr => ∃ k : Nat, k ≤ L.length ∧ i = .int .i64 k ∧ Hid (RowKit.Below w.heap.size w wr)) (fun i _ => L.length - (intOf i).toNat)
  case atStart => exact ⟨0, by omega, rfl, Lib.hid (Below.refl _ _)⟩
  case round =>
    obtain ⟨k, hk, rfl, HI⟩ := hrel
    have l0 : (0 : Int) ≤ k := by omega
    by_cases hlt : k < L.length
    · obtain ⟨x, hx⟩ : ∃ x, L[k]? = some x := ⟨L[k]'hlt, List.getElem?_eq_getElem hlt⟩
      obtain ⟨g, cap, e, h0, h1, h2, h3⟩ := (HA.out.stay HI.out).cells hx
      cases e
      obtain ⟨g', cap', e, y0, y1, y2, y3⟩ := (HB.out.stay HI.out).cells hx
      cases e
      have d0 := fun p os => cell_regrown h0 p os
      have d1 := fun p os => cell_regrown h1 p os
      have d2 := fun p os => cell_regrown h2 p os
      have d3 := fun p os => cell_regrown h3 p os
      have e0 := fun p os => cell_regrown y0 p os
      have e1 := fun p os => cell_regrown y1 p os
      have e2 := fun p os => cell_regrown y2 p os
      have e3 := fun p os => cell_regrown y3 p os
      have l1 : (k : Int) < L.length := by omega
      have q : decide (k < L.length) = true := by simpa using hlt
      have FC : ∀ (p : Nat) (os : Array Obj), True := fun _ _ => trivial
      obtain ⟨xk, xt, xd, xv⟩ := x
      simp only at d0 d1 d2 d3 e0 e1 e2 e3
      clear hx h0 h1 h2 h3 y0 y1 y2 y3
      go_wp2_with fail
      refine wp_region_quiet_below (by kernel_rfl) (by kernel_rfl) ?_
      repeat (go_big_quiet_step (exact FC _ _))
      refine wpQuiet_nil ?_
      intro _ hw'
      obtain ⟨⟨dq, osq⟩, hw''⟩ := hw'
      subst hw''
      have K8 := Lib.hid (HI.out.trans ((below_regrown wr dq osq).mono HI.out.size))
      clear d0 d1 d2 d3 e0 e1 e2 e3 FC
      go_wp2
      go_round
      case rel => exact ⟨k + 1, by omega, by go_num, K8⟩
      case measure => simp [intOf]; omega
    · obtain rfl : k = L.length := by omega
      have q : decide (L.length < L.length) = false := by simp
      go_wp2
      go_ret
      exact ⟨rfl, HI.out⟩
end Go.Proofs.Ytnhookblhckmlaa
