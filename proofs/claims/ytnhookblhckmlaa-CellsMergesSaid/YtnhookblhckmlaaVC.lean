/- The walk of Merge's iterator. -/
import Derived.Test.YtnhookblhckmlaaVD
namespace Go.Proofs.Ytnhookblhckmlaa
set_option linter.unusedVariables false
set_option linter.unusedSimpArgs false
open Go.RowKit Mk Go.Shelf
attribute [local go_sem] Oper.semAt_some

set_option maxRecDepth 100000 in
set_option maxHeartbeats 8000000 in
theorem merge_seq {w : World} {box : Nat} {sv : Value} {its : List (Option ItM)} (hbox : w.heap[box]? = some (.cells #[sv] 82)) (hs : sl w 46 1 sv its.length (its.map itV)) (hits : ∀ x, some x ∈ its → ItOk w x) (hn : its.length ≤ 1048576) :
    SeqF Try.prog 49 #[.pointer (some ⟨box, 0, none⟩)] (fun x : CellM => #[cellV x]) (fun pre => pre <+: mergeM (its.map itL)) (fun xs => xs = mergeM (its.map itL)) (fun g => g < w.heap.size) w := by
  obtain ⟨i6, z6, hi6, hz6, hsz6, hby6, hzs6⟩ := info90
  intro l J Jx W F0 hsz hR hF0 hJ hJx hY h0
  have HIT := Lib.hid (fun x hx => (hits x hx).move hsz hR)
  have hbl := (Array.getElem?_eq_some_iff.1 hbox).1
  have hb := (hR box hbl).trans hbox
  have hs2 : sl W 46 1 sv its.length (its.map itV) := sl.stay hs (fun g hg => hR g (sl.lt hs hg))
  have q0 : W.cell? ⟨box, 0, none⟩ = some sv := cell_of hb rfl
  have hbl2 : box < W.heap.size := by omega
  have HS := Lib.hid hs2
  have HSZ := Lib.hid hsz
  have HJ := Lib.hid hJ
  have HJx := Lib.hid hJx
  have HY := Lib.hid hY
  have H0 := Lib.hid h0
  have HF0 := Lib.hid hF0
  have hsh : ∃ o c, sv = .slice o its.length c := by
    rcases hs.2 with ⟨rfl, e⟩ | ⟨g, cap, cur, rfl, _⟩
    · exact ⟨_, _, by rw [e]⟩
    · exact ⟨_, _, rfl⟩
  obtain ⟨so, sc, rfl⟩ := hsh
  clear hbox hs hits hsz hR hF0 hJ hJx hY h0 hbl hb hs2
  show CallsIn Fence.wide 2 Try.prog 49 #[.func (.yield l) #[] #[], .pointer (some ⟨box, 0, none⟩)] W _
  refine callsIn_of_wp Try.func49 rfl trivial ?_ rfl
  simp only [Try.ntmps49, List.size_toArray, List.length_cons, List.length_nil, Nat.reduceAdd, Nat.reduceSub, Array.replicate_succ, Array.replicate_zero, List.push_toArray, List.append_toArray, List.nil_append, List.cons_append]
  have qf : ∀ (u : World) (f : Fn) (a b : Array Value), (binOp .eql 46 (.func f a b) .nilFunc).run Try.prog u = .ok (.bool false) u := fun _ _ _ _ => by kernel_rfl
  have qn : ∀ (u : World), (binOp .eql 46 .nilFunc .nilFunc).run Try.prog u = .ok (.bool true) u := fun _ => by kernel_rfl
  gi_wp2
  obtain ⟨w1, hw1⟩ : ∃ A, W.alloc (.cells #[.slice none 0 0] 85) = A := ⟨_, rfl⟩
  rw [hw1]
  have hB1 : RowKit.Below W.heap.size W w1 := by rw [← hw1]; exact (Below.refl _ W).alloc (Nat.le_refl _) _
  have HC := Lib.hid (show CoAt W its W.heap.size 0 (.slice none 0 0) [] w1 from ⟨⟨⟨by rw [← hw1]; exact Go.heap_alloc_new _ _, sl_nil _ _ _, by simp [Value.ownBlock]⟩, Nat.le_refl _, fun g hg => by simp [Value.ownBlock] at hg, fun x hx => by simp at hx, fun i c r e => by simp at e, List.Pairwise.nil⟩, hB1, Nat.le_refl _⟩)
  clear hw1 hB1 q0
  gi_loopw [16] (fun i wr => ∃ (k : Nat), k ≤ its.length ∧ i = .int .i64 k ∧ Hid (∃ v H, CoAt W its W.heap.size k v H wr)) (fun i _ => its.length - (intOf i).toNat)
  case atStart => exact ⟨0, by omega, rfl, Lib.hid ⟨_, _, HC.out⟩⟩
  case round =>
    obtain ⟨k, hk, rfl, HI⟩ := hrel
    clear HC
    have l0 : (0 : Int) ≤ k := by omega
    by_cases hlt : k < its.length
    · have q : decide ((k : Int) < its.length) = true := by simpa using hlt
      obtain ⟨x, hx⟩ : ∃ x, its[k]? = some x := ⟨its[k]'hlt, List.getElem?_eq_getElem hlt⟩
      have hkt : (its.take (k + 1)).map itL = (its.take k).map itL ++ [itL x] := by rw [List.take_add_one, hx]; simp
      obtain ⟨v, H, hC⟩ := HI.out
      obtain ⟨g, cap, e, hc0⟩ := sl.cell (i := k) (u := itV x) (sl.stay HS.out (fun g hg => hC.below.block g (sl.lt HS.out hg))) (by simp [hx])
      cases e
      have HCC := Lib.hid hC
      have l1 : (k : Int) < its.length := by omega
      cases x with
      | none =>
        have hc1 : wr.cell? ⟨g, k, none⟩ = some .nilFunc := hc0
        clear hc0
        have HCC2 := Lib.hid (show CoAt W its W.heap.size (k + 1) v H wr from ⟨by rw [hkt]; exact hC.at_.none, hC.below, by have := hC.few; omega⟩)
        clear hC hkt HI
        gi_wp2
        go_roundw
        case rel => exact ⟨k + 1, by omega, by go_num, Lib.hid ⟨_, _, HCC2.out⟩⟩
        case measure => simp [intOf]; omega
      | some x =>
        have hc1 : wr.cell? ⟨g, k, none⟩ = some (.func (.func x.g) #[] x.lb) := hc0
        clear hc0
        have hit := (HIT.out x (List.mem_of_getElem? hx)).move hC.below.size (fun i hi => hC.below.block i hi)
        have CO := hit.collect
        have hB := hC.below
        gi_wp2_with fail
        refine ⟨trivial, (callsIn_wide.2 CO).mono ?_⟩
        rintro e w2 ⟨so2, cap2, rfl, g1, g2, g3⟩
        have AH := ahead_any so2 x.L.length cap2 w2
        have hrx := g1.rx (P := fun g => W.heap.size ≤ g) (fun g o e => by have := g3 g o e; have := hB.size; omega) (by have := hB.size; have := g2.size; omega)
        have hB23 : RowKit.Below w2.heap.size w2 (w2.alloc (.cells #[.slice so2 x.L.length cap2] 28)) := (Below.refl _ w2).alloc (Nat.le_refl _) _
        have hC3 := (((hC.at_.below g2).stay (P' := fun g => W.heap.size ≤ g ∧ g < w2.heap.size) (fun i p hi => ⟨p, hi⟩) (Nat.le_refl _) (fun _ _ _ => rfl)).below hB23)
        have hB3 := (hB.trans (g2.mono hB.size)).trans (hB23.mono (Nat.le_trans hB.size g2.size))
        have hnb : ∀ y ∈ H, y.nb ≠ w2.heap.size := fun y hy => by
          obtain ⟨r, _, hr⟩ := (hC.at_.below g2).heads y hy
          have := hr.lt
          omega
        have hfew := hC.few
        have HNB := Lib.hid hnb
        have hnbl : W.heap.size ≤ w2.heap.size := Nat.le_trans hB.size g2.size
        have hhbl : W.heap.size < w2.heap.size := Nat.lt_of_lt_of_le hC.at_.hx.lt g2.size
        clear CO g1 g2 g3 hB23 hC hit HI HCC hB hnb hx
        gi_wp2_with fail
        refine ⟨trivial, (callsIn_wide.2 AH).mono ?_⟩
        rintro e w3 ⟨rfl, hw3⟩
        rw [← hw3] at hrx hC3 hB3
        have hsz3 : w3.heap.size = w2.heap.size + 1 := by rw [hw3]; simp
        clear hw3 AH
        have HC3 := Lib.hid hC3
        have HB3 := Lib.hid hB3
        obtain ⟨nb, hnbe⟩ : ∃ nb, w2.heap.size = nb := ⟨_, rfl⟩
        rw [hnbe] at hrx HC3 HNB hnbl hhbl hsz3 ⊢
        clear hC3 hB3 hnbe
        have hlk : ((its.take k).map itL).length = k := by simp; omega
        cases hL : x.L with
        | nil =>
          rw [hL] at hrx
          obtain ⟨so', cap', hb', _⟩ := hrx.is
          have NX := next_nil hb'
          unfold zeroV at NX
          clear hb' hrx
          gi_wp2_with fail
          refine ⟨trivial, (callsIn_wide.2 NX).mono ?_⟩
          rintro e w4 ⟨rfl, hb4⟩
          have hb5 : RowKit.Below w4.heap.size w4 (w4.alloc (.cells #[.string ⟨#[]⟩, .int .u64 0, .bool false, .string ⟨#[]⟩] 24)) := (Below.refl _ w4).alloc (Nat.le_refl _) _
          have HCC2 := Lib.hid (show CoAt W its W.heap.size (k + 1) v H (w4.alloc (.cells #[.string ⟨#[]⟩, .int .u64 0, .bool false, .string ⟨#[]⟩] 24)) from
            ⟨by
              rw [hkt]
              show MgAt _ _ _ _ (_ ++ [x.L]) _
              rw [hL]
              exact ((HC3.out.below hb4).below hb5).none.stay (fun i p _ => p.1) (Nat.le_refl _) (fun _ _ _ => rfl), (HB3.out.trans (hb4.mono HB3.out.size)).trans (hb5.mono (Nat.le_trans HB3.out.size hb4.size)), by omega⟩)
          clear hb4 hb5 NX hkt HNB
          gi_wp2
          go_roundw
          case rel => exact ⟨k + 1, by omega, by go_num, Lib.hid ⟨_, _, HCC2.out⟩⟩
          case measure => simp [intOf]; omega
        | cons c rest =>
          rw [hL] at hrx
          obtain ⟨g', o', cap', hb', hg', c0, c1, c2, c3, hcap, hcm, hpost⟩ := hrx.tail (w' := w3)
          have NX := next_cons hb' hg' c0 c1 c2 c3 hcap hcm
          have HPO := Lib.hid hpost
          clear hb' hrx hg' c0 c1 c2 c3 hcap hcm hpost
          obtain ⟨ck, ct, cd, cv⟩ := c
          simp only [cellV] at NX
          gi_wp2_with fail
          refine ⟨trivial, (callsIn_wide.2 NX).mono ?_⟩
          rintro e w4 ⟨rfl, n1, n2⟩
          have hrx4 := HPO.out w4 n1 n2
          have hC4 := HC3.out.stay (P' := fun g => W.heap.size ≤ g) (fun i p _ => p.1) n2.size (fun i p hi => n2.block i hi (fun e => by have := p.2; omega))
          have hB4 : RowKit.Below W.heap.size W w4 := HB3.out.trans (n2.below (B := W.heap.size) (fun i f => by rw [f]; exact hnbl) HB3.out.size)
          have hsz4 : W.heap.size < w4.heap.size := by have := n2.size; omega
          obtain ⟨o4, c4, hv4⟩ := hC4.hx.has.shape
          subst hv4
          have d0 : w4.cell? ⟨W.heap.size, 0, none⟩ = some (.slice o4 H.length c4) := cell_of hC4.hx.blk rfl
          have HC4 := Lib.hid hC4
          have HB4 := Lib.hid hB4
          have HR4 := Lib.hid hrx4
          obtain ⟨W6, HW6⟩ : ∃ A, Hid ((w4.alloc (.cells #[.string ck, .int .u64 ct, .bool cd, .string cv] 24)).alloc (.cells #[.string ck, .int .u64 ct, .bool cd, .string cv, .int .i64 k, .func (.func 56) #[] #[.pointer (some ⟨nb, 0, none⟩)]] 90) = A) := ⟨_, Lib.hid rfl⟩
          have hB46 : RowKit.Below w4.heap.size w4 W6 := by rw [← HW6.out]; exact ((Below.refl _ w4).alloc (Nat.le_refl _) _).alloc (by simp) _
          have hN := Lib.hid (cell_new_six (w := W6) (g := w4.heap.size + 1) (a := .string ck) (b := .int .u64 ct) (c := .bool cd) (d := .string cv) (e := .int .i64 k) (f := .func (.func 56) #[] #[.pointer (some ⟨nb, 0, none⟩)]) (t := 90) (by
            rw [← HW6.out]
            have := Go.heap_alloc_new (w4.alloc (.cells #[.string ck, .int .u64 ct, .bool cd, .string cv] 24)) (.cells #[.string ck, .int .u64 ct, .bool cd, .string cv, .int .i64 k, .func (.func 56) #[] #[.pointer (some ⟨nb, 0, none⟩)]] 90)
            rwa [World.size_alloc] at this))
          have HS6 := Lib.hid (show sl W6 90 6 (.slice o4 H.length c4) H.length (hdsL H) from (hC4.below hB46).hx.has)
          have hkt' : (its.take (k + 1)).map itL = (its.take k).map itL ++ [⟨ck, ct, cd, cv⟩ :: rest] := by rw [hkt]; show _ ++ [x.L] = _; rw [hL]
          have FIN := Lib.hid (fun v' w7 => CoAt.more (w7 := w7) (v' := v') hC4 hB4 hrx4 HNB.out hfew hkt' hlk hB46)
          clear n1 n2 hrx4 hC4 hB4 NX HPO HC3 HB3 hB46 hkt' hkt HR4 HC4 HB4 HNB hlk
          have m1 : H.length + 1 ≤ maxLen := by simp only [maxLen]; omega
          have m2 : (H.length + 1) * 64 ≤ 140737488355328 := by omega
          gi_wp2_with (gi_at_builtin; refine wpListIn_append_sl rfl _ _ 85 rfl 90 i6 z6 6 64 Try.underlying85 hi6 hz6 hsz6 hby6 hzs6 (by decide) (.slice o4 H.length c4) H.length (hdsL H) rfl (by rw [HW6.out]; exact HS6.out) (some ⟨w4.heap.size + 1, 0, none⟩) 1 1 [.string ck, .int .u64 ct, .bool cd, .string cv, .int .i64 k, .func (.func 56) #[] #[.pointer (some ⟨nb, 0, none⟩)]] rfl rfl (fun _ => ⟨_, rfl, by rw [HW6.out]; exact hN.out⟩) (fun h => absurd h (by decide)) (by simp [Value.oneCell']) m1 m2 ?_; intro v' w7 hsl hgrow hat; rw [HW6.out] at hgrow hat; obtain ⟨⟨hr7, o', c', rfl⟩, hfin⟩ := FIN.out v' w7 hsl hgrow hat; have e7 : w7.cell? ⟨W.heap.size, 0, none⟩ = some (.slice o4 H.length c4) := cell_of hr7 rfl; have f7 : w7.frozen? ⟨W.heap.size, 0, none⟩ = false := frozen_of hr7; have HFIN := Lib.hid hfin; clear hfin hsl hgrow hat hr7)
          go_roundw
          case rel => exact ⟨k + 1, by omega, by go_num, Lib.hid ⟨_, _, HFIN.out⟩⟩
          case measure => simp [intOf]; omega
    · obtain rfl : k = its.length := by omega
      have q : decide (((its.length : Nat) : Int) < its.length) = false := by simp
      obtain ⟨v, H, hC⟩ := HI.out
      have hat : MgAt (fun g => W.heap.size ≤ g) W.heap.size v H (its.map itL) wr := by have := hC.at_; rwa [List.take_of_length_le (Nat.le_refl _)] at this
      have HAT := Lib.hid hat
      have HBR := Lib.hid hC.below
      have hfew := hC.few
      have IN := init_any hat.hx (by omega)
      clear hC hat HI hlt hk l0
      gi_wp2_with fail
      refine ⟨trivial, (callsIn_wide.2 IN).mono ?_⟩
      rintro e w2 ⟨rfl, H2, i1, i2, i3, i4⟩
      have hat2 := HAT.out.perm i1 i3 i4
      have hB2 : RowKit.Below W.heap.size W w2 := HBR.out.trans (i4.below (B := W.heap.size) (fun i f => HAT.out.pv i f) HBR.out.size)
      have hb23 : RowKit.Below w2.heap.size w2 (w2.alloc (.cells #[.string ⟨#[]⟩, .int .u64 0, .bool false, .string ⟨#[]⟩] 24)) := (Below.refl _ w2).alloc (Nat.le_refl _) _
      have HL := Lib.hid (show LoAt W J (mergeM (its.map itL)) W.heap.size w2.heap.size true v H2 (its.map itL) F0 [] ⟨⟨#[]⟩, 0, false, ⟨#[]⟩⟩ (w2.alloc (.cells #[.string ⟨#[]⟩, .int .u64 0, .bool false, .string ⟨#[]⟩] 24)) from
        ⟨hat2.stay (fun i p hi => ⟨p, hi, fun f => by have := (HF0.out i f).1; omega⟩) hb23.size (fun i _ hi => hb23.block i hi),
         by rw [i3.length_eq]; exact i2,
         fun l hl => by
          obtain ⟨x, hx, rfl⟩ := List.mem_map.1 hl
          cases x with
          | none => exact List.Pairwise.nil
          | some x => exact (HIT.out x hx).ord,
         Go.heap_alloc_new _ _, fun f => by have := (HF0.out _ f).1; have := hB2.size; omega, hB2.size, fun g f => by have := (HF0.out g f).1; have := hB2.size; have := hb23.size; omega,
         HJ.out _ _ _ _ H0.out (chg_of_Below (hB2.trans (hb23.mono hB2.size))), by simp, by have := i3.length_eq; omega⟩)
      clear i1 i2 i3 i4 hat2 hb23 HAT HBR IN HF0 H0
      obtain ⟨lc, hlce⟩ : ∃ lc, w2.heap.size = lc := ⟨_, rfl⟩
      have hWlc : W.heap.size ≤ lc := by rw [← hlce]; exact hB2.size
      clear hB2
      gi_wp2
      rw [hlce] at HL
      generalize w2.alloc (.cells #[.string ⟨#[]⟩, .int .u64 0, .bool false, .string ⟨#[]⟩] 24) = w3 at *
      clear hlce hfew
      gi_loopw [10] (fun f wr => ∃ (fi : Bool) (n : Nat), f = .bool fi ∧ Hid (LoN W J (mergeM (its.map itL)) W.heap.size lc n fi wr)) (fun f wr => leastN (fun n => ∃ fi, f = .bool fi ∧ LoN W J (mergeM (its.map itL)) W.heap.size lc n fi wr))
      case atStart => exact ⟨true, _, rfl, Lib.hid ⟨_, _, _, _, _, _, HL.out, rfl⟩⟩
      case round =>
        obtain ⟨fi0, n0, rfl, HI2⟩ := hrel
        obtain ⟨n, ⟨fi', e', hLN⟩, hlow⟩ := least_ex (P := fun n => ∃ fi', Value.bool fi0 = .bool fi' ∧ LoN W J (mergeM (its.map itL)) W.heap.size lc n fi' wr) ⟨n0, fi0, rfl, HI2.out⟩
        cases e'
        have hlow2 : n ≤ leastN (fun n => ∃ fi', Value.bool fi0 = .bool fi' ∧ LoN W J (mergeM (its.map itL)) W.heap.size lc n fi' wr) := hlow _ (leastN_is (P := fun n => ∃ fi', Value.bool fi0 = .bool fi' ∧ LoN W J (mergeM (its.map itL)) W.heap.size lc n fi' wr) ⟨n, fi0, rfl, hLN⟩)
        clear hlow
        obtain ⟨v, H, rem, F, pre, last, hL, hn⟩ := hLN
        clear HI2 HL
        have HLO := Lib.hid hL
        cases H with
        | nil =>
          obtain ⟨o5, c5, e5⟩ := hL.mg.hx.has.shape
          subst e5
          have d0 : wr.cell? ⟨W.heap.size, 0, none⟩ = some (.slice o5 0 c5) := cell_of hL.mg.hx.blk rfl
          clear hL
          gi_wp2
          go_end0
          refine ⟨⟨_, rfl⟩, .inl ⟨pre, F, ?_, HLO.out.say⟩⟩
          have := HLO.out.eq
          rw [HLO.out.mg.done] at this
          rw [this]
          cases fi0 <;> simp [less0]
        | cons x T =>
          obtain ⟨rest, hi, hrx, hm⟩ := hL.mg.step hL.heap hL.ord
          obtain ⟨g, cap, e5, hg, c0, c1, c2, c3, c4, c5⟩ := hL.mg.hx.has.cells (i := 0) rfl
          subst e5
          simp only [Nat.zero_mul, Nat.zero_add] at c0 c1 c2 c3 c4 c5
          have d0 : wr.cell? ⟨W.heap.size, 0, none⟩ = some (.slice (some ⟨g, 0, none⟩) (T.length + 1) cap) := cell_of hL.mg.hx.blk rfl
          have hfew : T.length + 1 ≤ 1048576 := by simpa using hL.few
          have hlcw : lc < wr.heap.size := (Array.getElem?_eq_some_iff.1 hL.lcr).1
          have hhbw := hL.mg.hx.lt
          have b0 : wr.cell? ⟨lc, 0, none⟩ = some (.string last.key) := cell_of hL.lcr rfl
          have b1 : wr.cell? ⟨lc, 1, none⟩ = some (.int .u64 last.time) := cell_of hL.lcr rfl
          have b2 : wr.cell? ⟨lc, 2, none⟩ = some (.bool last.del) := cell_of hL.lcr rfl
          have b3 : wr.cell? ⟨lc, 3, none⟩ = some (.string last.val) := cell_of hL.lcr rfl
          obtain ⟨⟨ck, ct, cd, cv⟩, fr, nb⟩ := x
          simp only at hi hrx hm c0 c1 c2 c3 c4 c5
          have HIR := Lib.hid hi
          have HRX := Lib.hid hrx
          have HMM := Lib.hid hm
          have l1 : (0 : Int) < ((T.length + 1 : Nat) : Int) := by omega
          have hB1 : RowKit.Below wr.heap.size wr (wr.alloc (.cells #[.string ck, .int .u64 ct, .bool cd, .string cv, .int .i64 fr, .func (.func 56) #[] #[.pointer (some ⟨nb, 0, none⟩)]] 90)) := (Below.refl _ wr).alloc (Nat.le_refl _) _
          have HB1 := Lib.hid hB1
          have HR1 := Lib.hid (Go.heap_alloc_new wr (.cells #[.string ck, .int .u64 ct, .bool cd, .string cv, .int .i64 fr, .func (.func 56) #[] #[.pointer (some ⟨nb, 0, none⟩)]] 90))
          have hne1 : ¬ (wr.heap.size = lc) := by omega
          have hne2 : ¬ (lc = wr.heap.size) := by omega
          clear hL hi hrx hm hB1 qf qn
          cases fi0 with
          | true =>
            have hMe : mergeM (its.map itL) = (pre ++ [⟨ck, ct, cd, cv⟩]) ++ less0 ⟨ck, ct, cd, cv⟩ (mergeM (rem.set fr rest)) := by have := HLO.out.eq; rw [this, HMM.out]; simp
            have hj1 := HJ.out _ _ _ _ HLO.out.say (chg_of_Below (F := fun g => W.heap.size ≤ g ∧ ¬ F g) HB1.out)
            obtain ⟨fn, tmps, assign, body, hy, hR⟩ := HY.out pre ⟨ck, ct, cd, cv⟩ F _ hj1 ⟨_, hMe.symm⟩
            have HTO := Lib.hid (fun W' F' => LoAt.told (W' := W') (F' := F') HJ.out HLO.out HIR.out HRX.out hMe HB1.out HR1.out (Nat.le_refl _))
            have HPR := Lib.hid (show pre ++ [⟨ck, ct, cd, cv⟩] <+: mergeM (its.map itL) from ⟨_, hMe.symm⟩)
            have HKR := Lib.hid (fun W' (hc : Chg F (wr.alloc (.cells #[.string ck, .int .u64 ct, .bool cd, .string cv, .int .i64 fr, .func (.func 56) #[] #[.pointer (some ⟨nb, 0, none⟩)]] 90)) W') => (hc.block wr.heap.size (Array.getElem?_eq_some_iff.1 HR1.out).1 (fun f => Nat.lt_irrefl _ (HLO.out.fsz _ f))).trans HR1.out)
            simp only [cellV] at hy
            clear hMe hj1
            gi_wp2_with fail
            refine ⟨trivial, ?_⟩
            gi_wp2
            refine hR.mono ?_
            rintro e W' ⟨F', hw, hc, hs, (⟨rfl, hj⟩ | ⟨rfl, hj⟩)⟩
            · obtain ⟨hlc, hmid⟩ := HTO.out W' F' hw hc hs hj
              have hrow' := HKR.out W' hc
              have hbs : wr.heap.size < W'.heap.size := (Array.getElem?_eq_some_iff.1 hrow').1
              have k0 : W'.cell? ⟨wr.heap.size, 0, none⟩ = some (.string ck) := cell_of hrow' rfl
              have k1 : W'.cell? ⟨wr.heap.size, 1, none⟩ = some (.int .u64 ct) := cell_of hrow' rfl
              have k2 : W'.cell? ⟨wr.heap.size, 2, none⟩ = some (.bool cd) := cell_of hrow' rfl
              have k3 : W'.cell? ⟨wr.heap.size, 3, none⟩ = some (.string cv) := cell_of hrow' rfl
              have k5 : W'.cell? ⟨wr.heap.size, 5, none⟩ = some (.func (.func 56) #[] #[.pointer (some ⟨nb, 0, none⟩)]) := cell_of hrow' rfl
              have j0 : W'.cell? ⟨lc, 0, none⟩ = some (.string last.key) := cell_of hlc rfl
              have j1 : W'.cell? ⟨lc, 1, none⟩ = some (.int .u64 last.time) := cell_of hlc rfl
              have j2 : W'.cell? ⟨lc, 2, none⟩ = some (.bool last.del) := cell_of hlc rfl
              have j3 : W'.cell? ⟨lc, 3, none⟩ = some (.string last.val) := cell_of hlc rfl
              have i0 : W'.frozen? ⟨lc, 0, none⟩ = false := frozen_of hlc
              have i1 : W'.frozen? ⟨lc, 1, none⟩ = false := frozen_of hlc
              have i2 : W'.frozen? ⟨lc, 2, none⟩ = false := frozen_of hlc
              have i3 : W'.frozen? ⟨lc, 3, none⟩ = false := frozen_of hlc
              have HM := Lib.hid hmid
              clear hmid hw hc hs hj hlc hrow' HTO HKR HPR hR hy
              cases rest with
              | nil =>
                obtain ⟨so', cap', hb', _⟩ := HM.out.rx.is
                have NX := next_nil hb'
                unfold zeroV at NX
                clear hb'
                gi_wp2_with fail
                refine ⟨trivial, (callsIn_wide.2 NX).mono ?_⟩
                rintro e w4 ⟨rfl, hb4⟩
                have hb5 : RowKit.Below w4.heap.size w4 (w4.alloc (.cells #[.string ⟨#[]⟩, .int .u64 0, .bool false, .string ⟨#[]⟩] 24)) := (Below.refl _ w4).alloc (Nat.le_refl _) _
                have hB5 := hb4.trans (hb5.mono hb4.size)
                have PO := hpopall_any (HM.out.mg.below hB5).hx (by simpa using (by omega : T.length + 1 ≤ 1099511627776)) HM.out.heap (x := ⟨⟨ck, ct, cd, cv⟩, fr, nb⟩) rfl
                have HB5 := Lib.hid hB5
                clear hb4 hb5 hB5 NX
                gi_wp2_with fail
                refine ⟨trivial, (callsIn_wide.2 PO).mono ?_⟩
                rintro e w6 ⟨⟨r, rfl⟩, v', H', p1, p2, p3, p4, p5⟩
                obtain ⟨m, hm1, hm2⟩ := HM.out.popped HJ.out HB5.out p1 p2 p3 p4 p5 hn
                clear p1 p2 p3 p4 p5 PO
                gi_wp2
                go_roundw
                case rel => exact ⟨false, m, rfl, Lib.hid hm2⟩
                case measure => exact Nat.lt_of_le_of_lt (leastN_le ⟨false, rfl, hm2⟩) (Nat.lt_of_lt_of_le hm1 hlow2)
              | cons c2 rest =>
                obtain ⟨g', o', cap', hb', hg', e0, e1, e2, e3, hcap, hcm, hpost⟩ := HM.out.rx.tail (w' := wr)
                have NX := next_cons hb' hg' e0 e1 e2 e3 hcap hcm
                have HPO := Lib.hid hpost
                clear hb' hg' e0 e1 e2 e3 hcap hcm hpost
                obtain ⟨dk, dt, dd, dv⟩ := c2
                simp only [cellV] at NX
                gi_wp2_with fail
                refine ⟨trivial, (callsIn_wide.2 NX).mono ?_⟩
                rintro e w4 ⟨rfl, n1, n2⟩
                have hx4 := HM.out.asked n2
                have hr5 := HPO.out w4 n1 n2
                obtain ⟨g4, cap4, e4, hg4, y0, y1, y2, y3, y4, y5⟩ := hx4.has.cells (i := 0) rfl
                cases e4
                simp only [Nat.zero_mul, Nat.zero_add] at y0 y1 y2 y3
                have d4 : w4.cell? ⟨W.heap.size, 0, none⟩ = some (.slice (some ⟨g, 0, none⟩) (T.length + 1) cap) := cell_of hx4.blk rfl
                have hf4 : ∀ q, w4.frozen? ⟨g, q, none⟩ = false := fun q => by
                  rcases hx4.has.2 with ⟨e, _⟩ | ⟨g2, c2, cur, e, hh, _⟩
                  · cases e
                  · cases e; exact frozen_of hh
                have z0 := hf4 0
                have z1 := hf4 1
                have z2 := hf4 2
                have z3 := hf4 3
                have hbl4 := hx4.lt
                have hB4 := set4_HB hx4.has ⟨dk, dt, dd, dv⟩
                have hc4 := (set4_chg (F := fun i => (Value.slice (some ⟨g, 0, none⟩) (T.length + 1) cap).ownBlock = some i) (w := w4) (g := g) (Chg.refl _ _) rfl ⟨dk, dt, dd, dv⟩).alloc (.cells #[.string dk, .int .u64 dt, .bool dd, .string dv] 24)
                simp only at hB4 hc4
                have hB5 : HB _ _ _ := sl.stay hB4 (fun i hi => Below.heap_alloc _ (.cells #[.string dk, .int .u64 dt, .bool dd, .string dv] 24) _ (sl.lt hB4 hi))
                have LD := HM.out.laid hr5 n2 hB5 hc4
                have FX := fix_any LD.1.hx (by simpa using (by omega : T.length + 1 ≤ 1099511627776)) LD.2
                have HFI := Lib.hid (fun w6 H' => HM.out.fixed (w5 := w6) (H' := H') HJ.out n2 hc4 LD.1)
                clear hx4 hr5 hf4 hB4 hB5 hc4 LD n1 n2 NX HPO
                gi_wp2_with fail
                refine ⟨trivial, (callsIn_wide.2 FX).mono ?_⟩
                rintro e w6 ⟨rfl, H', p1, p2, p3, p4⟩
                obtain ⟨m, hm1, hm2⟩ := HFI.out w6 H' p1 p2 p3 p4 hn
                clear p1 p2 p3 p4 FX y0 y1 y2 y3 z0 z1 z2 z3 d4
                gi_wp2
                go_roundw
                case rel => exact ⟨false, m, rfl, Lib.hid hm2⟩
                case measure => exact Nat.lt_of_le_of_lt (leastN_le ⟨false, rfl, hm2⟩) (Nat.lt_of_lt_of_le hm1 hlow2)
            · have HQ := Lib.hid hj
              clear hw hc hs hj HTO HKR hR hy
              gi_wp2
              refine bodyPost_ret (results_none rfl _ _ _) rfl ?_
              exact ⟨⟨_, rfl⟩, .inr ⟨_, F', HPR.out, HQ.out⟩⟩
          | false =>
            have CM := cmp_any last ⟨ck, ct, cd, cv⟩ (wr.alloc (.cells #[.string ck, .int .u64 ct, .bool cd, .string cv, .int .i64 fr, .func (.func 56) #[] #[.pointer (some ⟨nb, 0, none⟩)]] 90))
            simp only [cellV] at CM
            obtain ⟨z, hz⟩ : ∃ z, cmpM last ⟨ck, ct, cd, cv⟩ = z := ⟨_, rfl⟩
            rw [hz] at CM
            gi_wp2_with fail
            refine ⟨trivial, (callsIn_wide.2 CM).mono ?_⟩
            rintro e w1 ⟨rfl, hb1⟩
            have HB2 := Lib.hid (HB1.out.trans (hb1.mono HB1.out.size))
            have HR2 := Lib.hid ((hb1.block wr.heap.size (Array.getElem?_eq_some_iff.1 HR1.out).1).trans HR1.out)
            clear CM hb1
            have k0 : w1.cell? ⟨wr.heap.size, 0, none⟩ = some (.string ck) := cell_of HR2.out rfl
            have k1 : w1.cell? ⟨wr.heap.size, 1, none⟩ = some (.int .u64 ct) := cell_of HR2.out rfl
            have k2 : w1.cell? ⟨wr.heap.size, 2, none⟩ = some (.bool cd) := cell_of HR2.out rfl
            have k3 : w1.cell? ⟨wr.heap.size, 3, none⟩ = some (.string cv) := cell_of HR2.out rfl
            have k5 : w1.cell? ⟨wr.heap.size, 5, none⟩ = some (.func (.func 56) #[] #[.pointer (some ⟨nb, 0, none⟩)]) := cell_of HR2.out rfl
            by_cases hz0 : z = 0
            · have HM := Lib.hid (LoAt.skip HJ.out HLO.out HIR.out HRX.out HMM.out (hz.trans hz0) HB2.out HR2.out)
              subst hz0
              cases rest with
              | nil =>
                obtain ⟨so', cap', hb', _⟩ := HM.out.rx.is
                have NX := next_nil hb'
                unfold zeroV at NX
                clear hb'
                gi_wp2_with fail
                refine ⟨trivial, (callsIn_wide.2 NX).mono ?_⟩
                rintro e w4 ⟨rfl, hb4⟩
                have hb5 : RowKit.Below w4.heap.size w4 (w4.alloc (.cells #[.string ⟨#[]⟩, .int .u64 0, .bool false, .string ⟨#[]⟩] 24)) := (Below.refl _ w4).alloc (Nat.le_refl _) _
                have hB5 := hb4.trans (hb5.mono hb4.size)
                have PO := hpopall_any (HM.out.mg.below hB5).hx (by simpa using (by omega : T.length + 1 ≤ 1099511627776)) HM.out.heap (x := ⟨⟨ck, ct, cd, cv⟩, fr, nb⟩) rfl
                have HB5 := Lib.hid hB5
                clear hb4 hb5 hB5 NX
                gi_wp2_with fail
                refine ⟨trivial, (callsIn_wide.2 PO).mono ?_⟩
                rintro e w6 ⟨⟨r, rfl⟩, v', H', p1, p2, p3, p4, p5⟩
                obtain ⟨m, hm1, hm2⟩ := HM.out.popped HJ.out HB5.out p1 p2 p3 p4 p5 hn
                clear p1 p2 p3 p4 p5 PO
                gi_wp2
                go_roundw
                case rel => exact ⟨false, m, rfl, Lib.hid hm2⟩
                case measure => exact Nat.lt_of_le_of_lt (leastN_le ⟨false, rfl, hm2⟩) (Nat.lt_of_lt_of_le hm1 hlow2)
              | cons c2 rest =>
                obtain ⟨g', o', cap', hb', hg', e0, e1, e2, e3, hcap, hcm, hpost⟩ := HM.out.rx.tail (w' := wr)
                have NX := next_cons hb' hg' e0 e1 e2 e3 hcap hcm
                have HPO := Lib.hid hpost
                clear hb' hg' e0 e1 e2 e3 hcap hcm hpost
                obtain ⟨dk, dt, dd, dv⟩ := c2
                simp only [cellV] at NX
                gi_wp2_with fail
                refine ⟨trivial, (callsIn_wide.2 NX).mono ?_⟩
                rintro e w4 ⟨rfl, n1, n2⟩
                have hx4 := HM.out.asked n2
                have hr5 := HPO.out w4 n1 n2
                obtain ⟨g4, cap4, e4, hg4, y0, y1, y2, y3, y4, y5⟩ := hx4.has.cells (i := 0) rfl
                cases e4
                simp only [Nat.zero_mul, Nat.zero_add] at y0 y1 y2 y3
                have d4 : w4.cell? ⟨W.heap.size, 0, none⟩ = some (.slice (some ⟨g, 0, none⟩) (T.length + 1) cap) := cell_of hx4.blk rfl
                have hf4 : ∀ q, w4.frozen? ⟨g, q, none⟩ = false := fun q => by
                  rcases hx4.has.2 with ⟨e, _⟩ | ⟨g2, c2, cur, e, hh, _⟩
                  · cases e
                  · cases e; exact frozen_of hh
                have z0 := hf4 0
                have z1 := hf4 1
                have z2 := hf4 2
                have z3 := hf4 3
                have hbl4 := hx4.lt
                have hB4 := set4_HB hx4.has ⟨dk, dt, dd, dv⟩
                have hc4 := (set4_chg (F := fun i => (Value.slice (some ⟨g, 0, none⟩) (T.length + 1) cap).ownBlock = some i) (w := w4) (g := g) (Chg.refl _ _) rfl ⟨dk, dt, dd, dv⟩).alloc (.cells #[.string dk, .int .u64 dt, .bool dd, .string dv] 24)
                simp only at hB4 hc4
                have hB5 : HB _ _ _ := sl.stay hB4 (fun i hi => Below.heap_alloc _ (.cells #[.string dk, .int .u64 dt, .bool dd, .string dv] 24) _ (sl.lt hB4 hi))
                have LD := HM.out.laid hr5 n2 hB5 hc4
                have FX := fix_any LD.1.hx (by simpa using (by omega : T.length + 1 ≤ 1099511627776)) LD.2
                have HFI := Lib.hid (fun w6 H' => HM.out.fixed (w5 := w6) (H' := H') HJ.out n2 hc4 LD.1)
                clear hx4 hr5 hf4 hB4 hB5 hc4 LD n1 n2 NX HPO
                gi_wp2_with fail
                refine ⟨trivial, (callsIn_wide.2 FX).mono ?_⟩
                rintro e w6 ⟨rfl, H', p1, p2, p3, p4⟩
                obtain ⟨m, hm1, hm2⟩ := HFI.out w6 H' p1 p2 p3 p4 hn
                clear p1 p2 p3 p4 FX y0 y1 y2 y3 z0 z1 z2 z3 d4
                gi_wp2
                go_roundw
                case rel => exact ⟨false, m, rfl, Lib.hid hm2⟩
                case measure => exact Nat.lt_of_le_of_lt (leastN_le ⟨false, rfl, hm2⟩) (Nat.lt_of_lt_of_le hm1 hlow2)
            · have qz : (z != 0) = true := by simpa using hz0
              have hMe : mergeM (its.map itL) = (pre ++ [⟨ck, ct, cd, cv⟩]) ++ less0 ⟨ck, ct, cd, cv⟩ (mergeM (rem.set fr rest)) := by have := HLO.out.eq; rw [this, HMM.out]; simp only [Bool.false_eq_true, if_false]; rw [less0_cons (by rw [hz]; exact hz0)]; simp
              have hj1 := HJ.out _ _ _ _ HLO.out.say (chg_of_Below (F := fun g => W.heap.size ≤ g ∧ ¬ F g) HB2.out)
              obtain ⟨fn, tmps, assign, body, hy, hR⟩ := HY.out pre ⟨ck, ct, cd, cv⟩ F _ hj1 ⟨_, hMe.symm⟩
              have HTO := Lib.hid (fun W' F' => LoAt.told (W' := W') (F' := F') HJ.out HLO.out HIR.out HRX.out hMe HB2.out HR2.out (Nat.le_refl _))
              have HPR := Lib.hid (show pre ++ [⟨ck, ct, cd, cv⟩] <+: mergeM (its.map itL) from ⟨_, hMe.symm⟩)
              have HKR := Lib.hid (fun W' (hc : Chg F w1 W') => (hc.block wr.heap.size (Array.getElem?_eq_some_iff.1 HR2.out).1 (fun f => Nat.lt_irrefl _ (HLO.out.fsz _ f))).trans HR2.out)
              simp only [cellV] at hy
              clear hMe hj1
              gi_wp2
              refine hR.mono ?_
              rintro e W' ⟨F', hw, hc, hs, (⟨rfl, hj⟩ | ⟨rfl, hj⟩)⟩
              · obtain ⟨hlc, hmid⟩ := HTO.out W' F' hw hc hs hj
                have hrow' := HKR.out W' hc
                have hbs : wr.heap.size < W'.heap.size := (Array.getElem?_eq_some_iff.1 hrow').1
                have k0 : W'.cell? ⟨wr.heap.size, 0, none⟩ = some (.string ck) := cell_of hrow' rfl
                have k1 : W'.cell? ⟨wr.heap.size, 1, none⟩ = some (.int .u64 ct) := cell_of hrow' rfl
                have k2 : W'.cell? ⟨wr.heap.size, 2, none⟩ = some (.bool cd) := cell_of hrow' rfl
                have k3 : W'.cell? ⟨wr.heap.size, 3, none⟩ = some (.string cv) := cell_of hrow' rfl
                have k5 : W'.cell? ⟨wr.heap.size, 5, none⟩ = some (.func (.func 56) #[] #[.pointer (some ⟨nb, 0, none⟩)]) := cell_of hrow' rfl
                have j0 : W'.cell? ⟨lc, 0, none⟩ = some (.string last.key) := cell_of hlc rfl
                have j1 : W'.cell? ⟨lc, 1, none⟩ = some (.int .u64 last.time) := cell_of hlc rfl
                have j2 : W'.cell? ⟨lc, 2, none⟩ = some (.bool last.del) := cell_of hlc rfl
                have j3 : W'.cell? ⟨lc, 3, none⟩ = some (.string last.val) := cell_of hlc rfl
                have i0 : W'.frozen? ⟨lc, 0, none⟩ = false := frozen_of hlc
                have i1 : W'.frozen? ⟨lc, 1, none⟩ = false := frozen_of hlc
                have i2 : W'.frozen? ⟨lc, 2, none⟩ = false := frozen_of hlc
                have i3 : W'.frozen? ⟨lc, 3, none⟩ = false := frozen_of hlc
                have HM := Lib.hid hmid
                clear hmid hw hc hs hj hlc hrow' HTO HKR HPR hR hy
                cases rest with
                | nil =>
                  obtain ⟨so', cap', hb', _⟩ := HM.out.rx.is
                  have NX := next_nil hb'
                  unfold zeroV at NX
                  clear hb'
                  gi_wp2_with fail
                  refine ⟨trivial, (callsIn_wide.2 NX).mono ?_⟩
                  rintro e w4 ⟨rfl, hb4⟩
                  have hb5 : RowKit.Below w4.heap.size w4 (w4.alloc (.cells #[.string ⟨#[]⟩, .int .u64 0, .bool false, .string ⟨#[]⟩] 24)) := (Below.refl _ w4).alloc (Nat.le_refl _) _
                  have hB5 := hb4.trans (hb5.mono hb4.size)
                  have PO := hpopall_any (HM.out.mg.below hB5).hx (by simpa using (by omega : T.length + 1 ≤ 1099511627776)) HM.out.heap (x := ⟨⟨ck, ct, cd, cv⟩, fr, nb⟩) rfl
                  have HB5 := Lib.hid hB5
                  clear hb4 hb5 hB5 NX
                  gi_wp2_with fail
                  refine ⟨trivial, (callsIn_wide.2 PO).mono ?_⟩
                  rintro e w6 ⟨⟨r, rfl⟩, v', H', p1, p2, p3, p4, p5⟩
                  obtain ⟨m, hm1, hm2⟩ := HM.out.popped HJ.out HB5.out p1 p2 p3 p4 p5 hn
                  clear p1 p2 p3 p4 p5 PO
                  gi_wp2
                  go_roundw
                  case rel => exact ⟨false, m, rfl, Lib.hid hm2⟩
                  case measure => exact Nat.lt_of_le_of_lt (leastN_le ⟨false, rfl, hm2⟩) (Nat.lt_of_lt_of_le hm1 hlow2)
                | cons c2 rest =>
                  obtain ⟨g', o', cap', hb', hg', e0, e1, e2, e3, hcap, hcm, hpost⟩ := HM.out.rx.tail (w' := wr)
                  have NX := next_cons hb' hg' e0 e1 e2 e3 hcap hcm
                  have HPO := Lib.hid hpost
                  clear hb' hg' e0 e1 e2 e3 hcap hcm hpost
                  obtain ⟨dk, dt, dd, dv⟩ := c2
                  simp only [cellV] at NX
                  gi_wp2_with fail
                  refine ⟨trivial, (callsIn_wide.2 NX).mono ?_⟩
                  rintro e w4 ⟨rfl, n1, n2⟩
                  have hx4 := HM.out.asked n2
                  have hr5 := HPO.out w4 n1 n2
                  obtain ⟨g4, cap4, e4, hg4, y0, y1, y2, y3, y4, y5⟩ := hx4.has.cells (i := 0) rfl
                  cases e4
                  simp only [Nat.zero_mul, Nat.zero_add] at y0 y1 y2 y3
                  have d4 : w4.cell? ⟨W.heap.size, 0, none⟩ = some (.slice (some ⟨g, 0, none⟩) (T.length + 1) cap) := cell_of hx4.blk rfl
                  have hf4 : ∀ q, w4.frozen? ⟨g, q, none⟩ = false := fun q => by
                    rcases hx4.has.2 with ⟨e, _⟩ | ⟨g2, c2, cur, e, hh, _⟩
                    · cases e
                    · cases e; exact frozen_of hh
                  have z0 := hf4 0
                  have z1 := hf4 1
                  have z2 := hf4 2
                  have z3 := hf4 3
                  have hbl4 := hx4.lt
                  have hB4 := set4_HB hx4.has ⟨dk, dt, dd, dv⟩
                  have hc4 := (set4_chg (F := fun i => (Value.slice (some ⟨g, 0, none⟩) (T.length + 1) cap).ownBlock = some i) (w := w4) (g := g) (Chg.refl _ _) rfl ⟨dk, dt, dd, dv⟩).alloc (.cells #[.string dk, .int .u64 dt, .bool dd, .string dv] 24)
                  simp only at hB4 hc4
                  have hB5 : HB _ _ _ := sl.stay hB4 (fun i hi => Below.heap_alloc _ (.cells #[.string dk, .int .u64 dt, .bool dd, .string dv] 24) _ (sl.lt hB4 hi))
                  have LD := HM.out.laid hr5 n2 hB5 hc4
                  have FX := fix_any LD.1.hx (by simpa using (by omega : T.length + 1 ≤ 1099511627776)) LD.2
                  have HFI := Lib.hid (fun w6 H' => HM.out.fixed (w5 := w6) (H' := H') HJ.out n2 hc4 LD.1)
                  clear hx4 hr5 hf4 hB4 hB5 hc4 LD n1 n2 NX HPO
                  gi_wp2_with fail
                  refine ⟨trivial, (callsIn_wide.2 FX).mono ?_⟩
                  rintro e w6 ⟨rfl, H', p1, p2, p3, p4⟩
                  obtain ⟨m, hm1, hm2⟩ := HFI.out w6 H' p1 p2 p3 p4 hn
                  clear p1 p2 p3 p4 FX y0 y1 y2 y3 z0 z1 z2 z3 d4
                  gi_wp2
                  go_roundw
                  case rel => exact ⟨false, m, rfl, Lib.hid hm2⟩
                  case measure => exact Nat.lt_of_le_of_lt (leastN_le ⟨false, rfl, hm2⟩) (Nat.lt_of_lt_of_le hm1 hlow2)
              · have HQ := Lib.hid hj
                clear hw hc hs hj HTO HKR hR hy
                gi_wp2
                refine bodyPost_ret (results_none rfl _ _ _) rfl ?_
                exact ⟨⟨_, rfl⟩, .inr ⟨_, F', HPR.out, HQ.out⟩⟩
end Go.Proofs.Ytnhookblhckmlaa
