/- Walks: the document's seen: a commit's time of a predicate. Printed by genR8.py. -/
import Derived.Test.YtgmmglmokkcgeaaGreatR7
import Derived.Deep.RegionWith
namespace Go.Proofs.YtgmmglmokkcgeaaGreat
set_option linter.unusedVariables false
set_option linter.unusedSimpArgs false
set_option linter.unusedSectionVars false
open Go.RowKit Mk Go.Sort

theorem seenF_drop {K : Type} [DecidableEq K] (lt : K → K → Bool) (x : K) (T : Nat) {C : List (K × List Nat)} {j : Nat} (hj : j < C.length) (O : List (K × List Nat)) (d : Bool) : seenF lt x T O d (C.drop j) = if (!d && !lt C[j].1 x) = true then (if C[j].1 = x then seenF lt x T (O ++ [(x, C[j].2 ++ [T])]) true (C.drop (j + 1)) else seenF lt x T (O ++ [(x, [T])] ++ [C[j]]) true (C.drop (j + 1))) else seenF lt x T (O ++ [C[j]]) d (C.drop (j + 1)) := by
  rw [List.drop_eq_getElem_cons hj]
  rfl
/-- As wpList_out; what it leaves. -/
theorem wpList_out2 {α : Type} {wr : World} {W0 : World} {e size bytes : Nat} {enc : α → List Value} {O : List α} {ops : Array Oper} {rest : List Oper} {o : Oper} {a : Act} {Q : Exit → Act → World → Prop} (hgd : o.guard = none) (s x : Operand) (t : TypeId)
    (ho : o.op = .call { callee := .builtin .append, args := #[s, x], argTypes := #[t, t] }) (ht : Tryz.prog.underlying t = some (.slice e)) (hE : El e size bytes) (hsz : 0 < size)
    (oo : Option Addr) (oc : Nat) (HO : Hid (Out W0 e size enc O (.slice oo O.length oc) wr)) (hs : a.eval s = .slice oo O.length oc) (p : α) (hp : (enc p).length = size)
    (hx : a.eval x = .slice (some ⟨wr.heap.size, 0, none⟩) 1 1) (h1 : ∀ u ∈ enc p, u.oneCell' = true) (h63 : O.length + 1 ≤ maxLen) (hb : (O.length + 1) * bytes ≤ 140737488355328)
    (h : ∀ o' c' w', Hid (Out W0 e size enc (O ++ [p]) (.slice o' (O.length + 1) c') w') → Hid (Chg (fun g => (Value.slice oo O.length oc).ownBlock = some g) wr w') → wpList Tryz.prog ops Q rest (a.put o.dst (.slice o' (O.length + 1) c')) w') :
    wpList Tryz.prog ops Q (o :: rest) a (wr.alloc (.cells (enc p).toArray e)) := by
  obtain ⟨i, z, hi, hz, hsi, hby, hzs⟩ := hE.has
  refine wpList_append_sl hgd s x t ho e i z size bytes ht hi hz hsi hby hzs hsz (.slice oo O.length oc) O.length (O.flatMap enc) hs (HO.out.row _) (some ⟨wr.heap.size, 0, none⟩) 1 1 (enc p) hx (by rw [Nat.one_mul]; exact hp) (fun _ => ⟨_, rfl, cells_new⟩) (fun h => absurd h (by decide)) h1 h63 hb ?_
  intro v' w' hs' hg ha
  obtain ⟨⟨o', c', rfl⟩, hn⟩ := HO.out.step hs' hg ha
  exact h o' c' w' (Lib.hid hn) (Lib.hid (((Chg.refl _ wr).alloc _).grown hg (fun i hi => Or.inl hi)))
abbrev CL := (ByteArray × List Nat) × Value
def innOk (w : World) (p : CL) : Prop := sl w 24 1 p.2 p.1.2.length (timesV p.1.2)
theorem innOk.stay {w w' : World} {p : CL} (h : innOk w p) (hb : ∀ g, p.2.ownBlock = some g → w'.heap[g]? = w.heap[g]?) : innOk w' p := sl.stay h hb
theorem innOk.same {w w' : World} {p : CL} (h : innOk w p) (c : Chg (fun _ => False) w w') : innOk w' p := h.stay (fun g hg => c.block g (sl.lt h hg) (fun f => f))
theorem innOk.past {w w' : World} {p : CL} {v : Value} {n : Nat} {xs : List Value} {e size : Nat} (h : innOk w p) (hv : sl w e size v n xs) (he : e ≠ 24) (c : Chg (fun g => v.ownBlock = some g) w w') : innOk w' p :=
  h.stay (fun g hg => c.block g (sl.lt h hg) (fun e2 => by
    obtain ⟨c1, h1⟩ := sl_typ h hg
    obtain ⟨c2, h2⟩ := sl_typ hv e2
    exact typ_ne h2 h1 he rfl))
/-- What seen has laid. -/
structure SnAt (w : World) (F : Nat → Prop) (O : List CL) (ov : Value) (wr : World) : Prop where
  out : Out w 145 2 cE O ov wr
  inn : ∀ p ∈ O, innOk wr p
  own : ∀ p ∈ O, ∀ g, p.2.ownBlock = some g → F g ∨ w.heap.size ≤ g
theorem SnAt.same {w wr w' : World} {F : Nat → Prop} {O : List CL} {ov : Value} (h : SnAt w F O ov wr) (c : Chg (fun _ => False) wr w') : SnAt w F O ov w' := ⟨h.out.same c, fun p hp => (h.inn p hp).same c, h.own⟩
theorem SnAt.add {w wr w1 w2 : World} {F : Nat → Prop} {O : List CL} {ov ov' : Value} {p : CL} (h : SnAt w F O ov wr) (c1 : Chg (fun _ => False) wr w1) (hp : innOk w1 p) (hown : ∀ g, p.2.ownBlock = some g → F g ∨ w.heap.size ≤ g)
    (ho : Out w 145 2 cE (O ++ [p]) ov' w2) (c2 : Chg (fun g => ov.ownBlock = some g) w1 w2) : SnAt w F (O ++ [p]) ov' w2 := by
  have hv := (h.out.same c1).has
  refine ⟨ho, fun q hq => ?_, fun q hq => ?_⟩
  · rcases List.mem_append.1 hq with hq | hq
    · exact ((h.inn q hq).same c1).past hv (by decide) c2
    · simp only [List.mem_singleton] at hq; subst hq; exact hp.past hv (by decide) c2
  · rcases List.mem_append.1 hq with hq | hq
    · exact h.own q hq
    · simp only [List.mem_singleton] at hq; subst hq; exact hown
theorem inn_news {w : World} {io : Option Addr} {ic : Nat} {k : ByteArray} {l : List Nat} (h : innOk w ((k, l), .slice io l.length ic)) : (0 < l.length → ∃ a, io = some a ∧ ∀ j u, (timesV l)[j]? = some u → w.cell? (a.add j) = some u) ∧ (l.length = 0 → io = none → ic = 0) := by
  refine ⟨fun h0 => ?_, fun _ e => ?_⟩
  · rcases h.2 with ⟨e, h1⟩ | ⟨g, cap, cur, e, hh, _⟩
    · have : l.length = 0 := h1; omega
    · simp only [Value.slice.injEq] at e
      obtain ⟨rfl, -, rfl⟩ := e
      refine ⟨_, rfl, fun j u hj => ?_⟩
      obtain ⟨g', cap', e', hc⟩ := sl.cell h hj
      simp only [Value.slice.injEq, Option.some.injEq, Addr.mk.injEq, true_and, and_true] at e'
      obtain ⟨rfl, -⟩ := e'
      rw [Addr.add_mid, Nat.zero_add]
      exact hc
  · rcases h.2 with ⟨e', _⟩ | ⟨g, cap, cur, e', _⟩
    · simp only [Value.slice.injEq] at e'; exact e'.2.2
    · simp only [Value.slice.injEq] at e'; rw [e] at e'; cases e'.1
/-- The commits' box: its times are set. -/
theorem box_times {w u : World} {cb : Nat} {x : ByteArray} {v0 v : Value} (hb : u.heap[cb]? = some (.cells #[.string x, v0] 145)) : u.frozen? ⟨cb, 1, none⟩ = false ∧ u.cell? ⟨cb, 1, none⟩ = some v0 ∧ (u.setCell ⟨cb, 1, none⟩ v).heap[cb]? = some (.cells #[.string x, v] 145) ∧ (u.setCell ⟨cb, 1, none⟩ v).cell? ⟨cb, 0, none⟩ = some (.string x) ∧ (u.setCell ⟨cb, 1, none⟩ v).cell? ⟨cb, 1, none⟩ = some v := by
  have h := Mk.heap_setCell_same (i := 1) hb v
  exact ⟨frozen_of hb, cell_of hb rfl, h, cell_of h rfl, cell_of h rfl⟩
theorem setCell_chg {w u : World} {cb i : Nat} {v : Value} (c : Chg (fun _ => False) w u) (h : w.heap.size ≤ cb) : Chg (fun _ => False) w (u.setCell ⟨cb, i, none⟩ v) := c.setCell (a := ⟨cb, i, none⟩) (Or.inr h) v
section
variable {w w' : World} {b : Nat} {R : RV} {F G : Nat → Prop} {r : RM}
set_option maxRecDepth 100000 in
set_option maxHeartbeats 8000000 in
theorem rseen_any (h : RRep w b R F r) (x : ByteArray) (T : Nat) (hs : Ris lessB r.c) (hL : r.c.length ≤ 1000000) (hT : ∀ p ∈ r.c, p.2.length ≤ 1000000) :
    Calls Tryz.prog 103 #[.pointer (some ⟨b, 0, none⟩), .string x, .int .u64 (T : Nat)] w fun e w' => e = .returned (.tuple #[]) ∧ RTo w b F { r with c := lay lessB x ((lk r.c x).getD [] ++ [T]) r.c } w' := by
  have H := Lib.hid h
  obtain ⟨vo, vc, hvv⟩ := sl_shape h.c
  obtain ⟨Z, hZ⟩ : ∃ Z, lay lessB x ((lk r.c x).getD [] ++ [T]) r.c = Z := ⟨_, rfl⟩
  have hcl := h.cl
  have HZ := Lib.hid (show seenF lessB x T (List.map (fun p : CL => p.1) []) false (R.cl.map (·.1)) = Z by rw [hcl, ← hZ]; have := seenF_eq lessB_ord x T r.c [] hs; simpa using this)
  have HTT := Lib.hid (show ∀ p ∈ R.cl, p.1.2.length ≤ 1000000 from fun p hp => hT _ (by rw [← hcl]; exact List.mem_map_of_mem hp))
  rw [hZ]
  obtain ⟨n, hn'⟩ : ∃ n, R.cl.length = n := ⟨_, rfl⟩
  have HNN := Lib.hid hn'
  have HVV := Lib.hid hvv
  have HLN := Lib.hid (show n ≤ 1000000 by rw [← hn', h.cl_len]; exact hL)
  have HO0 := Lib.hid (show SnAt w F [] (.slice none 0 0) w from ⟨Out.nil w 145 2 cE, by simp, by simp⟩)
  have c20 : w.cell? ⟨b, 6, none⟩ = some (.slice vo n vc) := by rw [← hn', ← hvv]; exact cell_of h.box rfl
  obtain ⟨i24, z24, hi24, hz24, hsi24, hby24, hzs24⟩ := el24.has
  clear h hn' hvv hs hL hT hZ hcl
  go_enter Tryz.func103, Tryz.ntmps103
  go_wp2_with fail
  go_loopw [6, 7, 8] (fun s6 s7 s8 wr => ∃ (j : Nat) (O : List CL) (oo : Option Addr) (oc : Nat) (dn : Bool), s6 = .slice oo O.length oc ∧ s7 = .bool dn ∧ s8 = .int .i64 j ∧ j ≤ n ∧ O.length ≤ 2 * j ∧ Hid (seenF lessB x T (O.map (·.1)) dn ((R.cl.map (·.1)).drop j) = Z) ∧ Hid (SnAt w F O (.slice oo O.length oc) wr)) (fun _ _ s8 _ => n - (intOf s8).toNat)
  case atStart => exact ⟨0, [], none, 0, false, rfl, rfl, rfl, Nat.zero_le _, Nat.le_refl _, HZ, HO0⟩
  case round =>
    obtain ⟨j, O, oo, oc, dn, rfl, rfl, rfl, hj, hOl, HK, HO⟩ := hrel
    clear HO0 c20
    have hr := H.out.same HO.out.out.chg
    have c2 : wr.cell? ⟨b, 6, none⟩ = some (.slice vo n vc) := by have := cell_of hr.box (i := 6) (v := R.c) rfl; rw [HVV.out, HNN.out] at this; exact this
    have hln := HLN.out
    have HBB := Lib.hid (out_bounds (B := 40) (show O.length ≤ 2 * j + 1 by omega) hj hln (by decide))
    by_cases hjn : j < n
    · have q1 : decide ((j : Int) < (n : Int)) = true := by simp; omega
      have hjC : j < R.cl.length := by rw [HNN.out]; exact hjn
      obtain ⟨g, cap, hv, hg, d0, d1⟩ := hr.c_at hjC
      rw [HVV.out, HNN.out] at hv
      injection hv with hv1 hv2 hv3
      subst hv1 hv3
      have hstep := seenF_drop lessB x T (C := R.cl.map (·.1)) (j := j) (by simpa using hjC) (O.map (·.1)) dn
      rw [HK.out, List.getElem_map] at hstep
      have hin : innOk wr R.cl[j] := hr.inn _ (List.getElem_mem hjC)
      have hfi := hr.fi _ (List.getElem_mem hjC)
      have htt := HTT.out _ (List.getElem_mem hjC)
      generalize R.cl[j] = p at *
      obtain ⟨⟨k, l⟩, iv⟩ := p
      obtain ⟨io, ic, hiv⟩ := sl_shape hin
      simp only at hiv
      subst hiv
      simp only at d0 d1 hstep hfi htt
      have l0 : (0 : Int) ≤ j := by omega
      have l1 : (j : Int) < n := by omega
      have HIN := Lib.hid hin
      have HFI := Lib.hid hfi
      have HTL := Lib.hid htt
      have HBG := Lib.hid (show b < w.heap.size ∧ g < w.heap.size from ⟨H.out.lt, by have := H.out.c.lt (g := g) (by rw [HVV.out]; rfl); exact this⟩)
      have HWS := Lib.hid HO.out.out.chg.size
      have HFC := Lib.hid (fun (u : World) (c : Chg (fun g => (Value.slice oo O.length oc).ownBlock = some g) wr u) => show u.cell? ⟨b, 6, none⟩ = some (.slice (some ⟨g, 0, none⟩) n vc) ∧ u.cell? ⟨g, j * 2, none⟩ = some (.string k) ∧ u.cell? ⟨g, j * 2 + 1, none⟩ = some (.slice io l.length ic) from by
        have e1 := c.block b (Nat.lt_of_lt_of_le HBG.out.1 HWS.out) (fun e => by have := HO.out.out.own _ e; have := HBG.out.1; omega)
        have e2 := c.block g (Nat.lt_of_lt_of_le HBG.out.2 HWS.out) (fun e => by have := HO.out.out.own _ e; have := HBG.out.2; omega)
        exact ⟨(World.cell?_of_block (a := ⟨b, 6, none⟩) e1).trans c2, (World.cell?_of_block (a := ⟨g, j * 2, none⟩) e2).trans d0, (World.cell?_of_block (a := ⟨g, j * 2 + 1, none⟩) e2).trans d1⟩)
      have HBC := Lib.hid (out_bounds (B := 40) (show O.length + 1 ≤ 2 * j + 1 by omega) hj hln (by decide))
      clear hr hv2 hg HK hin hfi htt
      cases dn
      · cases hlt : lessB k x
        · by_cases hk : k = x
          · have HS := Lib.hid (show Z = seenF lessB x T (O.map (·.1) ++ [(x, l ++ [T])]) true ((R.cl.map (·.1)).drop (j + 1)) from by rw [hstep, if_pos (by simp [hlt]), if_pos hk])
            have q4 : (k.toList == x.toList) = true := by rw [hk]; simp
            have q3 : Op.bytesLess k.toList x.toList = false := hlt
            obtain ⟨W1, HW1⟩ : ∃ W, Hid (wr.alloc (.cells #[.string x, .slice none 0 0] 145) = W) := ⟨_, Lib.hid rfl⟩
            obtain ⟨cb, HCB⟩ : ∃ k, Hid (wr.heap.size = k) := ⟨_, Lib.hid rfl⟩
            have K1 := Lib.hid (show Chg (fun _ => False) wr W1 by rw [← HW1.out]; exact (Chg.refl _ _).alloc _)
            have hb1 : W1.heap[cb]? = some (.cells #[.string x, .slice none 0 0] 145) := by rw [← HW1.out, ← HCB.out]; exact Go.heap_alloc_new _ _
            have HB1 := Lib.hid hb1
            clear hb1 hk hlt hstep
            go_upto_region 7 with fail
            rw [HW1.out, HCB.out]
            obtain ⟨c3, x0, x1⟩ := HFC.out _ (K1.out.mono (fun _ f => f.elim))
            clear c2 d0 d1
            have e1 : W1.cell? ⟨cb, 1, none⟩ = some (.slice none 0 0) := cell_of HB1.out rfl
            obtain ⟨n1, n2⟩ := inn_news (HIN.out.same K1.out)
            have HN1 := Lib.hid n1
            have HN2 := Lib.hid n2
            clear n1 n2
            have HLB := Lib.hid (show 0 + l.length ≤ maxLen ∧ (0 + l.length) * 8 ≤ 140737488355328 by have := HTL.out; simp only [maxLen]; omega)
            go_upto_region 8 with fail
            go_cut [] from 45 to 56 (fun wx => ∃ (o1 : Option Addr) (c1 : Nat), Hid (Chg (fun _ => False) wr wx) ∧ Hid (wx.heap[cb]? = some (.cells #[.string x, .slice o1 l.length c1] 145)) ∧ Hid (innOk wx ((x, l), .slice o1 l.length c1)) ∧ Hid (∀ g', (Value.slice o1 l.length c1).ownBlock = some g' → wr.heap.size ≤ g'))
            case first => as_aux_lemma =>
              go_region_law (refine step_append_sl (by rfl) _ _ 82 (by rfl) 24 i24 z24 1 8 Tryz.underlying82 hi24 hz24 hsi24 hby24 hzs24 (by decide) (.slice none 0 0) 0 [] (by rfl) (sl_nil _ _ _) io l.length ic (timesV l) (by rfl) (by simp [timesV]) HN1.out HN2.out (by simp [timesV, nV, Value.oneCell']) HLB.out.1 HLB.out.2 ?_; intro v1 w5 hs hg ha; rw [Nat.zero_add, List.nil_append] at hs; have c5 : Chg (fun _ => False) W1 w5 := ((Chg.refl _ W1).drew).grown hg (fun i hi => by simp [Value.ownBlock] at hi); have hb5 := (c5.block cb (Array.getElem?_eq_some_iff.1 HB1.out).1 (fun f => f)).trans HB1.out; obtain ⟨y0, y1, y2, y3, y4⟩ := box_times (w := wr) (v := v1) hb5; have C5 := Lib.hid c5; have HB5 := Lib.hid y2; have HS5 := Lib.hid hs; have HA5 := Lib.hid ha; clear c5 hb5 hg ha y2 y3 y4; obtain ⟨o1, c1, rfl⟩ := sl_shape hs; clear hs)
              all_goals
                have K6 : Chg (fun _ => False) wr (w5.setCell ⟨cb, 1, none⟩ (.slice o1 l.length c1)) := setCell_chg (K1.out.trans C5.out) (by rw [HCB.out]; exact Nat.le_refl _)
                have HI6 : innOk (w5.setCell ⟨cb, 1, none⟩ (.slice o1 l.length c1)) ((x, l), .slice o1 l.length c1) := sl.stay HS5.out (fun g' e => Below.heap_setCell _ _ _ _ (fun e2 => by obtain ⟨c, hc⟩ := sl_typ HS5.out e; have hcb := (C5.out.block cb (Array.getElem?_eq_some_iff.1 HB1.out).1 (fun f => f)).trans HB1.out; exact typ_ne hc hcb (by decide) e2))
                have HV6 : ∀ g', (Value.slice o1 l.length c1).ownBlock = some g' → wr.heap.size ≤ g' := fun g' e => by
                  rcases HA5.out with e2 | e2 <;> rw [e] at e2
                  · simp [Value.ownBlock] at e2
                  · have h1 : g' = W1.heap.size := Option.some.inj e2
                    have h2 := K1.out.size
                    omega
                have K6 := Lib.hid K6
                have HI6 := Lib.hid HI6
                have HV6 := Lib.hid HV6
                go_wp2_with fail
                go_meet
                case rel => exact ⟨o1, c1, K6, HB5, HI6, HV6⟩
            case rest =>
              obtain ⟨o1, c1, K6, HB5, HI6, HV6⟩ := hcut
              generalize wc = W6 at *
              have e0 : W6.cell? ⟨cb, 0, none⟩ = some (.string x) := cell_of HB5.out rfl
              have e1 : W6.cell? ⟨cb, 1, none⟩ = some (.slice o1 l.length c1) := cell_of HB5.out rfl
              obtain ⟨c4, x2, x3⟩ := HFC.out _ (K6.out.mono (fun _ f => f.elim))
              have HLC := Lib.hid (show l.length + 1 ≤ maxLen ∧ (l.length + 1) * 8 ≤ 140737488355328 by have := HTL.out; simp only [maxLen]; omega)
              have HSL := Lib.hid (show sl (W6.alloc (.cells #[.int .u64 (T : Nat)] 24)) 24 1 (.slice o1 l.length c1) l.length (timesV l) from HI6.out.stay (fun g hg => Below.heap_alloc _ _ _ (sl.lt HI6.out hg)))
              have HCN := Lib.hid (Mk.cell_new_one (Go.heap_alloc_new W6 (.cells #[.int .u64 (T : Nat)] 24)))
              go_upto_region 10 with (refine wpList_append_sl (by rfl) (.tmp 58) (.tmp 60) 82 (by rfl) 24 i24 z24 1 8 Tryz.underlying82 hi24 hz24 hsi24 hby24 hzs24 (by decide) (.slice o1 l.length c1) l.length (timesV l) (by rfl) HSL.out (some ⟨W6.heap.size, 0, none⟩) 1 1 [.int .u64 (T : Nat)] (by rfl) (by rfl) (fun _ => ⟨_, rfl, HCN.out⟩) (fun h => absurd h (by decide)) (by simp [Value.oneCell']) HLC.out.1 HLC.out.2 ?_; intro v2 w7 hs hg ha; have c7 : Chg (fun g => Value.ownBlock (.slice o1 l.length c1) = some g) W6 w7 := ((Chg.refl _ W6).alloc _).grown hg (fun i hi => Or.inl hi); have hb7 := (c7.block cb (Array.getElem?_eq_some_iff.1 HB5.out).1 (fun e => by obtain ⟨c, hc⟩ := sl_typ HI6.out e; exact typ_ne hc HB5.out (by decide) rfl)).trans HB5.out; obtain ⟨y0, y1, y2, y3, y4⟩ := box_times (w := wr) (v := v2) hb7; have C7 := Lib.hid c7; have HB7 := Lib.hid hb7; have HB8 := Lib.hid y2; have HS7 := Lib.hid hs; have HA7 := Lib.hid ha; have E3 := Lib.hid y3; have E4 := Lib.hid y4; clear c7 hb7 hg ha y2 y3 y4; obtain ⟨o2, c2, rfl⟩ := sl_shape hs; clear hs)
              obtain ⟨W8, HW8⟩ : ∃ W, Hid (w7.setCell ⟨cb, 1, none⟩ (.slice o2 (l.length + 1) c2) = W) := ⟨_, Lib.hid rfl⟩
              have K7 := Lib.hid (show Chg (fun _ => False) wr w7 from K6.out.trans' C7.out (fun i e => Or.inr (HV6.out i e)))
              have K8 := Lib.hid (show Chg (fun _ => False) wr W8 by rw [← HW8.out]; exact setCell_chg K7.out (by rw [HCB.out]; exact Nat.le_refl _))
              have HI8 := Lib.hid (show innOk W8 ((x, (l ++ [T])), .slice o2 (l.length + 1) c2) from by rw [← HW8.out]; have hs := HS7.out; exact sl.stay (show sl w7 24 1 (.slice o2 (l.length + 1) c2) ((l ++ [T])).length (timesV (l ++ [T])) from by simpa [timesV, nV] using hs) (fun g' e => Below.heap_setCell _ _ _ _ (fun e2 => by obtain ⟨c, hc⟩ := sl_typ HS7.out e; exact typ_ne hc HB7.out (by decide) e2)))
              have HV8 := Lib.hid (show ∀ g', (Value.slice o2 (l.length + 1) c2).ownBlock = some g' → F g' ∨ w.heap.size ≤ g' from fun g' e => by rcases HA7.out with e2 | e2 <;> rw [e] at e2; (exact Or.inr (Nat.le_trans HWS.out (HV6.out g' e2.symm))); (have := Option.some.inj e2; have := K6.out.size; have := HWS.out; simp at *; exact Or.inr (by omega)))
              rw [HW8.out] at HB8 E3 E4
              rw [HW8.out]
              have f0 := E3.out
              have f1 := E4.out
              obtain ⟨c5, x4, x5⟩ := HFC.out _ (K8.out.mono (fun _ f => f.elim))
              have HOU := Lib.hid (HO.out.out.same K8.out)
              go_upto_region 12 with (refine wpList_out2 (by rfl) (.tmp 63) (.tmp 65) 67 (by rfl) Tryz.underlying67 el145 (by decide) oo oc HOU (by rfl) ((x, (l ++ [T])), .slice o2 (l.length + 1) c2) (by rfl) (by rfl) (by simp [cE, Value.oneCell']) HBB.out.1 HBB.out.2 ?_; intro ao ac w9 HNa HCa)
              have HA := Lib.hid (HO.out.add K8.out HI8.out HV8.out HNa.out HCa.out)
              have K9 := Lib.hid ((K8.out.mono (G := fun g => (Value.slice oo O.length oc).ownBlock = some g) (fun _ f => f.elim)).trans HCa.out)
              obtain ⟨c6, x6, x7⟩ := HFC.out _ K9.out
              go_wp2_with fail
              go_roundw
              case rel => exact ⟨j + 1, O ++ [((x, (l ++ [T])), .slice o2 (l.length + 1) c2)], ao, ac, true, by simp, rfl, by go_num, by omega, by simp; omega, Lib.hid (by rw [HS.out, List.map_append]; rfl), by simpa using HA⟩
              case measure => simp [intOf]; omega
          · have HS := Lib.hid (show Z = seenF lessB x T (O.map (·.1) ++ [(x, [T])] ++ [(k, l)]) true ((R.cl.map (·.1)).drop (j + 1)) from by rw [hstep, if_pos (by simp [hlt]), if_neg hk])
            have q4 : (k.toList == x.toList) = false := by rw [beq_eq_false_iff_ne]; exact fun e => hk (bytes_inj e)
            have q3 : Op.bytesLess k.toList x.toList = false := hlt
            obtain ⟨W1, HW1⟩ : ∃ W, Hid (wr.alloc (.cells #[.string x, .slice none 0 0] 145) = W) := ⟨_, Lib.hid rfl⟩
            obtain ⟨cb, HCB⟩ : ∃ k, Hid (wr.heap.size = k) := ⟨_, Lib.hid rfl⟩
            have K1 := Lib.hid (show Chg (fun _ => False) wr W1 by rw [← HW1.out]; exact (Chg.refl _ _).alloc _)
            have hb1 : W1.heap[cb]? = some (.cells #[.string x, .slice none 0 0] 145) := by rw [← HW1.out, ← HCB.out]; exact Go.heap_alloc_new _ _
            have HB1 := Lib.hid hb1
            clear hb1 hk hlt hstep
            go_upto_region 7 with fail
            rw [HW1.out, HCB.out]
            obtain ⟨c3, x0, x1⟩ := HFC.out _ (K1.out.mono (fun _ f => f.elim))
            clear c2 d0 d1
            have e0 : W1.cell? ⟨cb, 0, none⟩ = some (.string x) := cell_of HB1.out rfl
            have e1 : W1.cell? ⟨cb, 1, none⟩ = some (.slice none 0 0) := cell_of HB1.out rfl
            have HLC := Lib.hid (show 0 + 1 ≤ maxLen ∧ (0 + 1) * 8 ≤ 140737488355328 by have := HTL.out; simp only [maxLen]; omega)
            have HSL := Lib.hid (show sl (W1.alloc (.cells #[.int .u64 (T : Nat)] 24)) 24 1 (.slice none 0 0) 0 [] from sl_nil _ _ _)
            have HCN := Lib.hid (Mk.cell_new_one (Go.heap_alloc_new W1 (.cells #[.int .u64 (T : Nat)] 24)))
            go_upto_region 10 with (refine wpList_append_sl (by rfl) (.tmp 58) (.tmp 60) 82 (by rfl) 24 i24 z24 1 8 Tryz.underlying82 hi24 hz24 hsi24 hby24 hzs24 (by decide) (.slice none 0 0) 0 [] (by rfl) HSL.out (some ⟨W1.heap.size, 0, none⟩) 1 1 [.int .u64 (T : Nat)] (by rfl) (by rfl) (fun _ => ⟨_, rfl, HCN.out⟩) (fun h => absurd h (by decide)) (by simp [Value.oneCell']) HLC.out.1 HLC.out.2 ?_; intro v2 w7 hs hg ha; have c7 : Chg (fun g => Value.ownBlock (.slice none 0 0) = some g) W1 w7 := ((Chg.refl _ W1).alloc _).grown hg (fun i hi => Or.inl hi); have hb7 := (c7.block cb (Array.getElem?_eq_some_iff.1 HB1.out).1 (fun e => by simp [Value.ownBlock] at e)).trans HB1.out; obtain ⟨y0, y1, y2, y3, y4⟩ := box_times (w := wr) (v := v2) hb7; have C7 := Lib.hid c7; have HB7 := Lib.hid hb7; have HB8 := Lib.hid y2; have HS7 := Lib.hid hs; have HA7 := Lib.hid ha; have E3 := Lib.hid y3; have E4 := Lib.hid y4; clear c7 hb7 hg ha y2 y3 y4; obtain ⟨o2, c2, rfl⟩ := sl_shape hs; clear hs)
            obtain ⟨W8, HW8⟩ : ∃ W, Hid (w7.setCell ⟨cb, 1, none⟩ (.slice o2 (0 + 1) c2) = W) := ⟨_, Lib.hid rfl⟩
            have K7 := Lib.hid (show Chg (fun _ => False) wr w7 from K1.out.trans' C7.out (fun i e => Or.inr (by simp [Value.ownBlock] at e)))
            have K8 := Lib.hid (show Chg (fun _ => False) wr W8 by rw [← HW8.out]; exact setCell_chg K7.out (by rw [HCB.out]; exact Nat.le_refl _))
            have HI8 := Lib.hid (show innOk W8 ((x, [T]), .slice o2 (0 + 1) c2) from by rw [← HW8.out]; have hs := HS7.out; exact sl.stay (show sl w7 24 1 (.slice o2 (0 + 1) c2) ([T]).length (timesV [T]) from by simpa [timesV, nV] using hs) (fun g' e => Below.heap_setCell _ _ _ _ (fun e2 => by obtain ⟨c, hc⟩ := sl_typ HS7.out e; exact typ_ne hc HB7.out (by decide) e2)))
            have HV8 := Lib.hid (show ∀ g', (Value.slice o2 (0 + 1) c2).ownBlock = some g' → F g' ∨ w.heap.size ≤ g' from fun g' e => by rcases HA7.out with e2 | e2 <;> rw [e] at e2; (simp [Value.ownBlock] at e2); (have := Option.some.inj e2; have := K1.out.size; have := HWS.out; simp at *; exact Or.inr (by omega)))
            rw [HW8.out] at HB8 E3 E4
            rw [HW8.out]
            have f0 := E3.out
            have f1 := E4.out
            obtain ⟨c5, x4, x5⟩ := HFC.out _ (K8.out.mono (fun _ f => f.elim))
            have HOU := Lib.hid (HO.out.out.same K8.out)
            go_upto_region 12 with (refine wpList_out2 (by rfl) (.tmp 63) (.tmp 65) 67 (by rfl) Tryz.underlying67 el145 (by decide) oo oc HOU (by rfl) ((x, [T]), .slice o2 (0 + 1) c2) (by rfl) (by rfl) (by simp [cE, Value.oneCell']) HBB.out.1 HBB.out.2 ?_; intro ao ac w9 HNa HCa)
            have HA := Lib.hid (HO.out.add K8.out HI8.out HV8.out HNa.out HCa.out)
            have K9 := Lib.hid ((K8.out.mono (G := fun g => (Value.slice oo O.length oc).ownBlock = some g) (fun _ f => f.elim)).trans HCa.out)
            obtain ⟨c6, x6, x7⟩ := HFC.out _ K9.out
            obtain ⟨O1, hO1⟩ : ∃ O1, Hid (O ++ [((x, [T]), Value.slice o2 (0 + 1) c2)] = O1) := ⟨_, Lib.hid rfl⟩
            have HLO := Lib.hid (show O1.length = O.length + 1 by rw [← hO1.out]; simp)
            rw [hO1.out, ← HLO.out] at HA
            rw [← HLO.out] at HBC
            rw [← HLO.out]
            have HOV := Lib.hid HA.out.out
            have HIN9 := Lib.hid ((HIN.out.same K8.out).past (HO.out.out.same K8.out).has (by decide) HCa.out)
            go_wp2_with (refine wpList_out2 (by rfl) (.tmp 77) (.tmp 85) 67 (by rfl) Tryz.underlying67 el145 (by decide) ao ac HOV (by rfl) ((k, l), .slice io l.length ic) (by rfl) (by rfl) (by simp [cE, Value.oneCell']) HBC.out.1 HBC.out.2 ?_; intro ro rc w6 HNr HCr)
            have HA2 := Lib.hid (HA.out.add (Chg.refl _ w9) HIN9.out (fun g e => Or.inl (HFI.out g e)) HNr.out HCr.out)
            have hlo := HLO.out
            go_roundw
            case rel => exact ⟨j + 1, O1 ++ [((k, l), Value.slice io l.length ic)], ro, rc, true, by simp, rfl, by go_num, by omega, by simp; omega, Lib.hid (by rw [HS.out, ← hO1.out]; simp), by simpa using HA2⟩
            case measure => simp [intOf]; omega
        · have q3 : Op.bytesLess k.toList x.toList = true := hlt
          have HS := Lib.hid (show Z = seenF lessB x T ((O ++ [((k, l), Value.slice io l.length ic)]).map (·.1)) false ((R.cl.map (·.1)).drop (j + 1)) from by rw [hstep, if_neg (by simp [hlt]), List.map_append]; rfl)
          clear hstep
          have HOU := Lib.hid HO.out.out
          go_wp2_with (refine wpList_out2 (by rfl) (.tmp 77) (.tmp 85) 67 (by rfl) Tryz.underlying67 el145 (by decide) oo oc HOU (by rfl) ((k, l), .slice io l.length ic) (by rfl) (by rfl) (by simp [cE, Value.oneCell']) HBB.out.1 HBB.out.2 ?_; intro ro rc w6 HNr HCr)
          have HA := Lib.hid (HO.out.add (Chg.refl _ wr) HIN.out (fun g e => Or.inl (HFI.out g e)) HNr.out HCr.out)
          go_roundw
          case rel => exact ⟨j + 1, O ++ [((k, l), Value.slice io l.length ic)], ro, rc, false, by simp, rfl, by go_num, by omega, by simp; omega, Lib.hid HS.out.symm, by simpa using HA⟩
          case measure => simp [intOf]; omega
      · have HS := Lib.hid (show Z = seenF lessB x T ((O ++ [((k, l), Value.slice io l.length ic)]).map (·.1)) true ((R.cl.map (·.1)).drop (j + 1)) from by rw [hstep, if_neg (by simp), List.map_append]; rfl)
        clear hstep
        have HOU := Lib.hid HO.out.out
        go_wp2_with (refine wpList_out2 (by rfl) (.tmp 77) (.tmp 85) 67 (by rfl) Tryz.underlying67 el145 (by decide) oo oc HOU (by rfl) ((k, l), .slice io l.length ic) (by rfl) (by rfl) (by simp [cE, Value.oneCell']) HBB.out.1 HBB.out.2 ?_; intro ro rc w6 HNr HCr)
        have HA := Lib.hid (HO.out.add (Chg.refl _ wr) HIN.out (fun g e => Or.inl (HFI.out g e)) HNr.out HCr.out)
        go_roundw
        case rel => exact ⟨j + 1, O ++ [((k, l), Value.slice io l.length ic)], ro, rc, true, by simp, rfl, by go_num, by omega, by simp; omega, Lib.hid HS.out.symm, by simpa using HA⟩
        case measure => simp [intOf]; omega
    · have q1 : decide ((j : Int) < (n : Int)) = false := by simp; omega
      have hend := HK.out
      rw [List.drop_eq_nil_of_le (by rw [List.length_map, HNN.out]; omega)] at hend
      have HE := Lib.hid (show cond dn (O.map (·.1)) (O.map (·.1) ++ [(x, [T])]) = Z from by rw [← hend]; cases dn <;> rfl)
      clear hr hend HK
      cases dn
      · obtain ⟨W1, HW1⟩ : ∃ W, Hid (wr.alloc (.cells #[.int .u64 (T : Nat)] 24) = W) := ⟨_, Lib.hid rfl⟩
        have K1 := Lib.hid (show Chg (fun _ => False) wr W1 by rw [← HW1.out]; exact (Chg.refl _ _).alloc _)
        have HI1 := Lib.hid (show innOk W1 ((x, [T]), .slice (some ⟨wr.heap.size, 0, none⟩) 1 1) from by
          rw [← HW1.out]
          exact ⟨rfl, Or.inr ⟨wr.heap.size, 1, #[.int .u64 (T : Nat)], rfl, Go.heap_alloc_new _ _, Nat.le_refl _, by decide, by simp, rfl⟩⟩)
        have HOU := Lib.hid (HO.out.out.same K1.out)
        have HWZ := Lib.hid (show W1.heap.size = wr.heap.size + 1 by rw [← HW1.out]; simp)
        have HV1 := Lib.hid (show ∀ g', (Value.slice (some ⟨wr.heap.size, 0, none⟩) 1 1).ownBlock = some g' → F g' ∨ w.heap.size ≤ g' from fun g' e => by simp [Value.ownBlock] at e; have := HO.out.out.chg.size; exact Or.inr (by omega))
        go_upto_region 16 with (rw [HW1.out]; refine wpList_out2 (by rfl) (.tmp 89) (.tmp 94) 67 (by rfl) Tryz.underlying67 el145 (by decide) oo oc HOU (by rfl) ((x, [T]), .slice (some ⟨wr.heap.size, 0, none⟩) 1 1) (by rfl) (by rw [HWZ.out]; rfl) (by simp [cE, Value.oneCell']) HBB.out.1 HBB.out.2 ?_; intro ao ac w9 HNa HCa)
        have HA := Lib.hid (HO.out.add K1.out HI1.out HV1.out HNa.out HCa.out)
        obtain ⟨y1, y0, y2⟩ := H.out.putC HA.out.out HA.out.inn HA.out.own
        have HY := Lib.hid y2
        rw [HVV.out, HNN.out] at y0
        clear y2 HWZ
        go_wp2_with fail
        go_end0
        refine ⟨rfl, ?_⟩
        have hz := HE.out
        simp only [cond_false] at hz
        rw [← hz]
        simpa using HY.out
      · obtain ⟨y1, y0, y2⟩ := H.out.putC HO.out.out HO.out.inn HO.out.own
        have HY := Lib.hid y2
        rw [HVV.out, HNN.out] at y0
        clear y2
        go_wp2_with fail
        go_end0
        refine ⟨rfl, ?_⟩
        have hz := HE.out
        simp only [cond_true] at hz
        rw [← hz]
        exact HY.out
end
end Go.Proofs.YtgmmglmokkcgeaaGreat
