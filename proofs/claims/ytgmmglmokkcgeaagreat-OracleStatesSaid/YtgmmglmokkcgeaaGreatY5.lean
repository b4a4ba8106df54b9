/- In Bytes: the state, the writer and its variable; what it writes. -/
import Derived.Test.YtgmmglmokkcgeaaGreatY1
import Derived.Test.YtgmmglmokkcgeaaGreatY3
import Derived.Deep.RegionHeld3
import Derived.Deep.Cut
namespace Go.Proofs.YtgmmglmokkcgeaaGreat
set_option linter.unusedVariables false
set_option linter.unusedSimpArgs false
set_option linter.unusedSectionVars false
open Go.RowKit Mk Go.Sort Go.Shelf

theorem num_len9 (x : Nat) : (Cod.num x).length ≤ 9 := num_size x
theorem str_text (L : List UInt8) (t : ByteArray) : str L ++ textB t = str (L ++ Cod.text t.data.toList) := (str_append L _).symm
theorem str_nums (L : List UInt8) (l : List Nat) : str L ++ numsB l = str (L ++ l.flatMap Cod.num) := (str_append L _).symm
/-- The state, the writer wb with these bytes, the variable vb that holds it. -/
structure BwAt (w : World) (b vb wb : Nat) (R : Loc) (F : Nat → Prop) (n : OM) (L : List UInt8) (W : World) : Prop where
  st : RawRep W b R F n
  wr : WrAt W wb (str L)
  var : W.heap[vb]? = some (.cells #[.pointer (some ⟨wb, 0, none⟩)] 92)
  chg : Chg (fun _ => False) w W
  new : w.heap.size ≤ wb
  fl : ∀ g, F g → g < w.heap.size
section
variable {w W W' : World} {b vb wb : Nat} {R : Loc} {F : Nat → Prop} {n : OM} {L : List UInt8}
theorem BwAt.same (h : BwAt w b vb wb R F n L W) (c : Chg (fun _ => False) W W') : BwAt w b vb wb R F n L W' :=
  ⟨h.st.same c, h.wr.stay c, (c.block vb (Array.getElem?_eq_some_iff.1 h.var).1 (fun f => f)).trans h.var, h.chg.trans c, h.new, h.fl⟩
theorem BwAt.next (h : BwAt w b vb wb R F n L W) {L' : List UInt8} (hw : WrAt W' wb (str L')) (c : Chg (fun g => g = wb) W W') : BwAt w b vb wb R F n L' W' := by
  have hne : vb ≠ wb := fun e => by have h1 := h.var; have h2 := h.wr; unfold WrAt at h2; rw [e, h2] at h1; simp at h1
  have hn := h.new
  exact ⟨h.st.stay c (fun i f e => by have := h.fl i f; omega), hw, (c.block vb (Array.getElem?_eq_some_iff.1 h.var).1 hne).trans h.var, h.chg.trans' c (fun i e => Or.inr (by omega)), h.new, h.fl⟩
theorem BwAt.text (h : BwAt w b vb wb R F n L W) (t : ByteArray) (hL : L.length ≤ 1099511627776) (ht : t.size ≤ 1099511627776) : Calls Tryz.prog 47 #[.pointer (some ⟨wb, 0, none⟩), .string t] W fun e W' => e = .returned (.tuple #[]) ∧ BwAt w b vb wb R F n (L ++ Cod.text t.data.toList) W' := by
  refine (wtext_any h.wr t hL ht).mono ?_
  rintro e W' ⟨rfl, h1, h2⟩
  rw [str_text] at h1
  exact ⟨rfl, h.next h1 h2⟩
theorem BwAt.row (h : BwAt w b vb wb R F n L W) {o : Option Addr} {c : Nat} {xs : List Nat} (hN : NumsAt W (.slice o xs.length c) xs) (hn : xs.length ≤ 17179869184) (hx : ∀ x ∈ xs, x < 18446744073709551616) (hL : L.length ≤ 1099511627776) :
    Calls Tryz.prog 42 #[.pointer (some ⟨wb, 0, none⟩), .slice o xs.length c] W fun e W' => e = .returned (.tuple #[]) ∧ BwAt w b vb wb R F n (L ++ xs.flatMap Cod.num) W' := by
  refine (wnum_any h.wr hN hx hL hn).mono ?_
  rintro e W' ⟨rfl, h1, h2⟩
  rw [str_nums] at h1
  exact ⟨rfl, h.next h1 h2⟩
theorem BwAt.nums (h : BwAt w b vb wb R F n L W) {g : Nat} (xs : List Nat) (c : Chg (fun _ => False) W W') (hg : W'.heap[g]? = some (.cells (xs.map fun x => Value.int .u64 (x : Nat)).toArray 24)) (hn : xs.length ≤ 4) (hx : ∀ x ∈ xs, x < 18446744073709551616) (hL : L.length ≤ 1099511627776) :
    Calls Tryz.prog 42 #[.pointer (some ⟨wb, 0, none⟩), .slice (some ⟨g, 0, none⟩) xs.length xs.length] W' fun e W' => e = .returned (.tuple #[]) ∧ BwAt w b vb wb R F n (L ++ xs.flatMap Cod.num) W' :=
  (h.same c).row ⟨by simp, Or.inr ⟨g, xs.length, _, rfl, hg, Nat.le_refl _, by simp only [maxLen]; omega, by simp, by simp only [List.toList_toArray, Nat.mul_one]; exact List.take_of_length_le (by simp)⟩⟩ (by omega) hx hL
theorem BwAt.num1 (h : BwAt w b vb wb R F n L W) {g : Nat} (x : Nat) (c : Chg (fun _ => False) W W') (hg : W'.heap[g]? = some (.cells #[.int .u64 (x : Nat)] 24)) (hx : x < 18446744073709551616) (hL : L.length ≤ 1099511627776) :
    Calls Tryz.prog 42 #[.pointer (some ⟨wb, 0, none⟩), .slice (some ⟨g, 0, none⟩) 1 1] W' fun e W' => e = .returned (.tuple #[]) ∧ BwAt w b vb wb R F n (L ++ Cod.num x) W' := by
  have := h.nums [x] c hg (by simp) (by simpa using hx) hL
  simpa using this
theorem BwAt.num2 (h : BwAt w b vb wb R F n L W) {g : Nat} (x y : Nat) (c : Chg (fun _ => False) W W') (hg : W'.heap[g]? = some (.cells #[.int .u64 (x : Nat), .int .u64 (y : Nat)] 24)) (hx : x < 18446744073709551616) (hy : y < 18446744073709551616) (hL : L.length ≤ 1099511627776) :
    Calls Tryz.prog 42 #[.pointer (some ⟨wb, 0, none⟩), .slice (some ⟨g, 0, none⟩) 2 2] W' fun e W' => e = .returned (.tuple #[]) ∧ BwAt w b vb wb R F n (L ++ (Cod.num x ++ Cod.num y)) W' := by
  have := h.nums [x, y] c hg (by simp) (by intro z hz; simp at hz; rcases hz with rfl | rfl; exact hx; exact hy) hL
  simpa using this
theorem BwAt.num4 (h : BwAt w b vb wb R F n L W) {g : Nat} (x y z u : Nat) (c : Chg (fun _ => False) W W') (hg : W'.heap[g]? = some (.cells #[.int .u64 (x : Nat), .int .u64 (y : Nat), .int .u64 (z : Nat), .int .u64 (u : Nat)] 24)) (hx : x < 18446744073709551616) (hy : y < 18446744073709551616) (hz : z < 18446744073709551616) (hu : u < 18446744073709551616) (hL : L.length ≤ 1099511627776) :
    Calls Tryz.prog 42 #[.pointer (some ⟨wb, 0, none⟩), .slice (some ⟨g, 0, none⟩) 4 4] W' fun e W' => e = .returned (.tuple #[]) ∧ BwAt w b vb wb R F n (L ++ (Cod.num x ++ (Cod.num y ++ (Cod.num z ++ Cod.num u)))) W' := by
  have := h.nums [x, y, z, u] c hg (by simp) (by intro q hq; simp at hq; rcases hq with rfl | rfl | rfl | rfl <;> assumption) hL
  simpa using this
theorem RawRep.c0 (h : RawRep W b R F n) : W.cell? ⟨b, 0, none⟩ = some (.bool true) := cell_of h.box rfl
theorem RawRep.c1 (h : RawRep W b R F n) : W.cell? ⟨b, 1, none⟩ = some (.int .u64 (n.time : Nat)) := cell_of h.box rfl
theorem RawRep.c2 (h : RawRep W b R F n) : W.cell? ⟨b, 2, none⟩ = some (.int .u64 (n.uid : Nat)) := cell_of h.box rfl
theorem RawRep.c3 (h : RawRep W b R F n) : W.cell? ⟨b, 3, none⟩ = some (.int .u64 (n.mark : Nat)) := cell_of h.box rfl
theorem RawRep.c4 (h : RawRep W b R F n) : W.cell? ⟨b, 4, none⟩ = some (.map (some R.d)) := cell_of h.box rfl
theorem RawRep.c5 (h : RawRep W b R F n) : W.cell? ⟨b, 5, none⟩ = some (.map (some R.l)) := cell_of h.box rfl
theorem RawRep.c6 (h : RawRep W b R F n) : W.cell? ⟨b, 6, none⟩ = some (.map (some R.t)) := cell_of h.box rfl
theorem RawRep.c7 (h : RawRep W b R F n) : W.cell? ⟨b, 7, none⟩ = some (.map (some R.c)) := cell_of h.box rfl
theorem rnone_any (h : RawRep W b R F n) : Calls Tryz.prog 29 #[.pointer (some ⟨b, 0, none⟩)] W fun e w' => e = .returned (.bool false) ∧ w' = W := by
  have c0 := h.c0
  clear h
  go_enter Tryz.func29, Tryz.ntmps29
  go_wp2
  go_ret
  exact ⟨rfl, rfl⟩
theorem RawRep.lookD (h : RawRep W b R F n) {x : Nat} (hx : x < 18446744073709551616) : (Instr.lookup 31 (.map (some R.d)) (.int .u64 (x : Nat)) false).run Tryz.prog W = .ok (.int .u64 (((lk n.dec x).getD 0 : Nat) : Int)) W := by
  have := run_lookup keysU Tryz.underlying31 (z := .int .u64 0) (w := W) (by simp [go_sem]) h.dec (x := x) hx false
  rw [nv, lk_map] at this
  simp only [kvU] at this
  rw [this]
  cases lk n.dec x <;> simp [nV]
theorem RawRep.lookL (h : RawRep W b R F n) {x : ByteArray} (hx : x.size ≤ maxLen) : (Instr.lookup 32 (.map (some R.l)) (.string x) false).run Tryz.prog W = .ok (.int .u64 (((lk n.las x).getD 0 : Nat) : Int)) W := by
  have := run_lookup keysS Tryz.underlying32 (z := .int .u64 0) (w := W) (by simp [go_sem]) h.las (x := x) hx false
  rw [nv, lk_map] at this
  simp only [kvS] at this
  rw [this]
  cases lk n.las x <;> simp [nV]
theorem RawRep.lookC (h : RawRep W b R F n) {x : ByteArray} (hx : x.size ≤ maxLen) : ∃ o c, (Instr.lookup 34 (.map (some R.c)) (.string x) false).run Tryz.prog W = .ok (.slice o (n.com x).length c) W ∧ NumsAt W (.slice o (n.com x).length c) (n.com x) := by
  have := run_lookup keysS Tryz.underlying34 (z := .slice none 0 0) (w := W) (by simp [go_sem]) h.com (x := x) hx false
  simp only [kvS] at this
  cases hl : lk R.rows x with
  | none =>
    rw [hl] at this
    refine ⟨none, 0, ?_, ?_⟩
    · rw [this, h.gone x hl]; rfl
    · rw [h.gone x hl]; exact sl_nil _ _ _
  | some v =>
    rw [hl] at this
    have hr := h.rows _ (lk_mem hl)
    obtain ⟨o, c, e⟩ := sl_shape hr
    simp only at e
    subst e
    exact ⟨o, c, this, hr⟩
end
end Go.Proofs.YtgmmglmokkcgeaaGreat
/- Walks: what Tablets hands over, of any state in memory; the sorted keys of its maps. Printed by genY5.py (off T3 and T2). -/
namespace Go.Proofs.YtgmmglmokkcgeaaGreat
set_option linter.unusedVariables false
set_option linter.unusedSimpArgs false
set_option linter.unusedSectionVars false
open Go.RowKit Mk Go.Sort Go.Shelf
attribute [local go_sem] Oper.semAt_some

set_option maxRecDepth 100000 in
set_option maxHeartbeats 2000000 in
theorem rtabs_seq {w : World} {b kb : Nat} {R : Loc} {F : Nat → Prop} {n : OM} (h : RawRep w b R F n) (hL : n.tab.length ≤ 1099511627776) (hkb : w.heap[kb]? = some (.cells #[.pointer (some ⟨b, 0, none⟩)] 30)) :
    SeqF Tryz.prog 49 #[.pointer (some ⟨kb, 0, none⟩)] (fun t : Tb => #[tbV t]) (fun pre => pre <+: tabsM n.tab) (fun xs => xs = tabsM n.tab) (fun g => g = kb ∨ F g) w := by
  intro l J Jx W F0 hsz hR hF0 hJ hJx hY h0
  have hor : RawRep W b R F n := h.moved (fun g hg => hR g (Or.inr hg))
  have hk := (hR kb (Or.inl rfl)).trans hkb
  have q0 : W.cell? ⟨kb, 0, none⟩ = some (.pointer (some ⟨b, 0, none⟩)) := cell_of hk rfl
  have d0 := hor.c6
  have NN := Lib.hid (rnone_any hor)
  have CT := Lib.hid (cloneT hor.tab)
  have e1 : (tv n.tab).map (·.1) = n.tab.map (·.1) := by simp [tv]
  have hL2 : (tv n.tab).length ≤ 1099511627776 := by simpa [tv] using hL
  have SO := fun (u : World) (r : Nat) (hm : mapAt okS kvS u r (tv n.tab)) => sorted50_any hm hL2
  rw [e1] at SO
  have hNk : ∀ x ∈ sortN (n.tab.map (·.1)), okS x := fun x hx => by
    have hx2 := (sortN_perm _).mem_iff.1 hx
    obtain ⟨p, hp, rfl⟩ := List.mem_map.1 hx2
    obtain ⟨_, _, _, E⟩ := hor.tab
    exact E.ok (p.1, tbV p.2) (List.mem_map.2 ⟨p, hp, rfl⟩)
  have hNl : (sortN (n.tab.map (·.1))).length ≤ 1099511627776 := by rw [sortN_len, List.length_map]; exact hL
  unfold tabsM at hY ⊢
  generalize sortN (n.tab.map (·.1)) = N at *
  generalize n.tab = T at *
  have SO := Lib.hid SO
  have HJ := Lib.hid hJ
  have HJx := Lib.hid hJx
  have HY := Lib.hid hY
  have H0 := Lib.hid h0
  have HF0 := Lib.hid hF0
  have HNK := Lib.hid hNk
  clear h hkb hR hF0 hJ hJx hY h0 hor hk hsz e1 hL2 hNk hL
  show CallsIn Fence.wide 2 Tryz.prog 49 #[.func (.yield l) #[] #[], .pointer (some ⟨kb, 0, none⟩)] W _
  refine callsIn_of_wp Tryz.func49 rfl trivial ?_ rfl
  simp only [Tryz.ntmps49, List.size_toArray, List.length_cons, List.length_nil, Nat.reduceAdd, Nat.reduceSub, Array.replicate_succ, Array.replicate_zero, List.push_toArray, List.append_toArray, List.nil_append, List.cons_append]
  gi_wp2_with (first | (refine ⟨trivial, ?_⟩; gi_at_call 29; refine (callsIn_wide.2 NN.out).mono ?_; rintro e w' ⟨rfl, rfl⟩) | (refine ⟨trivial, ?_⟩; gi_at_call 35; refine (callsIn_wide.2 CT.out).mono ?_; rintro e w2 ⟨rfl, hm, hc, -⟩) | (refine ⟨trivial, ?_⟩; gi_at_call 50; refine (callsIn_wide.2 (keys50_any _ _)).mono ?_; rintro e w3 ⟨rfl, rfl⟩) | (refine ⟨trivial, ?_⟩; gi_at_call 45; refine (callsIn_wide.2 (SO.out _ _ hm)).mono ?_; rintro e w4 ⟨o, c, rfl, hN, hc4, hown⟩))
  have HB := Lib.hid (show TabAt N T J w'.heap.size w'.heap.size (.slice o N.length c) 0 F0 w4 from
    ⟨hN, hm.stay (hc4.block _ hm.lt (fun f => f)), fun g hg => (have h1 := hown g hg; have h2 := hm.lt; ⟨by omega, fun f => by have := HF0.out g f; omega⟩), ⟨Nat.le_refl _, fun f => by have := HF0.out _ f; omega⟩, by
      have h5 := HJ.out _ _ _ _ H0.out ((hc.trans hc4).mono (fun _ f => f.elim))
      simpa using h5, Nat.le_trans hc.size hc4.size⟩)
  clear hN hm hc hc4 hown q0 d0 NN CT SO H0
  gi_loopw [17] (fun i wr => ∃ (k : Nat) (F : Nat → Prop), k ≤ N.length ∧ i = .int .i64 k ∧ Hid (TabAt N T J w'.heap.size w'.heap.size (.slice o N.length c) k F wr)) (fun i _ => N.length - (intOf i).toNat)
  case atStart => exact ⟨0, F0, by omega, rfl, HB⟩
  case round =>
    obtain ⟨k, F, hk, rfl, HI⟩ := hrel
    clear HB
    have l0 : (0 : Int) ≤ k := by omega
    by_cases hlt : k < N.length
    · obtain ⟨x, hx⟩ : ∃ x, N[k]? = some x := ⟨N[k]'hlt, List.getElem?_eq_getElem hlt⟩
      obtain ⟨t, ht⟩ : ∃ t, (lk T x).getD .zero = t := ⟨_, rfl⟩
      have hkt : (N.take (k + 1)).map (fun x => (lk T x).getD .zero) = (N.take k).map (fun x => (lk T x).getD .zero) ++ [t] := by rw [List.take_add_one, hx, ← ht]; simp
      have hpre : (N.take k).map (fun x => (lk T x).getD .zero) ++ [t] <+: N.map (fun x => (lk T x).getD .zero) := by rw [← hkt]; exact (List.take_prefix _ _).map _
      obtain ⟨g, cap, e, h0⟩ := HI.out.has.cell hx
      cases e
      have hlk := tab_look HI.out.map (HNK.out x (List.mem_of_getElem? hx))
      rw [ht] at hlk
      obtain ⟨fn, tmps, assign, body, hy, hR⟩ := HY.out ((N.take k).map (fun x => (lk T x).getD .zero)) t F wr HI.out.say hpre
      have hgo : ∀ (W' : World) (F' : Nat → Prop), Wider F F' wr → Chg F wr W' → J ((N.take k).map (fun x => (lk T x).getD .zero) ++ [t]) F' W' → TabAt N T J w'.heap.size w'.heap.size (.slice (some ⟨g, 0, none⟩) N.length c) (k + 1) F' W' := fun W' F' hw hc hj => by
        have hh := HI.out.has
        refine ⟨sl.stay hh (fun g' hg' => hc.block g' (sl.lt hh hg') (HI.out.own g' hg').2), HI.out.map.stay (hc.block _ HI.out.map.lt HI.out.mown.2), fun g' hg' => ⟨(HI.out.own g' hg').1, fun f => ?_⟩, ⟨HI.out.mown.1, fun f => ?_⟩, by rw [hkt]; exact hj, Nat.le_trans HI.out.size hc.size⟩
        · rcases hw g' f with f | f
          · exact (HI.out.own g' hg').2 f
          · have := sl.lt HI.out.has hg'
            omega
        · rcases hw _ f with f | f
          · exact HI.out.mown.2 f
          · have := HI.out.map.lt
            omega
      have HGO := Lib.hid hgo
      have HPRE := Lib.hid hpre
      obtain ⟨tp, tg, tt, ta, tn⟩ := t
      unfold tbV at hlk hy
      simp only at hlk hy
      have l1 : (k : Int) < N.length := by omega
      have q : decide (k < N.length) = true := by simpa using hlt
      clear hkt hpre hx hgo ht
      gi_wp2
      refine hR.mono ?_
      rintro e W' ⟨F', hw, hc, -, (⟨rfl, hj⟩ | ⟨rfl, hj⟩)⟩
      · have HG := Lib.hid (HGO.out W' F' hw hc hj)
        clear hw hc hj
        gi_wp2
        go_roundw
        case rel => exact ⟨k + 1, F', by omega, by go_num, HG⟩
        case measure => simp [intOf]; omega
      · have HG := Lib.hid hj
        clear hw hc hj
        gi_wp2
        refine bodyPost_ret (results_none rfl _ _ _) rfl ?_
        exact ⟨⟨_, rfl⟩, .inr ⟨_, F', HPRE.out, HG.out⟩⟩
    · obtain rfl : k = N.length := by omega
      have q : decide (N.length < N.length) = false := by simp
      gi_wp2
      go_end0
      have hj := HI.out.say
      rw [List.take_length] at hj
      exact ⟨⟨_, rfl⟩, .inl ⟨_, F, rfl, hj⟩⟩
section
variable {w : World} {r : Nat} {L : List (ByteArray × Value)}
theorem keys46_any (mb : Option Nat) (W : World) : Calls Tryz.prog 46 #[.map mb] W fun e w' => e = .returned (.func (.func 89) #[] #[.pointer (some ⟨W.heap.size, 0, none⟩)]) ∧ w' = W.alloc (.cells #[.map mb] 32) :=
  callsIn_wide.1 (maps_Keys_46 mb W)
theorem sorted46_any (h : mapAt okS kvS w r L) (hl : L.length ≤ 1099511627776) :
    Calls Tryz.prog 45 #[.func (.func 89) #[] #[.pointer (some ⟨w.heap.size, 0, none⟩)]] (w.alloc (.cells #[.map (some r)] 32)) fun e w' => ∃ o c, e = .returned (.slice o (sortN (L.map (·.1))).length c) ∧
      NL w' (.slice o (sortN (L.map (·.1))).length c) (sortN (L.map (·.1))) ∧ Chg (fun _ => False) w w' ∧ ∀ g, (Value.slice o (sortN (L.map (·.1))).length c).ownBlock = some g → w.heap.size ≤ g := by
  obtain ⟨D, hD, hk, hs⟩ := own_of_map h (by unfold maxLen; omega)
  refine (callsIn_wide.1 (slices_Sorted_keys_45_46 r L.length D Ru w hD (by rw [hs]; unfold maxLen; omega) (by rw [hs]; omega))).mono ?_
  rintro e w' ⟨v, ss, rfl, hS, hrow, hnil, hb⟩
  obtain ⟨h1, h2⟩ := NL.of_row (ns := L.map (·.1)) ((hS.trans hk).trans (by rw [List.map_map]; exact List.Perm.refl _)) hrow
  obtain ⟨o, c, rfl⟩ := h1.shape
  refine ⟨o, c, rfl, h1, ((Chg.refl (fun _ => False) w).alloc _).trans (chg_of_below hb), fun g hg => ?_⟩
  have := h2 g hg
  simp at this
  omega
theorem keys48_any (mb : Option Nat) (W : World) : Calls Tryz.prog 48 #[.map mb] W fun e w' => e = .returned (.func (.func 91) #[] #[.pointer (some ⟨W.heap.size, 0, none⟩)]) ∧ w' = W.alloc (.cells #[.map mb] 34) :=
  callsIn_wide.1 (maps_Keys_48 mb W)
theorem sorted48_any (h : mapAt okS kvS w r L) (hl : L.length ≤ 1099511627776) :
    Calls Tryz.prog 45 #[.func (.func 91) #[] #[.pointer (some ⟨w.heap.size, 0, none⟩)]] (w.alloc (.cells #[.map (some r)] 34)) fun e w' => ∃ o c, e = .returned (.slice o (sortN (L.map (·.1))).length c) ∧
      NL w' (.slice o (sortN (L.map (·.1))).length c) (sortN (L.map (·.1))) ∧ Chg (fun _ => False) w w' ∧ ∀ g, (Value.slice o (sortN (L.map (·.1))).length c).ownBlock = some g → w.heap.size ≤ g := by
  obtain ⟨D, hD, hk, hs⟩ := own_of_map h (by unfold maxLen; omega)
  refine (callsIn_wide.1 (slices_Sorted_keys_45_48 r L.length D Ru w hD (by rw [hs]; unfold maxLen; omega) (by rw [hs]; omega))).mono ?_
  rintro e w' ⟨v, ss, rfl, hS, hrow, hnil, hb⟩
  obtain ⟨h1, h2⟩ := NL.of_row (ns := L.map (·.1)) ((hS.trans hk).trans (by rw [List.map_map]; exact List.Perm.refl _)) hrow
  obtain ⟨o, c, rfl⟩ := h1.shape
  refine ⟨o, c, rfl, h1, ((Chg.refl (fun _ => False) w).alloc _).trans (chg_of_below hb), fun g hg => ?_⟩
  have := h2 g hg
  simp at this
  omega
end
end Go.Proofs.YtgmmglmokkcgeaaGreat
