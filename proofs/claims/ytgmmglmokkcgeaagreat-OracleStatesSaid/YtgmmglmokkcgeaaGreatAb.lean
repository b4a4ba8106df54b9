/- Walks: commit. -/
import Derived.Test.YtgmmglmokkcgeaaGreatAa
namespace Go.Proofs.YtgmmglmokkcgeaaGreat
set_option linter.unusedVariables false
set_option linter.unusedSimpArgs false
open Go.RowKit Mk Go.Sort
theorem info30 : ∃ (i : TypeInfo) (z : Value), Tryz.prog.info? 24 = some i ∧ i.zero = some z ∧ i.size = 1 ∧ i.bytes = 8 ∧ z.cells.size = 1 := by
  obtain ⟨i, hi, hzz⟩ := Option.map_eq_some_iff.1 (show (Tryz.prog.info? 24).map (fun i => (i.zero, i.size, i.bytes)) = some (some (.int .u64 0), 1, 8) by kernel_rfl)
  simp only [Prod.mk.injEq] at hzz
  exact ⟨i, _, hi, hzz.1, hzz.2.1, hzz.2.2, rfl⟩
theorem lastM_take (T : Nat) (keys : List ByteArray) (L : List (ByteArray × Nat)) {j : Nat} (h : j < keys.length) : lastM T (keys.take (j + 1)) L = upd (lastM T (keys.take j) L) keys[j] T := by
  unfold lastM
  rw [List.take_succ_eq_append_getElem h, List.foldl_append]
  rfl
theorem comM_take (T : Nat) (needs : List (ByteArray × Nat)) (f : ByteArray → List Nat) {j : Nat} (h : j < needs.length) : comM T (needs.take (j + 1)) f = fun p => if p = needs[j].1 then comM T (needs.take j) f p ++ [T] else comM T (needs.take j) f p := by
  unfold comM
  rw [List.take_succ_eq_append_getElem h, List.foldl_append]
  rfl
theorem cell_new_one {w : World} {g : Nat} {u : Value} {t : TypeId} (h : w.heap[g]? = some (.cells #[u] t)) : ∀ j v, [u][j]? = some v → w.cell? ((⟨g, 0, none⟩ : Addr).add j) = some v := by
  intro j v hj
  match j, hj with
  | 0, hj =>
    rw [Addr.add_mid]
    exact cell_of h hj
section
variable {w : World} {b : Nat} {R : Loc} {F : Nat → Prop} {n : OM} {o : OpM} {l : OpL}
theorem StrsAt.keepF {w w' : World} {F : Nat → Prop} {so : Option Addr} {xs : List ByteArray} (h : StrsAt w so xs) (c : Chg F w w') (hs : ∀ g o, so = some ⟨g, o, none⟩ → ¬ F g) : StrsAt w' so xs where
  len := h.len
  cell i hi := by
    obtain ⟨g, o, e, hg, hc⟩ := h.cell i hi
    exact ⟨g, o, e, Nat.lt_of_lt_of_le hg c.size, (World.cell?_of_block (a := ⟨g, o + i, none⟩) (c.block g hg (hs g o e))).trans hc⟩
theorem NeedsAt.keepF {w w' : World} {F : Nat → Prop} {so : Option Addr} {xs : List (ByteArray × Nat)} (h : NeedsAt w so xs) (c : Chg F w w') (hs : ∀ g o, so = some ⟨g, o, none⟩ → ¬ F g) : NeedsAt w' so xs where
  len := h.len
  lim := h.lim
  sz := h.sz
  cell i hi := by
    obtain ⟨g, o, e, hg, hc, hd⟩ := h.cell i hi
    exact ⟨g, o, e, Nat.lt_of_lt_of_le hg c.size, (World.cell?_of_block (a := ⟨g, o + i * 2, none⟩) (c.block g hg (hs g o e))).trans hc, (World.cell?_of_block (a := ⟨g, o + i * 2 + 1, none⟩) (c.block g hg (hs g o e))).trans hd⟩
theorem OrRep.lookC (h : OrRep w b R F n) {x : ByteArray} (hx : x.size ≤ maxLen) : ∃ ao cp, (∀ w', mapAt okS kvS w' R.c R.rows → (Instr.lookup 34 (.map (some R.c)) (.string x) false).run Tryz.prog w' = .ok (.slice ao (n.com x).length cp) w') ∧
    sl w 24 1 (.slice ao (n.com x).length cp) (n.com x).length (timesV (n.com x)) ∧ ∀ g, (Value.slice ao (n.com x).length cp).ownBlock = some g → lk R.rows x = some (.slice ao (n.com x).length cp) := by
  cases hl : lk R.rows x with
  | none =>
    have hg := h.gone x hl
    refine ⟨none, 0, fun w' hm => ?_, ?_, fun g hg => by simp [Value.ownBlock] at hg⟩
    · have := run_lookup keysS Tryz.underlying34 (z := .slice none 0 0) (by simp [go_sem]) hm hx false
      simp only [Bool.false_eq_true, if_false, kvS, hl, Option.getD_none] at this
      rw [this, hg]; rfl
    · rw [hg]; exact sl_nil _ _ _
  | some v =>
    have hr := h.rows (x, v) (lk_mem hl)
    simp only at hr
    rcases hr.2 with ⟨e, h0⟩ | ⟨g, cap, cur, e, hh⟩
    · subst e
      refine ⟨none, 0, fun w' hm => ?_, ?_, fun g hg => by simp [Value.ownBlock] at hg⟩
      · have := run_lookup keysS Tryz.underlying34 (z := .slice none 0 0) (by simp [go_sem]) hm hx false
        simp only [Bool.false_eq_true, if_false, kvS, hl, Option.getD_some] at this
        rw [this, h0]
      · rw [h0]; rw [h0] at hr; exact hr
    · subst e
      refine ⟨_, _, fun w' hm => ?_, hr, fun g hg => by rfl⟩
      have := run_lookup keysS Tryz.underlying34 (z := .slice none 0 0) (by simp [go_sem]) hm hx false
      simp only [Bool.false_eq_true, if_false, kvS, hl, Option.getD_some] at this
      exact this
set_option maxRecDepth 100000 in
set_option maxHeartbeats 8000000 in
theorem commit_any (h : OrRep w b R F n) (hF : ∀ g, F g → g < w.heap.size) (ho : OpAt w o l) (hks : ∀ k ∈ o.keys, k.size ≤ maxLen) (hlm : Lim n 1099511627776) (hn256 : o.needs.length ≤ 256) (hsep : ∀ g o', (o.keys ≠ [] ∧ l.ko = some ⟨g, o', none⟩) ∨ (o.needs ≠ [] ∧ l.no = some ⟨g, o', none⟩) → ¬ F g) :
    Calls Tryz.prog 74 #[.pointer (some ⟨b, 0, none⟩), .agg (opC o l)] w fun e w' => e = .returned (anV (commitM n o).2) ∧ To w b F (commitM n o).1 w' := by
  have hblt := h.lt
  have HFF := Lib.hid h
  obtain ⟨W2, HW2⟩ : ∃ W2, Hid ((w.alloc (.cells (opC o l) 28)).alloc (.cells #[.int .i64 0, .int .u64 0, .int .u64 0, .string ⟨#[]⟩, .int .u32 0, .int .u32 0, .int .u64 0, .int .u64 0] 46) = W2) := ⟨_, Lib.hid rfl⟩
  obtain ⟨ob, HOS⟩ : ∃ ob, Hid (w.heap.size = ob) := ⟨_, Lib.hid rfl⟩
  obtain ⟨ab, HAS⟩ : ∃ ab, Hid (ob + 1 = ab) := ⟨_, Lib.hid rfl⟩
  have HC2 : Hid (Chg (fun _ => False) w W2) := by rw [← HW2.out]; exact Lib.hid (((Chg.refl _ _).alloc _).alloc _)
  have HS2 : Hid (W2.heap.size = ab + 1) := by rw [← HW2.out, ← HAS.out, ← HOS.out]; exact Lib.hid (by simp)
  have HOB : Hid (W2.heap[ob]? = some (.cells (opC o l) 28)) := by rw [← HW2.out, ← HOS.out]; exact Lib.hid ((Below.heap_alloc _ _ _ (by simp)).trans (Go.heap_alloc_new w _))
  have HAB : Hid (W2.heap[ab]? = some (.cells #[.int .i64 0, .int .u64 0, .int .u64 0, .string ⟨#[]⟩, .int .u32 0, .int .u32 0, .int .u64 0, .int .u64 0] 46)) := by rw [← HW2.out, ← HAS.out, ← HOS.out]; exact Lib.hid (alloc2_new w _ _)
  have H2 := Lib.hid (h.same HC2.out)
  have hst := ho.st
  have HFAB := Lib.hid (show ∀ g, F g → g ≠ ab ∧ g ≠ ob ∧ g < ob from fun g f => by have := hF g f; have := HAS.out; have := HOS.out; omega)
  have HO2 := Lib.hid (ho.same HC2.out)
  have HOW := Lib.hid ho
  have HSEP := Lib.hid hsep
  have HN256 := Lib.hid hn256
  have HKS := Lib.hid hks
  have HF := Lib.hid hF
  have WA := Lib.hid (was_any H2.out hst)
  have htm := hlm.time
  have HLM := Lib.hid hlm
  obtain ⟨⟨an, ov⟩, hwas⟩ : ∃ p, wasM n o.st = p := ⟨_, rfl⟩
  have hfree : ov = false → an = an0 := fun e => by have := (was_free (n := n) (o := o) (by rw [hwas]; exact e)).2.2.2; rw [hwas] at this; exact this
  have hwf : ov = false → (wasM n o.st).2 = false := fun e => by rw [hwas]; exact e
  have hcs := commit_cases n o
  rw [hwas] at WA hcs
  have k2 : W2.cell? ⟨ob, 2, none⟩ = some (.int .u64 (o.st : Nat)) := cell_of HOB.out rfl
  clear h ho hwas hks hF hlm hsep hn256
  cases ov
  · have hcs2 := hcs.resolve_left (fun h => by cases h.1)
    obtain rfl := hfree rfl
    clear hcs hfree
    unfold anV anC an0 Tb.zero at WA
    simp only [show ((0 : Nat) : Int) = 0 from rfl] at WA
    obtain ⟨cl, hcl⟩ : ∃ cl, clearM n o = cl := ⟨_, rfl⟩
    rw [hcl] at hcs2
    have hwf' := hwf rfl
    clear hwf
    cases cl
    · have e := (hcs2.resolve_right (fun h => by cases h.2.1)).2.2
      rw [e]
      have hab0 : abortM n o = ({ n with dec := upd n.dec o.st 0 }, an0) := by
        rcases abort_cases n o with ⟨h1, _⟩ | ⟨_, h2⟩
        · rw [hwf'] at h1; cases h1
        · exact h2
      clear hcs2 e hwf'
      go_enter Tryz.func74, Tryz.ntmps74
      go_wp2_with fail
      rw [HW2.out, HOS.out, HAS.out]
      refine WA.out.mono ?_
      rintro e w3 ⟨rfl, h3⟩
      obtain ⟨W4, HW4⟩ : ∃ W4, Hid (w3.alloc (.cells #[.int .i64 0, .int .u64 0, .int .u64 0, .string ⟨#[]⟩, .int .u32 0, .int .u32 0, .int .u64 0, .int .u64 0] 46) = W4) := ⟨_, Lib.hid rfl⟩
      have h4 : Chg (fun _ => False) W2 W4 := by rw [← HW4.out]; exact h3.alloc _
      have H4 := Lib.hid h4
      have ho4 := HO2.out.same h4
      have hr4 := H2.out.same h4
      have hob4 := (h4.block ob (by have := HS2.out; have := HAS.out; omega) (fun f => f)).trans HOB.out
      have hob3 := (h3.block ob (by have := HS2.out; have := HAS.out; omega) (fun f => f)).trans HOB.out
      have ho3 : ob < w3.heap.size := by have := HS2.out; have := HAS.out; have := h3.size; omega
      have q0 : w3.cell? ⟨ob, 0, none⟩ = some (.int .u8 (o.k : Nat)) := cell_of hob3 rfl
      have q1 : w3.cell? ⟨ob, 1, none⟩ = some (.int .u32 (o.n : Nat)) := cell_of hob3 rfl
      have q2 : w3.cell? ⟨ob, 2, none⟩ = some (.int .u64 (o.st : Nat)) := cell_of hob3 rfl
      have q3 : w3.cell? ⟨ob, 3, none⟩ = some (.slice l.ko o.keys.length l.kc) := cell_of hob3 rfl
      have q4 : w3.cell? ⟨ob, 4, none⟩ = some (.slice l.no o.needs.length l.nc) := cell_of hob3 rfl
      have q5 : w3.cell? ⟨ob, 5, none⟩ = some (.string o.pred) := cell_of hob3 rfl
      have q6 : w3.cell? ⟨ob, 6, none⟩ = some (.int .u32 (o.g : Nat)) := cell_of hob3 rfl
      have q7 : w3.cell? ⟨ob, 7, none⟩ = some (.int .u32 (o.to : Nat)) := cell_of hob3 rfl
      have q8 : w3.cell? ⟨ob, 8, none⟩ = some (.int .u64 (o.at_ : Nat)) := cell_of hob3 rfl
      have CL := Lib.hid (clear_any hr4 ho4 HKS.out)
      rw [hcl] at CL
      clear hob3 h3 h4 WA k2
      go_wp2_with fail
      rw [HW4.out]
      refine CL.out.mono ?_
      rintro e w5 ⟨rfl, h5⟩
      have h5' := H4.out.trans h5
      have hob5 := (h5'.block ob (by have := HS2.out; have := HAS.out; omega) (fun f => f)).trans HOB.out
      have hab5 := (h5'.block ab (by have := HS2.out; omega) (fun f => f)).trans HAB.out
      have p0 : w5.cell? ⟨ob, 0, none⟩ = some (.int .u8 (o.k : Nat)) := cell_of hob5 rfl
      have p1 : w5.cell? ⟨ob, 1, none⟩ = some (.int .u32 (o.n : Nat)) := cell_of hob5 rfl
      have p2 : w5.cell? ⟨ob, 2, none⟩ = some (.int .u64 (o.st : Nat)) := cell_of hob5 rfl
      have p3 : w5.cell? ⟨ob, 3, none⟩ = some (.slice l.ko o.keys.length l.kc) := cell_of hob5 rfl
      have p4 : w5.cell? ⟨ob, 4, none⟩ = some (.slice l.no o.needs.length l.nc) := cell_of hob5 rfl
      have p5 : w5.cell? ⟨ob, 5, none⟩ = some (.string o.pred) := cell_of hob5 rfl
      have p6 : w5.cell? ⟨ob, 6, none⟩ = some (.int .u32 (o.g : Nat)) := cell_of hob5 rfl
      have p7 : w5.cell? ⟨ob, 7, none⟩ = some (.int .u32 (o.to : Nat)) := cell_of hob5 rfl
      have p8 : w5.cell? ⟨ob, 8, none⟩ = some (.int .u64 (o.at_ : Nat)) := cell_of hob5 rfl
      have AB := Lib.hid (abort_any (hr4.same h5) (fun g f => by have := HF.out g f; have := HC2.out.size; have := h5'.size; omega) (ho4.same h5))
      rw [hab0] at AB
      have H5 := Lib.hid h5'
      have HAB5 := Lib.hid hab5
      clear hob5 hab5 h5 h5' CL hr4 ho4 hcl hab0
      go_wp2_with fail
      refine AB.out.mono ?_
      rintro e w6 ⟨rfl, hT⟩
      have hs5 := H5.out.size
      have hab6 := (hT.chg.block ab (by have := HS2.out; omega) (fun f => (HFAB.out ab f).1 rfl)).trans HAB5.out
      have HAB6 := Lib.hid hab6
      have HT := Lib.hid hT
      have z0 : w6.cell? ⟨ab, 0, none⟩ = some (.int .i64 0) := cell_of hab6 rfl
      have zf0 : w6.frozen? ⟨ab, 0, none⟩ = false := frozen_of hab6
      have z1 : w6.cell? ⟨ab, 1, none⟩ = some (.int .u64 0) := cell_of hab6 rfl
      have zf1 : w6.frozen? ⟨ab, 1, none⟩ = false := frozen_of hab6
      have z2 : w6.cell? ⟨ab, 2, none⟩ = some (.int .u64 0) := cell_of hab6 rfl
      have zf2 : w6.frozen? ⟨ab, 2, none⟩ = false := frozen_of hab6
      have z3 : w6.cell? ⟨ab, 3, none⟩ = some (.string ⟨#[]⟩) := cell_of hab6 rfl
      have zf3 : w6.frozen? ⟨ab, 3, none⟩ = false := frozen_of hab6
      have z4 : w6.cell? ⟨ab, 4, none⟩ = some (.int .u32 0) := cell_of hab6 rfl
      have zf4 : w6.frozen? ⟨ab, 4, none⟩ = false := frozen_of hab6
      have z5 : w6.cell? ⟨ab, 5, none⟩ = some (.int .u32 0) := cell_of hab6 rfl
      have zf5 : w6.frozen? ⟨ab, 5, none⟩ = false := frozen_of hab6
      have z6 : w6.cell? ⟨ab, 6, none⟩ = some (.int .u64 0) := cell_of hab6 rfl
      have zf6 : w6.frozen? ⟨ab, 6, none⟩ = false := frozen_of hab6
      have z7 : w6.cell? ⟨ab, 7, none⟩ = some (.int .u64 0) := cell_of hab6 rfl
      have zf7 : w6.frozen? ⟨ab, 7, none⟩ = false := frozen_of hab6
      clear hab6 hT AB
      unfold anV anC an0 Tb.zero
      simp only [show ((0 : Nat) : Int) = 0 from rfl]
      go_wp2
      obtain ⟨hh, hc⟩ := fin8 HAB6.out (.int .i64 0) (.int .u64 0) (.int .u64 0) (.string ⟨#[]⟩) (.int .u32 0) (.int .u32 0) (.int .u64 0) (.int .u64 0)
      refine bodyPost_ret (results_cell_row (p := 4) (ty := 46) rfl _ _ ab 46 _ (0, 0) _ rfl hh Tryz.underlying46 rfl (by kernel_rfl)) rfl ⟨rfl, ?_⟩
      exact HT.out.box hc (by rintro (f | f); exact (HFAB.out ab f).1 rfl; have := HS2.out; omega) (HC2.out.trans H5.out) (by have := HAS.out; have := HOS.out; omega)
    · have e := (hcs2.resolve_left (fun h => by cases h.2.1)).2.2
      rw [e]
      clear hcs2 e hwf'
      obtain ⟨T, hT⟩ : ∃ T, n.time + 1 = T := ⟨_, rfl⟩
      have HTT := Lib.hid hT
      go_enter Tryz.func74, Tryz.ntmps74
      go_wp2_with fail
      rw [HW2.out, HOS.out, HAS.out]
      refine WA.out.mono ?_
      rintro e w3 ⟨rfl, h3⟩
      obtain ⟨W4, HW4⟩ : ∃ W4, Hid (w3.alloc (.cells #[.int .i64 0, .int .u64 0, .int .u64 0, .string ⟨#[]⟩, .int .u32 0, .int .u32 0, .int .u64 0, .int .u64 0] 46) = W4) := ⟨_, Lib.hid rfl⟩
      have h4 : Chg (fun _ => False) W2 W4 := by rw [← HW4.out]; exact h3.alloc _
      have H4 := Lib.hid h4
      have ho4 := HO2.out.same h4
      have hr4 := H2.out.same h4
      have hob4 := (h4.block ob (by have := HS2.out; have := HAS.out; omega) (fun f => f)).trans HOB.out
      have hob3 := (h3.block ob (by have := HS2.out; have := HAS.out; omega) (fun f => f)).trans HOB.out
      have ho3 : ob < w3.heap.size := by have := HS2.out; have := HAS.out; have := h3.size; omega
      have q0 : w3.cell? ⟨ob, 0, none⟩ = some (.int .u8 (o.k : Nat)) := cell_of hob3 rfl
      have q1 : w3.cell? ⟨ob, 1, none⟩ = some (.int .u32 (o.n : Nat)) := cell_of hob3 rfl
      have q2 : w3.cell? ⟨ob, 2, none⟩ = some (.int .u64 (o.st : Nat)) := cell_of hob3 rfl
      have q3 : w3.cell? ⟨ob, 3, none⟩ = some (.slice l.ko o.keys.length l.kc) := cell_of hob3 rfl
      have q4 : w3.cell? ⟨ob, 4, none⟩ = some (.slice l.no o.needs.length l.nc) := cell_of hob3 rfl
      have q5 : w3.cell? ⟨ob, 5, none⟩ = some (.string o.pred) := cell_of hob3 rfl
      have q6 : w3.cell? ⟨ob, 6, none⟩ = some (.int .u32 (o.g : Nat)) := cell_of hob3 rfl
      have q7 : w3.cell? ⟨ob, 7, none⟩ = some (.int .u32 (o.to : Nat)) := cell_of hob3 rfl
      have q8 : w3.cell? ⟨ob, 8, none⟩ = some (.int .u64 (o.at_ : Nat)) := cell_of hob3 rfl
      have CL := Lib.hid (clear_any hr4 ho4 HKS.out)
      rw [hcl] at CL
      clear hob3 h3 h4 WA k2 hT
      go_wp2_with fail
      rw [HW4.out]
      refine CL.out.mono ?_
      rintro e w5 ⟨rfl, h5⟩
      have h5' := H4.out.trans h5
      have hob5 := (h5'.block ob (by have := HS2.out; have := HAS.out; omega) (fun f => f)).trans HOB.out
      have hab5 := (h5'.block ab (by have := HS2.out; omega) (fun f => f)).trans HAB.out
      have hr5 := hr4.same h5
      have b1 := hr5.c1
      have b1f := hr5.fr 1
      have hob := HOS.out
      have hab := HAS.out
      have hbb := HF.out b HFF.out.fb
      have HR6 := hr5.setBox (i := 1) (v := .int .u64 ((n.time : Int) + 1)) (n' := { n with time := T }) (by rw [← HTT.out]; simp [stC]) rfl rfl rfl rfl
      obtain ⟨W6, HW6⟩ : ∃ W6, Hid (w5.setCell ⟨b, 1, none⟩ (.int .u64 ((n.time : Int) + 1)) = W6) := ⟨_, Lib.hid rfl⟩
      have hk6 : ∀ g, g ≠ b → W6.heap[g]? = w5.heap[g]? := fun g hg => by rw [← HW6.out]; exact Below.heap_setCell w5 ⟨b, 1, none⟩ _ g hg
      have hs6 : W6.heap.size = w5.heap.size := by rw [← HW6.out]; exact setCell_size _ _ _
      rw [HW6.out] at HR6
      have hob6 := (hk6 ob (by omega)).trans hob5
      have hab6 := (hk6 ab (by omega)).trans hab5
      have hc6 : Chg F w W6 := by rw [← HW6.out]; exact ((HC2.out.trans h5').mono (fun _ f => f.elim)).setCell (a := ⟨b, 1, none⟩) (Or.inl HFF.out.fb) _
      have d1 := HR6.c1
      have d4 := HR6.c4
      simp only at d1
      have d2 : W6.cell? ⟨ob, 2, none⟩ = some (.int .u64 (o.st : Nat)) := cell_of hob6 rfl
      obtain ⟨es, ck, hup, HU⟩ := (HR6.same ((Chg.refl _ W6).drew)).upD hst T
      obtain ⟨W7, HW7⟩ : ∃ W7, Hid (ChangeMaps.setBlock W6.drew R.d (.map es ck) = W7) := ⟨_, Lib.hid rfl⟩
      rw [HW7.out] at HU
      have hdw := HFF.out.fr_lt
      have hk7 : ∀ g, g ≠ R.d → W7.heap[g]? = W6.heap[g]? := fun g hg => by rw [← HW7.out]; exact heap_setBlock_ne hg
      have hs7 : W7.heap.size = W6.heap.size := by rw [← HW7.out, size_setBlock]; rfl
      have hob7 := (hk7 ob (by omega)).trans hob6
      have hab7 := (hk7 ab (by omega)).trans hab6
      have hc7 : Chg F w W7 := by rw [← HW7.out]; exact hc6.drew.setBlock (Or.inl HFF.out.fd) _
      have hw5 := h5'.size
      have hs2 := HS2.out
      have e3 : W7.cell? ⟨ob, 3, none⟩ = some (.slice l.ko o.keys.length l.kc) := cell_of hob7 rfl
      have HU7 : Hid (OrRep W7 b R F { n with time := T, dec := upd n.dec o.st T, las := lastM T (o.keys.take 0) n.las }) := Lib.hid HU
      have HOB7 := Lib.hid hob7
      have HAB7 := Lib.hid hab7
      have HC7 := Lib.hid hc7
      have HS7 : Hid (ab < W7.heap.size ∧ ob < ab ∧ w.heap.size ≤ ob) := Lib.hid ⟨by omega, by omega, by omega⟩
      obtain ⟨K, hK⟩ : ∃ K, o.keys.length = K := ⟨_, rfl⟩
      obtain ⟨N, hN⟩ : ∃ N, o.needs.length = N := ⟨_, rfl⟩
      have hkl := HO2.out.keys.len
      have hnl := HO2.out.needs.len
      have HK := Lib.hid hK
      have HN := Lib.hid hN
      rw [hK] at hkl e3
      rw [hN] at hnl
      clear h5 h5' hob5 hab5 hr5 hr4 ho4 CL HR6 hk6 hs6 hob6 hab6 hc6 HU hk7 hs7 hob7 hab7 hc7 hcl hK hN
      go_wp2_with fail
      rw [HW6.out]
      go_region
      rw [HW7.out]
      clear d1 d2 d4 b1 b1f hup hob hab hbb hdw hw5 hs2
      go_wp2
      go_loopw [47] (fun i wr => ∃ j : Nat, i = .int .i64 j ∧ j ≤ K ∧ Hid (OrRep wr b R F { n with time := T, dec := upd n.dec o.st T, las := lastM T (o.keys.take j) n.las }) ∧ Hid (Chg F w wr) ∧ Hid (wr.heap[ob]? = some (.cells (opC o l) 28)) ∧ Hid (wr.heap[ab]? = some (.cells #[.int .i64 0, .int .u64 0, .int .u64 0, .string ⟨#[]⟩, .int .u32 0, .int .u32 0, .int .u64 0, .int .u64 0] 46)) ∧ Hid (ab < wr.heap.size ∧ ob < ab ∧ w.heap.size ≤ ob)) (fun i _ => K - (intOf i).toNat)
      case atStart => exact ⟨0, rfl, by omega, HU7, HC7, HOB7, HAB7, HS7⟩
      case round =>
        clear HU7 HC7 HOB7 HAB7 HS7 e3
        obtain ⟨j, rfl, hj, HR, HC, HOB8, HAB8, HS8⟩ := hrel
        by_cases hlt : j < K
        · have hd : decide ((j : Int) < K) = true := by simp; omega
          have hjl : j < o.keys.length := by rw [HK.out]; exact hlt
          obtain ⟨g, oo, hko, hg, a1⟩ := (HOW.out.keys.keepF HC.out (fun g o' e => HSEP.out g o' (Or.inl ⟨fun hn => absurd hjl (by rw [hn]; exact Nat.not_lt_zero _), e⟩))).cell j hjl
          have hsz := HKS.out _ (List.getElem_mem hjl)
          have htk := lastM_take T o.keys n.las hjl
          generalize o.keys[j] = x at *
          have d5 := HR.out.c5
          have d1 := HR.out.c1
          simp only at d1
          obtain ⟨es, ck, hup, HU⟩ := (HR.out.same ((Chg.refl _ wr).drew)).upL hsz T
          have hrl := HFF.out.fr_lt
          have hlc := HF.out _ HFF.out.fl
          have q0 : (0 : Int) ≤ (j : Int) := by omega
          have q1 : (j : Int) < K := by omega
          rw [hko]
          have HU' : Hid (OrRep (ChangeMaps.setBlock wr.drew R.l (.map es ck)) b R F { n with time := T, dec := upd n.dec o.st T, las := lastM T (o.keys.take (j + 1)) n.las }) := by rw [htk]; exact Lib.hid HU
          have HC' := Lib.hid (HC.out.drew.setBlock (Or.inl HFF.out.fl) (.map es ck))
          have HOB9 : Hid ((ChangeMaps.setBlock wr.drew R.l (.map es ck)).heap[ob]? = some (.cells (opC o l) 28)) := Lib.hid ((heap_setBlock_ne (by have := HS8.out; omega)).trans HOB8.out)
          have HAB9 : Hid ((ChangeMaps.setBlock wr.drew R.l (.map es ck)).heap[ab]? = some (.cells #[.int .i64 0, .int .u64 0, .int .u64 0, .string ⟨#[]⟩, .int .u32 0, .int .u32 0, .int .u64 0, .int .u64 0] 46)) := Lib.hid ((heap_setBlock_ne (by have := HS8.out; omega)).trans HAB8.out)
          have HS9 : Hid (ab < (ChangeMaps.setBlock wr.drew R.l (.map es ck)).heap.size ∧ ob < ab ∧ w.heap.size ≤ ob) := Lib.hid (by rw [size_setBlock]; exact HS8.out)
          clear HU htk hsz hrl hlc hg
          go_wp2_with fail
          go_region
          go_wp2
          go_roundw
          case rel => exact ⟨j + 1, by go_num, by omega, HU', HC', HOB9, HAB9, HS9⟩
          case measure => simp [intOf]; omega
        · have hd : decide ((j : Int) < K) = false := by simp; omega
          have hjK : j = K := by omega
          have e4 : wr.cell? ⟨ob, 4, none⟩ = some (.slice l.no N l.nc) := by have := HOB8.out; unfold opC at this; rw [HN.out] at this; exact cell_of this rfl
          have HR0 : Hid (∃ R', OrRep wr b R' (fun g => F g ∨ ab < g) { n with time := T, dec := upd n.dec o.st T, las := lastM T o.keys n.las, com := comM T (o.needs.take 0) n.com }) := by
            have := HR.out.wide (G := fun g => F g ∨ ab < g) (fun _ => Or.inl)
            rw [hjK, ← HK.out, List.take_length] at this
            exact Lib.hid ⟨R, this⟩
          clear hjK HR
          go_wp2
          go_loopw [64] (fun i wr => ∃ j : Nat, i = .int .i64 j ∧ j ≤ N ∧ Hid (∃ R', OrRep wr b R' (fun g => F g ∨ ab < g) { n with time := T, dec := upd n.dec o.st T, las := lastM T o.keys n.las, com := comM T (o.needs.take j) n.com }) ∧ Hid (Chg F w wr) ∧ Hid (wr.heap[ob]? = some (.cells (opC o l) 28)) ∧ Hid (wr.heap[ab]? = some (.cells #[.int .i64 0, .int .u64 0, .int .u64 0, .string ⟨#[]⟩, .int .u32 0, .int .u32 0, .int .u64 0, .int .u64 0] 46)) ∧ Hid (ab < wr.heap.size ∧ ob < ab ∧ w.heap.size ≤ ob)) (fun i _ => N - (intOf i).toNat)
          case atStart => exact ⟨0, rfl, by omega, HR0, HC, HOB8, HAB8, HS8⟩
          case round =>
            clear HR0 HC HOB8 HAB8 HS8 e4
            obtain ⟨j2, rfl, hj2, HR, HC, HOB8, HAB8, HS8⟩ := hrel
            obtain ⟨R', hR'⟩ := HR.out
            by_cases hlt2 : j2 < N
            · have hd2 : decide ((j2 : Int) < N) = true := by simp; omega
              obtain ⟨g, oo, hno, hg, a1, a2⟩ := (HOW.out.needs.keepF HC.out (fun g o' e => HSEP.out g o' (Or.inr ⟨fun hn => by have h0 := HN.out; rw [hn] at h0; simp at h0; omega, e⟩))).cell j2 (by rw [HN.out]; exact hlt2)
              have hjl : j2 < o.needs.length := by rw [HN.out]; exact hlt2
              have hsz := HOW.out.needs.sz _ (List.getElem_mem hjl)
              have htk := comM_take T o.needs n.com hjl
              generalize o.needs[j2] = x2 at *
              obtain ⟨x, t⟩ := x2
              simp only at a1 a2 hsz htk
              have q0 : (0 : Int) ≤ (j2 : Int) := by omega
              have q1 : (j2 : Int) < N := by omega
              rw [hno]
              obtain ⟨W1, HW1⟩ : ∃ W1, Hid (wr.alloc (.cells #[.string x, .int .u64 t] 109) = W1) := ⟨_, Lib.hid rfl⟩
              obtain ⟨nb, HNB⟩ : ∃ nb, Hid (wr.heap.size = nb) := ⟨_, Lib.hid rfl⟩
              have hnb : W1.heap[nb]? = some (.cells #[.string x, .int .u64 t] 109) := by rw [← HW1.out, ← HNB.out]; exact Go.heap_alloc_new _ _
              have hc1 : Chg (fun _ => False) wr W1 := by rw [← HW1.out]; exact (Chg.refl _ _).alloc _
              have hs1 : W1.heap.size = nb + 1 := by rw [← HW1.out, ← HNB.out]; simp
              have H1 := Lib.hid (hR'.same hc1)
              have c7 := H1.out.c7
              have c1 := H1.out.c1
              simp only at c1
              have n0 : W1.cell? ⟨nb, 0, none⟩ = some (.string x) := cell_of hnb rfl
              obtain ⟨ao, cp, hlk, hsl0, hown⟩ := H1.out.lookC hsz
              simp only at hlk hsl0 hown
              obtain ⟨m, hm⟩ : ∃ m, (comM T (o.needs.take j2) n.com x).length = m := ⟨_, rfl⟩
              have hmb : m ≤ 1099511628032 := by
                have h1 := comM_len T (o.needs.take j2) n.com x
                have h2 := HLM.out.com x
                have h3 : (o.needs.take j2).length ≤ o.needs.length := by rw [List.length_take]; omega
                have h4 := HN256.out
                omega
              rw [hm] at hlk hsl0 hown
              have hcl := H1.out.com.lt
              have hblt1 := H1.out.lt
              have hnbl : nb < W1.heap.size := by omega
              have hbc : b ≠ R'.c := H1.out.b_ne.2.2.2
              have hnc : nb ≠ R'.c := fun e => by obtain ⟨_, _, h9, _⟩ := H1.out.com; rw [← e, hnb] at h9; cases h9
              have hbo : ∀ g, (Value.slice ao m cp).ownBlock = some g → g ≠ b ∧ g ≠ nb ∧ g ≠ R'.c ∧ (F g ∨ ab < g) ∧ g < W1.heap.size := fun g hg => by
                have hme := lk_mem (hown g hg)
                have h1 := H1.out.row_ne hme hg
                have h2 := hR'.frow _ hme g hg
                have h3 := (hR'.rows _ hme).lt hg
                have h4 := HNB.out
                exact ⟨h1.1, by omega, h1.2.2.2.2, h2, by omega⟩
              have hl1 := hlk W1.drew H1.out.com
              have hl2 := hlk (W1.alloc (.cells #[.int .u64 (T : Nat)] 24)).drew (H1.out.com.stay (Below.heap_alloc _ _ _ hcl))
              have HA := Lib.hid (show sl (W1.alloc (.cells #[.int .u64 (T : Nat)] 24)).drew 24 1 (.slice ao m cp) m (timesV (comM T (o.needs.take j2) n.com x)) from hsl0.stay (fun g hg => Below.heap_alloc _ _ _ (hsl0.lt hg)))
              have HNW := Lib.hid (show (W1.alloc (.cells #[.int .u64 (T : Nat)] 24)).drew.heap[W1.heap.size]? = some (.cells #[.int .u64 (T : Nat)] 24) from Go.heap_alloc_new W1 _)
              obtain ⟨ie, ze, hie, hze, hsze, hbye, hzse⟩ := info30
              have HGB := Lib.hid (show ∀ w2 : World, (W1.alloc (.cells #[.int .u64 (T : Nat)] 24)).drew.grownBy w2 (Value.slice ao m cp).ownBlock → ∀ g, g < W1.heap.size → (g = b ∨ g = nb ∨ g = R'.c) → w2.heap[g]? = W1.heap[g]? from fun w2 hg g hlt hor => by
                have hsz : (W1.alloc (.cells #[.int .u64 (T : Nat)] 24)).drew.heap.size = W1.heap.size + 1 := Array.size_push ..
                rw [hg.block g (by omega) (fun e => ?_)]
                · exact Below.heap_alloc _ _ _ hlt
                · have := hbo g e.symm
                  rcases hor with rfl | rfl | rfl
                  · exact this.1 rfl
                  · exact this.2.1 rfl
                  · exact this.2.2.1 rfl)
              have HSZ := Lib.hid hsz
              have HOWN := Lib.hid hown
              have HBO := Lib.hid hbo
              have HC1 := Lib.hid hc1
              have HTK := Lib.hid htk
              have HMM := Lib.hid hm
              have HS1 := Lib.hid hs1
              clear hnb hsz htk hg hlk hsl0 hown hbo hm hc1 hs1 HR hR'
              go_wp2_with fail
              rw [HW1.out, HNB.out]
              go_region_held3 (fun v => v.cell? ⟨b, 7, none⟩ = some (.map (some R'.c)) ∧ v.cell? ⟨nb, 0, none⟩ = some (.string x) ∧ v.cell? ⟨b, 1, none⟩ = some (.int .u64 (T : Nat))) (first | go_keep | (go_split_ands; refine ⟨?_, ?_, ?_⟩ <;> (rw [cell_setBlock (by assumption)]; first | assumption | go_keep)) | (go_split_ands; refine ⟨?_, ?_, ?_⟩ <;> assumption)) ((refine step_append_sl (by rfl) _ _ 82 (by rfl) 24 ie ze 1 8 Tryz.underlying82 hie hze hsze hbye hzse (by decide) (.slice ao m cp) m (timesV (comM T (o.needs.take j2) n.com x)) (by rfl) HA.out (some ⟨W1.heap.size, 0, none⟩) 1 1 [.int .u64 (T : Nat)] (by rfl) (by rfl) (fun _ => ⟨_, rfl, cell_new_one HNW.out⟩) (fun h => absurd h (by decide)) (by simp [Value.oneCell']) (by simp only [maxLen]; omega) (by omega) ?_; intro v' w2 hsl hgrow hat; have hB := HGB.out w2 hgrow; have hp7 := (World.cell?_of_block (a := ⟨b, 7, none⟩) (hB b hblt1 (Or.inl rfl))).trans c7; have hp1 := (World.cell?_of_block (a := ⟨b, 1, none⟩) (hB b hblt1 (Or.inl rfl))).trans c1; have hp0 := (World.cell?_of_block (a := ⟨nb, 0, none⟩) (hB nb hnbl (Or.inr (Or.inl rfl)))).trans n0; obtain ⟨es, ck, hup, hE⟩ := run_update keysS Tryz.underlying34 (H1.out.com.stay (hB R'.c hcl (Or.inr (Or.inr rfl)))) HSZ.out v'; unfold kvS at hup))
              all_goals
                have cG : Chg (fun g => ∃ u, lk R'.rows x = some u ∧ u.ownBlock = some g) W1 w2 := (((Chg.refl _ W1).alloc _).drew).grown hgrow (fun i hi => Or.inl ⟨_, HOWN.out i hi, hi⟩)
                have hnew : ∀ g, v'.ownBlock = some g → (∃ u, lk R'.rows x = some u ∧ u.ownBlock = some g) ∨ W1.heap.size ≤ g := fun g hg => by
                  rcases hat with e | e
                  · rw [e] at hg; exact Or.inl ⟨_, HOWN.out g hg, hg⟩
                  · rw [e] at hg
                    have hsz : (W1.alloc (.cells #[.int .u64 (T : Nat)] 24)).drew.heap.size = W1.heap.size + 1 := Array.size_push ..
                    rw [hsz] at hg
                    cases hg
                    exact Or.inr (Nat.le_succ _)
                have HP := H1.out.putC (T := T) cG (by rw [HMM.out]; exact hsl) hnew hE
                have hs8 := HS8.out
                have hs1 := HS1.out
                have hnbx := HNB.out
                have hw1 := HC1.out.size
                have HU' : Hid (∃ Rn, OrRep (ChangeMaps.setBlock w2 R'.c (.map es ck)) b Rn (fun g => F g ∨ ab < g) { n with time := T, dec := upd n.dec o.st T, las := lastM T o.keys n.las, com := comM T (o.needs.take (j2 + 1)) n.com }) := by
                  rw [HTK.out]
                  exact Lib.hid ⟨_, HP.wide (fun g hg => by rcases hg with hg | hg; exact hg; exact Or.inr (by omega))⟩
                have hfc := H1.out.fc
                have hF2 : ∀ g, (F g ∨ ab < g) → F g ∨ w.heap.size ≤ g := fun g hg => hg.imp id (fun h => by omega)
                have HC' : Hid (Chg F w (ChangeMaps.setBlock w2 R'.c (.map es ck))) := Lib.hid (((HC.out.trans (HC1.out.mono (fun _ f => f.elim))).trans' cG (fun g ⟨u, h1, h2⟩ => hF2 g (H1.out.frow _ (lk_mem h1) g h2))).setBlock (hF2 _ hfc) _)
                have hold : ∀ g, g = ob ∨ g = ab → (ChangeMaps.setBlock w2 R'.c (.map es ck)).heap[g]? = wr.heap[g]? := fun g hg => by
                  have hgF : ¬ (F g ∨ ab < g) := by
                    rintro (f | f)
                    · rcases hg with rfl | rfl
                      · exact (HFAB.out _ f).2.1 rfl
                      · exact (HFAB.out _ f).1 rfl
                    · rcases hg with rfl | rfl <;> omega
                  have hgl : g < wr.heap.size := by rcases hg with rfl | rfl <;> omega
                  refine (heap_setBlock_ne (fun e => hgF (by rw [e]; exact hfc))).trans ((cG.block g (Nat.lt_of_lt_of_le hgl hw1) (fun ⟨u, h1, h2⟩ => hgF (H1.out.frow _ (lk_mem h1) g h2))).trans (HC1.out.block g hgl (fun f => f)))
                have HOB9 : Hid ((ChangeMaps.setBlock w2 R'.c (.map es ck)).heap[ob]? = some (.cells (opC o l) 28)) := Lib.hid ((hold ob (Or.inl rfl)).trans HOB8.out)
                have HAB9 : Hid ((ChangeMaps.setBlock w2 R'.c (.map es ck)).heap[ab]? = some (.cells #[.int .i64 0, .int .u64 0, .int .u64 0, .string ⟨#[]⟩, .int .u32 0, .int .u32 0, .int .u64 0, .int .u64 0] 46)) := Lib.hid ((hold ab (Or.inr rfl)).trans HAB8.out)
                have HS9 : Hid (ab < (ChangeMaps.setBlock w2 R'.c (.map es ck)).heap.size ∧ ob < ab ∧ w.heap.size ≤ ob) := Lib.hid (by rw [size_setBlock]; have := cG.size; exact ⟨by omega, hs8.2.1, hs8.2.2⟩)
                clear cG hnew HP hfc hF2 hold hE hup hp7 hp1 hp0 hB hsl hgrow hat HGB hl1 hl2 HA HNW c7 c1 n0
                go_wp2
                go_roundw
                case rel => exact ⟨j2 + 1, by go_num, by omega, HU', HC', HOB9, HAB9, HS9⟩
                case measure => simp [intOf]; omega
            · have hd2 : decide ((j2 : Int) < N) = false := by simp; omega
              have hjN : j2 = N := by omega
              rw [hjN, ← HN.out, List.take_length] at hR'
              have d1 := hR'.c1
              simp only at d1
              have z0 : wr.cell? ⟨ab, 0, none⟩ = some (.int .i64 0) := cell_of HAB8.out rfl
              have zf0 : wr.frozen? ⟨ab, 0, none⟩ = false := frozen_of HAB8.out
              have z1 : wr.cell? ⟨ab, 1, none⟩ = some (.int .u64 0) := cell_of HAB8.out rfl
              have zf1 : wr.frozen? ⟨ab, 1, none⟩ = false := frozen_of HAB8.out
              have z2 : wr.cell? ⟨ab, 2, none⟩ = some (.int .u64 0) := cell_of HAB8.out rfl
              have zf2 : wr.frozen? ⟨ab, 2, none⟩ = false := frozen_of HAB8.out
              have z3 : wr.cell? ⟨ab, 3, none⟩ = some (.string ⟨#[]⟩) := cell_of HAB8.out rfl
              have zf3 : wr.frozen? ⟨ab, 3, none⟩ = false := frozen_of HAB8.out
              have z4 : wr.cell? ⟨ab, 4, none⟩ = some (.int .u32 0) := cell_of HAB8.out rfl
              have zf4 : wr.frozen? ⟨ab, 4, none⟩ = false := frozen_of HAB8.out
              have z5 : wr.cell? ⟨ab, 5, none⟩ = some (.int .u32 0) := cell_of HAB8.out rfl
              have zf5 : wr.frozen? ⟨ab, 5, none⟩ = false := frozen_of HAB8.out
              have z6 : wr.cell? ⟨ab, 6, none⟩ = some (.int .u64 0) := cell_of HAB8.out rfl
              have zf6 : wr.frozen? ⟨ab, 6, none⟩ = false := frozen_of HAB8.out
              have z7 : wr.cell? ⟨ab, 7, none⟩ = some (.int .u64 0) := cell_of HAB8.out rfl
              have zf7 : wr.frozen? ⟨ab, 7, none⟩ = false := frozen_of HAB8.out
              have HRf := Lib.hid hR'
              clear hR' HR hjN
              go_wp2
              obtain ⟨hh, hc⟩ := fin8 HAB8.out (.int .i64 0) (.int .u64 0) (.int .u64 (T : Nat)) (.string ⟨#[]⟩) (.int .u32 0) (.int .u32 0) (.int .u64 0) (.int .u64 0)
              refine bodyPost_ret (results_cell_row (p := 4) (ty := 46) rfl _ _ ab 46 _ (0, 0) _ rfl hh Tryz.underlying46 rfl (by kernel_rfl)) rfl ⟨?_, ?_⟩
              · rw [HTT.out]; rfl
              · rw [HTT.out]
                have hs := HS8.out
                exact ⟨⟨R', ((HRf.out.stay hc (fun g hg e => by subst e; rcases hg with f | f; exact (HFAB.out _ f).1 rfl; omega))).wide (fun g hg => hg.imp id (fun f => by omega))⟩, HC.out.trans' hc (fun g e => Or.inr (by omega))⟩
  · have e := (hcs.resolve_right (fun h => by rcases h with h | h <;> cases h.1)).2
    rw [e]
    clear hcs e hfree hwf
    obtain ⟨ac, af, am, tp, tg, tt, ta, tn⟩ := an
    unfold anV anC at WA
    simp only at WA
    go_enter Tryz.func74, Tryz.ntmps74
    go_wp2_with fail
    rw [HW2.out, HOS.out, HAS.out]
    refine WA.out.mono ?_
    rintro e w3 ⟨rfl, h3⟩
    have hs3 := h3.size
    have hs2 := HS2.out
    have hab3 := (h3.block ab (by omega) (fun f => f)).trans HAB.out
    have ha3 : ab < w3.heap.size := by omega
    have HAB3 := Lib.hid hab3
    have H3 := Lib.hid h3
    have z0 : w3.cell? ⟨ab, 0, none⟩ = some (.int .i64 0) := cell_of hab3 rfl
    have zf0 : w3.frozen? ⟨ab, 0, none⟩ = false := frozen_of hab3
    have z1 : w3.cell? ⟨ab, 1, none⟩ = some (.int .u64 0) := cell_of hab3 rfl
    have zf1 : w3.frozen? ⟨ab, 1, none⟩ = false := frozen_of hab3
    have z2 : w3.cell? ⟨ab, 2, none⟩ = some (.int .u64 0) := cell_of hab3 rfl
    have zf2 : w3.frozen? ⟨ab, 2, none⟩ = false := frozen_of hab3
    have z3 : w3.cell? ⟨ab, 3, none⟩ = some (.string ⟨#[]⟩) := cell_of hab3 rfl
    have zf3 : w3.frozen? ⟨ab, 3, none⟩ = false := frozen_of hab3
    have z4 : w3.cell? ⟨ab, 4, none⟩ = some (.int .u32 0) := cell_of hab3 rfl
    have zf4 : w3.frozen? ⟨ab, 4, none⟩ = false := frozen_of hab3
    have z5 : w3.cell? ⟨ab, 5, none⟩ = some (.int .u32 0) := cell_of hab3 rfl
    have zf5 : w3.frozen? ⟨ab, 5, none⟩ = false := frozen_of hab3
    have z6 : w3.cell? ⟨ab, 6, none⟩ = some (.int .u64 0) := cell_of hab3 rfl
    have zf6 : w3.frozen? ⟨ab, 6, none⟩ = false := frozen_of hab3
    have z7 : w3.cell? ⟨ab, 7, none⟩ = some (.int .u64 0) := cell_of hab3 rfl
    have zf7 : w3.frozen? ⟨ab, 7, none⟩ = false := frozen_of hab3
    clear h3 hab3 WA k2
    go_wp2
    obtain ⟨hh, hc⟩ := fin8 HAB3.out (.int .i64 (ac : Nat)) (.int .u64 (af : Nat)) (.int .u64 (am : Nat)) (.string tp) (.int .u32 (tg : Nat)) (.int .u32 (tt : Nat)) (.int .u64 (ta : Nat)) (.int .u64 (tn : Nat))
    refine bodyPost_ret (results_cell_row (p := 4) (ty := 46) rfl _ _ ab 46 _ (0, 0) _ rfl ((Below.heap_alloc _ _ _ (by simp only [setCell_size]; exact ha3)).trans hh) Tryz.underlying46 rfl (by kernel_rfl)) rfl ⟨rfl, ?_⟩
    exact ⟨⟨R, (((H2.out.same H3.out).stay hc (fun g hg e => (HFAB.out g hg).1 e)).same ((Chg.refl _ _).alloc _)).wide (fun g => Or.inl)⟩, (((HC2.out.trans H3.out).mono (fun _ f => f.elim)).trans' hc (fun g e => Or.inr (by have := HAS.out; have := HOS.out; omega))).alloc _⟩
end
end Go.Proofs.YtgmmglmokkcgeaaGreat
