/- Walks: Read. -/
import Derived.Test.YtcaemfogknaioaaP2
import Derived.Test.YtcaemfogknaioaaNil
import Derived.Deep.CutBlock
namespace Go.Proofs.Ytcaemfogknaioaa
set_option linter.unusedVariables false
set_option linter.unusedSimpArgs false
open Go.RowKit Mk Go.Sort

/-- While a loop is read. -/
structure LoAt (w : World) (sb bb b r S i : Nat) (t : StR) (W : World) : Prop where
  rd : RdB W sb bb t.r
  lo : LoopRep W b r (fun g => g = b ∨ g = r) 0 ⟨⟨#[]⟩, i, t.cl⟩
  chg : Chg (fun _ => False) w W
  ls : w.heap.size ≤ sb
  lb : w.heap.size ≤ bb
  ll : w.heap.size ≤ b
  lr : w.heap.size ≤ r
  sz : t.r.s.size ≤ S
  S : S ≤ 1099511627776
theorem cells_ne {w : World} {g g' : Nat} {c c' : Array Value} {t t' : TypeId} (h : w.heap[g]? = some (.cells c t)) (h' : w.heap[g']? = some (.cells c' t')) (ht : t ≠ t') : g ≠ g' := by
  rintro rfl
  rw [h] at h'
  injection h' with h'
  injection h' with _ h'
  exact ht h'
section
variable {w W W' : World} {sb bb b r S i : Nat} {t : StR}
theorem LoAt.apart (h : LoAt w sb bb b r S i t W) : sb ≠ b ∧ bb ≠ b ∧ sb ≠ r ∧ bb ≠ r := by
  obtain ⟨es, c, hm, -⟩ := h.lo.map
  refine ⟨cells_ne h.rd.s h.lo.loop (by decide), cells_ne h.rd.b h.lo.loop (by decide), ?_, ?_⟩
  · rintro rfl; have := h.rd.s; rw [hm] at this; cases this
  · rintro rfl; have := h.rd.b; rw [hm] at this; cases this
theorem LoAt.read (h : LoAt w sb bb b r S i t W) {q : RdS} (h1 : RdB W' sb bb q) (c : Chg (fun g => g = sb ∨ g = bb) W W') (hs : q.s.size ≤ t.r.s.size) : LoAt w sb bb b r S i ⟨q, t.before, t.cl⟩ W' where
  rd := h1
  lo := h.lo.stay c (fun g hg hg' => by
    obtain ⟨n1, n2, n3, n4⟩ := h.apart
    rcases hg with rfl | rfl <;> rcases hg' with e | e
    · exact n1 e.symm
    · exact n2 e.symm
    · exact n3 e.symm
    · exact n4 e.symm)
  chg := h.chg.trans' c (fun g e => Or.inr (by have := h.ls; have := h.lb; rcases e with e | e <;> omega))
  ls := h.ls
  lb := h.lb
  ll := h.ll
  lr := h.lr
  sz := Nat.le_trans hs h.sz
  S := h.S
theorem LoAt.same (h : LoAt w sb bb b r S i t W) (c : Chg (fun _ => False) W W') : LoAt w sb bb b r S i t W' :=
  ⟨h.rd.same c, h.lo.stay c (fun _ _ f => f), h.chg.trans c, h.ls, h.lb, h.ll, h.lr, h.sz, h.S⟩
theorem LoAt.flag (h : LoAt w sb bb b r S i t W) (bd : Bool) : W.cell? ⟨bb, 0, none⟩ = some (.bool t.r.bad) ∧ W.frozen? ⟨bb, 0, none⟩ = false ∧ LoAt w sb bb b r S i ⟨⟨t.r.s, bd⟩, t.before, t.cl⟩ (W.setCell ⟨bb, 0, none⟩ (.bool bd)) :=
  ⟨(h.rd.set bd).1, (h.rd.set bd).2.1, h.read (h.rd.set bd).2.2.1 (h.rd.set bd).2.2.2 (Nat.le_refl _)⟩
theorem LoAt.store (h : LoAt w sb bb b r S i t W) {c : Nat} (hc : okU c) (x : Last) :
    ∃ o, (Instr.mapUpdate 77 (.map (some r)) (.int .u64 c) (lastV x)).run Try.prog W = .ok () (ChangeMaps.setBlock W r o) ∧ LoAt w sb bb b r S i ⟨t.r, c, upd t.cl c x⟩ (ChangeMaps.setBlock W r o) := by
  obtain ⟨o, hu, h1, c1⟩ := h.lo.store hc x
  obtain ⟨n1, n2, n3, n4⟩ := h.apart
  refine ⟨o, hu, h.rd.stay c1 (fun e => by rcases e with e | e; exact n1 e; exact n3 e) (fun e => by rcases e with e | e; exact n2 e; exact n4 e), h1, h.chg.trans' c1 (fun g e => Or.inr (by have := h.ll; have := h.lr; rcases e with e | e <;> omega)), h.ls, h.lb, h.ll, h.lr, h.sz, h.S⟩
theorem LoAt.num (h : LoAt w sb bb b r S i t W) : Calls Try.prog 39 #[.pointer (some ⟨sb, 0, none⟩), .pointer (some ⟨bb, 0, none⟩)] W fun e W' => e = .returned (.int .u64 ((numR t.r).1 : Nat)) ∧ LoAt w sb bb b r S i ⟨(numR t.r).2, t.before, t.cl⟩ W' :=
  (num39_any h.rd (Nat.le_trans h.sz h.S)).mono fun e W' hh => ⟨hh.1, h.read hh.2.1 hh.2.2 (numR_le _).1⟩
theorem LoAt.text (h : LoAt w sb bb b r S i t W) : Calls Try.prog 40 #[.pointer (some ⟨sb, 0, none⟩), .pointer (some ⟨bb, 0, none⟩)] W fun e W' => e = .returned (.string (textR t.r).1) ∧ LoAt w sb bb b r S i ⟨(textR t.r).2, t.before, t.cl⟩ W' :=
  (text40_any h.rd (Nat.le_trans h.sz h.S)).mono fun e W' hh => ⟨hh.1, h.read hh.2.1 hh.2.2 (textR_le _).1⟩
end
theorem lo_begin {w W : World} {sb bb S : Nat} {q : RdS} {i : Nat} (h : RdB W sb bb q) (c : Chg (fun _ => False) w W) (ls : w.heap.size ≤ sb) (lb : w.heap.size ≤ bb) (hs : q.s.size ≤ S) (hS : S ≤ 1099511627776) (hi : i < 18446744073709551616) :
    LoAt w sb bb (W.heap.size + 1) W.heap.size S i ⟨q, 0, []⟩ ((W.alloc (.map #[] 0)).alloc (.cells #[.string ⟨#[]⟩, .func (.func 14) #[] #[], .int .u64 i, .map (some W.heap.size)] 79)) := by
  have z1 : (W.alloc (.map #[] 0)).heap.size = W.heap.size + 1 := by simp
  have c2 := ((Chg.refl (fun _ => False) W).alloc (.map #[] 0)).alloc (.cells #[.string ⟨#[]⟩, .func (.func 14) #[] #[], .int .u64 i, .map (some W.heap.size)] 79)
  have hz := c.size
  refine ⟨h.same c2, ⟨?_, ?_, hi, ⟨Nat.le_refl 0, Nat.zero_le _⟩, Or.inl rfl, Or.inr rfl⟩, c.trans c2, ls, lb, by omega, hz, hs, hS⟩
  · have := Go.heap_alloc_new (W.alloc (.map #[] 0)) (.cells #[.string ⟨#[]⟩, .func (.func 14) #[] #[], .int .u64 i, .map (some W.heap.size)] 79)
    rw [z1] at this
    exact this
  · exact (mapAt_made W).stay (Below.heap_alloc _ _ _ (by simp))

set_option maxRecDepth 100000 in
set_option maxHeartbeats 8000000 in
theorem read_any (s : ByteArray) (hs : s.size ≤ 1099511627776) (w : World) :
    Calls Try.prog 20 #[.string s, .func (.func 21) #[] #[], .func (.func 14) #[] #[]] w fun e w' => ((readL s = none ∧ e = .returned (.tuple #[.pointer none, .int .i64 2])) ∨ ∃ m b, readL s = some m ∧ e = .returned (.tuple #[.pointer (some ⟨b, 0, none⟩), .int .i64 0]) ∧ LoopIs w' b (fun g => w.heap.size ≤ g) s.size m) ∧ Chg (fun _ => False) w w' := by
  have hq1 := fun w => run_eql_func (P := Try.prog) w 55 func55 (.func 21) #[] #[]
  have hq2 := fun w => run_eql_func (P := Try.prog) w 38 func38 (.func 14) #[] #[]
  have hmm : ∀ v : World, (Instr.makeMap 77 none).run Try.prog v = .ok (.map (some v.heap.size)) (v.alloc (.map #[] 0)) := fun v => run_makeMap 77 v
  have e39 := enters39
  have e40 := enters40
  have e21 := enters21
  obtain ⟨RL, HRL⟩ : ∃ R, Hid (readL s = R) := ⟨_, Lib.hid rfl⟩
  rw [HRL.out]
  go_enter Try.func20, Try.ntmps20
  go_upto_region 6 with fail
  have h0 : RdB ((w.alloc (.cells #[.string s] 9)).alloc (.cells #[.bool false] 4)) w.heap.size (w.heap.size + 1) ⟨s, false⟩ :=
    ⟨(Below.heap_alloc _ _ _ (by simp)).trans (Go.heap_alloc_new _ _), by have := Go.heap_alloc_new (w.alloc (.cells #[.string s] 9)) (.cells #[.bool false] 4); simpa using this⟩
  have c0 : Chg (fun _ => False) w ((w.alloc (.cells #[.string s] 9)).alloc (.cells #[.bool false] 4)) := ((Chg.refl _ _).alloc _).alloc _
  have C0 := Lib.hid ((num39_any h0 hs).mono fun e W' hh => show e = .returned (.int .u64 ((numR ⟨s, false⟩).1 : Nat)) ∧ RdB W' w.heap.size (w.heap.size + 1) (numR ⟨s, false⟩).2 ∧ Chg (fun _ => False) w W' from ⟨hh.1, hh.2.1, c0.trans' hh.2.2 (fun g e => Or.inr (by rcases e with e | e <;> omega))⟩)
  obtain ⟨sb, HSB⟩ : ∃ k, Hid (w.heap.size = k) := ⟨_, Lib.hid rfl⟩
  obtain ⟨bb, HBB⟩ : ∃ k, Hid (w.heap.size + 1 = k) := ⟨_, Lib.hid rfl⟩
  obtain ⟨W0, HW0⟩ : ∃ W, Hid ((w.alloc (.cells #[.string s] 9)).alloc (.cells #[.bool false] 4) = W) := ⟨_, Lib.hid rfl⟩
  rw [HW0.out, HBB.out, HSB.out] at C0
  rw [HW0.out, HBB.out, HSB.out]
  clear h0 c0
  go_wp2_with fail
  refine C0.out.mono ?_
  rintro e W1 ⟨rfl, h1, c1⟩
  have HL := Lib.hid (lo_begin (i := (numR ⟨s, false⟩).1) (S := s.size) h1 c1 (by rw [← HSB.out]; exact Nat.le_refl _) (by rw [← HBB.out]; omega) (numR_le _).1 hs (numR_le _).2)
  obtain ⟨i, HI⟩ : ∃ i, Hid ((numR ⟨s, false⟩).1 = i) := ⟨_, Lib.hid rfl⟩
  rw [HI.out] at HL
  rw [HI.out]
  clear h1 c1 C0
  obtain ⟨r, HR⟩ : ∃ k, Hid (W1.heap.size = k) := ⟨_, Lib.hid rfl⟩
  obtain ⟨b, HB⟩ : ∃ k, Hid (W1.heap.size + 1 = k) := ⟨_, Lib.hid rfl⟩
  obtain ⟨W2, HW2⟩ : ∃ W, Hid ((W1.alloc (.map #[] 0)).alloc (.cells #[.string ⟨#[]⟩, .func (.func 14) #[] #[], .int .u64 (i : Nat), .map (some W1.heap.size)] 79) = W) := ⟨_, Lib.hid rfl⟩
  rw [HW2.out, HB.out, HR.out] at HL
  go_upto_region 8 with fail
  rw [HW2.out, HB.out]
  have C1 := Lib.hid HL.out.num
  have hN := (numR_le (numR ⟨s, false⟩).2).2
  clear HL
  go_wp2_with fail
  refine C1.out.mono ?_
  rintro e W3 ⟨rfl, h3⟩
  have HL := Lib.hid h3
  clear h3 C1
  obtain ⟨N, HNN⟩ : ∃ n, Hid ((numR (numR ⟨s, false⟩).2).1 = n) := ⟨_, Lib.hid rfl⟩
  have HT0 := Lib.hid (show begR s = roundsR N ⟨(numR (numR ⟨s, false⟩).2).2, 0, []⟩ from by rw [← HNN.out]; rfl)
  rw [HNN.out] at hN ⊢
  obtain ⟨t0, HT⟩ : ∃ t, Hid ((⟨(numR (numR ⟨s, false⟩).2).2, 0, []⟩ : StR) = t) := ⟨_, Lib.hid rfl⟩
  rw [HT.out] at HL HT0
  have HB0 := Lib.hid (show t0.before = 0 from by rw [← HT.out])
  clear HT
  go_upto_block 0 with fail
  go_cut [] from 12 to 67 (fun wc => Hid (LoAt w sb bb b r s.size i (begR s) wc))
  case first => as_aux_lemma =>
    go_wp2_with fail
    go_loopw [12, 13] (fun v12 v13 wr => ∃ (k : Nat) (t : StR), v12 = .int .u64 t.before ∧ v13 = .int .u64 k ∧ k < 18446744073709551616 ∧ Hid (begR s = roundsR k t) ∧ Hid (LoAt w sb bb b r s.size i t wr)) (fun _ v13 _ => (intOf v13).toNat)
    case atStart => exact ⟨N, t0, by rw [HB0.out]; rfl, rfl, hN, HT0, HL⟩
    case round =>
      obtain ⟨k, t, rfl, rfl, hk, HK, HT⟩ := hrel
      clear HL
      have b1 : wr.cell? ⟨bb, 0, none⟩ = some (.bool t.r.bad) := cell_of HT.out.rd.b rfl
      obtain ⟨bd, hbd⟩ : ∃ bd, t.r.bad = bd := ⟨_, rfl⟩
      rw [hbd] at b1
      cases k with
      | zero =>
        have HE := Lib.hid (show begR s = t from HK.out)
        clear hbd
        go_wp2_with fail
        go_meet
        rw [HE.out]; exact HT
      | succ k =>
        have q1 : decide ((0 : Int) < ((k + 1 : Nat) : Int)) = true := by simp <;> omega
        have q2 : decide ((0 : Int) < (k : Int) + 1) = true := by simp <;> omega
        have q3 : decide (0 < k + 1) = true := by simp
        have q4 : IntKind.u64.wrap (k : Int) = k := by simp only [IntKind.wrap, IntKind.bits, IntKind.signed]; simp; omega
        cases bd
        · have HE := Lib.hid (show begR s = roundsR k (roundR t) by rw [HK.out]; exact roundsR_next hbd k)
          clear hbd
          have C1 := Lib.hid HT.out.num
          clear HT
          go_wp2_with fail
          refine C1.out.mono ?_
          rintro e w1 ⟨rfl, h1⟩
          have C2 := Lib.hid h1.num
          clear h1 C1 b1
          go_wp2_with fail
          refine C2.out.mono ?_
          rintro e w2 ⟨rfl, h2⟩
          have C3 := Lib.hid h2.text
          clear h2 C2
          go_wp2_with fail
          refine C3.out.mono ?_
          rintro e w3 ⟨rfl, h3⟩
          clear C3
          have HRR := Lib.hid (show roundR t = ⟨⟨(textR (numR (numR t.r).2).2).2.s, (textR (numR (numR t.r).2).2).2.bad || decide ((numR t.r).1 ≤ t.before) || decide ((numR (numR t.r).2).1 = 0)⟩, (numR t.r).1, upd t.cl (numR t.r).1 ((numR (numR t.r).2).1, (textR (numR (numR t.r).2).2).1)⟩ from rfl)
          have hc1 := (numR_le t.r).2
          try simp only at h3
          generalize (numR t.r).1 = c at *
          generalize (numR (numR t.r).2).1 = q at *
          generalize textR (numR (numR t.r).2).2 = T at *
          obtain ⟨a, ⟨rs, ab⟩⟩ := T
          simp only at h3 HRR ⊢
          have HBX := Lib.hid (Go.heap_alloc_new w3 (.cells #[.int .u64 (q : Nat), .string a] 82))
          have h4 := h3.same ((Chg.refl _ w3).alloc (.cells #[.int .u64 (q : Nat), .string a] 82))
          obtain ⟨xb, HXB⟩ : ∃ k, Hid (w3.heap.size = k) := ⟨_, Lib.hid rfl⟩
          obtain ⟨w4, HW4⟩ : ∃ W, Hid (w3.alloc (.cells #[.int .u64 (q : Nat), .string a] 82) = W) := ⟨_, Lib.hid rfl⟩
          rw [HW4.out] at h4 HBX
          rw [HXB.out] at HBX
          have H4 := Lib.hid h4
          clear h3 h4
          go_upto_region 13 with fail
          rw [HW4.out, HXB.out]
          have x0 : w4.cell? ⟨xb, 0, none⟩ = some (.int .u64 (q : Nat)) := cell_of HBX.out rfl
          have b1 : w4.cell? ⟨bb, 0, none⟩ = some (.bool ab) := (H4.out.flag true).1
          have f1 : w4.frozen? ⟨bb, 0, none⟩ = false := (H4.out.flag true).2.1
          obtain ⟨z1, hz1⟩ : ∃ z, decide (c ≤ t.before) = z := ⟨_, rfl⟩
          obtain ⟨z2, hz2⟩ : ∃ z, decide (q = 0) = z := ⟨_, rfl⟩
          have d1 : decide ((c : Int) ≤ (t.before : Int)) = z1 := by rw [← hz1]; simp only [decide_eq_decide]; omega
          have d2 : decide ((q : Int) = 0) = z2 := by rw [← hz2]; simp only [decide_eq_decide]; omega
          have d3 : ((q : Int) == 0) = z2 := by rw [← d2]; rfl
          rw [hz1, hz2] at HRR
          have HC := Lib.hid hc1
          have HXA := Lib.hid (show xb ≠ bb ∧ xb ≠ r from by
            have e := HBX.out
            refine ⟨cells_ne e H4.out.rd.b (by decide), ?_⟩
            rintro rfl
            obtain ⟨es, cc, hm, -⟩ := H4.out.lo.map
            rw [hm] at e; cases e)
          clear hc1
          have hcs : ab = true ∨ (ab = false ∧ z1 = true) ∨ (ab = false ∧ z1 = false ∧ z2 = true) ∨ (ab = false ∧ z1 = false ∧ z2 = false) := by cases ab <;> cases z1 <;> cases z2 <;> simp
          rcases hcs with rfl | ⟨rfl, rfl⟩ | ⟨rfl, rfl, rfl⟩ | ⟨rfl, rfl, rfl⟩
          · have H5 := Lib.hid ((H4.out.flag true).2.2.same ((Chg.refl _ (w4.setCell ⟨bb, 0, none⟩ (.bool true))).drew))
            have HX5 := Lib.hid (show (w4.setCell ⟨bb, 0, none⟩ (.bool true)).heap[xb]? = some (.cells #[.int .u64 (q : Nat), .string a] 82) from (Below.heap_setCell _ _ _ _ (fun e => HXA.out.1 e)).trans HBX.out)
            go_upto_region 15 with fail
            obtain ⟨w5, HW5⟩ : ∃ W, Hid (w4.setCell ⟨bb, 0, none⟩ (.bool true) = W) := ⟨_, Lib.hid rfl⟩
            rw [HW5.out] at H5 HX5
            rw [HW5.out]
            have y0 : w5.cell? ⟨xb, 0, none⟩ = some (.int .u64 (q : Nat)) := cell_of HX5.out rfl
            have y1 : w5.cell? ⟨xb, 1, none⟩ = some (.string a) := cell_of HX5.out rfl
            have y2 : w5.cell? ⟨b, 3, none⟩ = some (.map (some r)) := H5.out.lo.cells.2.2.2
            obtain ⟨o, hu, h6⟩ := H5.out.store HC.out (q, a)
            unfold lastV at hu
            simp only at hu
            have H6 := Lib.hid h6
            clear h6 H4 H5 x0 b1 f1 HBX HX5
            go_region
            all_goals
              go_wp2_with fail
              go_roundw
              case rel => exact ⟨k, roundR t, by rw [HRR.out], by go_num, by omega, HE, by rw [HRR.out]; exact H6⟩
              case measure => simp [intOf]
          · have H5 := Lib.hid ((H4.out.flag true).2.2.same ((Chg.refl _ (w4.setCell ⟨bb, 0, none⟩ (.bool true))).drew))
            have HX5 := Lib.hid (show (w4.setCell ⟨bb, 0, none⟩ (.bool true)).heap[xb]? = some (.cells #[.int .u64 (q : Nat), .string a] 82) from (Below.heap_setCell _ _ _ _ (fun e => HXA.out.1 e)).trans HBX.out)
            go_upto_region 15 with fail
            obtain ⟨w5, HW5⟩ : ∃ W, Hid (w4.setCell ⟨bb, 0, none⟩ (.bool true) = W) := ⟨_, Lib.hid rfl⟩
            rw [HW5.out] at H5 HX5
            rw [HW5.out]
            have y0 : w5.cell? ⟨xb, 0, none⟩ = some (.int .u64 (q : Nat)) := cell_of HX5.out rfl
            have y1 : w5.cell? ⟨xb, 1, none⟩ = some (.string a) := cell_of HX5.out rfl
            have y2 : w5.cell? ⟨b, 3, none⟩ = some (.map (some r)) := H5.out.lo.cells.2.2.2
            obtain ⟨o, hu, h6⟩ := H5.out.store HC.out (q, a)
            unfold lastV at hu
            simp only at hu
            have H6 := Lib.hid h6
            clear h6 H4 H5 x0 b1 f1 HBX HX5
            go_region
            all_goals
              go_wp2_with fail
              go_roundw
              case rel => exact ⟨k, roundR t, by rw [HRR.out], by go_num, by omega, HE, by rw [HRR.out]; exact H6⟩
              case measure => simp [intOf]
          · have H5 := Lib.hid ((H4.out.flag true).2.2.same ((Chg.refl _ (w4.setCell ⟨bb, 0, none⟩ (.bool true))).drew))
            have HX5 := Lib.hid (show (w4.setCell ⟨bb, 0, none⟩ (.bool true)).heap[xb]? = some (.cells #[.int .u64 (q : Nat), .string a] 82) from (Below.heap_setCell _ _ _ _ (fun e => HXA.out.1 e)).trans HBX.out)
            go_upto_region 15 with fail
            obtain ⟨w5, HW5⟩ : ∃ W, Hid (w4.setCell ⟨bb, 0, none⟩ (.bool true) = W) := ⟨_, Lib.hid rfl⟩
            rw [HW5.out] at H5 HX5
            rw [HW5.out]
            have y0 : w5.cell? ⟨xb, 0, none⟩ = some (.int .u64 (q : Nat)) := cell_of HX5.out rfl
            have y1 : w5.cell? ⟨xb, 1, none⟩ = some (.string a) := cell_of HX5.out rfl
            have y2 : w5.cell? ⟨b, 3, none⟩ = some (.map (some r)) := H5.out.lo.cells.2.2.2
            obtain ⟨o, hu, h6⟩ := H5.out.store HC.out (q, a)
            unfold lastV at hu
            simp only at hu
            have H6 := Lib.hid h6
            clear h6 H4 H5 x0 b1 f1 HBX HX5
            go_region
            all_goals
              go_wp2_with fail
              go_roundw
              case rel => exact ⟨k, roundR t, by rw [HRR.out], by go_num, by omega, HE, by rw [HRR.out]; exact H6⟩
              case measure => simp [intOf]
          · have H5 := Lib.hid ((H4.out.flag false).2.2.same ((Chg.refl _ (w4.setCell ⟨bb, 0, none⟩ (.bool false))).drew))
            have HX5 := Lib.hid (show (w4.setCell ⟨bb, 0, none⟩ (.bool false)).heap[xb]? = some (.cells #[.int .u64 (q : Nat), .string a] 82) from (Below.heap_setCell _ _ _ _ (fun e => HXA.out.1 e)).trans HBX.out)
            go_upto_region 15 with fail
            obtain ⟨w5, HW5⟩ : ∃ W, Hid (w4.setCell ⟨bb, 0, none⟩ (.bool false) = W) := ⟨_, Lib.hid rfl⟩
            rw [HW5.out] at H5 HX5
            rw [HW5.out]
            have y0 : w5.cell? ⟨xb, 0, none⟩ = some (.int .u64 (q : Nat)) := cell_of HX5.out rfl
            have y1 : w5.cell? ⟨xb, 1, none⟩ = some (.string a) := cell_of HX5.out rfl
            have y2 : w5.cell? ⟨b, 3, none⟩ = some (.map (some r)) := H5.out.lo.cells.2.2.2
            obtain ⟨o, hu, h6⟩ := H5.out.store HC.out (q, a)
            unfold lastV at hu
            simp only at hu
            have H6 := Lib.hid h6
            clear h6 H4 H5 x0 b1 f1 HBX HX5
            go_region
            all_goals
              go_wp2_with fail
              go_roundw
              case rel => exact ⟨k, roundR t, by rw [HRR.out], by go_num, by omega, HE, by rw [HRR.out]; exact H6⟩
              case measure => simp [intOf]
        · have HE := Lib.hid (show begR s = t by rw [HK.out]; exact roundsR_bad hbd _)
          clear hbd
          go_wp2_with fail
          go_meet
          rw [HE.out]; exact HT
  case rest =>
    have HL := hcut
    clear HT0 HB0 hN
    have C2 := Lib.hid HL.out.text
    have HX := Lib.hid (show (textR (begR s).r).1.size ≤ s.size from Nat.le_trans (textR_le _).2 HL.out.sz)
    have HEN := Lib.hid (show RL = endR i (begR s) by rw [← HRL.out, ← HI.out]; rfl)
    generalize begR s = t at *
    clear HL
    go_wp2_with fail
    refine C2.out.mono ?_
    rintro e w2 ⟨rfl, h2⟩
    clear C2
    unfold endR at HEN
    generalize textR t.r = T at *
    obtain ⟨x, ⟨rs, bd⟩⟩ := T
    simp only at h2 HEN HX ⊢
    have b1 : w2.cell? ⟨bb, 0, none⟩ = some (.bool bd) := cell_of h2.rd.b rfl
    have s1 : w2.cell? ⟨sb, 0, none⟩ = some (.string rs) := cell_of h2.rd.s rfl
    have H2 := Lib.hid h2
    clear h2
    cases bd
    case true =>
      have HN := Lib.hid (show RL = none by rw [HEN.out]; exact if_neg (fun h => by cases h.1))
      go_wp2_with fail
      go_ret2
      exact ⟨Or.inl ⟨HN.out, rfl⟩, H2.out.chg⟩
    case false =>
      have hq := bytes_isEmpty rs
      by_cases e0 : rs.size = 0
      · have hd : decide (rs.size = 0) = true := decide_eq_true e0
        rw [hd] at hq
        have UW := Lib.hid (unwhole_any x (by have := HX.out; simp only [maxLen]; omega) w2)
        obtain ⟨ok, hok⟩ : ∃ z, okS x = z := ⟨_, rfl⟩
        rw [hok] at UW HEN
        clear hd hok
        go_wp2_with fail
        refine UW.out.mono ?_
        rintro e w3 ⟨rfl, c3⟩
        have H3 := Lib.hid (H2.out.same c3)
        clear c3 UW H2 b1 s1
        cases ok
        · have HN := Lib.hid (show RL = none by rw [HEN.out]; exact if_neg (fun h => by cases h.2.2))
          go_wp2_with fail
          go_ret2
          exact ⟨Or.inl ⟨HN.out, rfl⟩, H3.out.chg⟩
        · have HN := Lib.hid (show RL = some ⟨x, i, t.cl⟩ by rw [HEN.out]; exact if_pos ⟨trivial, e0, rfl⟩)
          have g0 := H3.out.lo.free 0
          have g1 := H3.out.lo.cells.1
          have HS := Lib.hid ((H3.out.lo.foot (G := fun g => w.heap.size ≤ g) (fun g e => by have := H3.out.ll; have := H3.out.lr; rcases e with e | e <;> omega)).state (s := x) (S' := s.size) HX.out hs)
          have HCH := Lib.hid (H3.out.chg.setCell (a := ⟨b, 0, none⟩) (Or.inr H3.out.ll) (.string x))
          clear H3
          go_wp2_with fail
          go_ret2
          exact ⟨Or.inr ⟨_, _, HN.out, rfl, ⟨_, HS.out⟩⟩, HCH.out⟩
      · have hd : decide (rs.size = 0) = false := decide_eq_false e0
        rw [hd] at hq
        have HN := Lib.hid (show RL = none by rw [HEN.out]; exact if_neg (fun h => e0 h.2.1))
        clear hd
        go_wp2_with fail
        go_ret2
        exact ⟨Or.inl ⟨HN.out, rfl⟩, H2.out.chg⟩
end Go.Proofs.Ytcaemfogknaioaa
