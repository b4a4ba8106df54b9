/- Walks: NetApart. -/
import Derived.Test.YtpgioccbnkcjcaaNc
import Derived.OpenShut
namespace Go.Proofs.Ytpgioccbnkcjcaa
open Go.RowKit Mk

theorem i64_and65535 (n : Int) : bits .and .i64 n 65535 = n % 65536 := by
  have h127 : (BitVec.ofInt 64 65535).toNat = 2 ^ 16 - 1 := by decide
  have key : (BitVec.ofInt 64 n &&& BitVec.ofInt 64 65535).toNat = (n % ((2 ^ 64 : Nat) : Int)).toNat % 2 ^ 16 := by
    rw [BitVec.toNat_and, BitVec.toNat_ofInt, h127, Nat.and_two_pow_sub_one_eq_mod]
  show IntKind.i64.wrap ((BitVec.ofInt 64 n &&& BitVec.ofInt 64 65535).toNat : Nat) = n % 65536
  rw [key, IntKind.wrap_i64]
  omega

theorem draw_is {w : World} {b : Nat} {F : Nat → Prop} {n : NetM} (h : NetIs w b F n) (i k : Int) (hi : i64 i) (hk : i64 k) (hd : ∀ m ∈ n.ms, m.draws < 18446744073709551616) :
    Calls Try.prog 13 #[.pointer (some ⟨b, 0, none⟩), .int .i64 i, .int .i64 k] w fun e w' => e = .returned (.tuple #[.int .i64 (drawM n i k).2.1, .int .i64 (drawM n i k).2.2]) ∧ NetIs w' b F (drawM n i k).1 ∧ Chg F w w' := by
  obtain ⟨r, mb, L, h⟩ := h
  exact (draw_any h i k hi hk hd).mono (fun e w' h => ⟨h.1, ⟨r, mb, L, h.2.1⟩, h.2.2⟩)
theorem tick_is {w : World} {b : Nat} {F : Nat → Prop} {n : NetM} (h : NetIs w b F n) (i : Int) (hi : i64 i) :
    Calls Try.prog 14 #[.pointer (some ⟨b, 0, none⟩), .int .i64 i] w fun e w' => e = .returned (.tuple #[.int .i64 (tickM n i).2.1, .int .i64 (tickM n i).2.2]) ∧ NetIs w' b F (tickM n i).1 ∧ Chg F w w' := by
  obtain ⟨r, mb, L, h⟩ := h
  exact (tick_any h i hi).mono (fun e w' h => ⟨h.1, ⟨r, mb, L, h.2.1⟩, h.2.2⟩)

def drawn (m : Mach) : Mach := { m with draws := u64 (m.draws + gold) }
def ticked (m : Mach) : Mach := { m with ticks := wrap64M (m.ticks + 1) }
theorem evD (ms : List Mach) (j : Nat) (hj : j < ms.length) (pn : Nat) : drawM ⟨ms, []⟩ (1 + (j : Int)) (1 + (pn : Int)) = (⟨ms.set j (drawn ms[j]), []⟩, toldM (u64 (ms[j].draws + gold)) (1 + pn), 0) := by
  rw [Int.add_comm 1 (j : Int), drawM_in (n := ⟨ms, []⟩) hj, if_neg (by omega)]; rfl
theorem evT (ms : List Mach) (j : Nat) (hj : j < ms.length) : tickM ⟨ms, []⟩ (1 + (j : Int)) = (⟨ms.set j (ticked ms[j]), []⟩, wrap64M (ms[j].ticks + 1), 0) := by
  rw [Int.add_comm 1 (j : Int), tickM_in (n := ⟨ms, []⟩) hj]; rfl

theorem told_in (t k : Int) (hk : 1 ≤ k) (hk2 : k ≤ 65536) : 0 ≤ toldM t k ∧ toldM t k < k := by
  have h0 : 0 ≤ mixI t := by
    have := wf_bits .xor .u64 (IntKind.u64.wrap (bits .xor .u64 (IntKind.u64.wrap (bits .xor .u64 t (t / 1073741824) * 13787848793156543929)) (IntKind.u64.wrap (bits .xor .u64 t (t / 1073741824) * 13787848793156543929) / 134217728) * 10723151780598845931)) (IntKind.u64.wrap (bits .xor .u64 (IntKind.u64.wrap (bits .xor .u64 t (t / 1073741824) * 13787848793156543929)) (IntKind.u64.wrap (bits .xor .u64 t (t / 1073741824) * 13787848793156543929) / 134217728) * 10723151780598845931) / 2147483648)
    simp only [Lit.wf, Bool.and_eq_true, decide_eq_true_eq] at this
    exact this.1
  have h1 := Int.tmod_nonneg k h0
  have h2 := Int.tmod_lt_of_pos (mixI t) (show 0 < k by omega)
  unfold toldM
  have : wrap64 ((mixI t).tmod k) = (mixI t).tmod k := by unfold wrap64; omega
  rw [this]
  exact ⟨h1, h2⟩

structure ApAt (Fa Fb : Nat → Prop) (w : World) (ba bb : Nat) (ms ms' : List Mach) (wr : World) : Prop where
  na : NetIs wr ba Fa ⟨ms, []⟩
  nb : NetIs wr bb Fb ⟨ms', []⟩
  disj : ∀ g, Fa g → ¬ Fb g
  fa : ∀ g, Fa g → w.heap.size ≤ g ∧ g < wr.heap.size
  fb : ∀ g, Fb g → w.heap.size ≤ g ∧ g < wr.heap.size
  la : ms.length = 3
  lb : ms'.length = 3
  da : ∀ m ∈ ms, m.draws < 18446744073709551616
  db : ∀ m ∈ ms', m.draws < 18446744073709551616
  chg : Chg (fun _ => False) w wr

theorem lim_set {ms : List Mach} (h : ∀ m ∈ ms, m.draws < 18446744073709551616) (j : Nat) (m : Mach) (hm : m.draws < 18446744073709551616) : ∀ x ∈ ms.set j m, x.draws < 18446744073709551616 := fun x hx => by
  rcases List.mem_or_eq_of_mem_set hx with a | a
  · exact h x a
  · rw [a]; exact hm
theorem drawn_lim (m : Mach) : (drawn m).draws < 18446744073709551616 := by simp only [drawn, u64]; omega

/-- Behind a block of the law's own. -/
theorem ApAt.alloc {Fa Fb : Nat → Prop} {w : World} {ba bb : Nat} {ms ms' : List Mach} {wr : World} (h : ApAt Fa Fb w ba bb ms ms' wr) (o : Obj) : ApAt Fa Fb w ba bb ms ms' (wr.alloc o) where
  na := h.na.stay (G := fun _ => False) ((Chg.refl _ _).alloc o) (fun _ _ h => h)
  nb := h.nb.stay (G := fun _ => False) ((Chg.refl _ _).alloc o) (fun _ _ h => h)
  disj := h.disj
  fa g hg := ⟨(h.fa g hg).1, by have := (h.fa g hg).2; simp; omega⟩
  fb g hg := ⟨(h.fb g hg).1, by have := (h.fb g hg).2; simp; omega⟩
  la := h.la
  lb := h.lb
  da := h.da
  db := h.db
  chg := h.chg.alloc o
/-- Behind a call of the first net's. -/
theorem ApAt.stepA {Fa Fb : Nat → Prop} {w : World} {ba bb : Nat} {ms ms' ms2 : List Mach} {wr w2 : World} (h : ApAt Fa Fb w ba bb ms ms' wr) (hn : NetIs w2 ba Fa ⟨ms2, []⟩) (hc : Chg Fa wr w2) (hl : ms2.length = 3) (hd : ∀ m ∈ ms2, m.draws < 18446744073709551616) : ApAt Fa Fb w ba bb ms2 ms' w2 where
  na := hn
  nb := h.nb.stay hc (fun g hb ha => h.disj g ha hb)
  disj := h.disj
  fa g hg := ⟨(h.fa g hg).1, Nat.lt_of_lt_of_le (h.fa g hg).2 hc.size⟩
  fb g hg := ⟨(h.fb g hg).1, Nat.lt_of_lt_of_le (h.fb g hg).2 hc.size⟩
  la := hl
  lb := h.lb
  da := hd
  db := h.db
  chg := h.chg.trans' hc (fun g hg => Or.inr (h.fa g hg).1)
theorem ApAt.stepB {Fa Fb : Nat → Prop} {w : World} {ba bb : Nat} {ms ms' ms2 : List Mach} {wr w2 : World} (h : ApAt Fa Fb w ba bb ms ms' wr) (hn : NetIs w2 bb Fb ⟨ms2, []⟩) (hc : Chg Fb wr w2) (hl : ms2.length = 3) (hd : ∀ m ∈ ms2, m.draws < 18446744073709551616) : ApAt Fa Fb w ba bb ms ms2 w2 where
  na := h.na.stay hc h.disj
  nb := hn
  disj := h.disj
  fa g hg := ⟨(h.fa g hg).1, Nat.lt_of_lt_of_le (h.fa g hg).2 hc.size⟩
  fb g hg := ⟨(h.fb g hg).1, Nat.lt_of_lt_of_le (h.fb g hg).2 hc.size⟩
  la := h.la
  lb := hl
  da := h.da
  db := hd
  chg := h.chg.trans' hc (fun g hg => Or.inr (h.fb g hg).1)

/-- Draw and Tick of the first, at a machine: what they say, and the net behind. -/
theorem ApAt.drawA {Fa Fb : Nat → Prop} {w : World} {ba bb : Nat} {ms ms' : List Mach} {wr : World} (h : ApAt Fa Fb w ba bb ms ms' wr) (j : Nat) (hj : j < 3) (pn : Nat) (hp : pn < 65536) :
    Calls Try.prog 13 #[.pointer (some ⟨ba, 0, none⟩), .int .i64 (1 + (j : Int)), .int .i64 (1 + (pn : Int))] wr fun e w2 => ∃ T, ∃ m, ms[j]? = some m ∧ T = toldM (u64 (m.draws + gold)) (1 + pn) ∧ e = .returned (.tuple #[.int .i64 T, .int .i64 0]) ∧ ApAt Fa Fb w ba bb (ms.set j (drawn m)) ms' w2 ∧ Chg Fa wr w2 := by
  have hl : j < ms.length := by rw [h.la]; exact hj
  refine (draw_is h.na (1 + (j : Int)) (1 + (pn : Int)) (by unfold i64; omega) (by unfold i64; omega) h.da).mono ?_
  rintro e w2 ⟨rfl, hn, hc⟩
  rw [evD ms j hl pn] at hn ⊢
  exact ⟨_, ms[j], List.getElem?_eq_getElem hl, rfl, rfl, h.stepA hn hc (by simp [h.la]) (lim_set h.da _ _ (drawn_lim _)), hc⟩
theorem ApAt.tickA {Fa Fb : Nat → Prop} {w : World} {ba bb : Nat} {ms ms' : List Mach} {wr : World} (h : ApAt Fa Fb w ba bb ms ms' wr) (j : Nat) (hj : j < 3) :
    Calls Try.prog 14 #[.pointer (some ⟨ba, 0, none⟩), .int .i64 (1 + (j : Int))] wr fun e w2 => ∃ m, ms[j]? = some m ∧ e = .returned (.tuple #[.int .i64 (wrap64M (m.ticks + 1)), .int .i64 0]) ∧ ApAt Fa Fb w ba bb (ms.set j (ticked m)) ms' w2 ∧ Chg Fa wr w2 := by
  have hl : j < ms.length := by rw [h.la]; exact hj
  refine (tick_is h.na (1 + (j : Int)) (by unfold i64; omega)).mono ?_
  rintro e w2 ⟨rfl, hn, hc⟩
  rw [evT ms j hl] at hn ⊢
  exact ⟨ms[j], List.getElem?_eq_getElem hl, rfl, h.stepA hn hc (by simp [h.la]) (lim_set h.da _ _ (h.da ms[j] (List.getElem_mem hl))), hc⟩
theorem ApAt.drawB {Fa Fb : Nat → Prop} {w : World} {ba bb : Nat} {ms ms' : List Mach} {wr : World} (h : ApAt Fa Fb w ba bb ms ms' wr) (pn : Nat) (hp : pn < 65536) :
    Calls Try.prog 13 #[.pointer (some ⟨bb, 0, none⟩), .int .i64 2, .int .i64 (1 + (pn : Int))] wr fun e w2 => ∃ T, ∃ m, ms'[1]? = some m ∧ T = toldM (u64 (m.draws + gold)) (1 + pn) ∧ e = .returned (.tuple #[.int .i64 T, .int .i64 0]) ∧ ApAt Fa Fb w ba bb ms (ms'.set 1 (drawn m)) w2 ∧ Chg Fb wr w2 := by
  have hl : 1 < ms'.length := by rw [h.lb]; decide
  refine (draw_is h.nb 2 (1 + (pn : Int)) (by decide) (by unfold i64; omega) h.db).mono ?_
  rintro e w2 ⟨rfl, hn, hc⟩
  have hE := evD ms' 1 hl pn
  rw [show (1 + ((1 : Nat) : Int)) = 2 from rfl] at hE
  rw [hE] at hn ⊢
  exact ⟨_, ms'[1], List.getElem?_eq_getElem hl, rfl, rfl, h.stepB hn hc (by simp [h.lb]) (lim_set h.db _ _ (drawn_lim _)), hc⟩
theorem ApAt.tickB {Fa Fb : Nat → Prop} {w : World} {ba bb : Nat} {ms ms' : List Mach} {wr : World} (h : ApAt Fa Fb w ba bb ms ms' wr) :
    Calls Try.prog 14 #[.pointer (some ⟨bb, 0, none⟩), .int .i64 2] wr fun e w2 => ∃ m, ms'[1]? = some m ∧ e = .returned (.tuple #[.int .i64 (wrap64M (m.ticks + 1)), .int .i64 0]) ∧ ApAt Fa Fb w ba bb ms (ms'.set 1 (ticked m)) w2 ∧ Chg Fb wr w2 := by
  have hl : 1 < ms'.length := by rw [h.lb]; decide
  refine (tick_is h.nb 2 (by decide)).mono ?_
  rintro e w2 ⟨rfl, hn, hc⟩
  have hE := evT ms' 1 hl
  rw [show (1 + ((1 : Nat) : Int)) = 2 from rfl] at hE
  rw [hE] at hn ⊢
  exact ⟨ms'[1], List.getElem?_eq_getElem hl, rfl, h.stepB hn hc (by simp [h.lb]) (lim_set h.db _ _ (h.db ms'[1] (List.getElem_mem hl))), hc⟩

set_option maxRecDepth 100000 in
set_option maxHeartbeats 2000000 in
theorem apart_any (w : World) (seed : Nat) (hs : seed < 18446744073709551616) (ao : Option Addr) (cap len : Nat) (f : Nat → StepV) (hv : stepsAt w (.slice ao len cap) len f) :
    Calls Try.prog 4 #[.int .u64 seed, .slice ao len cap] w fun e w' => e = .returned (.bool true) ∧ Chg (fun _ => False) w w' := by
  have HV := Lib.hid hv
  have hlm := hv.2.1
  unfold maxLen at hlm
  have HN1 := Lib.hid (fun w => new_any w 3 seed (by decide) (by decide) hs)
  clear hv hs
  go_enter Try.func4, Try.ntmps4
  go_wp2_with fail
  refine (HN1.out w).mono ?_
  rintro e w1 ⟨ba, rfl, hna, hca⟩
  have HA := Lib.hid hna.tight
  have HCA := Lib.hid hca
  clear hna hca
  go_wp2_with fail
  refine (HN1.out w1).mono ?_
  rintro e w2 ⟨bb, rfl, hnb, hcb⟩
  have HP : ∃ Fa Fb : Nat → Prop, Hid (ApAt Fa Fb w ba bb (msN 3 seed 3) (msN 3 seed 3) w2) := by
    have hlim : ∀ m ∈ msN 3 seed 3, m.draws < 18446744073709551616 := fun m hm => by
      obtain ⟨i, hi, rfl⟩ := List.mem_map.1 hm
      simp only [u64]; split <;> omega
    refine ⟨_, _, Lib.hid ⟨HA.out.stay hcb (fun _ _ h => h), hnb.tight, fun g ha hb => ?_, fun g hg => ⟨hg.1, Nat.lt_of_lt_of_le hg.2 hcb.size⟩, fun g hg => ⟨Nat.le_trans HCA.out.size hg.1, hg.2⟩, msN_len _ _ _, msN_len _ _ _, hlim, hlim, HCA.out.trans hcb⟩⟩
    have := ha.2
    have := hb.1
    omega
  obtain ⟨Fa, Fb, HP⟩ := HP
  clear hnb hcb HA HCA HN1
  go_wp2
  go_loopw [9] (fun i wr => ∃ (k : Nat) (ms ms' : List Mach), k ≤ len ∧ k ≤ 100 ∧ i = .int .i64 k ∧ Hid (ApAt Fa Fb w ba bb ms ms' wr ∧ ms[1]? = ms'[1]?)) (fun i _ => 100 - (intOf i).toNat)
  case atStart => exact ⟨0, _, _, Nat.zero_le _, Nat.zero_le _, rfl, Lib.hid ⟨HP.out, rfl⟩⟩
  case round =>
    obtain ⟨k, ms, ms', hk, hk1, rfl, HA⟩ := hrel
    clear HP
    by_cases hlt : k < len
    · have hd : decide ((k : Int) < len) = true := by simp; omega
      by_cases h100 : k < 100
      · have hd2 : decide ((k : Int) < 100) = true := by simp; omega
        obtain ⟨g, o, rfl, hgs, c0, c1, c2, c3, c4, c5⟩ := HV.out.load hlt (fun g hg => HA.out.1.chg.block g hg (fun h => h))
        have hok := (HV.out.2.2 k hlt).1
        have hba := i64_and65535 (f k).a
        have hbn := i64_and65535 (f k).n
        generalize (f k).a = xa at *
        generalize (f k).n = xn at *
        obtain ⟨pa, hpa⟩ : ∃ pa : Nat, xa % 65536 = pa := ⟨(xa % 65536).toNat, by omega⟩
        obtain ⟨pn, hpn⟩ : ∃ pn : Nat, xn % 65536 = pn := ⟨(xn % 65536).toNat, by omega⟩
        have hpa2 : pa < 65536 := by omega
        have hpn2 : pn < 65536 := by omega
        rw [hpa] at hba
        rw [hpn] at hbn
        have htm : (pa : Int).tmod 3 = ((pa % 3 : Nat) : Int) := by rw [Int.tmod_eq_emod_of_nonneg (by omega)]; omega
        have hj3 : pa % 3 < 3 := by omega
        generalize pa % 3 = j at *
        have hb0 : (0 : Int) ≤ k := by omega
        have hb1 : (k : Int) < len := by omega
        have HJ := Lib.hid hj3
        have HPN := Lib.hid hpn2
        clear hok hpa hpn
        generalize (f k).d = xd at *
        generalize (f k).b = xb at *
        generalize (f k).s = xs at *
        generalize (f k).so = xo at *
        generalize (f k).sl = xl at *
        generalize (f k).sc = xc at *
        go_wp2_with fail
        have HW := Lib.hid (HA.out.1.alloc (.cells #[.int .i64 xd, .int .i64 xa, .int .i64 xb, .int .i64 xn, .string xs, .slice xo xl xc] 35))
        refine (HW.out.drawA j HJ.out pn HPN.out).mono ?_
        rintro e w3 ⟨T, m, hm, hT, rfl, h3, -⟩
        have hin := told_in (Ytpgioccbnkcjcaa.u64 (m.draws + gold)) (1 + (pn : Int)) (by omega) (by have := HPN.out; omega)
        rw [← hT] at hin
        have hT0 : decide (T < 0) = false := by simp; exact hin.1
        have hT1 : decide (1 + (pn : Int) ≤ T) = false := by simp; exact hin.2
        have HM := Lib.hid hm
        have HT := Lib.hid hT
        have H3 := Lib.hid h3
        clear hin hm hT h3 HW c0 c1 c2 c3 c4 c5 hba hbn htm hgs
        go_wp2_with fail
        refine (H3.out.tickA j HJ.out).mono ?_
        rintro e w4 ⟨m2, hm2, rfl, h4, -⟩
        have HM2 := Lib.hid hm2
        have H4 := Lib.hid h4
        have hm2e : m2 = drawn m := by
          have hl : j < ms.length := (List.getElem?_eq_some_iff.1 HM.out).1
          rw [List.getElem?_set_self hl] at hm2
          exact (Option.some.inj hm2).symm
        have HE2 := Lib.hid hm2e
        obtain ⟨t, Ht⟩ : ∃ t, Hid (wrap64M (m2.ticks + 1) = t) := ⟨_, Lib.hid rfl⟩
        rw [Ht.out]
        clear hm2 h4 H3 hm2e
        by_cases hj1 : j = 1
        · have hne : ((1 + (j : Int)) != 2) = false := by simp; omega
          have HJ1 := Lib.hid hj1
          clear hj1
          go_wp2_with fail
          refine (H4.out.drawB pn HPN.out).mono ?_
          rintro e w5 ⟨T', m', hm', hT', rfl, h5, -⟩
          have hmm : m' = m := by
            have h1 := HA.out.2
            have h2 := HM.out
            rw [HJ1.out, h1, hm'] at h2
            exact (Option.some.inj h2)
          have hTT : T' = T := by rw [hT', HT.out, hmm]
          rw [hTT]
          have H5 := Lib.hid h5
          have HMM := Lib.hid hmm
          have HM' := Lib.hid hm'
          clear hm' hT' h5 hmm hTT
          go_wp2_with fail
          refine (H5.out.tickB).mono ?_
          rintro e w6 ⟨m3, hm3, rfl, h6, -⟩
          have hm3e : m3 = m2 := by
            have hl : 1 < ms'.length := (List.getElem?_eq_some_iff.1 HM'.out).1
            rw [List.getElem?_set_self hl] at hm3
            rw [← Option.some.inj hm3, HMM.out, HE2.out]
          have htt : wrap64M (m3.ticks + 1) = t := by rw [hm3e, Ht.out]
          rw [htt]
          have H6 := Lib.hid h6
          have HE3 := Lib.hid hm3e
          clear hm3 h6 hm3e htt
          go_wp2
          go_roundw
          case rel =>
            refine ⟨k + 1, _, _, by omega, by omega, by go_num, Lib.hid ⟨H6.out, ?_⟩⟩
            have hl' : 1 < ms'.length := (List.getElem?_eq_some_iff.1 HM'.out).1
            have hl : j < ms.length := (List.getElem?_eq_some_iff.1 HM.out).1
            have hjj := HJ1.out
            subst hjj
            rw [List.getElem?_set_self (by simpa using hl), List.getElem?_set_self (by simpa using hl'), HE3.out]
          case measure => simp [intOf]; omega
        · have hne : ((1 + (j : Int)) != 2) = true := by simp; omega
          have HJ1 := Lib.hid hj1
          clear hj1
          go_wp2
          go_roundw
          case rel =>
            refine ⟨k + 1, _, _, by omega, by omega, by go_num, Lib.hid ⟨H4.out, ?_⟩⟩
            rw [List.getElem?_set_ne HJ1.out, List.getElem?_set_ne HJ1.out]
            exact HA.out.2
          case measure => simp [intOf]; omega
      · have hd2 : decide ((k : Int) < 100) = false := by simp; omega
        have HC := Lib.hid HA.out.1.chg
        go_wp2_with fail
        refine (alive_any wr).mono ?_
        rintro e w3 ⟨rfl, hc⟩
        have HC3 := Lib.hid (HC.out.trans hc)
        clear hc
        go_wp2
        go_ret
        exact ⟨rfl, HC3.out⟩
    · have hd : decide ((k : Int) < len) = false := by simp; omega
      have HC := Lib.hid HA.out.1.chg
      go_wp2_with fail
      refine (alive_any wr).mono ?_
      rintro e w3 ⟨rfl, hc⟩
      have HC3 := Lib.hid (HC.out.trans hc)
      clear hc
      go_wp2
      go_ret
      exact ⟨rfl, HC3.out⟩

theorem walkNetApart (a : Int) (v : Value) (ha : (Lit.int .u64 a).wf = true) (w : World) (hv : ∃ len f, stepsAt w v len f) : Calls Try.prog 4 #[.int .u64 a, v] w fun e w' => e = .returned (.bool true) ∧ Below w.heap.size w w' := by
  simp only [Lit.wf, Bool.and_eq_true, decide_eq_true_eq, IntKind.min, IntKind.max, IntKind.bits, IntKind.signed] at ha
  have h1 : 0 ≤ a := by have := ha.1; simpa using this
  have h2 : a ≤ 18446744073709551615 := by have := ha.2; simpa using this
  obtain ⟨seed, rfl⟩ : ∃ seed : Nat, a = seed := ⟨a.toNat, by omega⟩
  obtain ⟨len, f, hv⟩ := hv
  obtain ⟨ao, cap, rfl⟩ := hv.1
  exact (apart_any w seed (by omega) ao cap len f hv).mono (fun e w' h => ⟨h.1, h.2.below (fun _ h => h.elim) (Nat.le_refl _)⟩)
end Go.Proofs.Ytpgioccbnkcjcaa
