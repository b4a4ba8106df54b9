/- Walks: lists. -/
import Derived.Test.YtgmmglmokkcgeaaGreatA2
namespace Go.Proofs.YtgmmglmokkcgeaaGreat
set_option linter.unusedVariables false
set_option linter.unusedSimpArgs false
open Go.RowKit Mk Go.Sort

/-- A command as a value: where its slices lie. -/
structure OpL where
  ko : Option Addr
  kc : Nat
  no : Option Addr
  nc : Nat
abbrev opC (o : OpM) (l : OpL) : Array Value := #[.int .u8 (o.k : Nat), .int .u32 (o.n : Nat), .int .u64 (o.st : Nat), .slice l.ko o.keys.length l.kc, .slice l.no o.needs.length l.nc, .string o.pred, .int .u32 (o.g : Nat), .int .u32 (o.to : Nat), .int .u64 (o.at_ : Nat)]
structure OpAt (w : World) (o : OpM) (l : OpL) : Prop where
  keys : StrsAt w l.ko o.keys
  needs : NeedsAt w l.no o.needs
  k : o.k < 256
  n : o.n < 4294967296
  st : o.st < 18446744073709551616
  g : o.g < 4294967296
  to : o.to < 4294967296
  at_ : o.at_ < 18446744073709551616
theorem OpAt.same {w w' : World} {o : OpM} {l : OpL} (h : OpAt w o l) (c : Chg (fun _ => False) w w') : OpAt w' o l := ⟨h.keys.same c, h.needs.same c, h.k, h.n, h.st, h.g, h.to, h.at_⟩

def keyP (k : ByteArray) : Bool := decide (1 ≤ k.size) && decide (k.size ≤ 16384)
def needP (x : ByteArray × Nat) : Bool := predOk x.1 && decide (x.2 ≠ 0)
theorem listsM_eq (o : OpM) : listsM o = (o.keys.all keyP && o.needs.all needP && decide (o.keys.length ≤ 256) && decide (1 ≤ o.needs.length) && decide (o.needs.length ≤ 256) && risingM o.keys && risingM (o.needs.map (·.1))) := rfl
theorem all_drop {α : Type} (p : α → Bool) {l : List α} {j : Nat} (h : j < l.length) : (l.drop j).all p = (p l[j] && (l.drop (j + 1)).all p) := by
  rw [List.drop_eq_getElem_cons h]; rfl

set_option maxRecDepth 100000 in
set_option maxHeartbeats 4000000 in
theorem lists_any {w : World} {o : OpM} {l : OpL} (h : OpAt w o l) :
    Calls Tryz.prog 71 #[.agg (opC o l)] w fun e w' => e = .returned (.bool (listsM o)) ∧ Chg (fun _ => False) w w' := by
  have H := Lib.hid h
  obtain ⟨K, hK⟩ : ∃ K, o.keys.length = K := ⟨_, rfl⟩
  obtain ⟨N, hN⟩ : ∃ N, o.needs.length = N := ⟨_, rfl⟩
  have hkl := h.keys.len
  have hnl := h.needs.len
  rw [hK] at hkl
  rw [hN] at hnl
  have HK := Lib.hid hK
  have HN := Lib.hid hN
  obtain ⟨Rr, HR⟩ : ∃ b, Hid (listsM o = b) := ⟨_, Lib.hid rfl⟩
  rw [HR.out]
  unfold opC
  rw [hK, hN]
  obtain ⟨W0, HW0⟩ : ∃ W0, Hid (w.alloc (.cells #[.int .u8 (o.k : Nat), .int .u32 (o.n : Nat), .int .u64 (o.st : Nat), .slice l.ko K l.kc, .slice l.no N l.nc, .string o.pred, .int .u32 (o.g : Nat), .int .u32 (o.to : Nat), .int .u64 (o.at_ : Nat)] 28) = W0) := ⟨_, Lib.hid rfl⟩
  obtain ⟨kb, HKB⟩ : ∃ kb, Hid (w.heap.size = kb) := ⟨_, Lib.hid rfl⟩
  have HC0 : Hid (Chg (fun _ => False) w W0) := by rw [← HW0.out]; exact Lib.hid ((Chg.refl _ _).alloc _)
  have hkc : W0.heap[kb]? = some (.cells #[.int .u8 (o.k : Nat), .int .u32 (o.n : Nat), .int .u64 (o.st : Nat), .slice l.ko K l.kc, .slice l.no N l.nc, .string o.pred, .int .u32 (o.g : Nat), .int .u32 (o.to : Nat), .int .u64 (o.at_ : Nat)] 28) := by rw [← HW0.out, ← HKB.out]; exact Go.heap_alloc_new _ _
  have HKC := Lib.hid (show W0.heap[kb]? = some (.cells (opC o l) 28) by unfold opC; rw [hK, hN]; exact hkc)
  have HKL := Lib.hid (Array.getElem?_eq_some_iff.1 hkc).1
  have k3 : W0.cell? ⟨kb, 3, none⟩ = some (.slice l.ko K l.kc) := cell_of hkc rfl
  clear hK hN h hkc
  go_enter Tryz.func71, Tryz.ntmps71
  go_wp2_with fail
  rw [HW0.out, HKB.out]
  generalize o.pred = op at *
  generalize (o.k : Int) = okk at *
  generalize (o.n : Int) = onn at *
  generalize (o.g : Int) = ogg at *
  generalize (o.to : Int) = oto at *
  generalize (o.at_ : Int) = oat at *
  go_loop [10] (fun i => ∃ j : Nat, i = .int .i64 j ∧ j ≤ K ∧ Hid (o.keys.all keyP = (o.keys.drop j).all keyP)) (fun i => K - (intOf i).toNat)
  case atStart => exact ⟨0, rfl, by omega, Lib.hid rfl⟩
  case round =>
    obtain ⟨j, rfl, hj, HP⟩ := hrel
    by_cases hlt : j < K
    · have hd : decide ((j : Int) < K) = true := by simp; omega
      have hjl : j < o.keys.length := by rw [HK.out]; exact hlt
      obtain ⟨g, oo, hko, hg, a1⟩ := (H.out.keys.same HC0.out).cell j hjl
      have hst := all_drop keyP hjl
      generalize o.keys[j] = x at *
      have q0 : (0 : Int) ≤ (j : Int) := by omega
      have q1 : (j : Int) < K := by omega
      rw [hko]
      have HST := Lib.hid hst
      clear hst
      by_cases h1 : x.size < 1
      · have d1 : decide ((x.size : Int) < 1) = true := by simp; omega
        have : Rr = false := by rw [← HR.out, listsM_eq, HP.out, HST.out, show keyP x = false by unfold keyP; simp; omega]; rfl
        subst this
        go_wp2
        go_ret
        exact ⟨rfl, HC0.out⟩
      · have d1 : decide ((x.size : Int) < 1) = false := by simp; omega
        by_cases h2 : 16384 < x.size
        · have d2 : decide ((16384 : Int) < x.size) = true := by simp; omega
          have : Rr = false := by rw [← HR.out, listsM_eq, HP.out, HST.out, show keyP x = false by unfold keyP; simp; omega]; rfl
          subst this
          go_wp2
          go_ret
          exact ⟨rfl, HC0.out⟩
        · have d2 : decide ((16384 : Int) < x.size) = false := by simp; omega
          have HP2 : Hid (o.keys.all keyP = (o.keys.drop (j + 1)).all keyP) := Lib.hid (by rw [HP.out, HST.out, show keyP x = true by unfold keyP; simp; omega]; rfl)
          go_wp2
          go_round
          case rel => exact ⟨j + 1, by go_num, by omega, HP2⟩
          case measure => simp [intOf]; omega
    · have hd : decide ((j : Int) < K) = false := by simp; omega
      have HKALL : Hid (o.keys.all keyP = true) := Lib.hid (by rw [HP.out, List.drop_of_length_le (by rw [HK.out]; omega)]; rfl)
      have k4 : W0.cell? ⟨kb, 4, none⟩ = some (.slice l.no N l.nc) := by have := HKC.out; unfold opC at this; rw [HN.out] at this; exact cell_of this rfl
      clear k3 HP
      go_wp2
      go_loopw [26] (fun i wr => ∃ j : Nat, i = .int .i64 j ∧ j ≤ N ∧ Hid (o.needs.all needP = (o.needs.drop j).all needP) ∧ Hid (Chg (fun _ => False) W0 wr)) (fun i _ => N - (intOf i).toNat)
      case atStart => exact ⟨0, rfl, by omega, Lib.hid rfl, Lib.hid (Chg.refl _ _)⟩
      case round =>
        obtain ⟨j2, rfl, hj2, HP4, HC4⟩ := hrel
        clear k4
        by_cases hlt2 : j2 < N
        · have hd2 : decide ((j2 : Int) < N) = true := by simp; omega
          have hjl : j2 < o.needs.length := by rw [HN.out]; exact hlt2
          obtain ⟨g, oo, hno, hg, a1, a2⟩ := ((H.out.needs.same HC0.out).same HC4.out).cell j2 hjl
          have hlim := H.out.needs.lim _ (List.getElem_mem hjl)
          have hst := all_drop needP hjl
          generalize o.needs[j2] = x2 at *
          obtain ⟨x, t⟩ := x2
          simp only at a1 a2 hlim
          have q0 : (0 : Int) ≤ (j2 : Int) := by omega
          have q1 : (j2 : Int) < N := by omega
          rw [hno]
          have HST := Lib.hid hst
          clear hst
          obtain ⟨W1, HW1⟩ : ∃ W1, Hid (wr.alloc (.cells #[.string x, .int .u64 t] 109) = W1) := ⟨_, Lib.hid rfl⟩
          obtain ⟨nb, HNB⟩ : ∃ nb, Hid (wr.heap.size = nb) := ⟨_, Lib.hid rfl⟩
          have hnb : W1.heap[nb]? = some (.cells #[.string x, .int .u64 t] 109) := by rw [← HW1.out, ← HNB.out]; exact Go.heap_alloc_new _ _
          have HNC := Lib.hid hnb
          have HNL := Lib.hid (Array.getElem?_eq_some_iff.1 hnb).1
          have HC1 : Hid (Chg (fun _ => False) W0 W1) := by rw [← HW1.out]; exact Lib.hid (HC4.out.alloc _)
          have PR := Lib.hid (pred_any x W1)
          clear hnb hg
          go_wp2_with fail
          rw [HW1.out, HNB.out]
          refine PR.out.mono ?_
          rintro e w3 ⟨rfl, h3⟩
          have hn3 := (h3.block nb HNL.out (fun f => f)).trans HNC.out
          have b1 : w3.cell? ⟨nb, 1, none⟩ = some (.int .u64 t) := cell_of hn3 rfl
          have HC3 := Lib.hid (HC1.out.trans h3)
          clear hn3 h3 PR
          obtain ⟨pk, hpk⟩ : ∃ b, predOk x = b := ⟨_, rfl⟩
          rw [hpk]
          cases pk
          · have : Rr = false := by rw [← HR.out, listsM_eq, HP4.out, HST.out, show needP (x, t) = false by unfold needP; simp [hpk]]; simp
            subst this
            simp only [if_neg (show ¬ (false = true) by decide)]
            go_wp2
            go_ret
            exact ⟨rfl, HC0.out.trans HC3.out⟩
          · simp only [if_pos (show (true = true) from rfl)]
            by_cases ht : t = 0
            · subst ht
              have : Rr = false := by rw [← HR.out, listsM_eq, HP4.out, HST.out, show needP (x, 0) = false by unfold needP; simp]; simp
              subst this
              go_wp2
              go_ret
              exact ⟨rfl, HC0.out.trans HC3.out⟩
            · have d4 : decide ((t : Int) = 0) = false := by simp; omega
              have HP5 : Hid (o.needs.all needP = (o.needs.drop (j2 + 1)).all needP) := Lib.hid (by rw [HP4.out, HST.out, show needP (x, t) = true by unfold needP; simp [hpk, ht]]; rfl)
              go_wp2
              go_roundw
              case rel => exact ⟨j2 + 1, by go_num, by omega, HP5, HC3⟩
              case measure => simp [intOf]; omega
        · have hd2 : decide ((j2 : Int) < N) = false := by simp; omega
          have HNALL : Hid (o.needs.all needP = true) := Lib.hid (by rw [HP4.out, List.drop_of_length_le (by rw [HN.out]; omega)]; rfl)
          have hkc2 := (HC4.out.block kb HKL.out (fun f => f)).trans HKC.out
          unfold opC at hkc2
          rw [HK.out, HN.out] at hkc2
          have m3 : wr.cell? ⟨kb, 3, none⟩ = some (.slice l.ko K l.kc) := cell_of hkc2 rfl
          have m4 : wr.cell? ⟨kb, 4, none⟩ = some (.slice l.no N l.nc) := cell_of hkc2 rfl
          clear hkc2
          have HRR : Hid ((decide (K ≤ 256) && decide (1 ≤ N) && decide (N ≤ 256) && risingM o.keys && risingM (o.needs.map (·.1))) = Rr) := Lib.hid (by rw [← HR.out, listsM_eq, HKALL.out, HNALL.out, HK.out, HN.out]; simp)
          by_cases e1 : K ≤ 256
          · have d1 : decide ((K : Int) ≤ 256) = true := by simp; omega
            by_cases e2 : 1 ≤ N
            · have d2 : decide ((1 : Int) ≤ N) = true := by simp; omega
              by_cases e3 : N ≤ 256
              · have d3 : decide ((N : Int) ≤ 256) = true := by simp; omega
                have HR3 : Hid ((risingM o.keys && risingM (o.needs.map (·.1))) = Rr) := Lib.hid (by rw [← HRR.out]; simp [e1, e2, e3])
                have RS := Lib.hid (rising_strs (sc := l.kc) ((H.out.keys.same HC0.out).same HC4.out))
                rw [HK.out] at RS
                go_wp2_with fail
                refine RS.out.mono ?_
                rintro e w5 ⟨rfl, h5⟩
                have HC5 := Lib.hid (HC4.out.trans h5)
                have hkc2 := (HC5.out.block kb HKL.out (fun f => f)).trans HKC.out
                unfold opC at hkc2
                rw [HN.out] at hkc2
                have m5 : w5.cell? ⟨kb, 4, none⟩ = some (.slice l.no N l.nc) := cell_of hkc2 rfl
                clear hkc2 h5 RS
                obtain ⟨b5, hb5⟩ : ∃ b, risingM o.keys = b := ⟨_, rfl⟩
                rw [hb5] at HR3 ⊢
                cases b5
                · have : Rr = false := by rw [← HR3.out]; rfl
                  subst this
                  go_wp2
                  go_ret
                  exact ⟨rfl, HC0.out.trans HC5.out⟩
                · have RN := Lib.hid (rising_needs (sc := l.nc) ((H.out.needs.same HC0.out).same HC5.out))
                  rw [HN.out] at RN
                  go_wp2_with fail
                  refine RN.out.mono ?_
                  rintro e w6 ⟨rfl, h6⟩
                  have HC6 := Lib.hid (HC5.out.trans h6)
                  have hR6 : risingM (o.needs.map (·.1)) = Rr := by rw [← HR3.out]; rfl
                  rw [hR6]
                  clear RN h6
                  go_wp2
                  go_ret
                  exact ⟨rfl, HC0.out.trans HC6.out⟩
              · have d3 : decide ((N : Int) ≤ 256) = false := by simp; omega
                have : Rr = false := by rw [← HRR.out]; simp [e3]
                subst this
                go_wp2
                go_ret
                exact ⟨rfl, HC0.out.trans HC4.out⟩
            · have d2 : decide ((1 : Int) ≤ N) = false := by simp; omega
              have : Rr = false := by rw [← HRR.out]; simp; omega
              subst this
              go_wp2
              go_ret
              exact ⟨rfl, HC0.out.trans HC4.out⟩
          · have d1 : decide ((K : Int) ≤ 256) = false := by simp; omega
            have : Rr = false := by rw [← HRR.out]; simp [e1]
            subst this
            go_wp2
            go_ret
            exact ⟨rfl, HC0.out.trans HC4.out⟩
end Go.Proofs.YtgmmglmokkcgeaaGreat
