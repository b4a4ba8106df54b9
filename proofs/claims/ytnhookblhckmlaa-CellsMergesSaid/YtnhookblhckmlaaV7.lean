/- Walks: the heap's down, through the interface. -/
import Derived.Test.YtnhookblhckmlaaV5
namespace Go.Proofs.Ytnhookblhckmlaa
set_option linter.unusedVariables false
set_option linter.unusedSimpArgs false
open Go.RowKit Mk Go.Sort

/-- The child chosen is not behind the other. -/
theorem child_min {H : List HdM} {n i : Nat} (hn : n ≤ H.length) (h1 : 2 * i + 1 < n) {j : Nat} {a1 : HdM} (ha1 : H[2 * i + 1]? = some a1)
    (hj : (j = 2 * i + 2 ∧ ∃ a2, H[2 * i + 2]? = some a2 ∧ lessH a2 a1 = true) ∨ (j = 2 * i + 1 ∧ (2 * i + 2 < n → ∀ a2, H[2 * i + 2]? = some a2 → lessH a2 a1 = false))) : ∀ k, 0 < k → k < n → (k - 1) / 2 = i → okAt H k j := by
  intro k h0 hk hki x y hx hy
  have hk2 : k = 2 * i + 1 ∨ k = 2 * i + 2 := by omega
  rcases hj with ⟨rfl, a2, h2, h3⟩ | ⟨rfl, h2⟩
  · rw [h2] at hx; cases hx
    rcases hk2 with rfl | rfl
    · rw [ha1] at hy; cases hy; exact leH_of_less h3
    · rw [h2] at hy; cases hy; exact leH_refl _
  · rw [ha1] at hx; cases hx
    rcases hk2 with rfl | rfl
    · rw [ha1] at hy; cases hy; exact leH_refl _
    · exact h2 hk y hy
/-- What down has done on its way. -/
structure DownAt (w : World) (hb : Nat) (v : Value) (H : List HdM) (b n i : Nat) (H1 : List HdM) (wr : World) : Prop where
  hx : HX wr hb v H1
  but : HeapBut H1 b n i
  mix : Mixed n H H1
  chg : Chg (fun g => v.ownBlock = some g) w wr
theorem DownAt.below {w : World} {hb : Nat} {v : Value} {H : List HdM} {b n i : Nat} {H1 : List HdM} {wr w2 : World} (h : DownAt w hb v H b n i H1 wr) (k : RowKit.Below wr.heap.size wr w2) : DownAt w hb v H b n i H1 w2 :=
  ⟨h.hx.stay k, h.but, h.mix, h.chg.trans' (chg_of_below k) (fun _ f => f.elim)⟩
theorem DownAt.swap {w : World} {hb : Nat} {v : Value} {H : List HdM} {b n i j : Nat} {H1 : List HdM} {wr w2 : World} (h : DownAt w hb v H b n i H1 wr) (hn : n ≤ H.length) (hj : 0 < j) (hjn : j < n) (hji : (j - 1) / 2 = i) (hmin : ∀ k, 0 < k → k < n → (k - 1) / 2 = i → okAt H1 k j)
    (hlt : ∀ a b, H1[j]? = some a → H1[i]? = some b → leH a b) (hs : HB w2 v (swp H1 i j)) (hc : Chg (fun x => v.ownBlock = some x) wr w2) : DownAt w hb v H b n j (swp H1 i j) w2 :=
  ⟨⟨(hc.block hb h.hx.lt (fun e => h.hx.apart e)).trans h.hx.blk, hs, h.hx.apart⟩, h.but.down (by rw [h.mix.len]; exact hn) hj hjn hji hmin hlt, h.mix.swp (by omega) hjn hn, h.chg.trans' hc (fun _ f => .inl f)⟩
set_option maxRecDepth 100000 in
set_option maxHeartbeats 8000000 in
theorem down_any {w : World} {hb : Nat} {v : Value} {H : List HdM} (h : HX w hb v H) (hl : H.length ≤ 1099511627776) {b n : Nat} (hn : n ≤ H.length) (hbl : b ≤ 1099511627776) (hbut : HeapBut H b n b) :
    Calls Try.prog 58 #[.iface 92 (.pointer (some ⟨hb, 0, none⟩)), .int .i64 b, .int .i64 n] w fun e w' => (∃ m, e = .returned (.bool m)) ∧ ∃ H', HX w' hb v H' ∧ HeapFrom H' b n ∧ Mixed n H H' ∧ Chg (fun g => v.ownBlock = some g) w w' := by
  have HI := Lib.hid (DownAt.mk (w := w) (i := b) h hbut (Mixed.refl n H) (Chg.refl _ w))
  clear h hbut
  go_enter Try.func58, Try.ntmps58
  go_wp2_with fail
  go_loopw [7] (fun i wr => ∃ (k : Nat) (H1 : List HdM), k ≤ 1099511627776 ∧ i = .int .i64 k ∧ Hid (DownAt w hb v H b n k H1 wr)) (fun i _ => n - (intOf i).toNat)
  case atStart => exact ⟨b, H, hbl, rfl, HI⟩
  case round =>
    obtain ⟨i, H1, hi, rfl, HD⟩ := hrel
    have hlen := HD.out.mix.len
    by_cases hjn : 2 * i + 1 < n
    · have q1 : decide ((2 * (i : Int) + 1) ≥ n) = false := by simp; omega
      have q2 : decide ((2 * (i : Int) + 1) < 0) = false := by simp; omega
      obtain ⟨a1, ha1⟩ : ∃ a, H1[2 * i + 1]? = some a := ⟨H1[2 * i + 1]'(by omega), List.getElem?_eq_getElem (by omega)⟩
      obtain ⟨ai, hai⟩ : ∃ a, H1[i]? = some a := ⟨H1[i]'(by omega), List.getElem?_eq_getElem (by omega)⟩
      by_cases hj2 : 2 * i + 2 < n
      · have q3 : decide ((2 * (i : Int) + 1 + 1) < n) = true := by simp; omega
        obtain ⟨a2, ha2⟩ : ∃ a, H1[2 * i + 2]? = some a := ⟨H1[2 * i + 2]'(by omega), List.getElem?_eq_getElem (by omega)⟩
        obtain ⟨z1, hz1⟩ : ∃ z, lessH a2 a1 = z := ⟨_, rfl⟩
        have A := hless_any HD.out.hx.has ha2 ha1 (by omega)
        rw [hz1, show ((2 * i + 2 : Nat) : Int) = 2 * (i : Int) + 1 + 1 from by omega, show ((2 * i + 1 : Nat) : Int) = 2 * (i : Int) + 1 from by omega] at A
        have ml := meth_less (w := wr) (cell_of HD.out.hx.blk rfl)
        go_wp2_with fail
        refine A.mono ?_
        rintro e w2 ⟨rfl, hb2⟩
        have HD2 := Lib.hid (HD.out.below hb2)
        clear hb2 A ml
        cases z1
        · have hmin := child_min (H := H1) (n := n) (i := i) (j := 2 * i + 1) (by omega) hjn ha1 (.inr ⟨rfl, fun _ x hx => by rw [ha2] at hx; cases hx; exact hz1⟩)
          obtain ⟨aj, hj⟩ : ∃ a, H1[2 * i + 1]? = some a := ⟨H1[2 * i + 1]'(by omega), List.getElem?_eq_getElem (by omega)⟩
          obtain ⟨z, hz⟩ : ∃ z, lessH aj ai = z := ⟨_, rfl⟩
          have B := hless_any HD2.out.hx.has hj hai (by omega)
          rw [hz, show ((2 * i + 1 : Nat) : Int) = 2 * (i : Int) + 1 from by omega] at B
          have ml2 := meth_less (w := w2) (cell_of HD2.out.hx.blk rfl)
          go_wp2_with fail
          refine B.mono ?_
          rintro e w3 ⟨rfl, hb3⟩
          have HD3 := Lib.hid (HD2.out.below hb3)
          clear hb3 B ml2
          cases z
          · go_wp2
            go_ret
            refine ⟨⟨_, rfl⟩, H1, HD3.out.hx, HD3.out.but.stop (fun k h0 h1 h2 x y hx hy => ?_), HD3.out.mix, HD3.out.chg⟩
            rw [hai] at hx; cases hx
            exact leH_trans (show leH _ aj from hz) (hmin k h0 h1 h2 aj y hj hy)
          · have ms := meth_swap (w := w3) (cell_of HD3.out.hx.blk rfl)
            have S := hswap_any HD3.out.hx.has hai hj (by omega)
            rw [show ((2 * i + 1 : Nat) : Int) = 2 * (i : Int) + 1 from by omega] at S
            go_wp2_with fail
            refine S.mono ?_
            rintro e w4 ⟨rfl, hs, hc⟩
            have HD4 := Lib.hid (HD3.out.swap hn (by omega) (by omega) (by omega) hmin (fun x y hx hy => by rw [hj] at hx; cases hx; rw [hai] at hy; cases hy; exact leH_of_less hz) hs hc)
            clear hs hc S ms
            go_wp2
            go_roundw
            case rel => exact ⟨2 * i + 1, swp H1 i (2 * i + 1), by omega, by go_num, HD4⟩
            case measure => simp [intOf]; omega
        · have hmin := child_min (H := H1) (n := n) (i := i) (j := 2 * i + 2) (by omega) hjn ha1 (.inl ⟨rfl, a2, ha2, hz1⟩)
          obtain ⟨aj, hj⟩ : ∃ a, H1[2 * i + 2]? = some a := ⟨H1[2 * i + 2]'(by omega), List.getElem?_eq_getElem (by omega)⟩
          obtain ⟨z, hz⟩ : ∃ z, lessH aj ai = z := ⟨_, rfl⟩
          have B := hless_any HD2.out.hx.has hj hai (by omega)
          rw [hz, show ((2 * i + 2 : Nat) : Int) = 2 * (i : Int) + 1 + 1 from by omega] at B
          have ml2 := meth_less (w := w2) (cell_of HD2.out.hx.blk rfl)
          go_wp2_with fail
          refine B.mono ?_
          rintro e w3 ⟨rfl, hb3⟩
          have HD3 := Lib.hid (HD2.out.below hb3)
          clear hb3 B ml2
          cases z
          · go_wp2
            go_ret
            refine ⟨⟨_, rfl⟩, H1, HD3.out.hx, HD3.out.but.stop (fun k h0 h1 h2 x y hx hy => ?_), HD3.out.mix, HD3.out.chg⟩
            rw [hai] at hx; cases hx
            exact leH_trans (show leH _ aj from hz) (hmin k h0 h1 h2 aj y hj hy)
          · have ms := meth_swap (w := w3) (cell_of HD3.out.hx.blk rfl)
            have S := hswap_any HD3.out.hx.has hai hj (by omega)
            rw [show ((2 * i + 2 : Nat) : Int) = 2 * (i : Int) + 1 + 1 from by omega] at S
            go_wp2_with fail
            refine S.mono ?_
            rintro e w4 ⟨rfl, hs, hc⟩
            have HD4 := Lib.hid (HD3.out.swap hn (by omega) (by omega) (by omega) hmin (fun x y hx hy => by rw [hj] at hx; cases hx; rw [hai] at hy; cases hy; exact leH_of_less hz) hs hc)
            clear hs hc S ms
            go_wp2
            go_roundw
            case rel => exact ⟨2 * i + 2, swp H1 i (2 * i + 2), by omega, by go_num, HD4⟩
            case measure => simp [intOf]; omega
      · have q3 : decide ((2 * (i : Int) + 1 + 1) < n) = false := by simp; omega
        have hmin := child_min (H := H1) (n := n) (i := i) (j := 2 * i + 1) (by omega) hjn ha1 (.inr ⟨rfl, fun h => absurd h hj2⟩)
        obtain ⟨aj, hj⟩ : ∃ a, H1[2 * i + 1]? = some a := ⟨H1[2 * i + 1]'(by omega), List.getElem?_eq_getElem (by omega)⟩
        obtain ⟨z, hz⟩ : ∃ z, lessH aj ai = z := ⟨_, rfl⟩
        have B := hless_any HD.out.hx.has hj hai (by omega)
        rw [hz, show ((2 * i + 1 : Nat) : Int) = 2 * (i : Int) + 1 from by omega] at B
        have ml2 := meth_less (w := wr) (cell_of HD.out.hx.blk rfl)
        go_wp2_with fail
        refine B.mono ?_
        rintro e w3 ⟨rfl, hb3⟩
        have HD3 := Lib.hid (HD.out.below hb3)
        clear hb3 B ml2
        cases z
        · go_wp2
          go_ret
          refine ⟨⟨_, rfl⟩, H1, HD3.out.hx, HD3.out.but.stop (fun k h0 h1 h2 x y hx hy => ?_), HD3.out.mix, HD3.out.chg⟩
          rw [hai] at hx; cases hx
          exact leH_trans (show leH _ aj from hz) (hmin k h0 h1 h2 aj y hj hy)
        · have ms := meth_swap (w := w3) (cell_of HD3.out.hx.blk rfl)
          have S := hswap_any HD3.out.hx.has hai hj (by omega)
          rw [show ((2 * i + 1 : Nat) : Int) = 2 * (i : Int) + 1 from by omega] at S
          go_wp2_with fail
          refine S.mono ?_
          rintro e w4 ⟨rfl, hs, hc⟩
          have HD4 := Lib.hid (HD3.out.swap hn (by omega) (by omega) (by omega) hmin (fun x y hx hy => by rw [hj] at hx; cases hx; rw [hai] at hy; cases hy; exact leH_of_less hz) hs hc)
          clear hs hc S ms
          go_wp2
          go_roundw
          case rel => exact ⟨2 * i + 1, swp H1 i (2 * i + 1), by omega, by go_num, HD4⟩
          case measure => simp [intOf]; omega
    · have q1 : decide ((2 * (i : Int) + 1) ≥ n) = true := by simp; omega
      go_wp2
      go_ret
      exact ⟨⟨_, rfl⟩, H1, HD.out.hx, HD.out.but.stop (fun k h0 h1 h2 => by omega), HD.out.mix, HD.out.chg⟩
end Go.Proofs.Ytnhookblhckmlaa
/- Walks: the heap's Init, Fix (at 0), Pop. -/
namespace Go.Proofs.Ytnhookblhckmlaa
set_option linter.unusedVariables false
set_option linter.unusedSimpArgs false
open Go.RowKit Mk Go.Sort

theorem Mixed.trans {n : Nat} {H H1 H2 : List HdM} (h : Mixed n H H1) (k : Mixed n H1 H2) : Mixed n H H2 :=
  ⟨k.len.trans h.len, k.perm.trans h.perm, fun i hi => (k.tail i hi).trans (h.tail i hi)⟩
/-- What Init has done when it stands at place k. -/
structure InitAt (w : World) (hb : Nat) (v : Value) (H : List HdM) (k : Nat) (H1 : List HdM) (wr : World) : Prop where
  hx : HX wr hb v H1
  from_ : HeapFrom H1 k H.length
  mix : Mixed H.length H H1
  chg : Chg (fun g => v.ownBlock = some g) w wr
set_option maxRecDepth 100000 in
set_option maxHeartbeats 1000000 in
theorem init_any {w : World} {hb : Nat} {v : Value} {H : List HdM} (h : HX w hb v H) (hl : H.length ≤ 1099511627776) :
    Calls Try.prog 52 #[.iface 92 (.pointer (some ⟨hb, 0, none⟩))] w fun e w' => e = .returned (.tuple #[]) ∧ ∃ H', HX w' hb v H' ∧ HeapFrom H' 0 H.length ∧ H'.Perm H ∧ Chg (fun g => v.ownBlock = some g) w w' := by
  have HI := Lib.hid (InitAt.mk (w := w) (k := H.length / 2) h (heapFrom_end (by omega)) (Mixed.refl _ H) (Chg.refl _ w))
  obtain ⟨o, c, rfl⟩ := h.has.shape
  have mL := meth_len (w := w) (cell_of h.blk rfl)
  have A := hlen_any o H.length c w
  clear h
  go_enter Try.func52, Try.ntmps52
  go_wp2_with fail
  refine A.mono ?_
  rintro e w' ⟨rfl, rfl⟩
  go_wp2_with fail
  go_loopw [3] (fun i wr => ∃ (k : Nat) (H1 : List HdM), k ≤ H.length ∧ i = .int .i64 ((k : Int) - 1) ∧ Hid (InitAt w' hb (.slice o H.length c) H k H1 wr)) (fun i _ => ((match i with | .int _ z => z | _ => 0) + 1).toNat)
  case atStart => exact ⟨H.length / 2, H, by omega, by go_num, HI⟩
  case round =>
    obtain ⟨k, H1, hk, rfl, HD⟩ := hrel
    have hlen := HD.out.mix.len
    cases k with
    | zero =>
      have q0 : decide ((((0 : Nat) : Int) - 1) ≥ 0) = false := by decide
      go_wp2
      go_end0
      refine ⟨rfl, H1, HD.out.hx, HD.out.from_, HD.out.mix.perm, HD.out.chg⟩
    | succ m =>
      have q1 : decide ((m : Int) ≥ 0) = true := by simp
      have e1 : ((m + 1 : Nat) : Int) - 1 = m := by omega
      have D := down_any HD.out.hx (by omega) (b := m) (n := H.length) (by omega) (by omega) HD.out.from_.but
      simp only [e1]
      go_wp2_with fail
      refine D.mono ?_
      rintro e w2 ⟨⟨b, rfl⟩, H2, hx, hf, hm, hc⟩
      have HD2 := Lib.hid (show InitAt w' hb (.slice o H.length c) H m H2 w2 from ⟨hx, hf, HD.out.mix.trans hm, HD.out.chg.trans' hc (fun _ f => .inl f)⟩)
      clear D hx hf hm hc
      go_wp2
      go_roundw
      case rel => exact ⟨m, H2, by omega, by go_num, HD2⟩
      case measure => simp
set_option maxRecDepth 100000 in
set_option maxHeartbeats 1000000 in
theorem up0_any (v : Value) (w : World) : Calls Try.prog 59 #[v, .int .i64 0] w fun e w' => e = .returned (.tuple #[]) ∧ w' = w := by
  go_enter Try.func59, Try.ntmps59
  go_wp2_with fail
  go_loopw [1] (fun i wr => i = .int .i64 0 ∧ wr = w) (fun i _ => 0)
  case atStart => exact ⟨rfl, rfl⟩
  case round =>
    obtain ⟨rfl, rfl⟩ := hrel
    go_wp2
    go_end0
    exact ⟨rfl, rfl⟩
set_option maxRecDepth 100000 in
set_option maxHeartbeats 1000000 in
theorem fix_any {w : World} {hb : Nat} {v : Value} {H : List HdM} (h : HX w hb v H) (hl : H.length ≤ 1099511627776) (hbut : HeapBut H 0 H.length 0) :
    Calls Try.prog 53 #[.iface 92 (.pointer (some ⟨hb, 0, none⟩)), .int .i64 0] w fun e w' => e = .returned (.tuple #[]) ∧ ∃ H', HX w' hb v H' ∧ HeapFrom H' 0 H.length ∧ H'.Perm H ∧ Chg (fun g => v.ownBlock = some g) w w' := by
  have D := down_any h hl (b := 0) (n := H.length) (by omega) (by omega) hbut
  obtain ⟨o, c, rfl⟩ := h.has.shape
  have mL := meth_len (w := w) (cell_of h.blk rfl)
  have A := hlen_any o H.length c w
  clear h
  go_enter Try.func53, Try.ntmps53
  go_wp2_with fail
  refine A.mono ?_
  rintro e w' ⟨rfl, rfl⟩
  go_wp2_with fail
  refine D.mono ?_
  rintro e w2 ⟨⟨m, rfl⟩, H2, hx, hf, hm, hc⟩
  have HQ := Lib.hid (And.intro hx (And.intro hf (And.intro hm.perm hc)))
  clear D hx hf hm hc
  cases m
  · have U := up0_any (.iface 92 (.pointer (some ⟨hb, 0, none⟩))) w2
    go_wp2_with fail
    refine U.mono ?_
    rintro e w3 ⟨rfl, rfl⟩
    go_wp2
    go_end0
    exact ⟨rfl, H2, HQ.out⟩
  · go_wp2
    go_end0
    exact ⟨rfl, H2, HQ.out⟩
/-- The root changed for the last: a heap of one less but for its root. -/
theorem swap_root {H : List HdM} {n : Nat} (hn : H.length = n + 1) (h : HeapFrom H 0 (n + 1)) : HeapBut (swp H 0 n) 0 n 0 :=
  ⟨Nat.le_refl _, fun k h0 h1 h2 h3 => by
    intro x y hx hy
    rw [swp_get (by omega) (by omega), if_neg (by omega), if_neg (by omega)] at hx hy
    exact h k h0 (by omega) h2 x y hx hy, fun k h0 h1 h2 h3 h4 => by omega⟩
set_option maxRecDepth 100000 in
set_option maxHeartbeats 1000000 in
theorem hpopall_any {w : World} {hb : Nat} {v : Value} {H : List HdM} (h : HX w hb v H) (hl : H.length ≤ 1099511627776) (hf : HeapFrom H 0 H.length) {x : HdM} (hx0 : H[0]? = some x) :
    Calls Try.prog 54 #[.iface 92 (.pointer (some ⟨hb, 0, none⟩))] w fun e w' => (∃ r, e = .returned r) ∧ ∃ v' H', HX w' hb v' H' ∧ HeapFrom H' 0 H'.length ∧ (x :: H').Perm H ∧ v'.ownBlock = v.ownBlock ∧ Chg (fun g => g = hb ∨ v.ownBlock = some g) w w' := by
  obtain ⟨n, hn⟩ : ∃ n, H.length = n + 1 := ⟨H.length - 1, by have := (List.getElem?_eq_some_iff.1 hx0).1; omega⟩
  obtain ⟨y, hy⟩ : ∃ y, H[n]? = some y := ⟨H[n]'(by omega), List.getElem?_eq_getElem (by omega)⟩
  have HBUT := Lib.hid (swap_root hn (by rw [← hn]; exact hf))
  have HSL := Lib.hid (swp_len H 0 n)
  have HSP := Lib.hid (swp_perm (H := H) (i := 0) (j := n) (by omega) (by omega))
  have HSG := Lib.hid (show (swp H 0 n)[n]? = some x from by rw [swp_get (by omega) (by omega), if_pos rfl]; exact hx0)
  have S := hswap_any h.has hx0 hy hl
  have HH := Lib.hid h
  have mS := meth_swap (w := w) (cell_of h.blk rfl)
  have mL := meth_len (w := w) (cell_of h.blk rfl)
  have A : Calls Try.prog 78 #[v] w fun e w' => e = .returned (.int .i64 ((n : Int) + 1)) ∧ w' = w := by
    obtain ⟨o, c, rfl⟩ := h.has.shape
    have := hlen_any o H.length c w
    rw [hn] at *
    exact this
  have HN := Lib.hid hn
  have l1 : n < 1099511627776 := by omega
  clear h hf hn hx0 hy
  go_enter Try.func54, Try.ntmps54
  go_wp2_with fail
  refine A.mono ?_
  rintro e w1 ⟨rfl, rfl⟩
  go_wp2_with fail
  refine S.mono ?_
  rintro e w2 ⟨rfl, hs, hc⟩
  have hx2 : HX w2 hb v (swp H 0 n) := ⟨(hc.block hb HH.out.lt (fun e => HH.out.apart e)).trans HH.out.blk, hs, HH.out.apart⟩
  have HC := Lib.hid hc
  have D := down_any hx2 (by rw [HSL.out]; exact hl) (b := 0) (n := n) (by rw [HSL.out, HN.out]; omega) (by omega) HBUT.out
  clear hs hc hx2 S A mS mL
  go_wp2_with fail
  refine D.mono ?_
  rintro e w3 ⟨⟨m, rfl⟩, H3, hx3, hf3, hm3, hc3⟩
  have hlen3 : H3.length = n + 1 := by rw [hm3.len, HSL.out, HN.out]
  have hget3 : H3[n]? = some x := by rw [hm3.tail n (Nat.le_refl _)]; exact HSG.out
  have heq : H3 = H3.take n ++ [x] := by
    apply List.ext_getElem? 
    intro i
    by_cases hi : i < n
    · rw [List.getElem?_append_left (by simp; omega), List.getElem?_take_of_lt hi]
    · have hl2 : (H3.take n).length = n := by simp; omega
      by_cases hi2 : i = n
      · rw [hi2, hget3, List.getElem?_append_right (by omega), hl2]; simp
      · rw [List.getElem?_eq_none (by omega), List.getElem?_eq_none (by simp; omega)]
  have mp := meth_pop ⟨hb, 0, none⟩ w3
  have P := hpop_any (w := w3) (hb := hb) (v := v) (H := H3.take n) (a := x) (by rw [← heq]; exact hx3) (by rw [← heq]; omega)
  have HQ := Lib.hid (show HeapFrom (H3.take n) 0 (H3.take n).length ∧ (x :: H3.take n).Perm H ∧ Chg (fun g => g = hb ∨ v.ownBlock = some g) w1 w3 from by
    refine ⟨fun k h0 h1 h2 a b ha hb' => ?_, ?_, ?_⟩
    · have : (H3.take n).length = n := by simp; omega
      rw [List.getElem?_take_of_lt (by omega)] at ha hb'
      exact hf3 k h0 (by omega) h2 a b ha hb'
    · have p1 : (H3.take n ++ [x]).Perm H := by rw [← heq]; exact hm3.perm.trans HSP.out
      exact (List.perm_append_singleton x _).symm.trans p1
    · exact (HC.out.mono (fun _ e => .inr e)).trans' hc3 (fun _ f => .inl (.inr f)))
  clear hx3 hf3 hm3 hc3 hlen3 hget3 heq D
  go_wp2_with fail
  refine P.mono ?_
  rintro e w4 ⟨⟨r, rfl⟩, v', hx4, ho, hc4⟩
  have HQ4 := Lib.hid (And.intro hx4 (And.intro ho hc4))
  clear hx4 ho hc4 P mp
  go_wp2
  go_ret
  exact ⟨⟨_, rfl⟩, v', H3.take n, HQ4.out.1, HQ.out.1, HQ.out.2.1, HQ4.out.2.1, HQ.out.2.2.trans' HQ4.out.2.2 (fun _ f => .inl (.inl f))⟩
end Go.Proofs.Ytnhookblhckmlaa
