/- Walks: Put, where all may be, and where one may not. -/
import Derived.Test.YtnhookblhckmlaaKd
namespace Go.Proofs.Ytnhookblhckmlaa
open Go.RowKit Mk Go.Sort

set_option maxRecDepth 100000 in
set_option maxHeartbeats 1000000 in
theorem putF_bad {w : World} {b : Nat} {lv : Value} {so : Option Addr} {cap : Nat} {L P : List CellM} (h : CR w b lv L) (hp : At w so P) {n : Nat} {x : CellM} (hx : P[n]? = some x) (ha : ∀ i y, i < n → P[i]? = some y → mayM y = 0) (hb : mayM x ≠ 0) :
    Calls Try.prog 12 #[.pointer (some ⟨b, 0, none⟩), .slice so P.length cap] w fun e w' => e = .returned (.tuple #[.int .i64 n, .int .i64 (mayM x)]) ∧ RowKit.Below w.heap.size w w' := by
  have N := not_some h.blk
  have HP := Lib.hid hp
  have HA := Lib.hid ha
  have HX := Lib.hid hx
  have hn : n < P.length := (List.getElem?_eq_some_iff.1 hx).1
  have hm : P.length ≤ 9223372036854775807 := by have := hp.1; simp only [maxLen] at this; omega
  have HM := Lib.hid (fun (x : CellM) (u : World) => may_any x u)
  have M2 := Lib.hid (fun u : World => may_any x u)
  obtain ⟨E, hE⟩ : ∃ E, mayM x = E := ⟨_, rfl⟩
  rw [hE] at M2 hb ⊢
  have HE := Lib.hid hE
  clear h hp ha hx hE
  go_enter Try.func12, Try.ntmps12
  go_wp2_with fail
  refine N.mono ?_
  rintro e w' ⟨rfl, rfl⟩
  clear N
  go_wp2
  go_loopw [17] (fun i wr => ∃ k : Nat, k ≤ n ∧ i = .int .i64 k ∧ Hid (RowKit.Below w'.heap.size w' wr)) (fun i _ => P.length - (intOf i).toNat)
  case atStart => exact ⟨0, by omega, rfl, Lib.hid (Below.refl _ _)⟩
  case round =>
    obtain ⟨k, hk, rfl, HB⟩ := hrel
    have l0 : (0 : Int) ≤ k := by omega
    have l1 : (k : Int) < P.length := by omega
    have l2 : k < P.length := by omega
    by_cases hlt : k < n
    · obtain ⟨y, hy⟩ : ∃ y, P[k]? = some y := ⟨P[k]'l2, List.getElem?_eq_getElem l2⟩
      obtain ⟨g, o, e, hg, h0, h1, h2, h3⟩ := (HP.out.below HB.out).2 k y hy
      subst e
      have M := HM.out y
      rw [HA.out k y hlt hy] at M
      obtain ⟨yk, yt, yd, yv⟩ := y
      simp only [cellV] at h0 h1 h2 h3 M
      have q : decide ((k : Int) < P.length) = true := by simp; omega
      clear hy
      go_wp2_with fail
      refine (M _).mono ?_
      rintro e w3 ⟨rfl, hb⟩
      have HB3 := Lib.hid (HB.out.trans ((((Below.refl _ wr).alloc (Nat.le_refl _) (.cells #[.string yk, .int .u64 yt, .bool yd, .string yv] 24)).trans (hb.mono (by simp))).mono HB.out.size))
      clear hb M
      go_wp2
      go_round
      case rel => exact ⟨k + 1, by omega, by go_num, HB3⟩
      case measure => simp [intOf]; omega
    · obtain rfl : k = n := by omega
      obtain ⟨g, o, e, hg, h0, h1, h2, h3⟩ := (HP.out.below HB.out).2 k x HX.out
      subst e
      have M := M2.out
      obtain ⟨yk, yt, yd, yv⟩ := x
      simp only [cellV] at h0 h1 h2 h3 M
      have q : decide ((k : Int) < P.length) = true := by simp; omega
      have q2 : (E != 0) = true := by rw [bne_iff_ne]; exact hb
      clear hb
      go_wp2_with fail
      refine (M _).mono ?_
      rintro e w3 ⟨rfl, hb⟩
      have HB3 := Lib.hid (HB.out.trans ((((Below.refl _ wr).alloc (Nat.le_refl _) (.cells #[.string yk, .int .u64 yt, .bool yd, .string yv] 24)).trans (hb.mono (by simp))).mono HB.out.size))
      clear hb M
      go_wp2
      go_ret2
      exact ⟨rfl, HB3.out⟩

set_option maxRecDepth 100000 in
set_option maxHeartbeats 4000000 in
theorem putF_all {w : World} {b : Nat} {lv : Value} {so : Option Addr} {cap : Nat} {L P : List CellM} (h : CR w b lv L) (hO : Ord L) (hp : At w so P) (hs : P ≠ [] → ∀ g o, so = some ⟨g, o, none⟩ → g ≠ b ∧ lv.ownBlock ≠ some g)
    (ha : ∀ x ∈ P, mayM x = 0) (hL : L.length + P.length ≤ 1099511627776) :
    Calls Try.prog 12 #[.pointer (some ⟨b, 0, none⟩), .slice so P.length cap] w fun e w' => e = .returned (.tuple #[.int .i64 P.length, .int .i64 0]) ∧ PutF w b lv L P P.length w' := by
  have N := not_some h.blk
  have HC := Lib.hid h
  have HP := Lib.hid hp
  have HS := Lib.hid hs
  have HO := Lib.hid hO
  have HA := Lib.hid ha
  have HM := Lib.hid (fun (x : CellM) (u : World) => may_any x u)
  clear h hp hs hO ha
  go_enter Try.func12, Try.ntmps12
  go_wp2_with fail
  refine N.mono ?_
  rintro e w' ⟨rfl, rfl⟩
  clear N
  go_wp2
  go_loopw [17] (fun i wr => ∃ k : Nat, k ≤ P.length ∧ i = .int .i64 k ∧ Hid (RowKit.Below w'.heap.size w' wr)) (fun i _ => P.length - (intOf i).toNat)
  case atStart => exact ⟨0, by omega, rfl, Lib.hid (Below.refl _ _)⟩
  case round =>
    obtain ⟨k, hk, rfl, HB⟩ := hrel
    by_cases hlt : k < P.length
    · obtain ⟨y, hy⟩ : ∃ y, P[k]? = some y := ⟨P[k]'hlt, List.getElem?_eq_getElem hlt⟩
      obtain ⟨g, o, e, hg, h0, h1, h2, h3⟩ := (HP.out.below HB.out).2 k y hy
      subst e
      have M := HM.out y
      rw [HA.out y (List.mem_of_getElem? hy)] at M
      obtain ⟨yk, yt, yd, yv⟩ := y
      simp only [cellV] at h0 h1 h2 h3 M
      have q : decide ((k : Int) < P.length) = true := by simp; omega
      have l0 : (0 : Int) ≤ k := by omega
      have l1 : (k : Int) < P.length := by omega
      clear hy
      go_wp2_with fail
      refine (M _).mono ?_
      rintro e w3 ⟨rfl, hb⟩
      have HB3 := Lib.hid (HB.out.trans ((((Below.refl _ wr).alloc (Nat.le_refl _) (.cells #[.string yk, .int .u64 yt, .bool yd, .string yv] 24)).trans (hb.mono (by simp))).mono HB.out.size))
      clear hb M
      go_wp2
      go_round
      case rel => exact ⟨k + 1, by omega, by go_num, HB3⟩
      case measure => simp [intOf]; omega
    · obtain rfl : k = P.length := by omega
      have q : decide (((P.length : Nat) : Int) < P.length) = false := by simp
      have HC2 := Lib.hid (HC.out.stay HB.out)
      have HCh := Lib.hid ((Chg.refl (fun g => g = b ∨ lv.ownBlock = some g) w').trans' (chg_of_below HB.out) (fun _ f => f.elim))
      clear HM hlt hk
      go_wp2
      go_loopw [31] (fun i wq => ∃ k : Nat, k ≤ P.length ∧ i = .int .i64 k ∧ Hid (PutF w' b lv L P k wq)) (fun i _ => P.length - (intOf i).toNat)
      case atStart => exact ⟨0, by omega, rfl, Lib.hid ⟨⟨lv, by simpa using HC2.out, Or.inl rfl⟩, HCh.out⟩⟩
      case round =>
        obtain ⟨k, hk, rfl, HA⟩ := hrel
        by_cases hlt : k < P.length
        · obtain ⟨y, hy⟩ : ∃ y, P[k]? = some y := ⟨P[k]'hlt, List.getElem?_eq_getElem hlt⟩
          obtain ⟨g, o, e, hg, h0, h1, h2, h3⟩ := (HA.out.at HP.out HS.out).2 k y hy
          subst e
          have hlen : ((P.take k).foldl layM L).length ≤ 1099511627776 := by
            have := fold_len L (P.take k)
            simp only [List.length_take] at this
            omega
          have hOL := HO.out.fold (P.take k)
          obtain ⟨LL, hLL⟩ : ∃ LL, (P.take k).foldl layM L = LL := ⟨_, rfl⟩
          have hnew : bsIs LL y = false → atM LL (bsM LL y) y = layM LL y := fun hz => (bsM_new (hLL ▸ hOL) hz).symm
          have hold : bsIs LL y = true → bsM LL y < LL.length ∧ LL.set (bsM LL y) y = layM LL y := fun hz => by
            obtain ⟨h1, h2⟩ := bsM_old (hLL ▸ hOL) hz
            refine ⟨h1, ?_⟩
            rw [h2, List.set_eq_take_append_cons_drop, if_pos h1]
          have hle := bsM_le LL y
          obtain ⟨yk, yt, yd, yv⟩ := y
          simp only at h0 h1 h2 h3
          obtain ⟨W2, HW2⟩ : ∃ W, Hid (wr.alloc (.cells #[.string yk, .int .u64 yt, .bool yd, .string yv] 24) = W) := ⟨_, Lib.hid rfl⟩
          have hk2 : RowKit.Below wr.heap.size wr W2 := by rw [← HW2.out]; exact (Below.refl _ wr).alloc (Nat.le_refl _) _
          have hx : W2.heap[wr.heap.size]? = some (.cells #[.string yk, .int .u64 yt, .bool yd, .string yv] 24) := by rw [← HW2.out]; exact Go.heap_alloc_new _ _
          have HX := Lib.hid hx
          obtain ⟨⟨lv', hcr0, hlv⟩, hch0⟩ := HA.out
          have hxl : lv'.ownBlock ≠ some wr.heap.size := fun e => absurd (sl.lt hcr0.has e) (Nat.lt_irrefl _)
          have hcr := hcr0.stay hk2
          have hch := hch0.trans' (chg_of_below hk2) (fun _ f => f.elim)
          have HINS := Lib.hid (fun (w4 w5 : World) (v' : Value) (hb4 : RowKit.Below W2.heap.size W2 w4) (M : List CellM) (hM : M = layM ((P.take k).foldl layM L) ⟨yk, yt, yd, yv⟩) (h5 : Has w5 v' M) (hg : w4.grownBy w5 lv'.ownBlock) (hv : v'.ownBlock = lv'.ownBlock ∨ v'.ownBlock = some w4.heap.size) =>
            putF_ins HC.out.lt (hch.trans' (chg_of_below hb4) (fun _ f => f.elim)) (hcr.stay hb4) hlv hy hM h5 hg hv)
          have HSET := Lib.hid (fun (w4 w5 : World) (g : Nat) (hb4 : RowKit.Below W2.heap.size W2 w4) (M : List CellM) (hM : M = layM ((P.take k).foldl layM L) ⟨yk, yt, yd, yv⟩) (h5 : Has w5 lv' M) (hg : lv'.ownBlock = some g) (hc5 : Chg (fun i => i = g) w4 w5) =>
            putF_set (hch.trans' (chg_of_below hb4) (fun _ f => f.elim)) (hcr.stay hb4) hlv hy hM h5 hg hc5)
          rw [hLL] at hcr hlen HINS HSET
          have HCR := Lib.hid hcr
          obtain ⟨lo, lc, rfl⟩ := hcr.has.shape
          have BS := regrown_stay (w := W2) (fun w' hw => bsearch_any (hcr.stay hw).has hlen ⟨yk, yt, yd, yv⟩)
          unfold cellV at BS
          simp only at BS
          generalize hn : bsM LL ⟨yk, yt, yd, yv⟩ = n at *
          generalize hz : bsIs LL ⟨yk, yt, yd, yv⟩ = z at *
          have HNEW := Lib.hid hnew
          have HOLD := Lib.hid hold
          have x0 := fun p os => cell_regrown (cell_of (i := 0) (v := .string yk) hx rfl) p os
          have x1 := fun p os => cell_regrown (cell_of (i := 1) (v := .int .u64 yt) hx rfl) p os
          have x2 := fun p os => cell_regrown (cell_of (i := 2) (v := .bool yd) hx rfl) p os
          have x3 := fun p os => cell_regrown (cell_of (i := 3) (v := .string yv) hx rfl) p os
          have d0 := fun p os => cell_regrown (cell_of (i := 0) (v := .slice lo LL.length lc) hcr.blk rfl) p os
          have q : decide ((k : Int) < P.length) = true := by simp; omega
          have l0 : (0 : Int) ≤ k := by omega
          have l1 : (k : Int) < P.length := by omega
          have HXL := Lib.hid hxl
          have HLE := hle
          clear hk2 hx hcr hcr0 hLL hch hch0 hlv HA hy hnew hold hn hz hxl hOL
          go_wp2_with fail
          rw [HW2.out]
          refine wp_region_quiet_below (by kernel_rfl) (by kernel_rfl) ?_
          repeat (go_big_quiet_step (exact BS _ _))
          refine wpQuiet_nil ?_
          intro _ hw'
          obtain ⟨⟨dq, osq⟩, hw''⟩ := hw'
          subst hw''
          have HK := Lib.hid (below_regrown W2 dq osq)
          clear x0 x1 x2 x3 d0 BS h0 h1 h2 h3
          generalize grow (redrawn W2 dq) osq = w3 at *
          have hx3 := cell_alloc_keep HX.out HK.out
          have x0 : w3.cell? ⟨wr.heap.size, 0, none⟩ = some (.string yk) := cell_of hx3 rfl
          have x1 : w3.cell? ⟨wr.heap.size, 1, none⟩ = some (.int .u64 yt) := cell_of hx3 rfl
          have x2 : w3.cell? ⟨wr.heap.size, 2, none⟩ = some (.bool yd) := cell_of hx3 rfl
          have x3 : w3.cell? ⟨wr.heap.size, 3, none⟩ = some (.string yv) := cell_of hx3 rfl
          have hcr3 := HCR.out.stay HK.out
          have d0 : w3.cell? ⟨b, 0, none⟩ = some (.slice lo LL.length lc) := cell_of hcr3.blk rfl
          have HCR3 := Lib.hid hcr3
          cases z
          · obtain ⟨W4, HW4⟩ : ∃ W, Hid ((w3.alloc (.cells #[.string yk, .int .u64 yt, .bool yd, .string yv] 24)).drew = W) := ⟨_, Lib.hid rfl⟩
            have hb34 : RowKit.Below w3.heap.size w3 W4 := by
              rw [← HW4.out]
              exact ((Below.refl w3.heap.size w3).alloc (Nat.le_refl _) _).trans ⟨rfl, rfl, rfl, Nat.le_refl _, fun _ _ => rfl⟩
            have hx4 : W4.heap[w3.heap.size]? = some (.cells (cellL ⟨yk, yt, yd, yv⟩).toArray 24) := by rw [← HW4.out]; exact Go.heap_alloc_new _ _
            have HI := Lib.hid (insert_any (hcr3.stay hb34).has hlen ⟨yk, yt, yd, yv⟩ hx4 (fun e => absurd (sl.lt hcr3.has e) (Nat.lt_irrefl _)) HLE)
            have HBK := Lib.hid (fun (w5 : World) (hg : W4.grownBy w5 (Value.slice lo LL.length lc).ownBlock) => (hg.block b (hcr3.stay hb34).lt (fun e => hcr3.apart e.symm |>.elim)).trans (hcr3.stay hb34).blk)
            have HS4 := Lib.hid (fun w5 v' => HINS.out W4 w5 v' (HK.out.trans (hb34.mono HK.out.size)) _ (HNEW.out rfl))
            have d4 : (w3.alloc (.cells #[.string yk, .int .u64 yt, .bool yd, .string yv] 24)).drew.cell? ⟨b, 0, none⟩ = some (.slice lo LL.length lc) := by rw [HW4.out]; exact cell_of (hcr3.stay hb34).blk rfl
            clear hx3 hcr3 hb34 hx4
            go_wp2_with fail
            go_region_with (go_at_call 33; rw [HW4.out]; refine HI.out.mono ?_; rintro e w5 ⟨v', rfl, h5, hg, hv⟩; obtain ⟨o5, c5, rfl⟩ := h5.shape; have hbk := HBK.out w5 hg; have f5 : w5.frozen? ⟨b, 0, none⟩ = false := frozen_of hbk; have e5 : w5.cell? ⟨b, 0, none⟩ = some (.slice lo LL.length lc) := cell_of hbk rfl)
            all_goals
              have HG := Lib.hid (HS4.out w5 _ h5 hg hv)
              clear hbk e5 f5 h5 hg hv
              go_wp2
              go_round
              case rel => exact ⟨k + 1, by omega, by go_num, Lib.hid HG.out⟩
              case measure => simp [intOf]; omega
          · obtain ⟨hnl, hM⟩ := HOLD.out rfl
            obtain ⟨g', cap', e, f0, f1, f2, f3, hset⟩ := set4_has hcr3.has hnl ⟨yk, yt, yd, yv⟩
            cases e
            have HSET2 := Lib.hid hset
            obtain ⟨y, hy⟩ : ∃ y, LL[n]? = some y := ⟨LL[n]'hnl, List.getElem?_eq_getElem hnl⟩
            obtain ⟨g2, cap2, e, y0, y1, y2, y3⟩ := hcr3.has.cells hy
            cases e
            have m0 : (0 : Int) ≤ n := by omega
            have m1 : (n : Int) < LL.length := by omega
            have HM2 := Lib.hid hM
            clear hset hy hM hcr3 hx3
            go_wp2_with fail
            go_region
            go_wp2
            have HG := Lib.hid (HSET.out w3 ((((w3.setCell ⟨g', n * 4, none⟩ (.string yk)).setCell ⟨g', n * 4 + 1, none⟩ (.int .u64 yt)).setCell ⟨g', n * 4 + 2, none⟩ (.bool yd)).setCell ⟨g', n * 4 + 3, none⟩ (.string yv)).drew g' HK.out _ HM2.out (HSET2.out _ rfl) rfl
              (((((Chg.refl (fun i => i = g') w3).setCell (a := ⟨g', n * 4, none⟩) (Or.inl rfl) (.string yk)).setCell (a := ⟨g', n * 4 + 1, none⟩) (Or.inl rfl) (.int .u64 yt)).setCell (a := ⟨g', n * 4 + 2, none⟩) (Or.inl rfl) (.bool yd)).setCell (a := ⟨g', n * 4 + 3, none⟩) (Or.inl rfl) (.string yv)).drew)
            go_round
            case rel => exact ⟨k + 1, by omega, by go_num, HG⟩
            case measure => simp [intOf]; omega
        · obtain rfl : k = P.length := by omega
          go_wp2
          go_ret2
          exact ⟨rfl, HA.out⟩
end Go.Proofs.Ytnhookblhckmlaa
