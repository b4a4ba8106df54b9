/- Walks: the document's Lay at the nil slice; Put; Same. -/
import Derived.Test.YtnhookblhckmlaaR2
namespace Go.Proofs.Ytnhookblhckmlaa
open Go.RowKit Mk Go.Sort

set_option maxRecDepth 100000 in
set_option maxHeartbeats 8000000 in
theorem lay_nil (w : World) (x : CellM) : Calls Try.prog 39 #[.slice none 0 0, cellV x] w fun e w' => LayPost w [] x e w' := by
  obtain ⟨i6, z6, hi6, hz6, hsz6, hby6, hzs6⟩ := info24
  have hxl : cellsL [x] = [.string x.key, .int .u64 x.time, .bool x.del, .string x.val] := rfl
  obtain ⟨y, hy⟩ : ∃ y, x = y := ⟨_, rfl⟩
  obtain ⟨xk, xt, xd, xv⟩ := x
  simp only at hxl
  rw [hy] at hxl ⊢
  have HY := Lib.hid hy
  have hyv : cellV y = .agg #[.string xk, .int .u64 xt, .bool xd, .string xv] := by rw [← hy]; rfl
  rw [hyv]
  clear hyv
  obtain ⟨W1, HW1⟩ : ∃ W, Hid (w.alloc (.cells #[.string xk, .int .u64 xt, .bool xd, .string xv] 24) = W) := ⟨_, Lib.hid rfl⟩
  have hB : RowKit.Below w.heap.size w W1 := by rw [← HW1.out]; exact (Below.refl w.heap.size w).alloc (Nat.le_refl _) _
  have hX : W1.heap[w.heap.size]? = some (.cells #[.string xk, .int .u64 xt, .bool xd, .string xv] 24) := by rw [← HW1.out]; exact Go.heap_alloc_new _ _
  have hs1 : W1.heap.size = w.heap.size + 1 := by rw [← HW1.out]; simp
  have HX := Lib.hid hX
  have HB := Lib.hid hB
  have HS1 := Lib.hid hs1
  clear hB hX hs1 hy
  have FC : ∀ (p : Nat) (os : Array Obj), True := fun _ _ => trivial
  go_enter Try.func39, Try.ntmps39
  go_wp2_with fail
  rw [HW1.out]
  go_loopw [5] (fun i wr => i = .int .i64 0 ∧ wr = W1) (fun _ _ => 0)
  case atStart => exact ⟨rfl, rfl⟩
  case round =>
    obtain ⟨rfl, rfl⟩ := hrel
    go_wp2_with fail
    refine wp_region_quiet_below (by kernel_rfl) (by kernel_rfl) ?_
    repeat (go_big_quiet_step (exact FC _ _))
    refine wpQuiet_nil ?_
    intro _ hw'
    obtain ⟨⟨dq, osq⟩, hw''⟩ := hw'
    subst hw''
    have K2 := Lib.hid (below_regrown wr dq osq)
    generalize grow (redrawn wr dq) osq = w2 at *
    have hx2 := cell_alloc_keep HX.out K2.out
    have x0 : w2.cell? ⟨w.heap.size, 0, none⟩ = some (.string xk) := cell_of hx2 rfl
    have x1 : w2.cell? ⟨w.heap.size, 1, none⟩ = some (.int .u64 xt) := cell_of hx2 rfl
    have x2 : w2.cell? ⟨w.heap.size, 2, none⟩ = some (.bool xd) := cell_of hx2 rfl
    have x3 : w2.cell? ⟨w.heap.size, 3, none⟩ = some (.string xv) := cell_of hx2 rfl
    have hB3 : RowKit.Below w2.heap.size w2 (w2.alloc (.cells #[.string xk, .int .u64 xt, .bool xd, .string xv] 24)) := (Below.refl _ w2).alloc (Nat.le_refl _) _
    have HC3 := Lib.hid (cell_new_four (Go.heap_alloc_new w2 (.cells #[.string xk, .int .u64 xt, .bool xd, .string xv] 24)))
    have ST := Lib.hid (fun (v2 : Value) (w7 : World) (hs2 : sl w7 24 4 v2 (0 + 1) ([] ++ [.string xk, .int .u64 xt, .bool xd, .string xv])) (hg2 : (w2.alloc (.cells #[.string xk, .int .u64 xt, .bool xd, .string xv] 24)).grownBy w7 (Value.slice none 0 0).ownBlock) (ha2 : v2.ownBlock = (Value.slice none 0 0).ownBlock ∨ v2.ownBlock = some (w2.alloc (.cells #[.string xk, .int .u64 xt, .bool xd, .string xv] 24)).heap.size) =>
      (show (∃ o' c', v2 = .slice o' 1 c') ∧ MidAt w [] y 0 v2 w7 from by
        have hhas : Has w7 v2 [y] := by
          unfold Has
          rw [hxl]
          exact hs2
        obtain ⟨o', c', e'⟩ := hhas.shape
        have h1 := HS1.out
        have h2 := K2.out.size
        have hBw : RowKit.Below w2.heap.size w2 w7 := hB3.trans ⟨hg2.os, hg2.tape, hg2.output, hg2.size, fun i hi => hg2.block i (by have := hB3.size; omega) (fun e => by simp [Value.ownBlock] at e)⟩
        refine ⟨⟨o', c', e'⟩, ⟨hhas, fun i e => ?_, (HB.out.trans (K2.out.mono HB.out.size)).trans (hBw.mono (by omega))⟩⟩
        rcases ha2 with e2 | e2
        · rw [e2] at e; simp [Value.ownBlock] at e
        · rw [e] at e2
          have := Option.some.inj e2
          have := hB3.size
          omega))
    clear hx2 hB3
    go_wp2_with (first | (refine wpList_append_sl (by rfl) (.tmp 27) (.tmp 29) 28 (by rfl) 24 i6 z6 4 48 Try.underlying28 hi6 hz6 hsz6 hby6 hzs6 (by decide) (.slice none 0 0) 0 [] (by rfl) (sl_nil _ _ _) (some ⟨w2.heap.size, 0, none⟩) 1 1 [.string xk, .int .u64 xt, .bool xd, .string xv] (by rfl) (by rfl) (fun _ => ⟨_, rfl, HC3.out⟩) (fun h => absurd h (by decide)) (by simp [Value.oneCell']) (by decide) (by decide) ?_; intro v2 w7 hs2 hg2 ha2; obtain ⟨⟨o', c', rfl⟩, hm7⟩ := ST.out v2 w7 hs2 hg2 ha2; have HM7 := Lib.hid hm7; clear hs2 hg2 ha2 hm7))
    refine wp_region_quiet_below (by kernel_rfl) (by kernel_rfl) ?_
    repeat (go_big_quiet_step (exact FC _ _))
    refine wpQuiet_nil ?_
    intro _ hw'
    obtain ⟨⟨dq, osq⟩, hw''⟩ := hw'
    subst hw''
    have K8 := Lib.hid (below_regrown w7 dq osq)
    generalize grow (redrawn w7 dq) osq = w8 at *
    have HM8 := Lib.hid (HM7.out.stay K8.out)
    have HMS := Lib.hid (show sl w8 24 4 (.slice o' 1 c') 1 [.string xk, .int .u64 xt, .bool xd, .string xv] from by
      have h := HM8.out.sl (Nat.le_refl _)
      rw [show ([] : List CellM).take 0 ++ [y] = [y] from rfl, hxl] at h
      exact h)
    have HF := Lib.hid (fun (v3 : Value) (w9 : World) (hs3 : sl w9 24 4 v3 (1 + 0) ([.string xk, .int .u64 xt, .bool xd, .string xv] ++ [])) (hg3 : w8.grownBy w9 (Value.slice o' 1 c').ownBlock) (ha3 : v3.ownBlock = (Value.slice o' 1 c').ownBlock ∨ v3.ownBlock = some w8.heap.size) =>
      lay_fin (j := 0) HM8.out (Nat.le_refl _) (Nat.le_refl _) rfl (by rw [show cellsL (([] : List CellM).take 0 ++ [y]) = cellsL [y] from rfl, hxl]; exact hs3) hg3 ha3)
    have HXL := Lib.hid hxl
    clear hxl
    go_wp2_with (refine wpList_append_sl (by rfl) (.tmp 46) (.tmp 49) 28 (by rfl) 24 i6 z6 4 48 Try.underlying28 hi6 hz6 hsz6 hby6 hzs6 (by decide) (.slice o' 1 c') 1 [.string xk, .int .u64 xt, .bool xd, .string xv] (by rfl) HMS.out none 0 0 [] (by rfl) (by rfl) (fun h => absurd h (by decide)) (fun _ _ => rfl) (by simp) (by decide) (by decide) ?_; intro v3 w9 hs3 hg3 ha3; have HL := Lib.hid (HF.out v3 w9 hs3 hg3 ha3); clear hs3 hg3 ha3)
    go_ret
    obtain ⟨v', e', r⟩ := HL.out
    exact ⟨v', e', r⟩
theorem lay_any {w : World} {lv : Value} {L : List CellM} (h : Has w lv L) (hL : L.length ≤ 1099511627776) (x : CellM) : Calls Try.prog 39 #[lv, cellV x] w fun e w' => LayPost w L x e w' := by
  rcases h.2 with ⟨rfl, e0⟩ | ⟨g, cap, cur, rfl, hg, hnc, hcm, hcs, ht⟩
  · obtain rfl := List.eq_nil_of_length_eq_zero e0
    exact lay_nil w x
  · exact lay_some h hL hnc hcm x

def RPutPost (w : World) (lv : Value) (L P : List CellM) (e : Ending) (w' : World) : Prop :=
  ∃ v', e = .returned (.tuple #[v', .int .i64 (putR P 0).1, .int .i64 (putR P 0).2]) ∧ Has w' v' (putM L P) ∧ RowKit.Below w.heap.size w w' ∧ ∀ g, v'.ownBlock = some g → lv.ownBlock = some g ∨ w.heap.size ≤ g
def PutAtR (w : World) (lv : Value) (L P : List CellM) (k : Nat) (v : Value) (wr : World) : Prop :=
  Has wr v ((P.take k).foldl layM L) ∧ RowKit.Below w.heap.size w wr ∧ ∀ g, v.ownBlock = some g → lv.ownBlock = some g ∨ w.heap.size ≤ g

set_option maxRecDepth 100000 in
set_option maxHeartbeats 4000000 in
theorem rput_any {w : World} {lv : Value} {L P : List CellM} {so : Option Addr} {cap : Nat} (h : Has w lv L) (hp : At w so P) (hL : L.length + P.length ≤ 1099511627776) :
    Calls Try.prog 16 #[lv, .slice so P.length cap] w fun e w' => RPutPost w lv L P e w' := by
  have HH := Lib.hid h
  have HP := Lib.hid hp
  have HM := Lib.hid (fun (x : CellM) (u : World) => rmay_any x u)
  have LAY := Lib.hid (fun (w : World) (lv : Value) (L : List CellM) (h : Has w lv L) (hL : L.length ≤ 1099511627776) (x : CellM) => lay_any h hL x)
  have hm : P.length ≤ 9223372036854775807 := by have := hp.1; simp only [maxLen] at this; omega
  by_cases hok : putOk P = true
  · have hr := putR_ok hok 0
    have ha : ∀ x ∈ P, mayM x = 0 := fun x hx => by
      have := List.all_eq_true.1 hok x hx
      simpa using this
    have HA := Lib.hid ha
    have HFIN := Lib.hid (fun (v : Value) (wr : World) (h : PutAtR w lv L P P.length v wr) => (show RPutPost w lv L P (.returned (.tuple #[v, .int .i64 P.length, .int .i64 0])) wr from
      ⟨v, by rw [hr]; simp, by unfold putM; rw [if_pos hok]; have h1 := h.1; rw [List.take_length] at h1; exact h1, h.2⟩))
    obtain ⟨lo, lc, rfl⟩ := h.shape
    clear h hp hr ha hok
    go_enter Try.func16, Try.ntmps16
    go_wp2
    go_loopw [7] (fun i wr => ∃ k : Nat, k ≤ P.length ∧ i = .int .i64 k ∧ Hid (RowKit.Below w.heap.size w wr)) (fun i _ => P.length - (intOf i).toNat)
    case atStart => exact ⟨0, by omega, rfl, Lib.hid (Below.refl _ _)⟩
    case round =>
      obtain ⟨k, hk, rfl, HB⟩ := hrel
      have l0 : (0 : Int) ≤ k := by omega
      by_cases hlt : k < P.length
      · obtain ⟨y, hy⟩ : ∃ y, P[k]? = some y := ⟨P[k]'hlt, List.getElem?_eq_getElem hlt⟩
        obtain ⟨g, o, e, hg, h0, h1, h2, h3⟩ := (HP.out.below HB.out).2 k y hy
        subst e
        have M := HM.out y
        rw [HA.out y (List.mem_of_getElem? hy)] at M
        obtain ⟨yk, yt, yd, yv⟩ := y
        simp only [cellV] at h0 h1 h2 h3 M
        have q : decide (k < P.length) = true := by simpa using hlt
        have l1 : (k : Int) < P.length := by omega
        clear hy
        go_wp2_with fail
        refine (M _).mono ?_
        rintro e w3 ⟨rfl, hb⟩
        have HB3 := Lib.hid (HB.out.trans (hb.mono HB.out.size))
        clear hb M
        go_wp2
        go_round
        case rel => exact ⟨k + 1, by omega, by go_num, HB3⟩
        case measure => simp [intOf]; omega
      · obtain rfl : k = P.length := by omega
        have q : decide (P.length < P.length) = false := by simp
        have H0 := Lib.hid (show PutAtR w (.slice lo L.length lc) L P 0 (.slice lo L.length lc) wr from ⟨HH.out.stay HB.out, HB.out, fun g hg => Or.inl hg⟩)
        clear HM hlt hk
        go_wp2
        go_loopw [0, 9] (fun v i wq => ∃ k : Nat, k ≤ P.length ∧ i = .int .i64 k ∧ Hid (PutAtR w (.slice lo L.length lc) L P k v wq)) (fun _ i _ => P.length - (intOf i).toNat)
        case atStart => exact ⟨0, by omega, rfl, H0⟩
        case round =>
          obtain ⟨k, hk, rfl, HA2⟩ := hrel
          have l0 : (0 : Int) ≤ k := by omega
          by_cases hlt : k < P.length
          · obtain ⟨y, hy⟩ : ∃ y, P[k]? = some y := ⟨P[k]'hlt, List.getElem?_eq_getElem hlt⟩
            obtain ⟨g, o, e, hg, h0, h1, h2, h3⟩ := (HP.out.below HA2.out.2.1).2 k y hy
            subst e
            have hlen : ((P.take k).foldl layM L).length ≤ 1099511627776 := by
              have := fold_len L (P.take k)
              simp only [List.length_take] at this
              omega
            have C := LAY.out _ _ _ HA2.out.1 hlen y
            have HN := Lib.hid (fun (e : Ending) (w' : World) (hl : LayPost wr ((P.take k).foldl layM L) y e w') => (show ∃ v', e = .returned v' ∧ PutAtR w (.slice lo L.length lc) L P (k + 1) v' w' from by
              obtain ⟨v', rfl, a1, a2, a3⟩ := hl
              refine ⟨v', rfl, by rw [fold_take hy]; exact a1, HA2.out.2.1.trans (a2.mono HA2.out.2.1.size), fun g hg => Or.inr ?_⟩
              have := a3 g hg
              have := HA2.out.2.1.size
              omega))
            obtain ⟨yk, yt, yd, yv⟩ := y
            simp only [cellV] at h0 h1 h2 h3 C
            have q : decide (k < P.length) = true := by simpa using hlt
            have l1 : (k : Int) < P.length := by omega
            clear hy hlen
            go_wp2_with fail
            refine C.mono ?_
            rintro e w3 hl
            obtain ⟨v', rfl, hn⟩ := HN.out e w3 hl
            have H3 := Lib.hid hn
            clear hl hn C
            go_wp2
            go_round
            case rel => exact ⟨k + 1, by omega, by go_num, H3⟩
            case measure => simp [intOf]; omega
          · obtain rfl : k = P.length := by omega
            have q : decide (P.length < P.length) = false := by simp
            have HF := Lib.hid (HFIN.out _ _ HA2.out)
            go_wp2
            go_ret3
            exact HF.out
  · have hok : putOk P = false := by simpa using hok
    obtain ⟨n, x, hx, ha, hb, hr⟩ := putR_bad hok 0
    have HX := Lib.hid hx
    have HA := Lib.hid ha
    have M2 := Lib.hid (fun u : World => rmay_any x u)
    have hn : n < P.length := (List.getElem?_eq_some_iff.1 hx).1
    obtain ⟨E, hE⟩ : ∃ E, mayM x = E := ⟨_, rfl⟩
    rw [hE] at M2 hb hr
    have HFIN := Lib.hid (fun (wr : World) (hb : RowKit.Below w.heap.size w wr) => (show RPutPost w lv L P (.returned (.tuple #[lv, .int .i64 n, .int .i64 E])) wr from
      ⟨lv, by rw [hr]; simp, by unfold putM; rw [hok]; exact h.stay hb, hb, fun g hg => Or.inl hg⟩))
    obtain ⟨lo, lc, rfl⟩ := h.shape
    clear h hp hr ha hok hx hE
    go_enter Try.func16, Try.ntmps16
    go_wp2
    go_loopw [7] (fun i wr => ∃ k : Nat, k ≤ n ∧ i = .int .i64 k ∧ Hid (RowKit.Below w.heap.size w wr)) (fun i _ => P.length - (intOf i).toNat)
    case atStart => exact ⟨0, by omega, rfl, Lib.hid (Below.refl _ _)⟩
    case round =>
      obtain ⟨k, hk, rfl, HB⟩ := hrel
      have l0 : (0 : Int) ≤ k := by omega
      have l2 : k < P.length := by omega
      have l1 : (k : Int) < P.length := by omega
      have q : decide (k < P.length) = true := by simpa using l2
      by_cases hlt : k < n
      · obtain ⟨y, hy⟩ : ∃ y, P[k]? = some y := ⟨P[k]'l2, List.getElem?_eq_getElem l2⟩
        obtain ⟨g, o, e, hg, h0, h1, h2, h3⟩ := (HP.out.below HB.out).2 k y hy
        subst e
        have M := HM.out y
        rw [HA.out k y hlt hy] at M
        obtain ⟨yk, yt, yd, yv⟩ := y
        simp only [cellV] at h0 h1 h2 h3 M
        clear hy
        go_wp2_with fail
        refine (M _).mono ?_
        rintro e w3 ⟨rfl, hb⟩
        have HB3 := Lib.hid (HB.out.trans (hb.mono HB.out.size))
        clear hb M
        go_wp2
        go_round
        case rel => exact ⟨k + 1, by omega, by go_num, HB3⟩
        case measure => simp [intOf]; omega
      · obtain rfl : k = n := by omega
        obtain ⟨g, o, e, hg, h0, h1, h2, h3⟩ := (HP.out.below HB.out).2 k x HX.out
        subst e
        have M := M2.out
        obtain ⟨yk, yt, yd, yv⟩ := x
        simp only [cellV] at h0 h1 h2 h3 M
        have q2 : (E != 0) = true := by rw [bne_iff_ne]; exact hb
        clear hb
        go_wp2_with fail
        refine (M _).mono ?_
        rintro e w3 ⟨rfl, hb⟩
        have HB3 := Lib.hid (HFIN.out w3 (HB.out.trans (hb.mono HB.out.size)))
        clear hb M
        go_wp2
        go_ret3
        exact HB3.out
end Go.Proofs.Ytnhookblhckmlaa
