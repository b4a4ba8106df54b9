/- Walks: CellsTime. -/
import Derived.Test.YtnhookblhckmlaaKi
namespace Go.Proofs.Ytnhookblhckmlaa
open Go.RowKit Mk Go.Sort

theorem seenV_form (o : Option CellM) : ∃ (yk : ByteArray) (yt : Nat) (yd : Bool) (yv : ByteArray) (yb : Bool), seenV o = .tuple #[.agg #[.string yk, .int .u64 yt, .bool yd, .string yv], .bool yb] := by
  rcases o with _ | ⟨yk, yt, yd, yv⟩
  · exact ⟨_, 0, _, _, _, rfl⟩
  · exact ⟨_, _, _, _, _, rfl⟩
theorem below_chg {B : Nat} {w W W' : World} {K : Nat → Prop} (h : RowKit.Below B w W) (hB : B ≤ w.heap.size) (k : Chg (fun g => B ≤ g ∧ ¬ K g) W W') : RowKit.Below B w W' :=
  h.trans (k.below (B := B) (fun i f => f.1) (Nat.le_trans hB h.size))
theorem below_go {B : Nat} {w W W' : World} (h : RowKit.Below B w W) (hB : B ≤ w.heap.size) (k : RowKit.Below W.heap.size W W') : RowKit.Below B w W' := h.trans (k.mono (Nat.le_trans hB h.size))

/-- What the law's loop keeps. -/
structure TimeAt (w : World) (A : Nat) (ca : Value) (M0 : List CellM) (key : ByteArray) (t : Nat) (n : Nat) (wr : World) : Prop where
  cs : ∃ M, CS w.heap.size (fun g => g = A) w.heap.size M wr ∧ M.length ≤ 60 + n ∧ getM M key t = getM M0 key t
  here : ∃ yk yt yd yv, ca = .agg #[.string yk, .int .u64 yt, .bool yd, .string yv] ∧ wr.heap[A]? = some (.cells #[.string yk, .int .u64 yt, .bool yd, .string yv] 24)
  below : RowKit.Below w.heap.size w wr
  lt : A < wr.heap.size

set_option maxRecDepth 100000 in
set_option maxHeartbeats 4000000 in
theorem walkCellsTime {w : World} {so0 so1 : Option Addr} {c0 c1 : Nat} {P Q : List CellM} (hp : At w so0 P) (hq : At w so1 Q) (key : ByteArray) (t below : Nat) :
    Calls Try.prog 4 #[.slice so0 P.length c0, .slice so1 Q.length c1, .string key, .int .u64 t, .int .u64 below] w fun e w' => e = .returned (.bool true) ∧ RowKit.Below w.heap.size w w' := by
  have AL := Lib.hid alive_any
  by_cases h60 : 60 < P.length
  · have q : decide (60 < P.length) = true := by simpa using h60
    have q' : decide ((60 : Int) < P.length) = true := by simp; omega
    clear hp hq
    go_enter Try.func4, Try.ntmps4
    go_wp2_with fail
    refine (AL.out _).mono ?_
    rintro e w1 ⟨rfl, hb⟩
    go_wp2
    go_ret
    exact ⟨rfl, hb⟩
  by_cases h61 : 60 < Q.length
  · have q : decide ((60 : Int) < P.length) = false := by simp; omega
    have q' : decide ((60 : Int) < Q.length) = true := by simp; omega
    clear hp hq
    go_enter Try.func4, Try.ntmps4
    go_wp2_with fail
    refine (AL.out _).mono ?_
    rintro e w1 ⟨rfl, hb⟩
    go_wp2
    go_ret
    exact ⟨rfl, hb⟩
  have q1 : decide ((60 : Int) < P.length) = false := by simp; omega
  have q2 : decide ((60 : Int) < Q.length) = false := by simp; omega
  have HQ := Lib.hid hq
  obtain ⟨W1, HW1⟩ : ∃ W, Hid (w.alloc (.cells #[.slice none 0 0, .bool true] 65) = W) := ⟨_, Lib.hid rfl⟩
  have hb1 : RowKit.Below w.heap.size w W1 := by rw [← HW1.out]; exact (Below.refl _ w).alloc (Nat.le_refl _) _
  have hcs1 : CS w.heap.size (fun _ => False) w.heap.size [] W1 := by rw [← HW1.out]; exact CS.new _ w (Nat.le_refl _) _ (fun _ f => f.elim)
  have N := new_any w
  rw [HW1.out] at N
  have PUT := Lib.hid (hcs1.put (fun _ f => f.elim) hb1.size (hp.below hb1) (fun hne g o e => Or.inl (hp.lt hne e)) (by simp; omega) c0)
  obtain ⟨M0, HM0⟩ : ∃ M, Hid (putM [] P = M) := ⟨_, Lib.hid rfl⟩
  have hM0 := putM_len [] P
  rw [HM0.out] at hM0 PUT
  simp only [List.length_nil, Nat.zero_add] at hM0
  have HB1 := Lib.hid hb1
  clear hb1 hcs1 hp hq
  go_enter Try.func4, Try.ntmps4
  go_wp2_with fail
  refine N.mono ?_
  rintro e w' ⟨rfl, rfl⟩
  clear N HW1
  go_wp2_with fail
  refine PUT.out.mono ?_
  rintro e w2 ⟨rfl, hcs2, hch2⟩
  have HC2 := Lib.hid hcs2
  have HB2 := Lib.hid (below_chg HB1.out (Nat.le_refl _) hch2)
  clear hcs2 hch2 PUT HB1
  obtain ⟨yk, yt, yd, yv, yb, hy⟩ := seenV_form (getM M0 key t)
  have HY := Lib.hid hy
  have GET := Lib.hid (fun (M : List CellM) (K : Nat → Prop) (b : Nat) (W : World) (h : CS w.heap.size K b M W) (hL : M.length ≤ 200) (he : getM M key t = getM M0 key t) =>
    (show Calls Try.prog 13 #[.pointer (some ⟨b, 0, none⟩), .string key, .int .u64 t] W fun e w' => e = .returned (.tuple #[.agg #[.string yk, .int .u64 yt, .bool yd, .string yv], .bool yb]) ∧ RowKit.Below W.heap.size W w' from by
      have := h.get (by omega) key t
      rw [he, hy] at this
      exact this))
  clear hy
  go_wp2_with fail
  refine (GET.out M0 _ _ _ HC2.out (by omega) rfl).mono ?_
  rintro e w3 ⟨rfl, hb3⟩
  obtain ⟨W4, HW4⟩ : ∃ W, Hid (w3.alloc (.cells #[.string yk, .int .u64 yt, .bool yd, .string yv] 24) = W) := ⟨_, Lib.hid rfl⟩
  have hb4 : RowKit.Below w3.heap.size w3 W4 := by rw [← HW4.out]; exact (Below.refl _ w3).alloc (Nat.le_refl _) _
  have hx4 : W4.heap[w3.heap.size]? = some (.cells #[.string yk, .int .u64 yt, .bool yd, .string yv] 24) := by rw [← HW4.out]; exact Go.heap_alloc_new _ _
  have HT := Lib.hid (show TimeAt w w3.heap.size (.agg #[.string yk, .int .u64 yt, .bool yd, .string yv]) M0 key t 0 W4 from
    ⟨⟨M0, ((HC2.out.stay hb3).keep hb4).mono (fun g e => Or.inr (by omega)), by omega, rfl⟩, ⟨_, _, _, _, rfl, hx4⟩, below_go (below_go HB2.out (Nat.le_refl _) hb3) (Nat.le_refl _) hb4, (Array.getElem?_eq_some_iff.1 hx4).1⟩)
  clear hb3 hb4 hx4 HC2 HB2
  go_wp2_with fail
  rw [HW4.out]
  clear HW4
  generalize hA : w3.heap.size = A at *
  have HA := Lib.hid hA
  clear hA
  have hQ60 : Q.length ≤ 60 := by omega
  go_loopw [14] (fun i wr => ∃ k : Nat, k ≤ Q.length ∧ i = .int .i64 k ∧ Hid (TimeAt w A (.agg #[.string yk, .int .u64 yt, .bool yd, .string yv]) M0 key t k wr)) (fun i _ => Q.length - (intOf i).toNat)
  case atStart => exact ⟨0, by omega, rfl, HT⟩
  case round =>
    clear HT
    obtain ⟨k, hk, rfl, HT⟩ := hrel
    have l0 : (0 : Int) ≤ k := by omega
    by_cases hlt : k < Q.length
    · obtain ⟨x, hx⟩ : ∃ x, Q[k]? = some x := ⟨Q[k]'hlt, List.getElem?_eq_getElem hlt⟩
      obtain ⟨g, o, e, hg, h0, h1, h2, h3⟩ := (HQ.out.below HT.out.below).2 k x hx
      subst e
      obtain ⟨xk, xt, xd, xv⟩ := x
      simp only at h0 h1 h2 h3
      have l1 : (k : Int) < Q.length := by omega
      have q3 : decide (k < Q.length) = true := by simpa using hlt
      clear hx
      by_cases hxt : t < xt
      · have q4 : decide (t < xt) = true := by simpa using hxt
        obtain ⟨W2, HW2⟩ : ∃ W, Hid (wr.alloc (.cells #[.string xk, .int .u64 xt, .bool xd, .string xv] 24) = W) := ⟨_, Lib.hid rfl⟩
        have hk2 : RowKit.Below wr.heap.size wr W2 := by rw [← HW2.out]; exact (Below.refl _ wr).alloc (Nat.le_refl _) _
        have hn2 : W2.heap[wr.heap.size]? = some (.cells #[.string xk, .int .u64 xt, .bool xd, .string xv] 24) := by rw [← HW2.out]; exact Go.heap_alloc_new _ _
        obtain ⟨⟨M, hM1, hM2, hM3⟩, ⟨zk, zt, zd, zv, ez, hz⟩, hbl, hAl⟩ := HT.out
        have hN : CS w.heap.size (fun g => g = A ∨ g = wr.heap.size) w.heap.size M W2 := (hM1.keep hk2).mono (fun g e => e.elim Or.inl (fun e => Or.inr (by omega)))
        obtain ⟨so, cap, e5, hat, hown⟩ := (has_one ⟨xk, xt, xd, xv⟩ hn2).at
        simp only [List.length_singleton, Value.slice.injEq] at e5
        obtain ⟨rfl, -, rfl⟩ := e5
        have PUT := hN.put (fun g e => e.elim (fun e => by have := hk2.size; omega) (fun e => by rw [e]; exact (Array.getElem?_eq_some_iff.1 hn2).1)) (Nat.le_trans hbl.size hk2.size) hat (fun _ g o e => by cases e; exact Or.inr (Or.inr rfl)) (by simp; omega) 1
        have HP := Lib.hid (PUT.mono (R' := fun e w' => e = .returned (.tuple #[.int .i64 (putR [(⟨xk, xt, xd, xv⟩ : CellM)] 0).1, .int .i64 (putR [(⟨xk, xt, xd, xv⟩ : CellM)] 0).2]) ∧ TimeAt w A (.agg #[.string yk, .int .u64 yt, .bool yd, .string yv]) M0 key t (k + 1) w') (by
          rintro e w5 ⟨rfl, h5, h6⟩
          have hlen := putM_len M [(⟨xk, xt, xd, xv⟩ : CellM)]
          simp only [List.length_singleton] at hlen
          have hA2 : A < W2.heap.size := by have := hk2.size; omega
          refine ⟨rfl, ⟨_, h5.mono (fun g e => Or.inl e), by omega, ?_⟩, ⟨zk, zt, zd, zv, ez, ?_⟩, below_chg (below_go hbl (Nat.le_refl _) hk2) (Nat.le_refl _) h6, by have := h6.size; omega⟩
          · unfold putM
            split
            · simp only [List.foldl_cons, List.foldl_nil]
              rw [getM_lay M key hxt, hM3]
            · exact hM3
          · exact (h6.block A hA2 (fun f => f.2 (Or.inl rfl))).trans ((hk2.block A hAl).trans hz)))
        generalize (putR [(⟨xk, xt, xd, xv⟩ : CellM)] 0).1 = r1 at *
        generalize (putR [(⟨xk, xt, xd, xv⟩ : CellM)] 0).2 = r2 at *
        clear PUT hat hown hN hn2 hk2 hM1 hM2 hM3 hz hbl hAl
        go_wp2_with fail
        rw [HW2.out]
        refine HP.out.mono ?_
        rintro e w5 ⟨rfl, h5⟩
        have H5 := Lib.hid h5
        clear h5 HP h0 h1 h2 h3
        go_wp2
        go_round
        case rel => exact ⟨k + 1, by omega, by go_num, H5⟩
        case measure => simp [intOf]; omega
      · have q4 : decide (t < xt) = false := by simpa using hxt
        have H5 := Lib.hid (show TimeAt w A (.agg #[.string yk, .int .u64 yt, .bool yd, .string yv]) M0 key t (k + 1) wr from by
          obtain ⟨⟨M, hM1, hM2, hM3⟩, h4, h5, h6⟩ := HT.out
          exact ⟨⟨M, hM1, by omega, hM3⟩, h4, h5, h6⟩)
        go_wp2
        go_round
        case rel => exact ⟨k + 1, by omega, by go_num, H5⟩
        case measure => simp [intOf]; omega
    · obtain rfl : k = Q.length := by omega
      have q3 : decide (Q.length < Q.length) = false := by simp
      go_wp2_with fail
      obtain ⟨⟨M, hM1, hM2, hM3⟩, ⟨zk, zt, zd, zv, ez, hz⟩, hbl, hAl⟩ := HT.out
      cases ez
      have HM1 := Lib.hid hM1
      have HM3 := Lib.hid hM3
      have HBL := Lib.hid hbl
      have HZ := Lib.hid hz
      clear hM1 hM3 hbl hz HT
      refine (GET.out M _ _ _ HM1.out (by omega) HM3.out).mono ?_
      rintro e w5 ⟨rfl, hb5⟩
      have hz5 := cell_alloc_keep HZ.out hb5
      have a0 : w5.cell? ⟨A, 0, none⟩ = some (.string yk) := cell_of hz5 rfl
      have a1 : w5.cell? ⟨A, 1, none⟩ = some (.int .u64 yt) := cell_of hz5 rfl
      have a2 : w5.cell? ⟨A, 2, none⟩ = some (.bool yd) := cell_of hz5 rfl
      have a3 : w5.cell? ⟨A, 3, none⟩ = some (.string yv) := cell_of hz5 rfl
      have hwA2 : w.heap.size ≤ w5.heap.size := Nat.le_trans HBL.out.size hb5.size
      have hA5 : A < w5.heap.size := Nat.lt_of_lt_of_le hAl hb5.size
      have e1 : (yk.toList == yk.toList) = true := by simp
      have e2 : (yv.toList == yv.toList) = true := by simp
      obtain ⟨W6, HW6⟩ : ∃ W, Hid (w5.alloc (.cells #[.string yk, .int .u64 yt, .bool yd, .string yv] 24) = W) := ⟨_, Lib.hid rfl⟩
      have hk6 : RowKit.Below w5.heap.size w5 W6 := by rw [← HW6.out]; exact (Below.refl _ w5).alloc (Nat.le_refl _) _
      have hx6 : W6.heap[w5.heap.size]? = some (.cells #[.string yk, .int .u64 yt, .bool yd, .string yv] 24) := by rw [← HW6.out]; exact Go.heap_alloc_new _ _
      have hs6 : W6.heap.size = w5.heap.size + 1 := by rw [← HW6.out]; simp
      have hz6 := cell_alloc_keep hz5 hk6
      have hc6 : CS w.heap.size (fun g => g = A ∨ g = w5.heap.size) w.heap.size M W6 := (((HM1.out.stay hb5).keep hk6)).mono (fun g e => e.elim Or.inl (fun e => Or.inr (by omega)))
      have hb6 := below_go (below_go HBL.out (Nat.le_refl _) hb5) (Nat.le_refl _) hk6
      have COPY := Lib.hid (hc6.copy (by omega) hb6.size)
      have HC6 := Lib.hid hc6
      have HB6 := Lib.hid hb6
      have HZ6 := Lib.hid hz6
      have HX6 := Lib.hid hx6
      have HS6 := Lib.hid hs6
      clear hz5 hk6 hx6 hs6 hz6 hc6 hb6 hb5 HBL HZ HM1
      go_wp2_with fail
      rw [HW6.out]
      clear HW6 a0 a1 a2 a3
      refine COPY.out.mono ?_
      rintro e w7 ⟨d, rfl, hd7, hb7⟩
      generalize hA2 : w5.heap.size = A2 at *
      have hA26 : A2 < W6.heap.size := by have := HS6.out; omega
      have hA6 : A < W6.heap.size := by have := HS6.out; omega
      obtain ⟨m, hm⟩ : ∃ m, min below t = m := ⟨_, rfl⟩
      have hmt : m ≤ t := by omega
      have hc7 : CS w.heap.size (fun g => (g = A ∨ g = A2) ∨ (W6.heap.size ≤ g ∧ g < w7.heap.size)) w.heap.size M w7 := (HC6.out.keep hb7).mono (fun g e => e.elim Or.inl (fun e => Or.inr e.1))
      have hb7' := below_go HB6.out (Nat.le_refl _) hb7
      have s7 := hb7.size
      have TRIM := Lib.hid (hc7.trim (by omega) m)
      have HD7 := Lib.hid hd7
      have HO7 := Lib.hid hc7.ord
      have HB7 := Lib.hid hb7'
      have HZ7 := Lib.hid (cell_alloc_keep HZ6.out hb7)
      have HX7 := Lib.hid (cell_alloc_keep HX6.out hb7)
      have hA7 : A < w7.heap.size := by omega
      have hA27 : A2 < w7.heap.size := by omega
      have HA2 := Lib.hid hA2
      clear hd7 hb7 hc7 hb7' COPY HC6 HB6 HZ6 HX6 hA2
      have step : Calls Try.prog 15 #[.pointer (some ⟨w.heap.size, 0, none⟩), .int .u64 (min (below : Int) t)] w7 fun e w' => (∃ r, e = .returned (.int .i64 r)) ∧ CS w.heap.size (fun g => (g = A ∨ g = A2) ∨ (W6.heap.size ≤ g ∧ g < w7.heap.size)) w.heap.size (trimM M m) w' ∧ Chg (fun g => w.heap.size ≤ g ∧ ¬ ((g = A ∨ g = A2) ∨ (W6.heap.size ≤ g ∧ g < w7.heap.size))) w7 w' := by
        have e : min (below : Int) t = (m : Nat) := by rw [← hm]; omega
        rw [e]
        exact TRIM.out.mono (fun e w' h => ⟨⟨_, h.1⟩, h.2⟩)
      have STEP := Lib.hid step
      clear step hm
      go_wp2_with fail
      refine STEP.out.mono ?_
      rintro e w8 ⟨⟨r, rfl⟩, hc8, hch8⟩
      have hz8 := (hch8.block A hA7 (fun f => f.2 (Or.inl (Or.inl rfl)))).trans HZ7.out
      have hx8 := (hch8.block A2 hA27 (fun f => f.2 (Or.inl (Or.inr rfl)))).trans HX7.out
      have hd8 := HD7.out.other hch8 (fun g hg f => by
        by_cases h : g < W6.heap.size
        · exact h
        · exact absurd (Or.inr ⟨by omega, hg⟩) f.2)
      have hb8 := below_chg HB7.out (Nat.le_refl _) hch8
      have ht8 := trimM_len M m
      have HC8 := Lib.hid hc8
      have HD8 := Lib.hid hd8
      have HB8 := Lib.hid hb8
      have HZ8 := Lib.hid hz8
      have HX8 := Lib.hid hx8
      have hA8 : A < w8.heap.size := Nat.lt_of_lt_of_le hA7 hch8.size
      have hA28 : A2 < w8.heap.size := Nat.lt_of_lt_of_le hA27 hch8.size
      clear hc8 hd8 hb8 hz8 hx8 hch8 STEP HD7 HB7 HZ7 HX7 TRIM
      go_wp2_with fail
      refine (GET.out (trimM M m) _ _ _ HC8.out (by omega) (by rw [getM_trim HO7.out hmt, HM3.out])).mono ?_
      rintro e w9 ⟨rfl, hb9⟩
      have hx9 := cell_alloc_keep HX8.out hb9
      have hz9 := cell_alloc_keep HZ8.out hb9
      have a0 : w9.cell? ⟨A2, 0, none⟩ = some (.string yk) := cell_of hx9 rfl
      have a1 : w9.cell? ⟨A2, 1, none⟩ = some (.int .u64 yt) := cell_of hx9 rfl
      have a2 : w9.cell? ⟨A2, 2, none⟩ = some (.bool yd) := cell_of hx9 rfl
      have a3 : w9.cell? ⟨A2, 3, none⟩ = some (.string yv) := cell_of hx9 rfl
      have f0 : w9.frozen? ⟨A2, 0, none⟩ = false := frozen_of hx9
      have f1 : w9.frozen? ⟨A2, 1, none⟩ = false := frozen_of hx9
      have f2 : w9.frozen? ⟨A2, 2, none⟩ = false := frozen_of hx9
      have f3 : w9.frozen? ⟨A2, 3, none⟩ = false := frozen_of hx9
      obtain ⟨X, HX⟩ : ∃ W, Hid ((((w9.setCell ⟨A2, 0, none⟩ (.string yk)).setCell ⟨A2, 1, none⟩ (.int .u64 yt)).setCell ⟨A2, 2, none⟩ (.bool yd)).setCell ⟨A2, 3, none⟩ (.string yv) = W) := ⟨_, Lib.hid rfl⟩
      obtain ⟨g4, c4⟩ := fin4 hx9 (.string yk) (.int .u64 yt) (.bool yd) (.string yv)
      rw [HX.out] at g4 c4
      have hAne : A ≠ A2 := by have := HA2.out; omega
      have hzX := (c4.block A (Nat.lt_of_lt_of_le hA8 hb9.size) hAne).trans hz9
      have hdX := (HD8.out.stay hb9).other c4 (fun g _ e => by subst e; exact hA26)
      have hbX : RowKit.Below w.heap.size w X := below_chg (K := fun _ => False) (below_go HB8.out (Nat.le_refl _) hb9) (Nat.le_refl _) (c4.mono (fun i e => ⟨by subst e; exact hwA2, fun f => f⟩))
      have HDX := Lib.hid hdX
      have HBX := Lib.hid hbX
      have HZX := Lib.hid hzX
      have HXX := Lib.hid g4
      have hAX : A < X.heap.size := by have := c4.size; have := hb9.size; omega
      have hA2X : A2 < X.heap.size := by have := c4.size; have := hb9.size; omega
      clear hx9 hz9 g4 c4 hzX hdX hbX hb9 HC8 HD8 HB8 HZ8 HX8
      go_wp2_with fail
      rw [HX.out]
      clear a0 a1 a2 a3 f0 f1 f2 f3 HX
      refine (GET.out M _ _ _ HDX.out (by omega) HM3.out).mono ?_
      rintro e wa ⟨rfl, hba⟩
      have hza := cell_alloc_keep HZX.out hba
      have hxa := cell_alloc_keep HXX.out hba
      have a0 : wa.cell? ⟨A, 0, none⟩ = some (.string yk) := cell_of hza rfl
      have a1 : wa.cell? ⟨A, 1, none⟩ = some (.int .u64 yt) := cell_of hza rfl
      have a2 : wa.cell? ⟨A, 2, none⟩ = some (.bool yd) := cell_of hza rfl
      have a3 : wa.cell? ⟨A, 3, none⟩ = some (.string yv) := cell_of hza rfl
      have b0 : wa.cell? ⟨A2, 0, none⟩ = some (.string yk) := cell_of hxa rfl
      have b1 : wa.cell? ⟨A2, 1, none⟩ = some (.int .u64 yt) := cell_of hxa rfl
      have b2 : wa.cell? ⟨A2, 2, none⟩ = some (.bool yd) := cell_of hxa rfl
      have b3 : wa.cell? ⟨A2, 3, none⟩ = some (.string yv) := cell_of hxa rfl
      have hAa : A < wa.heap.size := Nat.lt_of_lt_of_le hAX hba.size
      have hA2a : A2 < wa.heap.size := Nat.lt_of_lt_of_le hA2X hba.size
      have HBA := Lib.hid (below_go HBX.out (Nat.le_refl _) hba)
      clear hza hxa hba HDX HBX HZX HXX
      go_wp2_with fail
      refine (AL.out _).mono ?_
      rintro e wb ⟨rfl, hbb⟩
      have HBB := Lib.hid (below_go (below_go HBA.out (Nat.le_refl _) ((Below.refl _ wa).alloc (Nat.le_refl _) (.cells #[.string yk, .int .u64 yt, .bool yd, .string yv] 24))) (Nat.le_refl _) hbb)
      clear hbb
      go_wp2
      go_ret
      exact ⟨rfl, HBB.out⟩
end Go.Proofs.Ytnhookblhckmlaa
