/- Walks: Insert at the end, Put of cells that come behind all. -/
import Derived.Test.YtnhookblhckmlaaK5
import Derived.Deep.RegionWith
namespace Go.Proofs.Ytnhookblhckmlaa
open Go.RowKit Mk Go.Sort

theorem info24 : ∃ (i : TypeInfo) (z : Value), Try.prog.info? 24 = some i ∧ i.zero = some z ∧ i.size = 4 ∧ i.bytes = 48 ∧ z.cells.size = 4 := by
  have h : ((Try.prog.info? 24).map fun i => (i.size, i.bytes, i.zero.map (·.cells.size))) = some (4, 48, some 4) := by kernel_rfl
  cases hi : Try.prog.info? 24 with
  | none => rw [hi] at h; cases h
  | some i =>
    rw [hi] at h
    simp only [Option.map_some, Option.some.injEq, Prod.mk.injEq] at h
    obtain ⟨h1, h2, h3⟩ := h
    cases hz : i.zero with
    | none => rw [hz] at h3; cases h3
    | some z => rw [hz] at h3; exact ⟨i, z, rfl, hz, h1, h2, by simpa using h3⟩
theorem cell_new_four {w : World} {g : Nat} {a b c d : Value} {t : TypeId} (h : w.heap[g]? = some (.cells #[a, b, c, d] t)) : ∀ j u, [a, b, c, d][j]? = some u → w.cell? ((⟨g, 0, none⟩ : Addr).add j) = some u := by
  intro j u hj
  match j, hj with
  | 0, hj => simp at hj; subst hj; simp [Addr.add, World.cell?, h]
  | 1, hj => simp at hj; subst hj; simp [Addr.add, World.cell?, h]
  | 2, hj => simp at hj; subst hj; simp [Addr.add, World.cell?, h]
  | 3, hj => simp at hj; subst hj; simp [Addr.add, World.cell?, h]

set_option maxRecDepth 100000 in
set_option maxHeartbeats 1000000 in
theorem insert_end {w : World} {lv : Value} {L : List CellM} (h : Has w lv L) (hL : L.length ≤ 1099511627776) (x : CellM) {xb : Nat} {t : TypeId} (hx : w.heap[xb]? = some (.cells (cellL x).toArray t)) :
    Calls Try.prog 33 #[lv, .int .i64 L.length, .slice (some ⟨xb, 0, none⟩) 1 1] w fun e w' => ∃ v', e = .returned v' ∧ Has w' v' (L ++ [x]) ∧ w.grownBy w' lv.ownBlock ∧ (v'.ownBlock = lv.ownBlock ∨ v'.ownBlock = some w.heap.size) := by
  obtain ⟨k, tt, d, v⟩ := x
  have hap : ∀ v' w', sl w' 24 4 v' (L.length + 1) (cellsL L ++ [.string k, .int .u64 tt, .bool d, .string v]) → Has w' v' (L ++ [⟨k, tt, d, v⟩]) := by
    intro v' w' hs
    unfold Has
    have : cellsL (L ++ [⟨k, tt, d, v⟩]) = cellsL L ++ [.string k, .int .u64 tt, .bool d, .string v] := by simp [cellsL, cellL]
    rw [this, List.length_append]
    exact hs
  have HAP := Lib.hid hap
  have HN := Lib.hid (cell_new_four (a := .string k) (b := .int .u64 tt) (c := .bool d) (d := .string v) hx)
  obtain ⟨i6, z6, hi6, hz6, hsz6, hby6, hzs6⟩ := info24
  have HS := Lib.hid h
  clear hap hx
  rcases h.2 with ⟨rfl, e0⟩ | ⟨g, cap, cur, rfl, hg, hnc, hcm, hcs, htake⟩
  · obtain rfl := List.eq_nil_of_length_eq_zero e0
    have HSL : sl w 24 4 (.slice none 0 0) 0 [] := HS.out
    clear h e0
    show Calls Try.prog 33 #[.slice none 0 0, .int .i64 0, .slice (some ⟨xb, 0, none⟩) 1 1] w _
    go_enter Try.func33, Try.ntmps33
    go_wp2_with (refine wpList_append_sl (by rfl) _ _ 28 (by rfl) 24 i6 z6 4 48 Try.underlying28 hi6 hz6 hsz6 hby6 hzs6 (by decide) (.slice none 0 0) 0 [] (by rfl) HSL (some ⟨xb, 0, none⟩) 1 1 [.string k, .int .u64 tt, .bool d, .string v] (by rfl) (by rfl) (fun _ => ⟨_, rfl, HN.out⟩) (fun h => absurd h (by decide)) (by simp [Value.oneCell']) (by decide) (by decide) ?_; intro v' w2 hsl hgrow hat)
    go_ret
    exact ⟨_, rfl, HAP.out _ _ hsl, hgrow, hat⟩
  · have l1 : (L.length : Int) ≤ cap := by omega
    have l2 : (0 : Int) ≤ L.length := by omega
    clear h
    go_enter Try.func33, Try.ntmps33
    go_wp2_with (refine wpList_append_sl (by rfl) _ _ 28 (by rfl) 24 i6 z6 4 48 Try.underlying28 hi6 hz6 hsz6 hby6 hzs6 (by decide) (.slice (some ⟨g, 0, none⟩) L.length cap) L.length (cellsL L) (by rfl) HS.out (some ⟨xb, 0, none⟩) 1 1 [.string k, .int .u64 tt, .bool d, .string v] (by rfl) (by rfl) (fun _ => ⟨_, rfl, HN.out⟩) (fun h => absurd h (by decide)) (by simp [Value.oneCell']) (by simp only [maxLen]; omega) (by omega) ?_; intro v' w2 hsl hgrow hat)
    all_goals
      go_ret
      exact ⟨_, rfl, HAP.out _ _ hsl, hgrow, hat⟩

/-- Cells that are there: block b, the row lv, the list L. -/
structure CR (w : World) (b : Nat) (lv : Value) (L : List CellM) : Prop where
  blk : w.heap[b]? = some (.cells #[lv, .bool true] 65)
  has : Has w lv L
  apart : lv.ownBlock ≠ some b
theorem CR.lt {w : World} {b : Nat} {lv : Value} {L : List CellM} (h : CR w b lv L) : b < w.heap.size := (Array.getElem?_eq_some_iff.1 h.blk).1
theorem CR.stay {w w' : World} {b : Nat} {lv : Value} {L : List CellM} (h : CR w b lv L) (k : RowKit.Below w.heap.size w w') : CR w' b lv L :=
  ⟨cell_alloc_keep h.blk k, h.has.stay k, h.apart⟩

set_option maxRecDepth 100000 in
set_option maxHeartbeats 1000000 in
theorem put_bad {w : World} {b : Nat} {lv pv : Value} {L : List CellM} (h : CR w b lv L) {x : CellM} {P : List CellM} (hp : Has w pv (x :: P)) (hb : mayM x ≠ 0) :
    Calls Try.prog 12 #[.pointer (some ⟨b, 0, none⟩), pv] w fun e w' => e = .returned (.tuple #[.int .i64 0, .int .i64 (mayM x)]) ∧ RowKit.Below w.heap.size w w' := by
  have N := not_some h.blk
  have M := fun u : World => may_any x u
  obtain ⟨g, cap, e, h0, h1, h2, h3⟩ := hp.cells (i := 0) (c := x) rfl
  obtain ⟨E, hE⟩ : ∃ E, mayM x = E := ⟨_, rfl⟩
  rw [hE] at M hb ⊢
  obtain ⟨xk, xt, xd, xv⟩ := x
  unfold cellV at M
  simp only [Nat.zero_mul, Nat.zero_add] at M h0 h1 h2 h3
  subst e
  have q : (E != 0) = true := by rw [bne_iff_ne]; exact hb
  have l1 : (0 : Int) < ((⟨xk, xt, xd, xv⟩ : CellM) :: P).length := by simp
  have l2 : decide ((0 : Int) < ((⟨xk, xt, xd, xv⟩ : CellM) :: P).length) = true := by simp
  generalize ((⟨xk, xt, xd, xv⟩ : CellM) :: P).length = n at *
  clear h hp hE hb
  go_enter Try.func12, Try.ntmps12
  go_wp2_with fail
  refine N.mono ?_
  rintro e w' ⟨rfl, rfl⟩
  go_wp2
  go_loopw [17] (fun i wr => i = .int .i64 0 ∧ wr = w') (fun i _ => 0)
  case atStart => exact ⟨rfl, rfl⟩
  case round =>
    obtain ⟨rfl, rfl⟩ := hrel
    go_wp2_with fail
    refine (M _).mono ?_
    rintro e w3 ⟨rfl, hb⟩
    have HB3 := Lib.hid ((((Below.refl _ wr).alloc (Nat.le_refl _) (.cells #[.string xk, .int .u64 xt, .bool xd, .string xv] 24)).trans (hb.mono (by simp))))
    clear hb M
    go_wp2
    go_ret2
    exact ⟨rfl, HB3.out⟩
theorem put_nil {w : World} {pv : Value} {P : List CellM} (hp : Has w pv P) :
    Calls Try.prog 12 #[.pointer none, pv] w fun e w' => e = .returned (.tuple #[.int .i64 0, .int .i64 1]) ∧ w' = w := by
  obtain ⟨o, c, rfl⟩ := hp.shape
  have N := not_nil w
  clear hp
  go_enter Try.func12, Try.ntmps12
  go_wp2_with fail
  refine N.mono ?_
  rintro e w' ⟨rfl, rfl⟩
  go_wp2
  go_ret2
  exact ⟨rfl, rfl⟩

/-- Each of P comes behind all that stand ahead of it. -/
def Tail (L P : List CellM) : Prop := ∀ i x, P[i]? = some x → mayM x = 0 ∧ bsM (L ++ P.take i) x = (L ++ P.take i).length ∧ bsIs (L ++ P.take i) x = false

/-- Loop 2 of Put, k cells laid. -/
structure PutAt (w : World) (b : Nat) (lv : Value) (L P : List CellM) (k : Nat) (wr : World) : Prop where
  is : ∃ lv', CR wr b lv' (L ++ P.take k) ∧ (lv'.ownBlock = lv.ownBlock ∨ ∃ g, lv'.ownBlock = some g ∧ w.heap.size ≤ g)
  chg : Chg (fun g => g = b ∨ lv.ownBlock = some g) w wr
theorem regrown_stay {P : Program} {f : FuncId} {args : Array Value} {v : Value} {w : World}
    (h : ∀ w', RowKit.Below w.heap.size w w' → Calls P f args w' fun e w'' => e = .returned v ∧ RowKit.Below w'.heap.size w' w'') :
    ∀ (d : Nat) (os : Array Obj), Calls P f args (grow (redrawn w d) os) fun e w'' => e = .returned v ∧ ∃ p : Regrown, w'' = grow (redrawn w p.d) p.os :=
  fun d os => Calls.regrown_of (h _ (below_regrown w d os))
theorem PutAt.row {w wr : World} {b k : Nat} {lv pv : Value} {L P : List CellM} (h : PutAt w b lv L P k wr) (hp : Has w pv P) (hpb : pv.ownBlock ≠ some b) (hpl : ∀ g, pv.ownBlock = some g → lv.ownBlock ≠ some g) : Has wr pv P :=
  sl.stay hp (fun g hg => h.chg.block g (sl.lt hp hg) (fun e => e.elim (fun e => hpb (by rw [hg, e])) (fun e => hpl g hg e)))
theorem PutAt.below {w wr w2 : World} {b k : Nat} {lv : Value} {L P : List CellM} (h : PutAt w b lv L P k wr) (k2 : RowKit.Below wr.heap.size wr w2) : PutAt w b lv L P k w2 := by
  obtain ⟨⟨lv', h1, h2⟩, h3⟩ := h
  exact ⟨⟨lv', h1.stay k2, h2⟩, h3.trans' (chg_of_below k2) (fun _ f => f.elim)⟩
theorem put_step {w w4 w5 : World} {b k : Nat} {lv lv' v' : Value} {L P : List CellM} (hb : b < w.heap.size) (hc : Chg (fun g => g = b ∨ lv.ownBlock = some g) w w4) (h : CR w4 b lv' (L ++ P.take k))
    (hlv : lv'.ownBlock = lv.ownBlock ∨ ∃ g, lv'.ownBlock = some g ∧ w.heap.size ≤ g) {y : CellM} (hy : P[k]? = some y)
    (h5 : Has w5 v' ((L ++ P.take k) ++ [y])) (hg : w4.grownBy w5 lv'.ownBlock) (hv : v'.ownBlock = lv'.ownBlock ∨ v'.ownBlock = some w4.heap.size) :
    PutAt w b lv L P (k + 1) (w5.setCell ⟨b, 0, none⟩ v') := by
  have h1 : P.take (k + 1) = P.take k ++ [y] := by rw [List.take_add_one, hy]; rfl
  have hb4 := h.lt
  have hnb : v'.ownBlock ≠ some b := by
    rcases hv with e | e
    · rw [e]; exact h.apart
    · rw [e]; intro e2; cases e2; omega
  have hblk : w5.heap[b]? = some (.cells #[lv', .bool true] 65) := (hg.block b hb4 (fun e => h.apart e.symm |>.elim)).trans h.blk
  refine ⟨⟨v', ⟨?_, ?_, hnb⟩, ?_⟩, ?_⟩
  · rw [Mk.heap_setCell_same hblk]; rfl
  · rw [h1, ← List.append_assoc]
    exact sl.stay h5 (fun g hg' => Below.heap_setCell _ _ _ _ (fun e => hnb (by rw [hg', e])))
  · rcases hv with e | e
    · rw [e]; exact hlv
    · exact Or.inr ⟨_, e, hc.size⟩
  · refine (hc.grown hg (fun i e => ?_)).setCell (Or.inl (Or.inl rfl)) _
    rcases hlv with e2 | ⟨g, e2, e3⟩
    · exact Or.inl (Or.inr (by rw [← e2, e]))
    · rw [e2] at e; cases e; exact Or.inr e3

set_option maxRecDepth 100000 in
set_option maxHeartbeats 2000000 in
theorem put_tail {w : World} {b : Nat} {lv pv : Value} {L P : List CellM} (h : CR w b lv L) (hp : Has w pv P) (hpb : pv.ownBlock ≠ some b) (hpl : ∀ g, pv.ownBlock = some g → lv.ownBlock ≠ some g)
    (ht : Tail L P) (hL : L.length + P.length ≤ 1099511627776) :
    Calls Try.prog 12 #[.pointer (some ⟨b, 0, none⟩), pv] w fun e w' => e = .returned (.tuple #[.int .i64 P.length, .int .i64 0]) ∧ PutAt w b lv L P P.length w' := by
  obtain ⟨o, c, rfl⟩ := hp.shape
  have N := not_some h.blk
  have HC := Lib.hid h
  have HP := Lib.hid hp
  have HT := Lib.hid ht
  have HM := Lib.hid (fun (x : CellM) (u : World) => may_any x u)
  clear h hp ht
  go_enter Try.func12, Try.ntmps12
  go_wp2_with fail
  refine N.mono ?_
  rintro e w' ⟨rfl, rfl⟩
  clear N
  go_wp2
  go_loopw [17] (fun i wr => ∃ k : Nat, k ≤ P.length ∧ i = .int .i64 k ∧ Hid (RowKit.Below w'.heap.size w' wr)) (fun i _ => P.length - (intOf i).toNat)
  case atStart => exact ⟨0, by omega, rfl, Lib.hid (Below.refl _ _)⟩
  case round =>
    obtain ⟨k, hk, rfl, HB⟩ := hrel
    by_cases hlt : k < P.length
    · obtain ⟨y, hy⟩ : ∃ y, P[k]? = some y := ⟨P[k]'hlt, List.getElem?_eq_getElem hlt⟩
      obtain ⟨g, cap, e, h0, h1, h2, h3⟩ := (HP.out.stay HB.out).cells hy
      cases e
      have M := HM.out y
      rw [(HT.out k y hy).1] at M
      have HM' := Lib.hid M
      obtain ⟨yk, yt, yd, yv⟩ := y
      simp only [cellV] at h0 h1 h2 h3 M
      have q : decide ((k : Int) < P.length) = true := by simp; omega
      have l0 : (0 : Int) ≤ k := by omega
      have l1 : (k : Int) < P.length := by omega
      clear HM'
      go_wp2_with fail
      refine (M _).mono ?_
      rintro e w3 ⟨rfl, hb⟩
      have HB3 := Lib.hid (HB.out.trans ((((Below.refl _ wr).alloc (Nat.le_refl _) (.cells #[.string yk, .int .u64 yt, .bool yd, .string yv] 24)).trans (hb.mono (by simp))).mono HB.out.size))
      clear hb M
      go_wp2
      go_round
      case rel => exact ⟨k + 1, by omega, by go_num, HB3⟩
      case measure => simp [intOf]; omega
    · obtain rfl : k = P.length := by omega
      have q : decide (((P.length : Nat) : Int) < P.length) = false := by simp
      have HC2 := Lib.hid (HC.out.stay HB.out)
      have HCh := Lib.hid ((Chg.refl (fun g => g = b ∨ lv.ownBlock = some g) w').trans' (chg_of_below HB.out) (fun _ f => f.elim))
      clear HM hlt hk
      go_wp2
      go_loopw [31] (fun i wq => ∃ k : Nat, k ≤ P.length ∧ i = .int .i64 k ∧ Hid (PutAt w' b lv L P k wq)) (fun i _ => P.length - (intOf i).toNat)
      case atStart => exact ⟨0, by omega, rfl, Lib.hid ⟨⟨lv, by simpa using HC2.out, Or.inl rfl⟩, HCh.out⟩⟩
      case round =>
        obtain ⟨k, hk, rfl, HA⟩ := hrel
        by_cases hlt : k < P.length
        · obtain ⟨y, hy⟩ : ∃ y, P[k]? = some y := ⟨P[k]'hlt, List.getElem?_eq_getElem hlt⟩
          obtain ⟨g, cap, e, h0, h1, h2, h3⟩ := (HA.out.row HP.out hpb hpl).cells hy
          cases e
          have hT := HT.out k y hy
          obtain ⟨yk, yt, yd, yv⟩ := y
          simp only at h0 h1 h2 h3
          obtain ⟨W2, HW2⟩ : ∃ W, Hid (wr.alloc (.cells #[.string yk, .int .u64 yt, .bool yd, .string yv] 24) = W) := ⟨_, Lib.hid rfl⟩
          have hk2 : RowKit.Below wr.heap.size wr W2 := by rw [← HW2.out]; exact (Below.refl _ wr).alloc (Nat.le_refl _) _
          have hx : W2.heap[wr.heap.size]? = some (.cells #[.string yk, .int .u64 yt, .bool yd, .string yv] 24) := by rw [← HW2.out]; exact Go.heap_alloc_new _ _
          have HA2 := Lib.hid (HA.out.below hk2)
          have HX := Lib.hid hx
          obtain ⟨⟨lv', hcr, hlv⟩, hch⟩ := HA2.out
          have hlen : (L ++ P.take k).length ≤ 1099511627776 := by simp only [List.length_append, List.length_take]; omega
          have HST := Lib.hid (fun (w4 w5 : World) (v' : Value) (hb4 : RowKit.Below W2.heap.size W2 w4) (h5 : Has w5 v' ((L ++ P.take k) ++ [⟨yk, yt, yd, yv⟩])) (hg : w4.grownBy w5 lv'.ownBlock) (hv : v'.ownBlock = lv'.ownBlock ∨ v'.ownBlock = some w4.heap.size) =>
            put_step HC.out.lt (hch.trans' (chg_of_below hb4) (fun _ f => f.elim)) (hcr.stay hb4) hlv hy h5 hg hv)
          obtain ⟨LL, hLL⟩ : ∃ LL, L ++ P.take k = LL := ⟨_, rfl⟩
          rw [hLL] at hcr hT hlen HST
          have HCR := Lib.hid hcr
          obtain ⟨lo, lc, rfl⟩ := hcr.has.shape
          have BS := regrown_stay (w := W2) (fun w' hw => bsearch_any (hcr.stay hw).has hlen ⟨yk, yt, yd, yv⟩)
          rw [hT.2.1, hT.2.2] at BS
          unfold cellV at BS
          simp only at BS
          have x0 := fun p os => cell_regrown (cell_of (i := 0) (v := .string yk) hx rfl) p os
          have x1 := fun p os => cell_regrown (cell_of (i := 1) (v := .int .u64 yt) hx rfl) p os
          have x2 := fun p os => cell_regrown (cell_of (i := 2) (v := .bool yd) hx rfl) p os
          have x3 := fun p os => cell_regrown (cell_of (i := 3) (v := .string yv) hx rfl) p os
          have d0 := fun p os => cell_regrown (cell_of (i := 0) (v := .slice lo LL.length lc) hcr.blk rfl) p os
          have q : decide ((k : Int) < P.length) = true := by simp; omega
          have l0 : (0 : Int) ≤ k := by omega
          have l1 : (k : Int) < P.length := by omega
          clear hk2 hx hcr hT hLL hch hlv HA HA2 hy
          go_wp2_with fail
          rw [HW2.out]
          refine wp_region_quiet_below (by kernel_rfl) (by kernel_rfl) ?_
          repeat (go_big_quiet_step (exact BS _ _))
          refine wpQuiet_nil ?_
          intro _ hw'
          obtain ⟨⟨dq, osq⟩, hw''⟩ := hw'
          subst hw''
          have HK := Lib.hid (below_regrown W2 dq osq)
          clear x0 x1 x2 x3 d0 BS h0 h1 h2 h3
          generalize grow (redrawn W2 dq) osq = w3 at *
          have hx3 := cell_alloc_keep HX.out HK.out
          have x0 : w3.cell? ⟨wr.heap.size, 0, none⟩ = some (.string yk) := cell_of hx3 rfl
          have x1 : w3.cell? ⟨wr.heap.size, 1, none⟩ = some (.int .u64 yt) := cell_of hx3 rfl
          have x2 : w3.cell? ⟨wr.heap.size, 2, none⟩ = some (.bool yd) := cell_of hx3 rfl
          have x3 : w3.cell? ⟨wr.heap.size, 3, none⟩ = some (.string yv) := cell_of hx3 rfl
          have hcr3 := HCR.out.stay HK.out
          have d0 : w3.cell? ⟨b, 0, none⟩ = some (.slice lo LL.length lc) := cell_of hcr3.blk rfl
          have HCR3 := Lib.hid hcr3
          obtain ⟨W4, HW4⟩ : ∃ W, Hid ((w3.alloc (.cells #[.string yk, .int .u64 yt, .bool yd, .string yv] 24)).drew = W) := ⟨_, Lib.hid rfl⟩
          have hb34 : RowKit.Below w3.heap.size w3 W4 := by
            rw [← HW4.out]
            exact ((Below.refl w3.heap.size w3).alloc (Nat.le_refl _) _).trans ⟨rfl, rfl, rfl, Nat.le_refl _, fun _ _ => rfl⟩
          have hx4 : W4.heap[w3.heap.size]? = some (.cells (cellL ⟨yk, yt, yd, yv⟩).toArray 24) := by rw [← HW4.out]; exact Go.heap_alloc_new _ _
          have HI := Lib.hid (insert_end (hcr3.stay hb34).has hlen ⟨yk, yt, yd, yv⟩ hx4)
          have HBK := Lib.hid (fun (w5 : World) (hg : W4.grownBy w5 (Value.slice lo LL.length lc).ownBlock) => (hg.block b (hcr3.stay hb34).lt (fun e => hcr3.apart e.symm |>.elim)).trans (hcr3.stay hb34).blk)
          have HS4 := Lib.hid (fun w5 v' => HST.out W4 w5 v' (HK.out.trans (hb34.mono HK.out.size)))
          have d4 : (w3.alloc (.cells #[.string yk, .int .u64 yt, .bool yd, .string yv] 24)).drew.cell? ⟨b, 0, none⟩ = some (.slice lo LL.length lc) := by rw [HW4.out]; exact cell_of (hcr3.stay hb34).blk rfl
          clear hx3 hcr3 hb34 hx4
          go_wp2_with fail
          go_region_with (go_at_call 33; rw [HW4.out]; refine HI.out.mono ?_; rintro e w5 ⟨v', rfl, h5, hg, hv⟩; obtain ⟨o5, c5, rfl⟩ := h5.shape; have hbk := HBK.out w5 hg; have f5 : w5.frozen? ⟨b, 0, none⟩ = false := frozen_of hbk; have e5 : w5.cell? ⟨b, 0, none⟩ = some (.slice lo LL.length lc) := cell_of hbk rfl)
          all_goals
            have HG := Lib.hid (HS4.out w5 _ h5 hg hv)
            clear hbk e5 f5 h5 hg hv
            go_wp2
            go_round
            case rel => exact ⟨k + 1, by omega, by go_num, by have h := HG.out; rw [List.length_append] at h; exact Lib.hid h⟩
            case measure => simp [intOf]; omega
        · obtain rfl : k = P.length := by omega
          go_wp2
          go_ret2
          exact ⟨rfl, HA.out⟩
end Go.Proofs.Ytnhookblhckmlaa
