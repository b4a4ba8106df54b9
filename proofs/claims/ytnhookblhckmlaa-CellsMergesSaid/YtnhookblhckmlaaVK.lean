/- The walk of CellsMerges. -/
import Derived.Test.YtnhookblhckmlaaVJ
import Derived.Laws.BitsLemmas
import Derived.Deep.RegionHeld3
namespace Go.Proofs.Ytnhookblhckmlaa
set_option linter.unusedVariables false
set_option linter.unusedSimpArgs false
open Go.RowKit Mk Go.Sort

theorem and63 (n : Int) : bits .and .i64 n 63 = n % 64 := by
  have h127 : (BitVec.ofInt 64 63).toNat = 2 ^ 6 - 1 := by decide
  have key : (BitVec.ofInt 64 n &&& BitVec.ofInt 64 63).toNat = (n % ((2 ^ 64 : Nat) : Int)).toNat % 2 ^ 6 := by
    rw [BitVec.toNat_and, BitVec.toNat_ofInt, h127, Nat.and_two_pow_sub_one_eq_mod]
  show IntKind.i64.wrap ((BitVec.ofInt 64 n &&& BitVec.ofInt 64 63).toNat : Nat) = n % 64
  rw [key, IntKind.wrap_i64]
  omega
theorem tookM_nat (X : List CellM) (k : Nat) : tookM X (k : Int) = X.take k := by
  unfold tookM
  rw [if_pos (by omega)]
  simp
theorem tookM_neg (X : List CellM) : tookM X (-1) = X := by unfold tookM; simp
theorem info28 : ∃ (i : TypeInfo) (z : Value), Try.prog.info? 28 = some i ∧ i.zero = some z ∧ i.size = 1 ∧ i.bytes = 24 ∧ z.cells.size = 1 := by
  have h : ((Try.prog.info? 28).map fun i => (i.size, i.bytes, i.zero.map (·.cells.size))) = some (1, 24, some 1) := by kernel_rfl
  cases hi : Try.prog.info? 28 with
  | none => rw [hi] at h; cases h
  | some i =>
    rw [hi] at h
    simp only [Option.map_some, Option.some.injEq, Prod.mk.injEq] at h
    obtain ⟨h1, h2, h3⟩ := h
    cases hz : i.zero with
    | none => rw [hz] at h3; cases h3
    | some z => rw [hz] at h3; exact ⟨i, z, rfl, hz, h1, h2, by simpa using h3⟩
theorem info29 : ∃ (i : TypeInfo) (z : Value), Try.prog.info? 29 = some i ∧ i.zero = some z ∧ i.size = 1 ∧ i.bytes = 8 ∧ z.cells.size = 1 := by
  have h : ((Try.prog.info? 29).map fun i => (i.size, i.bytes, i.zero.map (·.cells.size))) = some (1, 8, some 1) := by kernel_rfl
  cases hi : Try.prog.info? 29 with
  | none => rw [hi] at h; cases h
  | some i =>
    rw [hi] at h
    simp only [Option.map_some, Option.some.injEq, Prod.mk.injEq] at h
    obtain ⟨h1, h2, h3⟩ := h
    cases hz : i.zero with
    | none => rw [hz] at h3; cases h3
    | some z => rw [hz] at h3; exact ⟨i, z, rfl, hz, h1, h2, by simpa using h3⟩
theorem info45 : ∃ (i : TypeInfo) (z : Value), Try.prog.info? 45 = some i ∧ i.zero = some z ∧ i.size = 1 ∧ i.bytes = 8 ∧ z.cells.size = 1 := by
  have h : ((Try.prog.info? 45).map fun i => (i.size, i.bytes, i.zero.map (·.cells.size))) = some (1, 8, some 1) := by kernel_rfl
  cases hi : Try.prog.info? 45 with
  | none => rw [hi] at h; cases h
  | some i =>
    rw [hi] at h
    simp only [Option.map_some, Option.some.injEq, Prod.mk.injEq] at h
    obtain ⟨h1, h2, h3⟩ := h
    cases hz : i.zero with
    | none => rw [hz] at h3; cases h3
    | some z => rw [hz] at h3; exact ⟨i, z, rfl, hz, h1, h2, by simpa using h3⟩
theorem cell_new_one {w : World} {g : Nat} {a : Value} {t : TypeId} (h : w.heap[g]? = some (.cells #[a] t)) : ∀ j u, [a][j]? = some u → w.cell? ((⟨g, 0, none⟩ : Addr).add j) = some u := by
  intro j u hj
  match j, hj with
  | 0, hj => simp at hj; subst hj; simp [Addr.add, World.cell?, h]
theorem sl.shape {w : World} {e : TypeId} {size : Nat} {v : Value} {n : Nat} {xs : List Value} (h : sl w e size v n xs) : ∃ o c, v = .slice o n c := by
  rcases h.2 with ⟨rfl, e⟩ | ⟨g, cap, cur, rfl, _⟩
  · exact ⟨_, _, by rw [e]⟩
  · exact ⟨_, _, rfl⟩
/-- k lists done. -/
def LwI (w : World) (k : Nat) (v5 v6 v7 : Value) (wr : World) : Prop :=
  ∃ A us B fs, LwAt w A us B fs k v5 v7 v6 wr ∧ A.length = k ∧ B.map (fun p => p.2) = A ∧ ∀ M ∈ A, M.length ≤ 40
/-- Put and the document's Put of one list. -/
structure PairAt (w0 : World) (d : Nat) (v : Value) (M : List CellM) (w : World) : Prop where
  below : RowKit.Below w0.heap.size w0 w
  cp : CP w (d, M)
  has : Has w v M
theorem PairAt.stay {w0 w w2 : World} {d : Nat} {v : Value} {M : List CellM} (h : PairAt w0 d v M w) (k : RowKit.Below w.heap.size w w2) : PairAt w0 d v M w2 := ⟨h.below.trans (k.mono h.below.size), h.cp.below k, h.has.stay k⟩
theorem Has.shape' {w : World} {v : Value} {X : List CellM} (h : Has w v X) : ∃ o c, v = .slice o X.length c := by
  rcases h.2 with ⟨rfl, e⟩ | ⟨g, cap, cur, rfl, _⟩
  · exact ⟨_, _, by rw [e]⟩
  · exact ⟨_, _, rfl⟩
/-- The merged iterator and the document's cells, as they stand. -/
def EndAt (w0 : World) (lb : Array Value) (v : Value) (X : List CellM) (w : World) : Prop := RowKit.Below w0.heap.size w0 w ∧ ItOk w ⟨49, lb, X⟩ ∧ Has w v X
theorem EndAt.stay {w0 w w2 : World} {lb : Array Value} {v : Value} {X : List CellM} (h : EndAt w0 lb v X w) (k : RowKit.Below w.heap.size w w2) : EndAt w0 lb v X w2 := ⟨h.1.trans (k.mono h.1.size), h.2.1.below k, h.2.2.stay k⟩
theorem EndAt.took {w0 w : World} {lb : Array Value} {v : Value} {X : List CellM} (h : EndAt w0 lb v X w) (m : Int) : Calls Try.prog 21 #[.func (.func 49) #[] lb, .int .i64 m] w fun e w' => ∃ o c, e = .returned (.slice o (tookM X m).length c) ∧ Has w' (.slice o (tookM X m).length c) (tookM X m) ∧ EndAt w0 lb v X w' := by
  obtain ⟨h0, R, h1, h2⟩ := h.2.1.tells
  refine (took_any h.2.1.enters h0 h1 h2 m).mono ?_
  rintro e w' ⟨v', rfl, h3, h4, h5⟩
  obtain ⟨o, c, rfl⟩ := h3.shape
  exact ⟨o, c, rfl, h3, h.stay h4⟩
theorem EndAt.drawn {w0 w : World} {lb : Array Value} {v : Value} {X : List CellM} (h : EndAt w0 lb v X w) : EndAt w0 lb v X w.drew := by
  obtain ⟨h1, h2, h3⟩ := h
  exact ⟨⟨h1.os, h1.tape, h1.output, h1.size, h1.block⟩, h2.move (Nat.le_refl _) (fun _ _ => rfl), sl.stay h3 (fun _ _ => rfl)⟩
theorem Has.takes {w : World} {o : Option Addr} {n c : Nat} {X : List CellM} (h : Has w (.slice o n c) X) {k : Nat} (hk : k ≤ X.length) : Has w (.slice o k c) (X.take k) := by
  have hn : n = X.length := by
    obtain ⟨o', c', e⟩ := h.shape
    cases e; rfl
  have hl : (X.take k).length = k := by simp; omega
  unfold Has
  rw [hl]
  rcases h.2 with ⟨e, e0⟩ | ⟨g, cap, cur, e, hg, hnc, hcm, hcs, ht⟩
  · cases e
    obtain rfl : k = 0 := by omega
    exact ⟨by simp [cellsL], .inl ⟨rfl, rfl⟩⟩
  · cases e
    refine ⟨by rw [cellsL_len, hl]; omega, .inr ⟨g, c, cur, rfl, hg, by omega, hcm, hcs, ?_⟩⟩
    have : cur.toList.take (k * 4) = (cur.toList.take (X.length * 4)).take (k * 4) := by rw [List.take_take, Nat.min_eq_left (by omega)]
    rw [this, ht]
    have h2 : cellsL X = cellsL (X.take k) ++ cellsL (X.drop k) := by rw [← cellsL_append, List.take_append_drop]
    have h3 : (cellsL (X.take k)).length = k * 4 := by rw [cellsL_len, hl]; omega
    rw [h2, List.take_append_of_le_length (by omega), List.take_of_length_le (by omega)]
set_option maxRecDepth 100000 in
set_option maxHeartbeats 8000000 in
theorem walkMerges {w : World} {so : Option Addr} {cap : Nat} {Ls : List (List CellM)} (h : LsAt w so Ls) (hm : Ls.length ≤ 9223372036854775807) {most : Int} (hmost : (Lit.int .i64 most).wf = true) :
    Calls Try.prog 7 #[.slice so Ls.length cap, .int .i64 most] w fun e w' => e = .returned (.bool true) ∧ RowKit.Below w.heap.size w w' := by
  obtain ⟨i8, z8, hi8, hz8, hsz8, hby8, hzs8⟩ := info28
  obtain ⟨i9, z9, hi9, hz9, hsz9, hby9, hzs9⟩ := info29
  obtain ⟨i6, z6, hi6, hz6, hsz6, hby6, hzs6⟩ := info45
  have q9 := fun w f a b => run_eql_func (P := Try.prog) w 45 f a b ⟨_, _, _, Try.underlying45⟩
  have AL := Lib.hid alive_any
  have HS := Lib.hid h
  clear h
  go_enter Try.func7, Try.ntmps7
  go_wp2_with fail
  refine (AL.out _).mono ?_
  rintro e w1 ⟨rfl, hb1⟩
  have HB1 := Lib.hid hb1
  clear hb1
  by_cases h8 : 8 < Ls.length
  · have q : decide ((Ls.length : Int) > 8) = true := by simp; omega
    have q' : decide (8 < Ls.length) = true := by simpa using h8
    go_wp2_with fail
    refine (AL.out _).mono ?_
    rintro e w2 ⟨rfl, hb2⟩
    have HB2 := Lib.hid (HB1.out.trans (hb2.mono HB1.out.size))
    clear hb2
    go_wp2
    go_ret
    exact ⟨rfl, HB2.out⟩
  · have q : decide ((Ls.length : Int) > 8) = false := by simp; omega
    have q' : decide (8 < Ls.length) = false := by simpa using h8
    go_wp2
    have HI0 := Lib.hid (show LwI w 0 (.slice none 0 0) (.slice none 0 0) (.slice none 0 0) w1 from ⟨[], [], [], [], ⟨HB1.out, ⟨sl_nil _ _ _, fun i M h => by simp at h⟩, ⟨sl_nil _ _ _, fun p h => by simp at h⟩, sl_nil _ _ _, fun g e => by simp [Value.ownBlock] at e, fun g e => by simp [Value.ownBlock] at e, fun g e => by simp [Value.ownBlock] at e⟩, rfl, rfl, fun M h => by simp at h⟩)
    go_loopw [5, 6, 7, 8] (fun v5 v6 v7 i wr => ∃ (k : Nat) (o5 o6 o7 : Option Addr) (c5 c6 c7 : Nat), k ≤ Ls.length ∧ i = .int .i64 k ∧ v5 = .slice o5 k c5 ∧ v6 = .slice o6 k c6 ∧ v7 = .slice o7 k c7 ∧ Hid (LwI w k (.slice o5 k c5) (.slice o6 k c6) (.slice o7 k c7) wr)) (fun _ _ _ i _ => Ls.length - (intOf i).toNat)
    case atStart => exact ⟨0, none, none, none, 0, 0, 0, by omega, rfl, rfl, rfl, rfl, HI0⟩
    case round =>
      obtain ⟨k, o5, o6, o7, c5, c6, c7, hk, rfl, rfl, rfl, rfl, HI⟩ := hrel
      clear HI0
      have l0 : (0 : Int) ≤ k := by omega
      by_cases hlt : k < Ls.length
      · obtain ⟨L, hL⟩ : ∃ L, Ls[k]? = some L := ⟨Ls[k]'hlt, List.getElem?_eq_getElem hlt⟩
        obtain ⟨A, us, B, fs, hLw, hA, hBA, hfew⟩ := HI.out
        obtain ⟨g, o, si, ci, e, hg, hc, hat⟩ := (HS.out.below hLw.below) k L hL
        subst e
        have hgw : g < w.heap.size := by
          obtain ⟨g', o', _, _, e, hg', _⟩ := HS.out k L hL
          cases e; exact hg'
        have l1 : (k : Int) < Ls.length := by omega
        have qk : decide ((k : Int) < Ls.length) = true := by simpa using hlt
        have qk' : decide (k < Ls.length) = true := by simpa using hlt
        have HB := Lib.hid hLw.below
        by_cases h40 : 40 < L.length
        · have q4 : decide ((L.length : Int) > 40) = true := by simp; omega
          have q4' : decide (40 < L.length) = true := by simpa using h40
          clear hLw hat
          go_wp2
          go_ret
          exact ⟨rfl, HB.out⟩
        · have q4 : decide ((L.length : Int) > 40) = false := by simp; omega
          have q4' : decide (40 < L.length) = false := by simpa using h40
          have N := new_any wr
          have HAT := Lib.hid hat
          have HLW := Lib.hid hLw
          have hB01 : RowKit.Below wr.heap.size wr (wr.alloc (.cells #[.slice none 0 0, .bool true] 65)) := (Below.refl _ wr).alloc (Nat.le_refl _) _
          have hat1 := hat.below hB01
          have hcs := CS.new wr.heap.size wr (Nat.le_refl _) (fun _ => False) (fun _ f => f.elim)
          have PU := hcs.put (fun _ f => f.elim) hB01.size hat1 (fun hne g' o' e => .inl (hat.lt hne e)) (by simp; omega) ci
          have HC1 := Lib.hid (hB01.cell (p := ⟨g, o + k, none⟩) hg)
          have HB01 := Lib.hid hB01
          have hc1 : (wr.alloc (.cells #[.slice none 0 0, .bool true] 65)).cell? ⟨g, o + k, none⟩ = some (.slice si L.length ci) := HC1.out.trans hc
          clear hLw hat hat1 hcs hB01
          go_wp2_with fail
          refine N.mono ?_
          rintro e w2 ⟨rfl, rfl⟩
          go_wp2_with fail
          refine PU.mono ?_
          rintro e w3 ⟨rfl, hcs3, hch3⟩
          have hB3 : RowKit.Below wr.heap.size wr w3 := HB01.out.trans (hch3.below (B := wr.heap.size) (fun i f => f.1) HB01.out.size)
          have hc3 : w3.cell? ⟨g, o + k, none⟩ = some (.slice si L.length ci) := (hB3.cell (p := ⟨g, o + k, none⟩) hg).trans hc
          have RP := rput_any (w := w3) (lv := .slice none 0 0) (L := []) (so := si) (P := L) (cap := ci) (sl_nil _ _ _) (HAT.out.below hB3) (by simp; omega)
          have HCS3 := Lib.hid hcs3
          have HB3 := Lib.hid hB3
          clear hcs3 hch3 hB3 PU N hc1
          go_wp2_with fail
          refine RP.mono ?_
          rintro e w4 ⟨v', rfl, r1, r2, r3⟩
          obtain ⟨M, hMe⟩ : ∃ M, putM [] L = M := ⟨_, rfl⟩
          have hM40 : M.length ≤ 40 := by have := putM_len [] L; rw [hMe] at this; simp at this; omega
          rw [hMe] at r1 HCS3
          obtain ⟨o4, c4, rfl⟩ := r1.shape
          have HP4 := Lib.hid (show PairAt wr wr.heap.size (.slice o4 M.length c4) M w4 from ⟨HB3.out.trans (r2.mono HB3.out.size), (show CP w3 (wr.heap.size, M) from ⟨(by obtain ⟨lv, a, _⟩ := HCS3.out.row; exact ⟨lv, a⟩), HCS3.out.ord, by simpa using (by omega : M.length ≤ 1099511627776)⟩).below r2, r1⟩)
          have HL4 := Lib.hid (HLW.out.stay HP4.out.below)
          clear r1 r2 r3 RP HCS3 HB3 hc3
          have hAk : A.length = k := hA
          have hBk : B.length = k := by rw [← hAk, ← hBA]; simp
          have HK := Lib.hid (And.intro hAk (And.intro hBk (And.intro hBA hfew)))
          have hk8 : k ≤ 8 := by omega
          obtain ⟨W5, HW5⟩ : ∃ X, Hid (w4.alloc (.cells #[.slice o4 M.length c4] 28) = X) := ⟨_, Lib.hid rfl⟩
          have hB45 : RowKit.Below w4.heap.size w4 W5 := by rw [← HW5.out]; exact (Below.refl _ w4).alloc (Nat.le_refl _) _
          have HN5 := Lib.hid (cell_new_one (w := W5) (g := w4.heap.size) (a := .slice o4 M.length c4) (t := 28) (by rw [← HW5.out]; exact Go.heap_alloc_new _ _))
          have HL5 := Lib.hid (HL4.out.stay hB45)
          have HP5 := Lib.hid (HP4.out.stay hB45)
          have HS5 := Lib.hid (show sl W5 28 1 (.slice o5 k c5) k us from by have := HL5.out.outs.is; rwa [hAk] at this)
          have HF5 := Lib.hid (fun (v' : Value) (w6 : World) (hs : sl w6 28 1 v' (k + 1) (us ++ [Value.slice o4 M.length c4])) (hg : W5.grownBy w6 (Value.slice o5 k c5).ownBlock) (ha : v'.ownBlock = (Value.slice o5 k c5).ownBlock ∨ v'.ownBlock = some W5.heap.size) =>
            (show LwAt w (A ++ [M]) (us ++ [Value.slice o4 M.length c4]) B fs k v' (.slice o7 k c7) (.slice o6 k c6) w6 ∧ CP w6 (wr.heap.size, M) from
              ⟨HL5.out.out HP5.out.has (by rw [HK.out.1]; exact hs) hg ha, HP5.out.cp.apart HL5.out.outs.is (by decide) (by decide) hg⟩))
          have HF7 := Lib.hid (fun (w6 W7 : World) (v5' v' : Value) (w8 : World) (h6 : LwAt w (A ++ [M]) (us ++ [Value.slice o4 M.length c4]) B fs k v5' (.slice o7 k c7) (.slice o6 k c6) w6 ∧ CP w6 (wr.heap.size, M)) (hb : RowKit.Below w6.heap.size w6 W7)
              (hs : sl w8 29 1 v' (k + 1) ((B.map fun p => Value.pointer (some ⟨p.1, 0, none⟩)) ++ [Value.pointer (some ⟨wr.heap.size, 0, none⟩)])) (hg : W7.grownBy w8 (Value.slice o7 k c7).ownBlock) (ha : v'.ownBlock = (Value.slice o7 k c7).ownBlock ∨ v'.ownBlock = some W7.heap.size) =>
            (show LwAt w (A ++ [M]) (us ++ [Value.slice o4 M.length c4]) (B ++ [(wr.heap.size, M)]) fs k v5' v' (.slice o6 k c6) w8 ∧ CP w8 (wr.heap.size, M) from
              ⟨(h6.1.stay hb).ptr (h6.2.below hb) (by rw [HK.out.2.1]; exact hs) hg ha, (h6.2.below hb).apart (h6.1.stay hb).ptrs.is (by decide) (by decide) hg⟩))
          clear hA hAk hBk hBA hfew hB45 HP4 HL4 HAT HLW HI hc hg hgw HB01 HC1
          have m1 : k + 1 ≤ maxLen := by simp only [maxLen]; omega
          have m2 : (k + 1) * 24 ≤ 140737488355328 := by omega
          have m3 : (k + 1) * 8 ≤ 140737488355328 := by omega
          go_wp2_with (first
            | (refine wpList_append_sl (by rfl) _ _ 55 (by rfl) 28 i8 z8 1 24 Try.underlying55 hi8 hz8 hsz8 hby8 hzs8 (by decide) (.slice o5 k c5) k us (by rfl) (by rw [HW5.out]; exact HS5.out) (some ⟨w4.heap.size, 0, none⟩) 1 1 [Value.slice o4 M.length c4] (by rfl) (by rfl) (fun _ => ⟨_, rfl, by rw [HW5.out]; exact HN5.out⟩) (fun h => absurd h (by decide)) (by simp [Value.oneCell']) m1 m2 ?_; intro v5' w6 hsl hgrow hat; rw [HW5.out] at hgrow hat; obtain ⟨o5', c5', rfl⟩ := sl.shape hsl; have HL6 := Lib.hid (HF5.out _ w6 hsl hgrow hat); clear hsl hgrow hat; obtain ⟨W7, HW7⟩ : ∃ X, Hid (w6.alloc (.cells #[.pointer (some ⟨wr.heap.size, 0, none⟩)] 29) = X) := ⟨_, Lib.hid rfl⟩; have HB67 := Lib.hid (show RowKit.Below w6.heap.size w6 W7 from by rw [← HW7.out]; exact (Below.refl _ w6).alloc (Nat.le_refl _) _); have HN7 := Lib.hid (cell_new_one (w := W7) (g := w6.heap.size) (a := .pointer (some ⟨wr.heap.size, 0, none⟩)) (t := 29) (by rw [← HW7.out]; exact Go.heap_alloc_new _ _)); have HS7 := Lib.hid (show sl W7 29 1 (.slice o7 k c7) k (B.map fun p => Value.pointer (some ⟨p.1, 0, none⟩)) from by have := (HL6.out.1.stay HB67.out).ptrs.is; rwa [HK.out.2.1] at this))
            | (refine wpList_append_sl (by rfl) _ _ 57 (by rfl) 29 i9 z9 1 8 Try.underlying57 hi9 hz9 hsz9 hby9 hzs9 (by decide) (.slice o7 k c7) k (B.map fun p => Value.pointer (some ⟨p.1, 0, none⟩)) (by rfl) (by rw [HW7.out]; exact HS7.out) (some ⟨w6.heap.size, 0, none⟩) 1 1 [Value.pointer (some ⟨wr.heap.size, 0, none⟩)] (by rfl) (by rfl) (fun _ => ⟨_, rfl, by rw [HW7.out]; exact HN7.out⟩) (fun h => absurd h (by decide)) (by simp [Value.oneCell']) m1 m3 ?_; intro v7' w8 hsl hgrow hat; rw [HW7.out] at hgrow hat; obtain ⟨o7', c7', rfl⟩ := sl.shape hsl; have HL8 := Lib.hid (HF7.out w6 W7 _ _ w8 HL6.out HB67.out hsl hgrow hat); clear hsl hgrow hat; have T8 := HL8.out.2.tells)
            | (go_at_call 23; refine T8.mono ?_; rintro e w9 ⟨lb, rfl, -, hb9⟩; have HL9 := Lib.hid (HL8.out.1.stay hb9); clear hb9; obtain ⟨W10, HW10⟩ : ∃ X, Hid (w9.alloc (.cells #[.func (.func 41) #[] lb] 45) = X) := ⟨_, Lib.hid rfl⟩; have hB910 : RowKit.Below w9.heap.size w9 W10 := (by rw [← HW10.out]; exact (Below.refl _ w9).alloc (Nat.le_refl _) _); have HL10 := Lib.hid (HL9.out.stay hB910); have HN10 := Lib.hid (cell_new_one (w := W10) (g := w9.heap.size) (a := .func (.func 41) #[] lb) (t := 45) (by rw [← HW10.out]; exact Go.heap_alloc_new _ _)); clear hB910)
            | (refine wpList_append_sl (by rfl) _ _ 56 (by rfl) 45 i6 z6 1 8 Try.underlying56 hi6 hz6 hsz6 hby6 hzs6 (by decide) (.slice o6 k c6) k fs (by rfl) (by rw [HW10.out]; exact HL10.out.seqs) (some ⟨w9.heap.size, 0, none⟩) 1 1 [Value.func (.func 41) #[] lb] (by rfl) (by rfl) (fun _ => ⟨_, rfl, by rw [HW10.out]; exact HN10.out⟩) (fun h => absurd h (by decide)) (by simp [Value.oneCell']) m1 m3 ?_; intro v6' w11 hsl hgrow hat; rw [HW10.out] at hgrow hat; obtain ⟨o6', c6', rfl⟩ := sl.shape hsl; have HL11 := Lib.hid (HL10.out.seq hsl hgrow hat); clear hsl hgrow hat))
          go_roundw
          case rel => exact ⟨k + 1, o5', o6', o7', c5', c6', c7', by omega, by go_num, rfl, rfl, rfl, Lib.hid ⟨_, _, _, _, HL11.out, by simp [HK.out.1], by simp [HK.out.2.2.1], fun M' hM' => by
            rcases List.mem_append.1 hM' with h | h
            · exact HK.out.2.2.2 M' h
            · simp at h; subst h; exact hM40⟩⟩
          case measure => simp [intOf]; omega
      · obtain rfl : k = Ls.length := by omega
        have qk : decide (((Ls.length : Nat) : Int) < Ls.length) = false := by simp
        obtain ⟨A, us, B, fs, hLw, hA, hBA, hfew⟩ := HI.out
        have hfl : ∀ A : List (List CellM), (∀ M ∈ A, M.length ≤ 40) → A.flatten.length ≤ 40 * A.length := fun A => by
          induction A with
          | nil => intro _; simp
          | cons a A ih =>
            intro h
            have h1 := ih (fun M hM => h M (List.mem_cons_of_mem _ hM))
            have h2 := h a (List.mem_cons_self ..)
            simp only [List.flatten_cons, List.length_append, List.length_cons]
            omega
        have hfA := hfl A hfew
        have hml := mergeM_len A
        obtain ⟨so5, cc5, e5, hls⟩ := hLw.outs.ls
        rw [hA] at e5
        cases e5
        have RM := rmerge_any (cap := c5) hls (by omega) (by omega)
        rw [hA] at RM
        have HLW := Lib.hid hLw
        have HAA := Lib.hid (And.intro hA hBA)
        have hX : (mergeM A).length ≤ 320 := by omega
        have hfB : (B.map (fun p => p.2)).flatten.length ≤ 1099511627776 := by rw [hBA]; omega
        have hBl : B.length = Ls.length := by rw [← hA, ← hBA]; simp
        clear hLw hls hfl hfA hml hfew HI
        go_wp2_with fail
        refine RM.mono ?_
        rintro e w2 ⟨v, rfl, r1, r2⟩
        obtain ⟨so7, cc7, e7, hcc, hcm, hps⟩ := (HLW.out.stay r2).ptrs.ps
        rw [hBl] at e7 hcc
        cases e7
        have MG := merged_any Ls.length hBl (by omega) hps hcc hcm hfB
        rw [hBA] at MG
        obtain ⟨X, hXe⟩ : ∃ X, mergeM A = X := ⟨_, rfl⟩
        have HMP := Lib.hid (fun (e : Ending) (w3 : World) (h : MergedPost w2 A e w3) => (show ∃ lb, e = .returned (.func (.func 49) #[] lb) ∧ EndAt w lb v X w3 from by
          obtain ⟨lb, rfl, h1, h2⟩ := h
          rw [hXe] at h1
          exact ⟨lb, rfl, (HLW.out.below.trans (r2.mono HLW.out.below.size)).trans (h2.mono (Nat.le_trans HLW.out.below.size r2.size)), h1, by rw [← hXe]; exact r1.stay h2⟩))
        rw [hXe] at r1 hX
        obtain ⟨o2, c2, rfl⟩ := r1.shape
        clear RM r1 r2 hcc hcm hps hfB hBl hXe
        go_wp2_with fail
        refine MG.mono ?_
        intro e w3 hpost
        obtain ⟨lb, rfl, hend⟩ := HMP.out e w3 hpost
        have HE := Lib.hid hend
        have T1 := hend.took (-1)
        have htk : tookM X (-1) = X := by unfold tookM; simp
        rw [htk] at T1
        clear hpost hend HMP MG HLW htk
        go_wp2_with fail
        refine T1.mono ?_
        rintro e w4 ⟨o3, c3, rfl, t1, t2⟩
        have S1 := same_eq t1 t2.2.2 (by omega)
        have HE4 := Lib.hid t2
        clear T1 t1 t2 HE
        go_wp2_with fail
        refine S1.mono ?_
        rintro e w5 ⟨rfl, hb5⟩
        have HE5 := Lib.hid (HE4.out.stay hb5)
        clear hb5 S1 HE4
        obtain ⟨kk, hkk, hk64⟩ : ∃ kk : Nat, bits .and .i64 most 63 = kk ∧ kk < 64 := ⟨(most % 64).toNat, by rw [and63]; omega, by omega⟩
        have hsh : (o2 = none ∧ X.length = 0 ∧ c2 = 0) ∨ ∃ g2, o2 = some ⟨g2, 0, none⟩ ∧ X.length ≤ c2 ∧ c2 ≤ maxLen := by
          rcases HE5.out.2.2.2 with ⟨e, e0⟩ | ⟨g2, cap2, cur, e, hg2, hnc, hcm, _⟩
          · injection e with a b c; exact .inl ⟨a, b, c⟩
          · injection e with a b c; subst c; exact .inr ⟨g2, a, hnc, hcm⟩
        rcases hsh with ⟨rfl, hx0, rfl⟩ | ⟨g2, rfl, hxc, hcm2⟩
        · obtain rfl : X = [] := List.eq_nil_of_length_eq_zero hx0
          simp only [List.length_nil] at HE5
          by_cases hkx : 0 < kk
          · have qx : decide ((kk : Int) > 0) = true := by simp; omega
            have qx' : decide (0 < kk) = true := by simpa using hkx
            go_wp2_with fail
            have TK := HE5.out.drawn.took 0
            rw [show tookM ([] : List CellM) 0 = [] from by simp [tookM]] at TK
            have HSAME := Lib.hid (fun (u : World) (a b : Value) (L : List CellM) (ha : Has u a L) (hb : Has u b L) (hL : L.length ≤ 1099511627776) => same_eq ha hb hL)
            simp only [List.length_nil] at TK
            go_region_held3 (fun v => True)
              (trivial)
              (first
                | (go_at_call 21; refine TM.mono ?_; rintro e w8 ⟨o8, c8, rfl, t1, t2⟩; have HE8 := Lib.hid t2; have SB := HSAME.out _ _ _ _ t1 t2.2.2 (by simp); clear t1 t2)
                | (go_at_call 20; refine SB.mono ?_; rintro e w9 ⟨rfl, hb9⟩; have HE9 := Lib.hid (HE8.out.stay hb9); clear hb9)
                | (go_at_call 21; refine TK.mono ?_; rintro e w6 ⟨o6, c6, rfl, t1, t2⟩; have HE6 := Lib.hid t2; have SA := HSAME.out _ _ _ _ t1 t2.2.2 (by simp); clear t1 t2)
                | (go_at_call 20; refine SA.mono ?_; rintro e w7 ⟨rfl, hb7⟩; have HE7 := Lib.hid (HE6.out.stay hb7); have TM := HE7.out.took (-1); rw [tookM_neg] at TM; simp only [List.length_nil] at TM; clear hb7))
            all_goals
              go_wp2
              go_ret
              exact ⟨rfl, HE9.out.1⟩
          · obtain rfl : kk = 0 := by omega
            go_wp2_with fail
            have TK := HE5.out.drawn.took 0
            rw [show tookM ([] : List CellM) 0 = [] from by simp [tookM]] at TK
            have HSAME := Lib.hid (fun (u : World) (a b : Value) (L : List CellM) (ha : Has u a L) (hb : Has u b L) (hL : L.length ≤ 1099511627776) => same_eq ha hb hL)
            simp only [List.length_nil] at TK
            go_region_held3 (fun v => True)
              (trivial)
              (first
                | (go_at_call 21; refine TM.mono ?_; rintro e w8 ⟨o8, c8, rfl, t1, t2⟩; have HE8 := Lib.hid t2; have SB := HSAME.out _ _ _ _ t1 t2.2.2 (by simp); clear t1 t2)
                | (go_at_call 20; refine SB.mono ?_; rintro e w9 ⟨rfl, hb9⟩; have HE9 := Lib.hid (HE8.out.stay hb9); clear hb9)
                | (go_at_call 21; refine TK.mono ?_; rintro e w6 ⟨o6, c6, rfl, t1, t2⟩; have HE6 := Lib.hid t2; have SA := HSAME.out _ _ _ _ t1 t2.2.2 (by simp); clear t1 t2)
                | (go_at_call 20; refine SA.mono ?_; rintro e w7 ⟨rfl, hb7⟩; have HE7 := Lib.hid (HE6.out.stay hb7); have TM := HE7.out.took (-1); rw [tookM_neg] at TM; simp only [List.length_nil] at TM; clear hb7))
            all_goals
              go_wp2
              go_ret
              exact ⟨rfl, HE9.out.1⟩
        · simp only [maxLen] at hcm2
          have g2c : (X.length : Int) ≤ (c2 : Int) := by omega
          by_cases hkx : X.length < kk
          · have qx : decide ((kk : Int) > X.length) = true := by simp; omega
            have qx' : decide (X.length < kk) = true := by simpa using hkx
            go_wp2_with fail
            have hK : X.length ≤ X.length := by omega
            have TK := HE5.out.drawn.took (X.length : Int)
            rw [tookM_nat] at TK
            have hlK : (X.take X.length).length = X.length := by simp
            rw [hlK] at TK
            have HTAKE := Lib.hid (fun (u : World) (h : EndAt w lb (.slice (some ⟨g2, 0, none⟩) X.length c2) X u) => Has.takes h.2.2 hK)
            have HSAME := Lib.hid (fun (u : World) (a b : Value) (L : List CellM) (ha : Has u a L) (hb : Has u b L) (hL : L.length ≤ 1099511627776) => same_eq ha hb hL)
            have g0 : (0 : Int) ≤ (X.length : Int) := by omega
            have g1 : (X.length : Int) ≤ (X.length : Int) := by omega
            have g3 : X.length ≤ X.length := hK
            go_region_held3 (fun v => True)
              (trivial)
              (first
                | (go_at_call 21; with_reducible refine TK.mono ?_; rintro e w6 ⟨o6, c6, rfl, t1, t2⟩; have HE6 := Lib.hid t2; have SA := HSAME.out _ _ _ _ t1 (HTAKE.out _ t2) (by rw [hlK]; omega); clear t1 t2)
                | (go_at_call 20; with_reducible refine SA.mono ?_; rintro e w7 ⟨rfl, hb7⟩; have HE7 := Lib.hid (HE6.out.stay hb7); have TM := HE7.out.took (-1); rw [tookM_neg] at TM; clear hb7)
                | (go_at_call 21; refine TM.mono ?_; rintro e w8 ⟨o8, c8, rfl, t1, t2⟩; have HE8 := Lib.hid t2; have SB := HSAME.out _ _ _ _ t1 t2.2.2 (by omega); clear t1 t2)
                | (go_at_call 20; with_reducible refine SB.mono ?_; rintro e w9 ⟨rfl, hb9⟩; have HE9 := Lib.hid (HE8.out.stay hb9); clear hb9))
            all_goals
              go_wp2
              go_ret
              exact ⟨rfl, HE9.out.1⟩
          · have qx : decide ((kk : Int) > X.length) = false := by simp; omega
            have qx' : decide (X.length < kk) = false := by simpa using hkx
            have g4 : (kk : Int) ≤ (c2 : Int) := by omega
            go_wp2_with fail
            have hK : kk ≤ X.length := by omega
            have TK := HE5.out.drawn.took (kk : Int)
            rw [tookM_nat] at TK
            have hlK : (X.take kk).length = kk := by simp; omega
            rw [hlK] at TK
            have HTAKE := Lib.hid (fun (u : World) (h : EndAt w lb (.slice (some ⟨g2, 0, none⟩) X.length c2) X u) => Has.takes h.2.2 hK)
            have HSAME := Lib.hid (fun (u : World) (a b : Value) (L : List CellM) (ha : Has u a L) (hb : Has u b L) (hL : L.length ≤ 1099511627776) => same_eq ha hb hL)
            have g0 : (0 : Int) ≤ (kk : Int) := by omega
            have g1 : (kk : Int) ≤ (X.length : Int) := by omega
            have g3 : kk ≤ X.length := hK
            go_region_held3 (fun v => True)
              (trivial)
              (first
                | (go_at_call 21; with_reducible refine TK.mono ?_; rintro e w6 ⟨o6, c6, rfl, t1, t2⟩; have HE6 := Lib.hid t2; have SA := HSAME.out _ _ _ _ t1 (HTAKE.out _ t2) (by rw [hlK]; omega); clear t1 t2)
                | (go_at_call 20; with_reducible refine SA.mono ?_; rintro e w7 ⟨rfl, hb7⟩; have HE7 := Lib.hid (HE6.out.stay hb7); have TM := HE7.out.took (-1); rw [tookM_neg] at TM; clear hb7)
                | (go_at_call 21; refine TM.mono ?_; rintro e w8 ⟨o8, c8, rfl, t1, t2⟩; have HE8 := Lib.hid t2; have SB := HSAME.out _ _ _ _ t1 t2.2.2 (by omega); clear t1 t2)
                | (go_at_call 20; with_reducible refine SB.mono ?_; rintro e w9 ⟨rfl, hb9⟩; have HE9 := Lib.hid (HE8.out.stay hb9); clear hb9))
            all_goals
              go_wp2
              go_ret
              exact ⟨rfl, HE9.out.1⟩
end Go.Proofs.Ytnhookblhckmlaa
