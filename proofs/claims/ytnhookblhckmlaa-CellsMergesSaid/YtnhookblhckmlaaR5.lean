/- Walks: the document's Scan. -/
import Derived.Test.YtnhookblhckmlaaR4
namespace Go.Proofs.Ytnhookblhckmlaa
open Go.RowKit Mk Go.Sort

theorem part_at {w : World} {g cap : Nat} {L : List CellM} (h : Has w (.slice (some ⟨g, 0, none⟩) L.length cap) L) (hL : L.length ≤ 1099511627776) (k : Nat) : At w (some ⟨g, k * 4, none⟩) (L.drop k) := by
  refine ⟨by rw [List.length_drop]; simp only [maxLen]; omega, fun i c hc => ?_⟩
  rw [List.getElem?_drop] at hc
  obtain ⟨g', cap', e, h0, h1, h2, h3⟩ := h.cells hc
  cases e
  have e : k * 4 + i * 4 = (k + i) * 4 := by omega
  exact ⟨g, k * 4, rfl, sl.lt h rfl, by rw [e]; exact h0, by rw [e]; exact h1, by rw [e]; exact h2, by rw [e]; exact h3⟩

set_option maxRecDepth 100000 in
set_option maxHeartbeats 8000000 in
theorem rscan_any {w : World} {lv : Value} {L : List CellM} (h : Has w lv L) (hL : L.length ≤ 1099511627776) (lo hi : ByteArray) (t : Nat) :
    Calls Try.prog 22 #[lv, .string lo, .string hi, .int .u64 t] w fun e w' => RTrimPost w (refGo lo hi t none L) e w' := by
  obtain ⟨i6, z6, hi6, hz6, hsz6, hby6, hzs6⟩ := info24
  have hcap : ∀ o c, lv = .slice o L.length c → c ≤ 9223372036854775807 ∧ L.length ≤ c := fun o c e => by
    rcases h.2 with ⟨rfl, e0⟩ | ⟨g, cap, cur, e1, hg, hnc, hcm, hcs, ht⟩
    · simp only [Value.slice.injEq] at e; omega
    · rw [e] at e1; simp only [Value.slice.injEq] at e1; simp only [maxLen] at hcm; omega
  obtain ⟨o, c, rfl⟩ := h.shape
  obtain ⟨hc1, hc2⟩ := hcap o c rfl
  have HH := Lib.hid h
  have GET := Lib.hid (fun (w : World) (so : Option Addr) (cap : Nat) (L : List CellM) (h : At w so L) (k : ByteArray) => rget_any (cap := cap) h k t)
  clear h hcap
  go_enter Try.func22, Try.ntmps22
  go_wp2
  go_loopw [9, 10] (fun v i wr => ∃ (k : Nat) (A : List CellM) (prev : Option ByteArray) (ao : Option Addr) (ac : Nat), k ≤ L.length ∧ i = .int .i64 k ∧ v = .slice ao A.length ac ∧ A.length ≤ k ∧ Hid (OutAt w A (.slice ao A.length ac) wr ∧ A ++ refGo lo hi t prev (L.drop k) = refGo lo hi t none L ∧ (k = 0 → prev = none) ∧ ∀ y, 0 < k → L[k - 1]? = some y → prev = some y.key)) (fun _ i _ => L.length - (intOf i).toNat)
  case atStart => exact ⟨0, [], none, none, 0, by omega, rfl, rfl, by simp, Lib.hid ⟨⟨sl_nil _ _ _, fun g hg => by simp [Value.ownBlock] at hg, Below.refl _ _⟩, rfl, fun _ => rfl, fun y h => by omega⟩⟩
  case round =>
    obtain ⟨k, A, prev, ao, ac, hk, rfl, rfl, hAk, HI⟩ := hrel
    have l0 : (0 : Int) ≤ k := by omega
    by_cases hlt : k < L.length
    · obtain ⟨x, hx⟩ : ∃ x, L[k]? = some x := ⟨L[k]'hlt, List.getElem?_eq_getElem hlt⟩
      have hd : L.drop k = x :: L.drop (k + 1) := by
        obtain ⟨hl, rfl⟩ := List.getElem?_eq_some_iff.1 hx
        exact List.drop_eq_getElem_cons hl
      have hhr := HH.out.stay HI.out.1.below
      obtain ⟨g, cap, e, h0, h1, h2, h3⟩ := hhr.cells hx
      cases e
      have l1 : (k : Int) < L.length := by omega
      have l2 : (k : Int) ≤ L.length := by omega
      have l3 : (k : Int) ≤ c := by omega
      have l4 : k ≤ c := by omega
      have l5 : ¬ (c = k) := by omega
      have l6 : k ≤ L.length := by omega
      have q : decide (k < L.length) = true := by simpa using hlt
      have hnext : ∀ y, 0 < k + 1 → L[k + 1 - 1]? = some y → (some x.key : Option ByteArray) = some y.key := fun y _ hy => by
        rw [Nat.add_sub_cancel, hx] at hy; cases hy; rfl
      have hgo := HI.out.2.1
      have C := GET.out wr (some ⟨g, k * 4, none⟩) (c - k) (L.drop k) (part_at hhr hL k) x.key
      rw [hd] at hgo
      rw [List.length_drop, hd] at C
      have hskip : ¬ (inR lo hi x.key = true ∧ prev ≠ some x.key) → A ++ refGo lo hi t (some x.key) (L.drop (k + 1)) = refGo lo hi t none L := fun hn => by rw [← hgo, refGo_no hn]
      have htake : inR lo hi x.key = true → prev ≠ some x.key → A ++ ((getM (x :: L.drop (k + 1)) x.key t).toList ++ refGo lo hi t (some x.key) (L.drop (k + 1))) = refGo lo hi t none L := fun a1 a2 => by rw [← hgo, refGo_yes a1 a2]
      have END0 := Lib.hid (fun (w8 : World) (hb : RowKit.Below wr.heap.size wr w8) (hg : A ++ refGo lo hi t (some x.key) (L.drop (k + 1)) = refGo lo hi t none L) => (show ∃ (k' : Nat) (A' : List CellM) (prev' : Option ByteArray) (ao' : Option Addr) (ac' : Nat), k' = k + 1 ∧ (.slice ao A.length ac : Value) = .slice ao' A'.length ac' ∧ A'.length ≤ k' ∧ Hid (OutAt w A' (.slice ao' A'.length ac') w8 ∧ A' ++ refGo lo hi t prev' (L.drop k') = refGo lo hi t none L ∧ (k' = 0 → prev' = none) ∧ ∀ y, 0 < k' → L[k' - 1]? = some y → prev' = some y.key) from
        ⟨k + 1, A, some x.key, ao, ac, rfl, rfl, by omega, Lib.hid ⟨HI.out.1.stay hb, hg, fun h => by omega, hnext⟩⟩))
      have END1 := Lib.hid (fun (w8 : World) (hb : RowKit.Below wr.heap.size wr w8) (z : CellM) (hg : A ++ ([z] ++ refGo lo hi t (some x.key) (L.drop (k + 1))) = refGo lo hi t none L) (v' : Value) (w4 : World) (hs : sl w4 24 4 v' (A.length + 1) (cellsL A ++ cellL z)) (hg4 : (w8.alloc (.cells (cellL z).toArray 24)).grownBy w4 (Value.slice ao A.length ac).ownBlock) (ha : v'.ownBlock = (Value.slice ao A.length ac).ownBlock ∨ v'.ownBlock = some (w8.alloc (.cells (cellL z).toArray 24)).heap.size) =>
        (show ∃ (k' : Nat) (A' : List CellM) (prev' : Option ByteArray) (ao' : Option Addr) (ac' : Nat), k' = k + 1 ∧ v' = .slice ao' A'.length ac' ∧ A'.length ≤ k' ∧ Hid (OutAt w A' (.slice ao' A'.length ac') w4 ∧ A' ++ refGo lo hi t prev' (L.drop k') = refGo lo hi t none L ∧ (k' = 0 → prev' = none) ∧ ∀ y, 0 < k' → L[k' - 1]? = some y → prev' = some y.key) from by
          obtain ⟨⟨o', c', rfl⟩, ho⟩ := (HI.out.1.stay hb).snoc (x := z) rfl hs hg4 ha
          have hl : (A ++ [z]).length = A.length + 1 := by simp
          exact ⟨k + 1, A ++ [z], some x.key, o', c', rfl, by rw [hl], by rw [hl]; omega, Lib.hid ⟨by rw [hl]; exact ho, by rw [List.append_assoc]; exact hg, fun h => by omega, hnext⟩⟩))
      have SL := Lib.hid (fun (w8 : World) (hb : RowKit.Below wr.heap.size wr w8) (o : Obj) => sl_of_has (HI.out.1.stay hb).has o)
      have hprev := HI.out.2.2
      obtain ⟨E, hE⟩ : ∃ E, getM (x :: L.drop (k + 1)) x.key t = E := ⟨_, rfl⟩
      rw [hE] at C htake
      have bb1 : A.length + 1 ≤ maxLen := by simp only [maxLen]; omega
      have bb2 : (A.length + 1) * 48 ≤ 140737488355328 := by omega
      obtain ⟨xk, xt, xd, xv⟩ := x
      simp only at h0 h1 h2 h3 C hskip htake hnext
      clear hd hgo HI hE hnext
      have SK := Lib.hid (fun hn => END0.out wr (Below.refl _ _) (hskip hn))
      have HT := Lib.hid htake
      clear htake hskip
      by_cases a3 : Op.bytesLess xk.toList lo.toList = true
      · obtain ⟨k', A', prev', ao', ac', hk', hv', hl', HN⟩ := SK.out (fun h => by have := h.1; unfold inR less at this; simp [a3] at this)
        have HK' := Lib.hid hk'
        have HV' := Lib.hid hv'
        clear hk' hv' C hx hprev hhr
        go_wp2
        go_round
        case rel => exact ⟨k', A', prev', ao', ac', by rw [HK'.out]; omega, by rw [HK'.out]; go_num, HV'.out, hl', HN⟩
        case measure => simp [intOf]; omega
      have v3 : Op.bytesLess xk.toList lo.toList = false := by simpa using a3
      by_cases a4 : hi.toList ≠ [] ∧ Op.bytesLess xk.toList hi.toList = false
      · obtain ⟨k', A', prev', ao', ac', hk', hv', hl', HN⟩ := SK.out (fun h => by have := h.1; unfold inR less at this; simp [a4] at this)
        obtain ⟨a4, v5⟩ := a4
        have w1 : hi.toList.isEmpty = false := by cases hh : hi.toList with | nil => exact absurd hh a4 | cons _ _ => rfl
        have w2 : (hi.toList == []) = false := by rw [beq_eq_false_iff_ne]; exact a4
        have HK' := Lib.hid hk'
        have HV' := Lib.hid hv'
        clear hk' hv' C hx a3 a4 hprev hhr
        go_wp2
        go_round
        case rel => exact ⟨k', A', prev', ao', ac', by rw [HK'.out]; omega, by rw [HK'.out]; go_num, HV'.out, hl', HN⟩
        case measure => simp [intOf]; omega
      have hin : inR lo hi xk = true := by
        unfold inR less
        simp only [v3, Bool.not_false, Bool.true_and, Bool.or_eq_true, beq_iff_eq]
        by_cases h : hi.toList = []
        · exact Or.inl h
        · right
          cases h5 : Op.bytesLess xk.toList hi.toList
          · exact absurd ⟨h, h5⟩ a4
          · rfl
      have D5 : (hi.toList = [] ∧ hi.toList.isEmpty = true ∧ (hi.toList == []) = true) ∨ (hi.toList.isEmpty = false ∧ (hi.toList == []) = false ∧ Op.bytesLess xk.toList hi.toList = true) := by
        by_cases h : hi.toList = []
        · exact Or.inl ⟨h, by rw [h]; rfl, by rw [h]; rfl⟩
        · right
          refine ⟨by cases hh : hi.toList with | nil => exact absurd hh h | cons _ _ => rfl, by rw [beq_eq_false_iff_ne]; exact h, ?_⟩
          cases h5 : Op.bytesLess xk.toList hi.toList
          · exact absurd ⟨h, h5⟩ a4
          · rfl
      clear a3 a4
      have D0 : (k = 0 ∧ prev = none ∧ decide ((0 : Int) < k) = false) ∨ (decide ((0 : Int) < k) = true ∧ ∃ y, L[k - 1]? = some y ∧ prev = some y.key) := by
        by_cases h : k = 0
        · exact Or.inl ⟨h, hprev.1 h, by rw [h]; rfl⟩
        · have hy := List.getElem?_eq_getElem (l := L) (i := k - 1) (by omega)
          exact Or.inr ⟨by simp; omega, _, hy, hprev.2 _ (by omega) hy⟩
      clear hprev
      have HTK := Lib.hid (fun h => HT.out hin h)
      clear HT
      -- the key stands for the first time, or not
      by_cases hnew : prev = some xk
      · obtain ⟨k', A', prev', ao', ac', hk', hv', hl', HN⟩ := SK.out (fun h => h.2 hnew)
        have HK' := Lib.hid hk'
        have HV' := Lib.hid hv'
        rcases D0 with ⟨-, hp, -⟩ | ⟨d0, y, hy, hp⟩
        · rw [hp] at hnew; cases hnew
        · have hyk : y.key = xk := by rw [hp] at hnew; exact Option.some.inj hnew
          obtain ⟨g', cap', e, y0, y1, y2, y3⟩ := hhr.cells hy
          cases e
          have v1 : (y.key.toList == xk.toList) = true := by rw [hyk]; simp
          have s1 : IntKind.i64.wrap ((k : Int) - 1) = (k : Int) - 1 := by rw [IntKind.wrap_i64]; omega
          have s2 : (0 : Int) ≤ (k : Int) - 1 := by
            have : decide ((0 : Int) < k) = true := d0
            simp at this; omega
          have s3 : (k : Int) - 1 < L.length := by omega
          have s4 : ((k : Int) - 1).toNat = k - 1 := by omega
          have d0' : decide (0 < k) = true := by simp; omega
          clear hk' hv' C hx hhr hy hp hyk hnew y1 y2 y3
          rcases D5 with ⟨v4, v6, v7⟩ | ⟨v6, v7, v8⟩
          all_goals
            go_wp2
            go_round
            case rel => exact ⟨k', A', prev', ao', ac', by rw [HK'.out]; omega, by rw [HK'.out]; go_num, HV'.out, hl', HN⟩
            case measure => simp [intOf]; omega
      · rcases D0 with ⟨hk0, -, d0⟩ | ⟨d0, y, hy, hp⟩
        · have d0' : decide (0 < k) = false := by simp; omega
          clear hk0
          rcases E with _ | ⟨zk, zt, zd, zv⟩
          · have hg := HTK.out hnew
            simp only [Option.toList, List.nil_append] at hg
            have HG := Lib.hid hg
            unfold seenV cellV zeroC at C
            simp only at C
            clear hg hnew hx hhr
            rcases D5 with ⟨v4, v6, v7⟩ | ⟨v6, v7, v8⟩
            all_goals
              go_wp2_with fail
              refine C.mono ?_
              rintro e w8 ⟨rfl, hb8⟩
              have hb9 : RowKit.Below wr.heap.size wr (w8.alloc (.cells #[.string ⟨#[]⟩, .int .u64 0, .bool false, .string ⟨#[]⟩] 24)) := hb8.alloc hb8.size _
              obtain ⟨k', A', prev', ao', ac', hk', hv', hl', HN⟩ := END0.out _ hb9 HG.out
              have HK' := Lib.hid hk'
              have HV' := Lib.hid hv'
              clear hb8 hb9 hk' hv' C
              go_wp2
              go_round
              case rel => exact ⟨k', A', prev', ao', ac', by rw [HK'.out]; omega, by rw [HK'.out]; go_num, HV'.out, hl', HN⟩
              case measure => simp [intOf]; omega
          · have hg := HTK.out hnew
            simp only [Option.toList] at hg
            have HG := Lib.hid hg
            unfold seenV cellV at C
            simp only at C
            clear hg hnew hx hhr
            rcases D5 with ⟨v4, v6, v7⟩ | ⟨v6, v7, v8⟩
            all_goals
              go_wp2_with fail
              refine C.mono ?_
              rintro e w8 ⟨rfl, hb8⟩
              have HB9 := Lib.hid (hb8.alloc hb8.size (.cells #[.string zk, .int .u64 zt, .bool zd, .string zv] 24))
              have HSL := Lib.hid (SL.out _ HB9.out (.cells #[.string zk, .int .u64 zt, .bool zd, .string zv] 24))
              have HC3 := Lib.hid (cell_new_four (Go.heap_alloc_new (w8.alloc (.cells #[.string zk, .int .u64 zt, .bool zd, .string zv] 24)) (.cells #[.string zk, .int .u64 zt, .bool zd, .string zv] 24)))
              have E1 := Lib.hid (END1.out _ HB9.out ⟨zk, zt, zd, zv⟩ HG.out)
              clear hb8 C
              go_wp2_with (refine wpList_append_sl (by rfl) (.tmp 61) (.tmp 63) 28 (by rfl) 24 i6 z6 4 48 Try.underlying28 hi6 hz6 hsz6 hby6 hzs6 (by decide) (.slice ao A.length ac) A.length (cellsL A) (by rfl) HSL.out (some ⟨w8.heap.size + 1, 0, none⟩) 1 1 [.string zk, .int .u64 zt, .bool zd, .string zv] (by rfl) (by rfl) (fun _ => ⟨_, rfl, by have h := HC3.out; rw [World.size_alloc] at h; exact h⟩) (fun h => absurd h (by decide)) (by simp [Value.oneCell']) bb1 bb2 ?_; intro v' w4 hs hg4 ha; obtain ⟨k', A', prev', ao', ac', hk', hv', hl', HN⟩ := E1.out v' w4 hs hg4 ha; have HK' := Lib.hid hk'; clear hs hg4 ha hk'; subst hv')
              go_round
              case rel => exact ⟨k', A', prev', ao', ac', by rw [HK'.out]; omega, by rw [HK'.out]; go_num, rfl, hl', HN⟩
              case measure => simp [intOf]; omega
        · have hyk : y.key ≠ xk := fun e => hnew (by rw [hp, e])
          obtain ⟨g', cap', e, y0, y1, y2, y3⟩ := hhr.cells hy
          cases e
          have v1 : (y.key.toList == xk.toList) = false := by rw [beq_eq_false_iff_ne]; exact fun e => hyk (toList_inj e)
          have s1 : IntKind.i64.wrap ((k : Int) - 1) = (k : Int) - 1 := by rw [IntKind.wrap_i64]; omega
          have s2 : (0 : Int) ≤ (k : Int) - 1 := by
            have : decide ((0 : Int) < k) = true := d0
            simp at this; omega
          have s3 : (k : Int) - 1 < L.length := by omega
          have s4 : ((k : Int) - 1).toNat = k - 1 := by omega
          have d0' : decide (0 < k) = true := by simp; omega
          clear hy hp hyk y1 y2 y3
          rcases E with _ | ⟨zk, zt, zd, zv⟩
          · have hg := HTK.out hnew
            simp only [Option.toList, List.nil_append] at hg
            have HG := Lib.hid hg
            unfold seenV cellV zeroC at C
            simp only at C
            clear hg hnew hx hhr
            rcases D5 with ⟨v4, v6, v7⟩ | ⟨v6, v7, v8⟩
            all_goals
              go_wp2_with fail
              refine C.mono ?_
              rintro e w8 ⟨rfl, hb8⟩
              have hb9 : RowKit.Below wr.heap.size wr (w8.alloc (.cells #[.string ⟨#[]⟩, .int .u64 0, .bool false, .string ⟨#[]⟩] 24)) := hb8.alloc hb8.size _
              obtain ⟨k', A', prev', ao', ac', hk', hv', hl', HN⟩ := END0.out _ hb9 HG.out
              have HK' := Lib.hid hk'
              have HV' := Lib.hid hv'
              clear hb8 hb9 hk' hv' C
              go_wp2
              go_round
              case rel => exact ⟨k', A', prev', ao', ac', by rw [HK'.out]; omega, by rw [HK'.out]; go_num, HV'.out, hl', HN⟩
              case measure => simp [intOf]; omega
          · have hg := HTK.out hnew
            simp only [Option.toList] at hg
            have HG := Lib.hid hg
            unfold seenV cellV at C
            simp only at C
            clear hg hnew hx hhr
            rcases D5 with ⟨v4, v6, v7⟩ | ⟨v6, v7, v8⟩
            all_goals
              go_wp2_with fail
              refine C.mono ?_
              rintro e w8 ⟨rfl, hb8⟩
              have HB9 := Lib.hid (hb8.alloc hb8.size (.cells #[.string zk, .int .u64 zt, .bool zd, .string zv] 24))
              have HSL := Lib.hid (SL.out _ HB9.out (.cells #[.string zk, .int .u64 zt, .bool zd, .string zv] 24))
              have HC3 := Lib.hid (cell_new_four (Go.heap_alloc_new (w8.alloc (.cells #[.string zk, .int .u64 zt, .bool zd, .string zv] 24)) (.cells #[.string zk, .int .u64 zt, .bool zd, .string zv] 24)))
              have E1 := Lib.hid (END1.out _ HB9.out ⟨zk, zt, zd, zv⟩ HG.out)
              clear hb8 C
              go_wp2_with (refine wpList_append_sl (by rfl) (.tmp 61) (.tmp 63) 28 (by rfl) 24 i6 z6 4 48 Try.underlying28 hi6 hz6 hsz6 hby6 hzs6 (by decide) (.slice ao A.length ac) A.length (cellsL A) (by rfl) HSL.out (some ⟨w8.heap.size + 1, 0, none⟩) 1 1 [.string zk, .int .u64 zt, .bool zd, .string zv] (by rfl) (by rfl) (fun _ => ⟨_, rfl, by have h := HC3.out; rw [World.size_alloc] at h; exact h⟩) (fun h => absurd h (by decide)) (by simp [Value.oneCell']) bb1 bb2 ?_; intro v' w4 hs hg4 ha; obtain ⟨k', A', prev', ao', ac', hk', hv', hl', HN⟩ := E1.out v' w4 hs hg4 ha; have HK' := Lib.hid hk'; clear hs hg4 ha hk'; subst hv')
              go_round
              case rel => exact ⟨k', A', prev', ao', ac', by rw [HK'.out]; omega, by rw [HK'.out]; go_num, rfl, hl', HN⟩
              case measure => simp [intOf]; omega
    · obtain rfl : k = L.length := by omega
      have q : decide (L.length < L.length) = false := by simp
      have HF := Lib.hid (show RTrimPost w (refGo lo hi t none L) (.returned (.slice ao A.length ac)) wr from by
        have h2 := HI.out.2.1
        rw [List.drop_length] at h2
        refine ⟨_, rfl, ?_, HI.out.1.below, HI.out.1.own⟩
        rw [← h2]
        simpa [refGo] using HI.out.1.has)
      go_wp2
      go_ret
      exact HF.out
end Go.Proofs.Ytnhookblhckmlaa
