/- Walks: the document's laid. -/
import Derived.Test.YtjflkmihkfbgpaaX2
namespace Go.Proofs.Ytjflkmihkfbgpaa
open Go.RowKit Mk Go.Sort
set_option linter.unusedVariables false
set_option linter.unusedSimpArgs false

/-- Does n stand at m, or ahead of it? -/
def ahead (n m : ByteArray) : Bool := !(Op.bytesLess m.toList n.toList)
def laidGo (n s : ByteArray) : Bool → Files → Files
  | d, [] => if d then [] else [(n, s)]
  | d, p :: L => (if !d && ahead n p.1 then [(n, s)] else []) ++ ((if p.1 = n then [] else [p]) ++ laidGo n s (d || ahead n p.1) L)
theorem laidGo_cons (n s : ByteArray) (d : Bool) (p : ByteArray × ByteArray) (L : Files) : laidGo n s d (p :: L) = (if !d && ahead n p.1 then [(n, s)] else []) ++ ((if p.1 = n then [] else [p]) ++ laidGo n s (d || ahead n p.1) L) := rfl
def laidM (L : Files) (n s : ByteArray) : Files := laidGo n s false L
theorem FOut.add {w : World} {A A2 : Files} {ao : Option Addr} {ac : Nat} {wr : World} (h : FOut w A (.slice ao A.length ac) wr) {x y : ByteArray} (hA : A ++ [(x, y)] = A2) {v' : Value} {w4 : World} (hs : sl w4 73 2 v' (A.length + 1) (fcells A ++ [.string x, .string y])) (hg4 : (wr.alloc (.cells #[.string x, .string y] 73)).grownBy w4 (Value.slice ao A.length ac).ownBlock) (ha : v'.ownBlock = (Value.slice ao A.length ac).ownBlock ∨ v'.ownBlock = some (wr.alloc (.cells #[.string x, .string y] 73)).heap.size) :
    ∃ (o' : Option Addr) (c' : Nat), v' = .slice o' A2.length c' ∧ Hid (FOut w A2 (.slice o' A2.length c') w4) := by
  subst hA
  obtain ⟨⟨o', c', rfl⟩, ho⟩ := h.snoc rfl hs hg4 ha
  exact ⟨o', c', by simp, Lib.hid (by simpa using ho)⟩

set_option maxRecDepth 100000 in
set_option maxHeartbeats 4000000 in
theorem laid_any {w : World} {v : Value} {L : Files} (h : FL w v L) (hL : L.length ≤ 1099511627776) (n s : ByteArray) :
    Calls Try.prog 57 #[v, .string n, .string s] w fun e w' => FPost w (laidM L n s) e w' := by
  obtain ⟨i6, z6, hi6, hz6, hsz6, hby6, hzs6⟩ := info73
  obtain ⟨o, c, rfl⟩ := h.shape
  have HH := Lib.hid h
  clear h
  go_enter Try.func57, Try.ntmps57
  go_wp2
  go_loopw [7, 8, 9] (fun v dn i wr => ∃ (k : Nat) (A : Files) (d : Bool) (ao : Option Addr) (ac : Nat), k ≤ L.length ∧ i = .int .i64 k ∧ dn = .bool d ∧ v = .slice ao A.length ac ∧ A.length ≤ 2 * k ∧ Hid (FOut w A (.slice ao A.length ac) wr ∧ A ++ laidGo n s d (L.drop k) = laidM L n s)) (fun _ _ i _ => L.length - (intOf i).toNat)
  case atStart => exact ⟨0, [], false, none, 0, by omega, rfl, rfl, rfl, by simp, Lib.hid ⟨⟨sl_nil _ _ _, fun g hg => by simp [Value.ownBlock] at hg, Below.refl _ _⟩, rfl⟩⟩
  case round =>
    obtain ⟨k, A, d, ao, ac, hk, rfl, rfl, rfl, hAk, HI⟩ := hrel
    have l0 : (0 : Int) ≤ k := by omega
    have bb1 : A.length + 1 ≤ maxLen := by simp only [maxLen]; omega
    have bb2 : (A.length + 1) * 32 ≤ 140737488355328 := by omega
    by_cases hlt : k < L.length
    · obtain ⟨x, hx⟩ : ∃ x, L[k]? = some x := ⟨L[k]'hlt, List.getElem?_eq_getElem hlt⟩
      have hd : L.drop k = x :: L.drop (k + 1) := by
        obtain ⟨hl, rfl⟩ := List.getElem?_eq_some_iff.1 hx
        exact List.drop_eq_getElem_cons hl
      have hhr := HH.out.stay HI.out.1.below
      obtain ⟨g, cap, e, h0, h1⟩ := hhr.cells hx
      cases e
      have l1 : (k : Int) < L.length := by omega
      have q : decide (k < L.length) = true := by simpa using hlt
      have hgo := HI.out.2
      rw [hd, laidGo_cons] at hgo
      have HO := Lib.hid HI.out.1
      have HHX := Lib.hid (fun (w4 : World) (ho : Below w.heap.size w w4) => (HH.out.stay ho).cells hx)
      obtain ⟨xk, xv⟩ := x
      simp only at h0 h1 hgo HHX
      obtain ⟨b, hb⟩ : ∃ b, Op.bytesLess xk.toList n.toList = b := ⟨_, rfl⟩
      have hab : ahead n xk = !b := by unfold ahead; rw [hb]
      rw [hab] at hgo
      have HGO := Lib.hid hgo
      clear hx hd hgo hhr hab HI
      cases d
      · cases b
        · obtain ⟨A1, hA1⟩ : ∃ A1, A ++ [(n, s)] = A1 := ⟨_, rfl⟩
          have hl1 : A1.length = A.length + 1 := by rw [← hA1]; simp
          have bb3 : A1.length + 1 ≤ maxLen := by simp only [maxLen]; omega
          have bb4 : (A1.length + 1) * 32 ≤ 140737488355328 := by omega
          have HL1 := Lib.hid hl1
          clear hl1
          have HA1 := Lib.hid hA1
          have HSL := Lib.hid (fl_alloc HO.out.has (.cells #[.string n, .string s] 73))
          by_cases hk2 : xk = n
          · have v1 : (xk.toList == n.toList) = true := by rw [hk2]; simp
            have hgo := HGO.out
            rw [if_pos hk2] at hgo
            simp only [Bool.not_false, Bool.and_self, if_true, Bool.or_true, Bool.false_or, List.nil_append] at hgo
            rw [← List.append_assoc, hA1] at hgo
            have HG2 := Lib.hid hgo
            clear hgo HGO hk2 hA1
            go_wp2_with (refine wpList_append_sl (by rfl) (.tmp 27) (.tmp 31) 39 (by rfl) 73 i6 z6 2 32 Try.underlying39 hi6 hz6 hsz6 hby6 hzs6 (by decide) (.slice ao A.length ac) A.length (fcells A) (by rfl) HSL.out (some ⟨wr.heap.size, 0, none⟩) 1 1 [.string n, .string s] (by rfl) (by rfl) (fun _ => ⟨_, rfl, cell_new_two (Go.heap_alloc_new wr (.cells #[.string n, .string s] 73))⟩) (fun h => absurd h (by decide)) (by simp [Value.oneCell']) bb1 bb2 ?_; intro v' w4 hs hg4 ha; obtain ⟨o1, c1, hv', HN1⟩ := HO.out.add HA1.out hs hg4 ha; clear hs hg4 ha; subst hv'; obtain ⟨g1, cap1, e1, h0', h1'⟩ := HHX.out w4 HN1.out.below; have e1' := e1; simp only [Value.slice.injEq, Option.some.injEq, Addr.mk.injEq] at e1'; obtain ⟨⟨rfl, -, -⟩, -, -⟩ := e1'; clear e1; have HSL1 := Lib.hid (fl_alloc HN1.out.has (.cells #[.string xk, .string xv] 73)); generalize w4 = w5 at *)
            go_round
            case rel => exact ⟨k + 1, A1, true, o1, c1, by omega, by go_num, rfl, rfl, by have := HL1.out; omega, Lib.hid ⟨HN1.out, HG2.out⟩⟩
            case measure => simp [intOf]; omega
          · have v1 : (xk.toList == n.toList) = false := by rw [beq_eq_false_iff_ne]; exact fun e => hk2 (toList_inj e)
            have hgo := HGO.out
            rw [if_neg hk2] at hgo
            simp only [Bool.not_false, Bool.and_self, if_true, Bool.or_true, Bool.false_or] at hgo
            rw [← List.append_assoc, hA1] at hgo
            obtain ⟨A2, hA2⟩ : ∃ A2, A1 ++ [(xk, xv)] = A2 := ⟨_, rfl⟩
            have hl2 : A2.length = A1.length + 1 := by rw [← hA2]; simp
            rw [← List.append_assoc, hA2] at hgo
            have HG2 := Lib.hid hgo
            have HA2 := Lib.hid hA2
            have HL2 := Lib.hid hl2
            clear hgo HGO hk2 hA1 hA2 hl2
            go_wp2_with (first | (refine wpList_append_sl (by rfl) (.tmp 27) (.tmp 31) 39 (by rfl) 73 i6 z6 2 32 Try.underlying39 hi6 hz6 hsz6 hby6 hzs6 (by decide) (.slice ao A.length ac) A.length (fcells A) (by rfl) HSL.out (some ⟨wr.heap.size, 0, none⟩) 1 1 [.string n, .string s] (by rfl) (by rfl) (fun _ => ⟨_, rfl, cell_new_two (Go.heap_alloc_new wr (.cells #[.string n, .string s] 73))⟩) (fun h => absurd h (by decide)) (by simp [Value.oneCell']) bb1 bb2 ?_; intro v' w4 hs hg4 ha; obtain ⟨o1, c1, hv', HN1⟩ := HO.out.add HA1.out hs hg4 ha; clear hs hg4 ha; subst hv'; obtain ⟨g1, cap1, e1, h0', h1'⟩ := HHX.out w4 HN1.out.below; have e1' := e1; simp only [Value.slice.injEq, Option.some.injEq, Addr.mk.injEq] at e1'; obtain ⟨⟨rfl, -, -⟩, -, -⟩ := e1'; clear e1; have HSL1 := Lib.hid (fl_alloc HN1.out.has (.cells #[.string xk, .string xv] 73)); generalize w4 = w5 at *) | (refine wpList_append_sl (by rfl) (.tmp 40) (.tmp 45) 39 (by rfl) 73 i6 z6 2 32 Try.underlying39 hi6 hz6 hsz6 hby6 hzs6 (by decide) (.slice o1 A1.length c1) A1.length (fcells A1) (by rfl) HSL1.out (some ⟨w5.heap.size, 0, none⟩) 1 1 [.string xk, .string xv] (by rfl) (by rfl) (fun _ => ⟨_, rfl, cell_new_two (Go.heap_alloc_new w5 (.cells #[.string xk, .string xv] 73))⟩) (fun h => absurd h (by decide)) (by simp [Value.oneCell']) bb3 bb4 ?_; intro v' w4 hs hg4 ha; obtain ⟨o', c', hv', HN⟩ := HN1.out.add HA2.out hs hg4 ha; clear hs hg4 ha; subst hv'))
            go_round
            case rel => exact ⟨k + 1, A2, true, o', c', by omega, by go_num, rfl, rfl, by have := HL1.out; have := HL2.out; omega, Lib.hid ⟨HN.out, HG2.out⟩⟩
            case measure => simp [intOf]; omega
        · by_cases hk2 : xk = n
          · have v1 : (xk.toList == n.toList) = true := by rw [hk2]; simp
            have hgo := HGO.out
            rw [if_pos hk2] at hgo
            simp only [Bool.not_false, Bool.not_true, Bool.and_false, Bool.true_and, Bool.or_self, Bool.false_eq_true, if_false, Bool.or_false, List.nil_append] at hgo
            have HN := Lib.hid (And.intro HO.out hgo)
            clear hgo HGO hk2 HHX HO
            go_wp2
            go_round
            case rel => exact ⟨k + 1, A, false, ao, ac, by omega, by go_num, rfl, rfl, by omega, HN⟩
            case measure => simp [intOf]; omega
          · have v1 : (xk.toList == n.toList) = false := by rw [beq_eq_false_iff_ne]; exact fun e => hk2 (toList_inj e)
            have hgo := HGO.out
            rw [if_neg hk2] at hgo
            simp only [Bool.not_false, Bool.not_true, Bool.and_false, Bool.true_and, Bool.or_self, Bool.false_eq_true, if_false, Bool.or_false, List.nil_append] at hgo
            obtain ⟨A2, hA2⟩ : ∃ A2, A ++ [(xk, xv)] = A2 := ⟨_, rfl⟩
            have hl2 : A2.length = A.length + 1 := by rw [← hA2]; simp
            rw [← List.append_assoc, hA2] at hgo
            have HG2 := Lib.hid hgo
            have HA2 := Lib.hid hA2
            have HL2 := Lib.hid hl2
            clear hl2
            have HSL := Lib.hid (fl_alloc HO.out.has (.cells #[.string xk, .string xv] 73))
            clear hgo HGO hk2 HHX hA2
            go_wp2_with (refine wpList_append_sl (by rfl) (.tmp 40) (.tmp 45) 39 (by rfl) 73 i6 z6 2 32 Try.underlying39 hi6 hz6 hsz6 hby6 hzs6 (by decide) (.slice ao A.length ac) A.length (fcells A) (by rfl) HSL.out (some ⟨wr.heap.size, 0, none⟩) 1 1 [.string xk, .string xv] (by rfl) (by rfl) (fun _ => ⟨_, rfl, cell_new_two (Go.heap_alloc_new wr (.cells #[.string xk, .string xv] 73))⟩) (fun h => absurd h (by decide)) (by simp [Value.oneCell']) bb1 bb2 ?_; intro v' w4 hs hg4 ha; obtain ⟨o', c', hv', HN⟩ := HO.out.add HA2.out hs hg4 ha; clear hs hg4 ha; subst hv')
            go_round
            case rel => exact ⟨k + 1, A2, false, o', c', by omega, by go_num, rfl, rfl, by have := HL2.out; omega, Lib.hid ⟨HN.out, HG2.out⟩⟩
            case measure => simp [intOf]; omega
      · by_cases hk2 : xk = n
        · have v1 : (xk.toList == n.toList) = true := by rw [hk2]; simp
          have hgo := HGO.out
          rw [if_pos hk2] at hgo
          simp only [Bool.not_true, Bool.false_and, Bool.true_or, Bool.false_eq_true, if_false, List.nil_append] at hgo
          have HN := Lib.hid (And.intro HO.out hgo)
          clear hgo HGO hk2 HHX HO
          go_wp2
          go_round
          case rel => exact ⟨k + 1, A, true, ao, ac, by omega, by go_num, rfl, rfl, by omega, HN⟩
          case measure => simp [intOf]; omega
        · have v1 : (xk.toList == n.toList) = false := by rw [beq_eq_false_iff_ne]; exact fun e => hk2 (toList_inj e)
          have hgo := HGO.out
          rw [if_neg hk2] at hgo
          simp only [Bool.not_true, Bool.false_and, Bool.true_or, Bool.false_eq_true, if_false, List.nil_append] at hgo
          obtain ⟨A2, hA2⟩ : ∃ A2, A ++ [(xk, xv)] = A2 := ⟨_, rfl⟩
          have hl2 : A2.length = A.length + 1 := by rw [← hA2]; simp
          rw [← List.append_assoc, hA2] at hgo
          have HG2 := Lib.hid hgo
          have HA2 := Lib.hid hA2
          have HL2 := Lib.hid hl2
          clear hl2
          have HSL := Lib.hid (fl_alloc HO.out.has (.cells #[.string xk, .string xv] 73))
          clear hgo HGO hk2 HHX hA2
          go_wp2_with (refine wpList_append_sl (by rfl) (.tmp 40) (.tmp 45) 39 (by rfl) 73 i6 z6 2 32 Try.underlying39 hi6 hz6 hsz6 hby6 hzs6 (by decide) (.slice ao A.length ac) A.length (fcells A) (by rfl) HSL.out (some ⟨wr.heap.size, 0, none⟩) 1 1 [.string xk, .string xv] (by rfl) (by rfl) (fun _ => ⟨_, rfl, cell_new_two (Go.heap_alloc_new wr (.cells #[.string xk, .string xv] 73))⟩) (fun h => absurd h (by decide)) (by simp [Value.oneCell']) bb1 bb2 ?_; intro v' w4 hs hg4 ha; obtain ⟨o', c', hv', HN⟩ := HO.out.add HA2.out hs hg4 ha; clear hs hg4 ha; subst hv')
          go_round
          case rel => exact ⟨k + 1, A2, true, o', c', by omega, by go_num, rfl, rfl, by have := HL2.out; omega, Lib.hid ⟨HN.out, HG2.out⟩⟩
          case measure => simp [intOf]; omega
    · obtain rfl : k = L.length := by omega
      have q : decide (L.length < L.length) = false := by simp
      have h2 := HI.out.2
      rw [List.drop_length] at h2
      cases d
      · have h3 : A ++ [(n, s)] = laidM L n s := by rw [← h2]; rfl
        have HSL := Lib.hid (fl_alloc HI.out.1.has (.cells #[.string n, .string s] 73))
        have H3 := Lib.hid h3
        clear h2 h3
        go_wp2_with (refine wpList_append_sl (by rfl) (.tmp 49) (.tmp 53) 39 (by rfl) 73 i6 z6 2 32 Try.underlying39 hi6 hz6 hsz6 hby6 hzs6 (by decide) (.slice ao A.length ac) A.length (fcells A) (by rfl) HSL.out (some ⟨wr.heap.size, 0, none⟩) 1 1 [.string n, .string s] (by rfl) (by rfl) (fun _ => ⟨_, rfl, cell_new_two (Go.heap_alloc_new wr (.cells #[.string n, .string s] 73))⟩) (fun h => absurd h (by decide)) (by simp [Value.oneCell']) bb1 bb2 ?_; intro v' w4 hs hg4 ha; obtain ⟨o', c', hv', HN⟩ := HI.out.1.add H3.out hs hg4 ha; clear hs hg4 ha; subst hv')

        go_ret
        exact ⟨_, _, rfl, HN.out.has, HN.out.below, HN.out.own⟩
      · have h3 : A = laidM L n s := by rw [← h2]; simp [laidGo]
        have HF := Lib.hid (show FPost w (laidM L n s) (.returned (.slice ao A.length ac)) wr from by
          rw [← h3]
          exact ⟨_, _, rfl, HI.out.1.has, HI.out.1.below, HI.out.1.own⟩)
        clear h2 h3
        go_wp2
        go_ret
        exact HF.out
end Go.Proofs.Ytjflkmihkfbgpaa
