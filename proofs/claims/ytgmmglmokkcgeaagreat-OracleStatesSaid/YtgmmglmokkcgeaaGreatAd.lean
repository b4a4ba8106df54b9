/- Walks: New, Time, BinarySearch, Seen, Tablet, Decision. -/
import Derived.Test.YtgmmglmokkcgeaaGreatAc
namespace Go.Proofs.YtgmmglmokkcgeaaGreat
set_option linter.unusedVariables false
set_option linter.unusedSimpArgs false
open Go.RowKit Mk Go.Sort
theorem nan62 (a : Nat) (w : World) : Calls Tryz.prog 81 #[.int .u64 a] w fun e w' => e = .returned (.bool false) ∧ w' = w := by
  go_enter Tryz.func81, Tryz.ntmps81
  go_wp2
  go_ret
  exact ⟨rfl, rfl⟩
theorem nan76 (a : Nat) (w : World) : Calls Tryz.prog 112 #[.int .u64 a] w fun e w' => e = .returned (.bool false) ∧ w' = w := by
  go_enter Tryz.func112, Tryz.ntmps112
  go_wp2
  go_ret
  exact ⟨rfl, rfl⟩
theorem less_any (a b : Nat) (w : World) : Calls Tryz.prog 80 #[.int .u64 a, .int .u64 b] w fun e w' => e = .returned (.bool (decide (a < b))) ∧ w' = w := by
  have N := Lib.hid (nan76 a w)
  by_cases h : a < b
  · have d : decide ((a : Int) < b) = true := decide_eq_true (by omega)
    rw [decide_eq_true h]
    go_enter Tryz.func80, Tryz.ntmps80
    go_wp2_with fail
    refine N.out.mono ?_
    rintro e w1 ⟨rfl, rfl⟩
    go_wp2
    go_ret
    exact ⟨rfl, rfl⟩
  · have d : decide ((a : Int) < b) = false := decide_eq_false (by omega)
    rw [decide_eq_false h]
    go_enter Tryz.func80, Tryz.ntmps80
    go_wp2_with fail
    refine N.out.mono ?_
    rintro e w1 ⟨rfl, rfl⟩
    go_wp2
    go_ret
    exact ⟨rfl, rfl⟩
theorem take_while (L : List Nat) (t i : Nat) (hi : i ≤ L.length) (h1 : ∀ k (hk : k < L.length), k < i → L[k] < t) (h2 : ∀ k (hk : k < L.length), i ≤ k → t ≤ L[k]) : (L.takeWhile (fun x => decide (x < t))).length = i := by
  induction L generalizing i with
  | nil => simp at hi; simp [hi]
  | cons a L ih =>
    cases i with
    | zero =>
      have := h2 0 (by simp) (by omega)
      simp only [List.getElem_cons_zero] at this
      rw [List.takeWhile_cons, if_neg (by simp; omega)]
      rfl
    | succ i =>
      have := h1 0 (by simp) (by omega)
      simp only [List.getElem_cons_zero] at this
      rw [List.takeWhile_cons, if_pos (by simpa using this), List.length_cons]
      rw [ih i (by simpa using hi) (fun k hk hki => h1 (k + 1) (Nat.succ_lt_succ hk) (by omega)) (fun k hk hki => h2 (k + 1) (Nat.succ_lt_succ hk) (by omega))]
theorem sorted_le {L : List Nat} (h : L.Pairwise (· ≤ ·)) {i j : Nat} (hi : i ≤ j) (hj : j < L.length) : L[i]'(by omega) ≤ L[j] := by
  rcases Nat.lt_or_eq_of_le hi with h1 | rfl
  · exact List.pairwise_iff_getElem.1 h i j (by omega) hj h1
  · exact Nat.le_refl _
set_option maxRecDepth 100000 in
set_option maxHeartbeats 4000000 in
theorem bsearch_any {w : World} {ao : Option Addr} {m cp : Nat} {L : List Nat} (h : sl w 24 1 (.slice ao m cp) m (timesV L)) (hs : L.Pairwise (· ≤ ·)) (hm : m ≤ 1099511628032) (t : Nat) :
    Calls Tryz.prog 32 #[.slice ao m cp, .int .u64 t] w fun e w' => e = .returned (.tuple #[.int .i64 ((L.takeWhile (fun x => decide (x < t))).length : Nat), .bool (decide (t ∈ L))]) ∧ w' = w := by
  have hl : L.length = m := by have := h.1; simp [timesV] at this; exact this
  have HL := Lib.hid hl
  have H := Lib.hid h
  have HS := Lib.hid hs
  obtain ⟨I, hI⟩ : ∃ I, (L.takeWhile (fun x => decide (x < t))).length = I := ⟨_, rfl⟩
  obtain ⟨Z, hZ⟩ : ∃ Z, decide (t ∈ L) = Z := ⟨_, rfl⟩
  rw [hI, hZ]
  have HI := Lib.hid hI
  have HZ := Lib.hid hZ
  clear h hs hl hI hZ
  go_enter Tryz.func32, Tryz.ntmps32
  go_wp2
  go_loop [7, 8] (fun i j => ∃ a b : Nat, i = .int .i64 a ∧ j = .int .i64 b ∧ a ≤ b ∧ b ≤ m ∧ Hid (∀ k (hk : k < L.length), k < a → L[k] < t) ∧ Hid (∀ k (hk : k < L.length), b ≤ k → t ≤ L[k])) (fun i j => (intOf j).toNat - (intOf i).toNat)
  case atStart => exact ⟨0, m, rfl, rfl, by omega, by omega, Lib.hid (fun k hk h => by omega), Lib.hid (fun k hk h => by have := HL.out; omega)⟩
  case round =>
    obtain ⟨a, b, rfl, rfl, hab, hbm, H1, H2⟩ := hrel
    by_cases hlt : a < b
    · have hd : decide ((a : Int) < b) = true := decide_eq_true (by omega)
      have hjl : (a + b) / 2 < L.length := by rw [HL.out]; omega
      obtain ⟨g, cap, e, hc⟩ := H.out.cell (i := (a + b) / 2) (u := nV L[(a + b) / 2]) (by unfold timesV; rw [List.getElem?_map, List.getElem?_eq_getElem hjl]; rfl)
      simp only [Value.slice.injEq] at e
      obtain ⟨rfl, -, rfl⟩ := e
      unfold nV at hc
      have e1 : IntKind.u64.wrap ((a : Int) + b) = (a : Int) + b := by simp only [IntKind.wrap, IntKind.bits, IntKind.signed]; simp; omega
      have l1 : ((a : Int) + b) / 2 < m := by omega
      have l0 : (0 : Int) ≤ ((a : Int) + b) / 2 := by omega
      have l4 : ¬ 9223372036854775807 < (a : Int) + b := by omega
      have l5 : ¬ (a : Int) + b < -9223372036854775808 := by omega
      have l6 : (((a : Int) + b) / 2).toNat = (a + b) / 2 := by omega
      obtain ⟨x, hx⟩ : ∃ x, L[(a + b) / 2] = x := ⟨_, rfl⟩
      rw [hx] at hc
      have LS := Lib.hid (less_any x t w)
      have HX := Lib.hid hx
      have HJ := Lib.hid hjl
      clear hx
      go_wp2_with fail
      refine LS.out.mono ?_
      rintro e w1 ⟨rfl, rfl⟩
      by_cases hxt : x < t
      · rw [decide_eq_true hxt]
        have H1' : Hid (∀ k (hk : k < L.length), k < (a + b) / 2 + 1 → L[k] < t) := Lib.hid (fun k hk hk2 => by
          have := sorted_le HS.out (i := k) (j := (a + b) / 2) (by omega) HJ.out
          have := HX.out
          omega)
        go_wp2
        go_round
        case rel => exact ⟨(a + b) / 2 + 1, b, by go_num, rfl, by omega, hbm, H1', H2⟩
        case measure => simp [intOf]; omega
      · rw [decide_eq_false hxt]
        have H2' : Hid (∀ k (hk : k < L.length), (a + b) / 2 ≤ k → t ≤ L[k]) := Lib.hid (fun k hk hk2 => by
          have := sorted_le HS.out (i := (a + b) / 2) (j := k) hk2 hk
          have := HX.out
          omega)
        go_wp2
        go_round
        case rel => exact ⟨a, (a + b) / 2, rfl, by go_num, by omega, by omega, H1, H2'⟩
        case measure => simp [intOf]; omega
    · have hd : decide ((a : Int) < b) = false := decide_eq_false (by omega)
      obtain rfl : a = b := by omega
      have hIa : I = a := by rw [← HI.out]; exact take_while L t a (by rw [HL.out]; exact hbm) H1.out H2.out
      subst hIa
      by_cases hlm : I < m
      · have d2 : decide ((I : Int) < m) = true := decide_eq_true (by omega)
        have hjl : I < L.length := by rw [HL.out]; exact hlm
        obtain ⟨g, cap, e, hc⟩ := H.out.cell (i := I) (u := nV L[I]) (by unfold timesV; rw [List.getElem?_map, List.getElem?_eq_getElem hjl]; rfl)
        simp only [Value.slice.injEq] at e
        obtain ⟨rfl, -, rfl⟩ := e
        unfold nV at hc
        have l1 : (I : Int) < m := by omega
        have l0 : (0 : Int) ≤ I := by omega
        obtain ⟨x, hx⟩ : ∃ x, L[I] = x := ⟨_, rfl⟩
        rw [hx] at hc
        have hxt : t ≤ x := by rw [← hx]; exact H2.out I hjl (Nat.le_refl _)
        by_cases he : x = t
        · have d3 : decide ((x : Int) = t) = true := decide_eq_true (by omega)
          have hz : Z = true := by rw [← HZ.out]; exact decide_eq_true (by rw [← he, ← hx]; exact List.getElem_mem hjl)
          subst hz
          clear hx
          go_wp2
          go_ret2
          exact ⟨rfl, rfl⟩
        · have d3 : decide ((x : Int) = t) = false := decide_eq_false (by omega)
          have d3' : ((x : Int) == (t : Int)) = false := beq_eq_false_iff_ne.2 (by omega)
          have hz : Z = false := by
            rw [← HZ.out]
            refine decide_eq_false (fun hm => ?_)
            obtain ⟨k, hk, e⟩ := List.getElem_of_mem hm
            rcases Nat.lt_or_ge k I with h1 | h1
            · have := H1.out k hk h1; omega
            · have := sorted_le HS.out (i := I) (j := k) h1 hk
              omega
          subst hz
          have NA := Lib.hid (nan62 x w)
          clear hx
          go_wp2_with fail
          refine NA.out.mono ?_
          rintro e w1 ⟨rfl, rfl⟩
          go_wp2
          go_ret2
          exact ⟨rfl, rfl⟩
      · have d2 : decide ((I : Int) < m) = false := decide_eq_false (by omega)
        have hz : Z = false := by
          rw [← HZ.out]
          refine decide_eq_false (fun hm => ?_)
          obtain ⟨k, hk, e⟩ := List.getElem_of_mem hm
          have := H1.out k hk (by have := HL.out; omega)
          omega
        subst hz
        go_wp2
        go_ret2
        exact ⟨rfl, rfl⟩
section
variable {w : World} {b : Nat} {R : Loc} {F : Nat → Prop} {n : OM}
theorem time_any (h : OrRep w b R F n) : Calls Tryz.prog 10 #[.pointer (some ⟨b, 0, none⟩)] w fun e w' => e = .returned (.int .u64 (n.time : Nat)) ∧ w' = w := by
  have c1 := h.c1
  have NN := Lib.hid (none_any h)
  clear h
  go_enter Tryz.func10, Tryz.ntmps10
  go_wp2_with fail
  refine NN.out.mono ?_
  rintro e w1 ⟨rfl, rfl⟩
  go_wp2
  go_ret
  exact ⟨rfl, rfl⟩
set_option maxRecDepth 100000 in
theorem seen_any (h : OrRep w b R F n) {x : ByteArray} (hx : x.size ≤ maxLen) (hs : (n.com x).Pairwise (· ≤ ·)) (hl : (n.com x).length ≤ 1099511628032) (t : Nat) : Calls Tryz.prog 13 #[.pointer (some ⟨b, 0, none⟩), .string x, .int .u64 t] w fun e w' => e = .returned (.int .i64 (seenM (n.com x) t : Nat)) ∧ w' = w := by
  have c7 := h.c7
  have NN := Lib.hid (none_any h)
  obtain ⟨ao, cp, hlk, hsl, -⟩ := h.lookC hx
  have hlk' := hlk w h.com
  have BS := Lib.hid (bsearch_any hsl hs hl t)
  have hml : ((n.com x).takeWhile (fun x => decide (x < t))).length ≤ 1099511628032 := Nat.le_trans (List.takeWhile_prefix _).length_le hl
  have hse : seenM (n.com x) t = ((n.com x).takeWhile (fun x => decide (x < t))).length + if t ∈ n.com x then 1 else 0 := rfl
  generalize ((n.com x).takeWhile (fun x => decide (x < t))).length = I at *
  rw [hse]
  generalize (n.com x).length = m at *
  clear h hs hlk hsl hse
  by_cases ht : t ∈ n.com x
  · rw [if_pos ht]
    have BS' := Lib.hid BS.out
    rw [decide_eq_true ht] at BS'
    clear BS
    go_enter Tryz.func13, Tryz.ntmps13
    go_wp2_with fail
    refine NN.out.mono ?_
    rintro e w1 ⟨rfl, rfl⟩
    go_wp2_with fail
    refine BS'.out.mono ?_
    rintro e w1 ⟨rfl, rfl⟩
    go_wp2
    go_ret
    exact ⟨rfl, rfl⟩
  · rw [if_neg ht]
    have BS' := Lib.hid BS.out
    rw [decide_eq_false ht] at BS'
    clear BS
    go_enter Tryz.func13, Tryz.ntmps13
    go_wp2_with fail
    refine NN.out.mono ?_
    rintro e w1 ⟨rfl, rfl⟩
    go_wp2_with fail
    refine BS'.out.mono ?_
    rintro e w1 ⟨rfl, rfl⟩
    go_wp2
    go_ret
    exact ⟨rfl, rfl⟩
end
set_option maxRecDepth 100000 in
theorem new_any (w : World) : Calls Tryz.prog 20 #[] w fun e w' => ∃ b, e = .returned (.pointer (some ⟨b, 0, none⟩)) ∧ OrIs w' b (fun g => w.heap.size ≤ g) .new ∧ Chg (fun _ => False) w w' := by
  have h1 : ∀ v : World, (Instr.makeMap 31 none).run Tryz.prog v = .ok (.map (some v.heap.size)) (v.alloc (.map #[] 0)) := fun v => run_makeMap 31 v
  have h2 : ∀ v : World, (Instr.makeMap 32 none).run Tryz.prog v = .ok (.map (some v.heap.size)) (v.alloc (.map #[] 0)) := fun v => run_makeMap 32 v
  have h3 : ∀ v : World, (Instr.makeMap 33 none).run Tryz.prog v = .ok (.map (some v.heap.size)) (v.alloc (.map #[] 0)) := fun v => run_makeMap 33 v
  have h4 : ∀ v : World, (Instr.makeMap 34 none).run Tryz.prog v = .ok (.map (some v.heap.size)) (v.alloc (.map #[] 0)) := fun v => run_makeMap 34 v
  go_enter Tryz.func20, Tryz.ntmps20
  go_wp2
  go_ret
  have e0 : ∀ (v : World) (o : Obj), (v.alloc o).heap.size = v.heap.size + 1 := fun v o => by simp
  have m1 := mapAt_made (ok := okU) (kv := kvU) w
  have m2 := mapAt_made (ok := okS) (kv := kvS) (w.alloc (.map #[] 0))
  have m3 := mapAt_made (ok := okS) (kv := kvS) ((w.alloc (.map #[] 0)).alloc (.map #[] 0))
  have m4 := mapAt_made (ok := okS) (kv := kvS) (((w.alloc (.map #[] 0)).alloc (.map #[] 0)).alloc (.map #[] 0))
  have b5 := Go.heap_alloc_new ((((w.alloc (.map #[] 0)).alloc (.map #[] 0)).alloc (.map #[] 0)).alloc (.map #[] 0)) (.cells (stC .new ⟨w.heap.size, w.heap.size + 1, w.heap.size + 1 + 1, w.heap.size + 1 + 1 + 1, []⟩) 36)
  simp only [e0] at m2 m3 m4 b5
  have st : ∀ (v : World) (o : Obj) (g : Nat), g < v.heap.size → (v.alloc o).heap[g]? = v.heap[g]? := fun v o g h => Below.heap_alloc _ _ _ h
  refine ⟨_, rfl, ⟨⟨w.heap.size, w.heap.size + 1, w.heap.size + 1 + 1, w.heap.size + 1 + 1 + 1, []⟩, b5, ?_, ?_, ?_, ?_, by simp, fun x _ => rfl, by simp, by simp, ⟨by simp only; omega, by simp only; omega, by simp only; omega, by simp only; omega, by simp only; omega, by simp only; omega⟩, by omega, Nat.le_refl _, by simp only; omega, by simp only; omega, by simp only; omega, by simp⟩, (((((Chg.refl _ _).alloc _).alloc _).alloc _).alloc _).alloc _⟩
  · exact (((m1.stay (st _ _ _ (by simp))).stay (st _ _ _ (by simp only [e0]; omega))).stay (st _ _ _ (by simp only [e0]; omega))).stay (st _ _ _ (by simp only [e0]; omega))
  · exact ((m2.stay (st _ _ _ (by simp only [e0]; omega))).stay (st _ _ _ (by simp only [e0]; omega))).stay (st _ _ _ (by simp only [e0]; omega))
  · exact (m3.stay (st _ _ _ (by simp only [e0]; omega))).stay (st _ _ _ (by simp only [e0]; omega))
  · exact m4.stay (st _ _ _ (by simp only [e0]; omega))
end Go.Proofs.YtgmmglmokkcgeaaGreat
