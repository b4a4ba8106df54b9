/- Walks: the document's May, Get, Lay. -/
import Derived.Test.YtnhookblhckmlaaKi
namespace Go.Proofs.Ytnhookblhckmlaa
open Go.RowKit Mk Go.Sort

set_option maxHeartbeats 1000000 in
theorem rmay_any (c : CellM) (w : World) :
    Calls Try.prog 38 #[cellV c] w fun e w' => e = .returned (.int .i64 (mayM c)) ∧ RowKit.Below w.heap.size w w' := by
  obtain ⟨k, t, d, v⟩ := c
  unfold cellV
  simp only
  obtain ⟨W2, HW2⟩ : ∃ W, Hid (w.alloc (.cells #[.string k, .int .u64 t, .bool d, .string v] 24) = W) := ⟨_, Lib.hid rfl⟩
  have HB := Lib.hid (show RowKit.Below w.heap.size w W2 from by rw [← HW2.out]; exact (Below.refl w.heap.size w).alloc (Nat.le_refl _) _)
  obtain ⟨p, hp⟩ : ∃ p, decide ((8192 : Int) < k.size) = p := ⟨_, rfl⟩
  obtain ⟨q, hq⟩ : ∃ q, decide ((65536 : Int) < v.size) = q := ⟨_, rfl⟩
  obtain ⟨r, hr⟩ : ∃ r, (k.toList == []) = r := ⟨_, rfl⟩
  obtain ⟨s, hs⟩ : ∃ s, ((t : Int) == 0) = s := ⟨_, rfl⟩
  obtain ⟨x, hx⟩ : ∃ x, (v.toList == []) = x := ⟨_, rfl⟩
  have ev : mayM ⟨k, t, d, v⟩ = if p || q then 4 else if r || s || (d && !x) then 2 else 0 := by
    unfold mayM
    rw [← hp, ← hq, ← hr, ← hs, ← hx]
    have : ((t : Int) == 0) = decide (t = 0) := by rw [Bool.eq_iff_iff]; simp
    rw [this]
    have h1 : (k.toList == []) = decide (k.toList = []) := by rw [Bool.eq_iff_iff]; simp
    have h2 : (v.toList == []) = decide (v.toList = []) := by rw [Bool.eq_iff_iff]; simp
    rw [h1, h2]
    have h3 : decide ((8192 : Int) < k.size) = decide (8192 < k.size) := by simp only [decide_eq_decide]; omega
    have h4 : decide ((65536 : Int) < v.size) = decide (65536 < v.size) := by simp only [decide_eq_decide]; omega
    rw [h3, h4]
    by_cases a1 : 8192 < k.size <;> by_cases a2 : 65536 < v.size <;> by_cases a3 : k.toList = [] <;> by_cases a4 : t = 0 <;> by_cases a5 : v.toList = [] <;> cases d <;> simp [a1, a2, a3, a4, a5]
  rw [ev]
  clear ev
  have D : p = true ∨ (p = false ∧ q = true) ∨ (p = false ∧ q = false ∧ r = true) ∨ (p = false ∧ q = false ∧ r = false ∧ s = true) ∨ (p = false ∧ q = false ∧ r = false ∧ s = false ∧ d = false) ∨ (p = false ∧ q = false ∧ r = false ∧ s = false ∧ d = true ∧ x = true) ∨ (p = false ∧ q = false ∧ r = false ∧ s = false ∧ d = true ∧ x = false) := by
    cases p <;> cases q <;> cases r <;> cases s <;> cases d <;> cases x <;> simp
  rcases D with rfl | ⟨rfl, rfl⟩ | ⟨rfl, rfl, rfl⟩ | ⟨rfl, rfl, rfl, rfl⟩ | ⟨rfl, rfl, rfl, rfl, rfl⟩ | ⟨rfl, rfl, rfl, rfl, rfl, rfl⟩ | ⟨rfl, rfl, rfl, rfl, rfl, rfl⟩
  all_goals
    go_enter Try.func38, Try.ntmps38
    go_wp2
    rw [HW2.out]
    go_ret
    exact ⟨by simp, HB.out⟩

set_option maxRecDepth 100000 in
set_option maxHeartbeats 2000000 in
theorem rget_any {w : World} {so : Option Addr} {cap : Nat} {L : List CellM} (h : At w so L) (k : ByteArray) (t : Nat) :
    Calls Try.prog 18 #[.slice so L.length cap, .string k, .int .u64 t] w fun e w' => e = .returned (seenV (getM L k t)) ∧ RowKit.Below w.heap.size w w' := by
  obtain ⟨W2, HW2⟩ : ∃ W, Hid (w.alloc (.cells #[.string ⟨#[]⟩, .int .u64 0, .bool false, .string ⟨#[]⟩] 24) = W) := ⟨_, Lib.hid rfl⟩
  have hB : RowKit.Below w.heap.size w W2 := by rw [← HW2.out]; exact (Below.refl w.heap.size w).alloc (Nat.le_refl _) _
  have hX : W2.heap[w.heap.size]? = some (.cells #[.string ⟨#[]⟩, .int .u64 0, .bool false, .string ⟨#[]⟩] 24) := by rw [← HW2.out]; exact Go.heap_alloc_new _ _
  have HA := Lib.hid (h.below hB)
  have HX := Lib.hid hX
  have HB := Lib.hid hB
  have hm : L.length ≤ 9223372036854775807 := by have := h.1; simp only [maxLen] at this; omega
  have r0 : W2.frozen? ⟨w.heap.size, 0, none⟩ = false := frozen_of hX
  have r1 : W2.frozen? ⟨w.heap.size, 1, none⟩ = false := frozen_of hX
  have r2 : W2.frozen? ⟨w.heap.size, 2, none⟩ = false := frozen_of hX
  have r3 : W2.frozen? ⟨w.heap.size, 3, none⟩ = false := frozen_of hX
  have q0 : W2.cell? ⟨w.heap.size, 0, none⟩ = some (.string ⟨#[]⟩) := cell_of hX rfl
  have q1 : W2.cell? ⟨w.heap.size, 1, none⟩ = some (.int .u64 0) := cell_of hX rfl
  have q2 : W2.cell? ⟨w.heap.size, 2, none⟩ = some (.bool false) := cell_of hX rfl
  have q3 : W2.cell? ⟨w.heap.size, 3, none⟩ = some (.string ⟨#[]⟩) := cell_of hX rfl
  obtain ⟨E, HE⟩ : ∃ E, Hid (seenV (getM L k t) = E) := ⟨_, Lib.hid rfl⟩
  rw [HE.out]
  clear h hB hX
  generalize hkb : w.heap.size = kb at *
  go_enter Try.func18, Try.ntmps18
  go_wp2_with fail
  rw [HW2.out]
  have fin : ∀ (yk : ByteArray) (yt : Nat) (yd : Bool) (yv : ByteArray), ((((W2.setCell ⟨kb, 0, none⟩ (.string yk)).setCell ⟨kb, 1, none⟩ (.int .u64 yt)).setCell ⟨kb, 2, none⟩ (.bool yd)).setCell ⟨kb, 3, none⟩ (.string yv)).heap[kb]? = some (.cells #[.string yk, .int .u64 yt, .bool yd, .string yv] 24) ∧
      RowKit.Below kb w ((((W2.setCell ⟨kb, 0, none⟩ (.string yk)).setCell ⟨kb, 1, none⟩ (.int .u64 yt)).setCell ⟨kb, 2, none⟩ (.bool yd)).setCell ⟨kb, 3, none⟩ (.string yv)) := fun yk yt yd yv => by
    obtain ⟨hh, hc⟩ := fin4 HX.out (.string yk) (.int .u64 yt) (.bool yd) (.string yv)
    have := HB.out
    subst hkb
    exact ⟨hh, Chg.fresh this hc (Nat.le_refl _)⟩
  have FIN := Lib.hid fin
  clear fin
  go_loop [8] (fun i => ∃ n : Nat, n ≤ L.length ∧ i = .int .i64 n ∧ Hid (seenV (getM (L.drop n) k t) = E)) (fun i => L.length - (intOf i).toNat)
  case atStart => exact ⟨0, by omega, rfl, HE⟩
  case round =>
    obtain ⟨n, hn, rfl, HI⟩ := hrel
    clear HE
    have l0 : (0 : Int) ≤ n := by omega
    by_cases hlt : n < L.length
    · obtain ⟨y, hy⟩ : ∃ y, L[n]? = some y := ⟨L[n]'hlt, List.getElem?_eq_getElem hlt⟩
      have hd : L.drop n = y :: L.drop (n + 1) := by
        obtain ⟨hl, rfl⟩ := List.getElem?_eq_some_iff.1 hy
        exact List.drop_eq_getElem_cons hl
      obtain ⟨g, o, e, hg, h0, h1, h2, h3⟩ := HA.out.2 n y hy
      subst e
      have l1 : (n : Int) < L.length := by omega
      have q : decide (n < L.length) = true := by simpa using hlt
      have hI := HI.out
      rw [hd] at hI
      obtain ⟨yk, yt, yd, yv⟩ := y
      simp only at h0 h1 h2 h3
      clear hy hd HI
      by_cases hk : yk = k
      · have v1 : (yk.toList == k.toList) = true := by rw [hk]; simp
        by_cases ht : yt ≤ t
        · have v2 : decide (yt ≤ t) = true := by simpa using ht
          rw [getM, List.find?_cons_of_pos (by simp [pK, hk, ht])] at hI
          cases yd
          · simp only [Bool.false_eq_true, if_false] at hI
            have HI := Lib.hid hI
            clear hI hk ht
            go_wp2
            obtain ⟨hh, hc⟩ := FIN.out yk yt false yv
            refine bodyPost_ret (results_cell_row_tmp (p := 6) (u := 7) (ty := 24) rfl _ _ kb 24 _ (0, 0) _ rfl hh Try.underlying24 rfl (by kernel_rfl)) rfl ⟨?_, hc⟩
            rw [← HI.out]; rfl
          · simp only [if_true] at hI
            have HI := Lib.hid hI
            clear hI hk ht
            go_wp2
            obtain ⟨hh, hc⟩ := FIN.out ⟨#[]⟩ 0 false ⟨#[]⟩
            refine bodyPost_ret (results_cell_row_tmp (p := 6) (u := 7) (ty := 24) rfl _ _ kb 24 _ (0, 0) _ rfl hh Try.underlying24 rfl (by kernel_rfl)) rfl ⟨?_, hc⟩
            rw [← HI.out]; rfl
        · have v2 : decide (yt ≤ t) = false := by simpa using ht
          rw [getM, List.find?_cons_of_neg (by simp [pK, ht])] at hI
          have HI := Lib.hid hI
          clear hI hk ht
          go_wp2
          go_round
          case rel => exact ⟨n + 1, by omega, by go_num, HI⟩
          case measure => simp [intOf]; omega
      · have v1 : (yk.toList == k.toList) = false := by rw [beq_eq_false_iff_ne]; exact fun e => hk (toList_inj e)
        rw [getM, List.find?_cons_of_neg (by simp [pK, hk])] at hI
        have HI := Lib.hid hI
        clear hI hk
        go_wp2
        go_round
        case rel => exact ⟨n + 1, by omega, by go_num, HI⟩
        case measure => simp [intOf]; omega
    · obtain rfl : n = L.length := by omega
      have q : decide (L.length < L.length) = false := by simp
      have hI := HI.out
      rw [List.drop_length] at hI
      have HI := Lib.hid hI
      clear hI
      go_wp2
      obtain ⟨hh, hc⟩ := FIN.out ⟨#[]⟩ 0 false ⟨#[]⟩
      refine bodyPost_ret (results_cell_row_tmp (p := 6) (u := 7) (ty := 24) rfl _ _ kb 24 _ (0, 0) _ rfl hh Try.underlying24 rfl (by kernel_rfl)) rfl ⟨?_, hc⟩
      rw [← HI.out]; rfl
end Go.Proofs.Ytnhookblhckmlaa
