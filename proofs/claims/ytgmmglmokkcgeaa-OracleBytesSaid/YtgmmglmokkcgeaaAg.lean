/- Walks: the document's rising lists of numbers. -/
import Derived.Test.YtgmmglmokkcgeaaAf
namespace Go.Proofs.Ytgmmglmokkcgeaa
set_option linter.unusedVariables false
set_option linter.unusedSimpArgs false
open Go.RowKit Mk Go.Sort

theorem timesV_len (xs : List Nat) : (timesV xs).length = xs.length := by simp [timesV]
theorem num_cell {w : World} {so : Option Addr} {n cp : Nat} {xs : List Nat} (h : sl w 30 1 (.slice so n cp) n (timesV xs)) {j : Nat} (hj : j < n) : ∃ g x, so = some ⟨g, 0, none⟩ ∧ g < w.heap.size ∧ w.cell? ⟨g, j, none⟩ = some (.int .u64 (x : Nat)) ∧ xs[j]? = some x := by
  have hl : xs.length = n := by have := h.1; simp [timesV] at this; exact this
  obtain ⟨g, cap, e, hc⟩ := h.cell (i := j) (u := nV xs[j]) (by unfold timesV; rw [List.getElem?_map, List.getElem?_eq_getElem (by omega)]; rfl)
  simp only [Value.slice.injEq] at e
  obtain ⟨rfl, -, rfl⟩ := e
  exact ⟨g, xs[j], rfl, h.lt rfl, hc, List.getElem?_eq_getElem (by omega)⟩
theorem sl_shape {w : World} {e : TypeId} {size n : Nat} {v : Value} {xs : List Value} (h : sl w e size v n xs) : ∃ lo lc, v = .slice lo n lc := by
  rcases h.2 with ⟨rfl, rfl⟩ | ⟨g, cap, cur, rfl, -⟩
  · exact ⟨_, _, rfl⟩
  · exact ⟨_, _, rfl⟩

set_option maxRecDepth 100000 in
theorem has_any {w : World} {so : Option Addr} {n cp : Nat} {xs : List Nat} (h : sl w 30 1 (.slice so n cp) n (timesV xs)) (hm : n ≤ 200) (t : Nat) (ht : ∀ x ∈ xs, x < t) :
    Calls Try.prog 59 #[.slice so n cp, .int .u64 (t : Nat)] w fun e w' => e = .returned (.bool false) ∧ w' = w := by
  have H := Lib.hid h
  have HT := Lib.hid ht
  clear h ht
  go_enter Try.func59, Try.ntmps59
  go_wp2
  go_loop [5] (fun i => ∃ j : Nat, i = .int .i64 j ∧ j ≤ n) (fun i => n - (intOf i).toNat)
  case atStart => exact ⟨0, rfl, by omega⟩
  case round =>
    obtain ⟨j, rfl, hj⟩ := hrel
    by_cases hlt : j < n
    · have hd : decide ((j : Int) < n) = true := decide_eq_true (by omega)
      obtain ⟨g, x, rfl, hg, hc, hx⟩ := num_cell H.out hlt
      have hxt := HT.out x (List.mem_of_getElem? hx)
      have l1 : (j : Int) < n := by omega
      have l0 : (0 : Int) ≤ j := by omega
      have d3 : decide ((x : Int) = t) = false := decide_eq_false (by omega)
      have d3' : ((x : Int) == (t : Int)) = false := beq_eq_false_iff_ne.2 (by omega)
      clear hx
      go_wp2
      go_round
      case rel => exact ⟨j + 1, by go_num, by omega⟩
      case measure => simp [intOf]; omega
    · have hd : decide ((j : Int) < n) = false := decide_eq_false (by omega)
      go_wp2
      go_ret
      exact ⟨rfl, rfl⟩

/-- What the copy is behind j of them. -/
structure RiseAt (w : World) (xs : List Nat) (j : Nat) (v : Value) (wr : World) : Prop where
  chg : Chg (fun _ => False) w wr
  row : sl wr 30 1 v j (timesV (xs.take j))
  own : ∀ g, v.ownBlock = some g → w.heap.size ≤ g
theorem RiseAt.more {w wr w2 : World} {xs : List Nat} {j : Nat} {v v' : Value} (h : RiseAt w xs j v wr) {x : Nat} (hx : xs[j]? = some x) (c : Chg (fun _ => False) wr w2) {w3 : World} (hsl : sl w3 30 1 v' (j + 1) (timesV (xs.take j) ++ [.int .u64 (x : Nat)])) (hg : w2.grownBy w3 v.ownBlock) (hat : v'.ownBlock = v.ownBlock ∨ v'.ownBlock = some w2.heap.size) : RiseAt w xs (j + 1) v' w3 where
  chg := (h.chg.trans c).grown hg (fun i hi => Or.inr (h.own i hi))
  row := by
    have e : timesV (xs.take (j + 1)) = timesV (xs.take j) ++ [.int .u64 (x : Nat)] := by
      have hj : j < xs.length := (List.getElem?_eq_some_iff.1 hx).1
      rw [List.take_succ_eq_append_getElem hj]
      simp [timesV, nV, (List.getElem?_eq_some_iff.1 hx).2]
    rw [e]; exact hsl
  own g hg' := by
    rcases hat with e | e
    · exact h.own g (by rw [← e]; exact hg')
    · rw [e] at hg'; simp at hg'; have := (h.chg.trans c).size; omega
set_option maxRecDepth 100000 in
set_option maxHeartbeats 2000000 in
theorem rise_any {w : World} {so : Option Addr} {n cp : Nat} {xs : List Nat} (h : sl w 30 1 (.slice so n cp) n (timesV xs)) (hm : n ≤ 200) (t : Nat) (ht : ∀ x ∈ xs, x < t) :
    Calls Try.prog 60 #[.slice so n cp, .int .u64 (t : Nat)] w fun e w' => ∃ v, e = .returned v ∧ RiseAt w (xs ++ [t]) (n + 1) v w' := by
  have hln : xs.length = n := by have := h.1; simp [timesV] at this; exact this
  have H := Lib.hid h
  have HT := Lib.hid ht
  have HLN := Lib.hid hln
  obtain ⟨ie, ze, hie, hze, hsze, hbye, hzse⟩ := info30
  clear h ht hln
  go_enter Try.func60, Try.ntmps60
  go_wp2
  go_loopw [5, 6, 7] (fun v p i wr => ∃ j : Nat, i = .int .i64 j ∧ p = .bool false ∧ j ≤ n ∧ Hid (RiseAt w (xs ++ [t]) j v wr)) (fun v p i _ => n - (intOf i).toNat)
  case atStart => exact ⟨0, rfl, rfl, by omega, Lib.hid ⟨Chg.refl _ _, sl_nil _ _ _, by simp [Value.ownBlock]⟩⟩
  case round =>
    obtain ⟨j, rfl, rfl, hj, HR⟩ := hrel
    obtain ⟨lo, lc, rfl⟩ := sl_shape HR.out.row
    by_cases hlt : j < n
    · have hd : decide ((j : Int) < n) = true := decide_eq_true (by omega)
      obtain ⟨g, x, rfl, hg, hc, hx⟩ := num_cell H.out hlt
      have hxt := HT.out x (List.mem_of_getElem? hx)
      have c0 : wr.cell? ⟨g, j, none⟩ = some (.int .u64 (x : Nat)) := (World.cell?_of_block (a := ⟨g, j, none⟩) (HR.out.chg.block g hg (fun f => f))).trans hc
      have hgr : g < wr.heap.size := Nat.lt_of_lt_of_le hg HR.out.chg.size
      have l1 : (j : Int) < n := by omega
      have l0 : (0 : Int) ≤ j := by omega
      have d3 : decide ((t : Int) < x) = false := decide_eq_false (by omega)
      have HX := Lib.hid (show (xs ++ [t])[j]? = some x by rw [List.getElem?_append_left (by rw [HLN.out]; omega)]; exact hx)
      have HN := Lib.hid (cell_new_one (Go.heap_alloc_new wr (.cells #[.int .u64 (x : Nat)] 30)))
      have HS := Lib.hid (HR.out.row.stay (w' := wr.alloc (.cells #[.int .u64 (x : Nat)] 30)) (fun g hg => Below.heap_alloc _ _ _ (HR.out.row.lt hg)))
      clear hx hc hg
      go_wp2_with (refine wpList_append_sl (by rfl) _ _ 27 (by rfl) 30 ie ze 1 8 Try.underlying27 hie hze hsze hbye hzse (by decide) (.slice lo j lc) j (timesV ((xs ++ [t]).take j)) (by rfl) HS.out (some ⟨wr.heap.size, 0, none⟩) 1 1 [.int .u64 (x : Nat)] (by rfl) (by rfl) (fun _ => ⟨_, rfl, HN.out⟩) (fun h => absurd h (by decide)) (by simp [Value.oneCell']) (by simp only [maxLen]; omega) (by omega) ?_; intro v' w2 hsl hgrow hat; have HR2 := Lib.hid (HR.out.more HX.out ((Chg.refl _ _).alloc _) hsl hgrow hat); clear hsl hgrow hat)
      go_round
      case rel => exact ⟨j + 1, by go_num, rfl, by omega, HR2⟩
      case measure => simp [intOf]; omega
    · have hd : decide ((j : Int) < n) = false := decide_eq_false (by omega)
      obtain rfl : j = n := by omega
      have HX := Lib.hid (show (xs ++ [t])[j]? = some t by rw [List.getElem?_append_right (by rw [HLN.out]; omega), HLN.out]; simp)
      have HN := Lib.hid (cell_new_one (Go.heap_alloc_new wr (.cells #[.int .u64 (t : Nat)] 30)))
      have HS := Lib.hid (HR.out.row.stay (w' := wr.alloc (.cells #[.int .u64 (t : Nat)] 30)) (fun g hg => Below.heap_alloc _ _ _ (HR.out.row.lt hg)))
      go_wp2_with (refine wpList_append_sl (by rfl) _ _ 27 (by rfl) 30 ie ze 1 8 Try.underlying27 hie hze hsze hbye hzse (by decide) (.slice lo j lc) j (timesV ((xs ++ [t]).take j)) (by rfl) HS.out (some ⟨wr.heap.size, 0, none⟩) 1 1 [.int .u64 (t : Nat)] (by rfl) (by rfl) (fun _ => ⟨_, rfl, HN.out⟩) (fun h => absurd h (by decide)) (by simp [Value.oneCell']) (by simp only [maxLen]; omega) (by omega) ?_; intro v' w2 hsl hgrow hat; have HR2 := Lib.hid (HR.out.more HX.out ((Chg.refl _ _).alloc _) hsl hgrow hat); clear hsl hgrow hat)
      go_ret
      exact ⟨_, rfl, HR2.out⟩
set_option maxRecDepth 100000 in
theorem riseUp_any {w : World} {so : Option Addr} {n cp : Nat} {xs : List Nat} (h : sl w 30 1 (.slice so n cp) n (timesV xs)) (hm : n ≤ 200) (t : Nat) (ht : ∀ x ∈ xs, x < t) :
    Calls Try.prog 29 #[.slice so n cp, .int .u64 (t : Nat)] w fun e w' => ∃ v, e = .returned v ∧ RiseAt w (xs ++ [t]) (n + 1) v w' := by
  have HA := Lib.hid (has_any h hm t ht)
  have RA := Lib.hid (rise_any h hm t ht)
  clear h ht
  go_enter Try.func29, Try.ntmps29
  go_wp2_with fail
  refine HA.out.mono ?_
  rintro e w1 ⟨rfl, rfl⟩
  go_wp2_with fail
  refine RA.out.mono ?_
  rintro e w1 ⟨v, rfl, hr⟩
  have HR := Lib.hid hr
  clear hr
  go_wp2
  go_ret
  exact ⟨_, rfl, HR.out⟩
theorem taken_lt {xs : List Nat} (hs : xs.Pairwise (· < ·)) {j x : Nat} (hx : xs[j]? = some x) : ∀ y ∈ xs.take j, y < x := by
  intro y hy
  obtain ⟨hj, rfl⟩ := List.getElem?_eq_some_iff.1 hx
  obtain ⟨i, hi, rfl⟩ := List.getElem_of_mem hy
  rw [List.getElem_take]
  rw [List.length_take] at hi
  exact List.pairwise_iff_getElem.1 hs i j (by omega) hj (by omega)
set_option maxRecDepth 100000 in
set_option maxHeartbeats 2000000 in
theorem rising_any {w : World} {so : Option Addr} {n cp : Nat} {xs : List Nat} (h : sl w 30 1 (.slice so n cp) n (timesV xs)) (hm : n ≤ 200) (hs : xs.Pairwise (· < ·)) :
    Calls Try.prog 13 #[.slice so n cp] w fun e w' => ∃ v, e = .returned v ∧ RiseAt w xs n v w' := by
  have hln : xs.length = n := by have := h.1; simp [timesV] at this; exact this
  have H := Lib.hid h
  have HS := Lib.hid hs
  have HLN := Lib.hid hln
  clear h hs hln
  go_enter Try.func13, Try.ntmps13
  go_wp2
  go_loopw [3, 4] (fun v i wr => ∃ j : Nat, i = .int .i64 j ∧ j ≤ n ∧ Hid (RiseAt w xs j v wr)) (fun v i _ => n - (intOf i).toNat)
  case atStart => exact ⟨0, rfl, by omega, Lib.hid ⟨Chg.refl _ _, sl_nil _ _ _, by simp [Value.ownBlock]⟩⟩
  case round =>
    obtain ⟨j, rfl, hj, HR⟩ := hrel
    obtain ⟨lo, lc, rfl⟩ := sl_shape HR.out.row
    by_cases hlt : j < n
    · have hd : decide ((j : Int) < n) = true := decide_eq_true (by omega)
      obtain ⟨g, x, rfl, hg, hc, hx⟩ := num_cell H.out hlt
      have c0 : wr.cell? ⟨g, j, none⟩ = some (.int .u64 (x : Nat)) := (World.cell?_of_block (a := ⟨g, j, none⟩) (HR.out.chg.block g hg (fun f => f))).trans hc
      have l1 : (j : Int) < n := by omega
      have l0 : (0 : Int) ≤ j := by omega
      have RU := Lib.hid (riseUp_any HR.out.row (by omega) x (taken_lt HS.out hx))
      have HTK := Lib.hid (show xs.take j ++ [x] = xs.take (j + 1) by
        obtain ⟨h1, rfl⟩ := List.getElem?_eq_some_iff.1 hx
        exact (List.take_succ_eq_append_getElem h1).symm)
      clear hx hc hg
      go_wp2_with fail
      refine RU.out.mono ?_
      rintro e w1 ⟨v, rfl, hr⟩
      have HR2 := Lib.hid (show RiseAt w xs (j + 1) v w1 from ⟨HR.out.chg.trans hr.chg, by have := hr.row; rw [HTK.out, List.take_take, Nat.min_self] at this; exact this, fun g e => Nat.le_trans HR.out.chg.size (hr.own g e)⟩)
      clear hr
      go_wp2
      go_round
      case rel => exact ⟨j + 1, by go_num, by omega, HR2⟩
      case measure => simp [intOf]; omega
    · have hd : decide ((j : Int) < n) = false := decide_eq_false (by omega)
      obtain rfl : j = n := by omega
      go_wp2
      go_ret
      exact ⟨_, rfl, HR.out⟩
set_option maxRecDepth 100000 in
theorem same_numbers {w : World} {so ro : Option Addr} {n cp rc : Nat} {xs : List Nat} (h : sl w 30 1 (.slice so n cp) n (timesV xs)) (k : sl w 30 1 (.slice ro n rc) n (timesV xs)) (hm : n ≤ 200) :
    Calls Try.prog 12 #[.slice so n cp, .slice ro n rc] w fun e w' => e = .returned (.bool true) ∧ Chg (fun _ => False) w w' := by
  have H := Lib.hid h
  have K := Lib.hid k
  clear h k
  go_enter Try.func12, Try.ntmps12
  go_wp2
  go_loopw [5] (fun i wr => ∃ j : Nat, i = .int .i64 j ∧ j ≤ n ∧ Hid (Chg (fun _ => False) w wr)) (fun i _ => n - (intOf i).toNat)
  case atStart => exact ⟨0, rfl, by omega, Lib.hid (Chg.refl _ _)⟩
  case round =>
    obtain ⟨j, rfl, hj, HC⟩ := hrel
    by_cases hlt : j < n
    · have hd : decide ((j : Int) < n) = true := decide_eq_true (by omega)
      obtain ⟨g, x, rfl, hg, hc, hx⟩ := num_cell H.out hlt
      obtain ⟨g2, x2, rfl, hg2, hc2, hx2⟩ := num_cell K.out hlt
      obtain rfl : x = x2 := by rw [hx] at hx2; exact Option.some.inj hx2
      have c0 : wr.cell? ⟨g, j, none⟩ = some (.int .u64 (x : Nat)) := (World.cell?_of_block (a := ⟨g, j, none⟩) (HC.out.block g hg (fun f => f))).trans hc
      have c1 : wr.cell? ⟨g2, j, none⟩ = some (.int .u64 (x : Nat)) := (World.cell?_of_block (a := ⟨g2, j, none⟩) (HC.out.block g2 hg2 (fun f => f))).trans hc2
      have l1 : (j : Int) < n := by omega
      have l0 : (0 : Int) ≤ j := by omega
      have d3 : ((x : Int) != (x : Int)) = false := by simp
      clear hx hx2 hc hc2 hg hg2
      go_wp2
      go_region
      go_wp2
      go_round
      case rel => exact ⟨j + 1, by go_num, by omega, Lib.hid (HC.out.drew)⟩
      case measure => simp [intOf]; omega
    · have hd : decide ((j : Int) < n) = false := decide_eq_false (by omega)
      go_wp2
      go_ret
      exact ⟨rfl, HC.out⟩
end Go.Proofs.Ytgmmglmokkcgeaa
