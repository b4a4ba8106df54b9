/- Walks: may, not, New, Len, seen, Get. -/
import Derived.Test.YtnhookblhckmlaaK4
namespace Go.Proofs.Ytnhookblhckmlaa
open Go.RowKit Mk Go.Sort

def mayM (c : CellM) : Int := if 8192 < c.key.size ∨ 65536 < c.val.size then 4 else if c.key.toList = [] ∨ c.time = 0 ∨ c.del = true ∧ c.val.toList ≠ [] then 2 else 0

set_option maxHeartbeats 1000000 in
theorem may_any (c : CellM) (w : World) :
    Calls Try.prog 31 #[cellV c] w fun e w' => e = .returned (.int .i64 (mayM c)) ∧ Below w.heap.size w w' := by
  obtain ⟨k, t, d, v⟩ := c
  unfold cellV
  simp only
  obtain ⟨W2, HW2⟩ : ∃ W, Hid (w.alloc (.cells #[.string k, .int .u64 t, .bool d, .string v] 24) = W) := ⟨_, Lib.hid rfl⟩
  have hb : W2.heap[w.heap.size]? = some (.cells #[.string k, .int .u64 t, .bool d, .string v] 24) := by rw [← HW2.out]; exact Go.heap_alloc_new _ _
  have c1 : W2.cell? ⟨w.heap.size, 0, none⟩ = some (.string k) := cell_of hb (by simp)
  have c2 : W2.cell? ⟨w.heap.size, 1, none⟩ = some (.int .u64 t) := cell_of hb (by simp)
  have c3 : W2.cell? ⟨w.heap.size, 2, none⟩ = some (.bool d) := cell_of hb (by simp)
  have c4 : W2.cell? ⟨w.heap.size, 3, none⟩ = some (.string v) := cell_of hb (by simp)
  have HB := Lib.hid (show Below w.heap.size w W2 from by rw [← HW2.out]; exact (Below.refl w.heap.size w).alloc (Nat.le_refl _) _)
  obtain ⟨p, hp⟩ : ∃ p, decide ((8192 : Int) < k.size) = p := ⟨_, rfl⟩
  obtain ⟨q, hq⟩ : ∃ q, decide ((65536 : Int) < v.size) = q := ⟨_, rfl⟩
  obtain ⟨r, hr⟩ : ∃ r, (k.toList == []) = r := ⟨_, rfl⟩
  obtain ⟨s, hs⟩ : ∃ s, ((t : Int) == 0) = s := ⟨_, rfl⟩
  obtain ⟨x, hx⟩ : ∃ x, (v.toList == []) = x := ⟨_, rfl⟩
  have ev : mayM ⟨k, t, d, v⟩ = if p || q then 4 else if r || s || (d && !x) then 2 else 0 := by
    unfold mayM
    rw [← hp, ← hq, ← hr, ← hs, ← hx]
    have : ((t : Int) == 0) = decide (t = 0) := by rw [Bool.eq_iff_iff]; simp
    rw [this]
    have h1 : (k.toList == []) = decide (k.toList = []) := by rw [Bool.eq_iff_iff]; simp
    have h2 : (v.toList == []) = decide (v.toList = []) := by rw [Bool.eq_iff_iff]; simp
    rw [h1, h2]
    have h3 : decide ((8192 : Int) < k.size) = decide (8192 < k.size) := by simp only [decide_eq_decide]; omega
    have h4 : decide ((65536 : Int) < v.size) = decide (65536 < v.size) := by simp only [decide_eq_decide]; omega
    rw [h3, h4]
    by_cases a1 : 8192 < k.size <;> by_cases a2 : 65536 < v.size <;> by_cases a3 : k.toList = [] <;> by_cases a4 : t = 0 <;> by_cases a5 : v.toList = [] <;> cases d <;> simp [a1, a2, a3, a4, a5]
  rw [ev]
  clear ev hb
  have D : p = true ∨ (p = false ∧ q = true) ∨ (p = false ∧ q = false ∧ r = true) ∨ (p = false ∧ q = false ∧ r = false ∧ s = true) ∨ (p = false ∧ q = false ∧ r = false ∧ s = false ∧ d = false) ∨ (p = false ∧ q = false ∧ r = false ∧ s = false ∧ d = true ∧ x = true) ∨ (p = false ∧ q = false ∧ r = false ∧ s = false ∧ d = true ∧ x = false) := by
    cases p <;> cases q <;> cases r <;> cases s <;> cases d <;> cases x <;> simp
  rcases D with rfl | ⟨rfl, rfl⟩ | ⟨rfl, rfl, rfl⟩ | ⟨rfl, rfl, rfl, rfl⟩ | ⟨rfl, rfl, rfl, rfl, rfl⟩ | ⟨rfl, rfl, rfl, rfl, rfl, rfl⟩ | ⟨rfl, rfl, rfl, rfl, rfl, rfl⟩
  all_goals
    go_enter Try.func31, Try.ntmps31
    go_wp2
    rw [HW2.out]
    go_ret
    exact ⟨by simp, HB.out⟩

theorem not_nil (w : World) :
    Calls Try.prog 30 #[.pointer none] w fun e w' => e = .returned (.bool true) ∧ w' = w := by
  go_enter Try.func30, Try.ntmps30
  go_wp2
  go_ret
  exact ⟨rfl, rfl⟩
theorem not_some {w : World} {b : Nat} {lv : Value} {t : TypeId} (h : w.heap[b]? = some (.cells #[lv, .bool true] t)) :
    Calls Try.prog 30 #[.pointer (some ⟨b, 0, none⟩)] w fun e w' => e = .returned (.bool false) ∧ w' = w := by
  have c1 : w.cell? ⟨b, 1, none⟩ = some (.bool true) := cell_of h (by simp)
  go_enter Try.func30, Try.ntmps30
  go_wp2
  go_ret
  exact ⟨rfl, rfl⟩
theorem new_any (w : World) :
    Calls Try.prog 11 #[] w fun e w' => e = .returned (.pointer (some ⟨w.heap.size, 0, none⟩)) ∧ w' = w.alloc (.cells #[.slice none 0 0, .bool true] 65) := by
  go_enter Try.func11, Try.ntmps11
  go_wp2
  go_ret
  exact ⟨rfl, rfl⟩
theorem len_any {w : World} {b n c : Nat} {o : Option Addr} {t : TypeId} (h : w.heap[b]? = some (.cells #[.slice o n c, .bool true] t)) :
    Calls Try.prog 24 #[.pointer (some ⟨b, 0, none⟩)] w fun e w' => e = .returned (.int .i64 n) ∧ w' = w := by
  have c0 : w.cell? ⟨b, 0, none⟩ = some (.slice o n c) := cell_of h (by simp)
  have N := not_some h
  go_enter Try.func24, Try.ntmps24
  go_wp2_with fail
  refine N.mono ?_
  rintro e w' ⟨rfl, rfl⟩
  go_wp2
  go_ret
  exact ⟨rfl, rfl⟩
theorem len_nil (w : World) :
    Calls Try.prog 24 #[.pointer none] w fun e w' => e = .returned (.int .i64 0) ∧ w' = w := by
  have N := not_nil w
  go_enter Try.func24, Try.ntmps24
  go_wp2_with fail
  refine N.mono ?_
  rintro e w' ⟨rfl, rfl⟩
  go_wp2
  go_ret
  exact ⟨rfl, rfl⟩

theorem results_cell_row_tmp {P : Program} {fn : Func} {p u : Tmp} {ty : TypeId} (h : fn.results = #[.cell p ty, .tmp u]) (tmps : Array Value) (w : World) (g : Nat) (t : TypeId) (cs : Array Value) (fr : Nat × Nat) (d : TypeDesc)
    (hp : tmps.getD p undef = .pointer (some ⟨g, 0, none⟩)) (hg : w.heap[g]? = some (.cells cs t fr))
    (hu : P.underlying ty = some d) (hd : (match d with | .struct _ | .array _ _ => true | _ => false) = true) (hi : (P.info? ty).map (·.size) = some cs.size) :
    (results fn tmps).run P w = .ok (.tuple #[.agg cs, tmps.getD u undef]) w := by
  rw [results_cell_tmp h, hp]
  simp [asAddr, run_loadVar_row w g t ty cs fr d hg hu hd hi, Result.andThen]
theorem fin4 {w : World} {kb : Nat} {t : TypeId} {c0 c1 c2 c3 : Value} (h : w.heap[kb]? = some (.cells #[c0, c1, c2, c3] t)) (v0 v1 v2 v3 : Value) :
    ((((w.setCell ⟨kb, 0, none⟩ v0).setCell ⟨kb, 1, none⟩ v1).setCell ⟨kb, 2, none⟩ v2).setCell ⟨kb, 3, none⟩ v3).heap[kb]? = some (.cells #[v0, v1, v2, v3] t) ∧ Chg (fun g => g = kb) w ((((w.setCell ⟨kb, 0, none⟩ v0).setCell ⟨kb, 1, none⟩ v1).setCell ⟨kb, 2, none⟩ v2).setCell ⟨kb, 3, none⟩ v3) :=
  ⟨by rw [Mk.heap_setCell_same (Mk.heap_setCell_same (Mk.heap_setCell_same (Mk.heap_setCell_same h v0) v1) v2) v3]; rfl,
    ((((Chg.refl (fun g => g = kb) w).setCell (a := ⟨kb, 0, none⟩) (Or.inl rfl) v0).setCell (a := ⟨kb, 1, none⟩) (Or.inl rfl) v1).setCell (a := ⟨kb, 2, none⟩) (Or.inl rfl) v2).setCell (a := ⟨kb, 3, none⟩) (Or.inl rfl) v3⟩
theorem Chg.fresh {w w1 w2 : World} {kb : Nat} (h : RowKit.Below w.heap.size w w1) (k : Chg (fun g => g = kb) w1 w2) (hk : w.heap.size ≤ kb) : RowKit.Below w.heap.size w w2 :=
  h.trans (k.below (B := w.heap.size) (fun i e => by subst e; exact hk) h.size)

def seenM (L : List CellM) (k : ByteArray) (t : Nat) : Option CellM :=
  match L[bsM L ⟨k, t, false, ⟨#[]⟩⟩]? with
  | some c => if c.key.toList = k.toList ∧ c.del = false then some c else none
  | none => none
def zeroC : CellM := ⟨⟨#[]⟩, 0, false, ⟨#[]⟩⟩
def seenV : Option CellM → Value
  | some c => .tuple #[cellV c, .bool true]
  | none => .tuple #[cellV zeroC, .bool false]

set_option maxRecDepth 100000 in
set_option maxHeartbeats 1000000 in
theorem seen_any {w : World} {lv : Value} {L : List CellM} (h : Has w lv L) (hL : L.length ≤ 1099511627776) (k : ByteArray) (t : Nat) :
    Calls Try.prog 34 #[lv, .string k, .int .u64 t] w fun e w' => e = .returned (seenV (seenM L k t)) ∧ RowKit.Below w.heap.size w w' := by
  obtain ⟨o, c, rfl⟩ := h.shape
  obtain ⟨W2, HW2⟩ : ∃ W, Hid (w.alloc (.cells #[.string ⟨#[]⟩, .int .u64 0, .bool false, .string ⟨#[]⟩] 24) = W) := ⟨_, Lib.hid rfl⟩
  have HB := Lib.hid (show RowKit.Below w.heap.size w W2 from by rw [← HW2.out]; exact (Below.refl w.heap.size w).alloc (Nat.le_refl _) _)
  have hX : W2.heap[w.heap.size]? = some (.cells #[.string ⟨#[]⟩, .int .u64 0, .bool false, .string ⟨#[]⟩] 24) := by rw [← HW2.out]; exact Go.heap_alloc_new _ _
  have HH := Lib.hid (h.stay HB.out)
  have A := bsearch_any HH.out hL ⟨k, t, false, ⟨#[]⟩⟩
  unfold cellV at A
  simp only at A
  have hle := bsM_le L ⟨k, t, false, ⟨#[]⟩⟩
  obtain ⟨E, HE⟩ : ∃ E, Hid (seenV (seenM L k t) = E) := ⟨_, Lib.hid rfl⟩
  rw [HE.out]
  have hE := HE.out
  unfold seenM at hE
  obtain ⟨a, ha⟩ : ∃ a, bsM L ⟨k, t, false, ⟨#[]⟩⟩ = a := ⟨_, rfl⟩
  rw [ha] at A hle hE
  generalize bsIs L ⟨k, t, false, ⟨#[]⟩⟩ = z at *
  have HX := Lib.hid hX
  clear h ha HE hX
  generalize hkb : w.heap.size = kb at *
  have hkw : kb ≤ W2.heap.size := HB.out.size |> fun h => by omega
  go_enter Try.func34, Try.ntmps34
  go_wp2_with fail
  rw [HW2.out]
  refine A.mono ?_
  rintro e w' ⟨rfl, hb⟩
  have hx := (hb.block _ (Array.getElem?_eq_some_iff.1 HX.out).1).trans HX.out
  have HX' := Lib.hid hx
  have r0 : w'.frozen? ⟨kb, 0, none⟩ = false := frozen_of hx
  have r1 : w'.frozen? ⟨kb, 1, none⟩ = false := frozen_of hx
  have r2 : w'.frozen? ⟨kb, 2, none⟩ = false := frozen_of hx
  have r3 : w'.frozen? ⟨kb, 3, none⟩ = false := frozen_of hx
  have q0 : w'.cell? ⟨kb, 0, none⟩ = some (.string ⟨#[]⟩) := cell_of hx (by simp)
  have q1 : w'.cell? ⟨kb, 1, none⟩ = some (.int .u64 0) := cell_of hx (by simp)
  have q2 : w'.cell? ⟨kb, 2, none⟩ = some (.bool false) := cell_of hx (by simp)
  have q3 : w'.cell? ⟨kb, 3, none⟩ = some (.string ⟨#[]⟩) := cell_of hx (by simp)
  have HBW := Lib.hid (HB.out.trans (hb.mono hkw))
  have HHW := Lib.hid (HH.out.stay hb)
  clear HB HH HX hx hb A
  have none_case : ∀ w2, w2 = ((((w'.setCell ⟨kb, 0, none⟩ (.string ⟨#[]⟩)).setCell ⟨kb, 1, none⟩ (.int .u64 0)).setCell ⟨kb, 2, none⟩ (.bool false)).setCell ⟨kb, 3, none⟩ (.string ⟨#[]⟩)) → w2.heap[kb]? = some (.cells #[.string ⟨#[]⟩, .int .u64 0, .bool false, .string ⟨#[]⟩] 24) ∧ RowKit.Below kb w w2 := by
    rintro w2 rfl
    obtain ⟨hh, hc⟩ := fin4 HX'.out (.string ⟨#[]⟩) (.int .u64 0) (.bool false) (.string ⟨#[]⟩)
    have := HBW.out
    subst hkb
    exact ⟨hh, Chg.fresh this hc (Nat.le_refl _)⟩
  have NC := Lib.hid none_case
  clear none_case
  by_cases hn : a < L.length
  · obtain ⟨y, hy⟩ : ∃ y, L[a]? = some y := ⟨L[a]'hn, List.getElem?_eq_getElem hn⟩
    obtain ⟨g, cap, e, h0, h1, h2, h3⟩ := HHW.out.cells hy
    cases e
    rw [hy] at hE
    simp only at hE
    obtain ⟨yk, yt, yd, yv⟩ := y
    simp only at hE h0 h1 h2 h3
    have l1 : (a : Int) < L.length := by omega
    have l0 : (0 : Int) ≤ a := by omega
    have l2 : ((a : Int) == L.length) = false := by rw [beq_eq_false_iff_ne]; omega
    by_cases hk : yk.toList = k.toList
    · have q : (yk.toList == k.toList) = true := by simpa using hk
      cases yd
      · rw [if_pos ⟨hk, rfl⟩] at hE
        have HE := Lib.hid hE
        clear hE hy hn hle HHW hk
        go_wp2
        obtain ⟨hh, hc⟩ := fin4 HX'.out (.string yk) (.int .u64 yt) (.bool false) (.string yv)
        refine bodyPost_ret (results_cell_row_tmp (p := 6) (u := 7) (ty := 24) rfl _ _ kb 24 _ (0, 0) _ rfl hh Try.underlying24 rfl (by kernel_rfl)) rfl ⟨?_, ?_⟩
        · rw [← HE.out]; rfl
        · have := HBW.out
          subst hkb
          exact Chg.fresh this hc (Nat.le_refl _)
      · rw [if_neg (by simp)] at hE
        have HE := Lib.hid hE
        clear hE hy hn hle HHW hk
        go_wp2
        obtain ⟨hh, hc⟩ := NC.out _ rfl
        refine bodyPost_ret (results_cell_row_tmp (p := 6) (u := 7) (ty := 24) rfl _ _ kb 24 _ (0, 0) _ rfl hh Try.underlying24 rfl (by kernel_rfl)) rfl ⟨?_, hc⟩
        rw [← HE.out]; rfl
    · have q : (yk.toList == k.toList) = false := by simpa using hk
      rw [if_neg (fun h => hk h.1)] at hE
      have HE := Lib.hid hE
      clear hE hy hn hle HHW hk
      go_wp2
      obtain ⟨hh, hc⟩ := NC.out _ rfl
      refine bodyPost_ret (results_cell_row_tmp (p := 6) (u := 7) (ty := 24) rfl _ _ kb 24 _ (0, 0) _ rfl hh Try.underlying24 rfl (by kernel_rfl)) rfl ⟨?_, hc⟩
      rw [← HE.out]; rfl
  · obtain rfl : a = L.length := by omega
    have hn0 : L[L.length]? = none := List.getElem?_eq_none (by omega)
    rw [hn0] at hE
    simp only at hE
    have HE := Lib.hid hE
    clear hE hn hle HHW
    go_wp2
    obtain ⟨hh, hc⟩ := NC.out _ rfl
    refine bodyPost_ret (results_cell_row_tmp (p := 6) (u := 7) (ty := 24) rfl _ _ kb 24 _ (0, 0) _ rfl hh Try.underlying24 rfl (by kernel_rfl)) rfl ⟨?_, hc⟩
    rw [← HE.out]; rfl

theorem cell_alloc_keep {w w' : World} {kb : Nat} {o : Obj} (h : w.heap[kb]? = some o) (k : RowKit.Below w.heap.size w w') : w'.heap[kb]? = some o := (k.block _ (Array.getElem?_eq_some_iff.1 h).1).trans h

set_option maxRecDepth 100000 in
set_option maxHeartbeats 1000000 in
theorem get_nil (k : ByteArray) (t : Nat) (w : World) :
    Calls Try.prog 13 #[.pointer none, .string k, .int .u64 t] w fun e w' => e = .returned (seenV none) ∧ RowKit.Below w.heap.size w w' := by
  obtain ⟨W2, HW2⟩ : ∃ W, Hid (w.alloc (.cells #[.string ⟨#[]⟩, .int .u64 0, .bool false, .string ⟨#[]⟩] 24) = W) := ⟨_, Lib.hid rfl⟩
  have HB := Lib.hid (show RowKit.Below w.heap.size w W2 from by rw [← HW2.out]; exact (Below.refl w.heap.size w).alloc (Nat.le_refl _) _)
  have hX : W2.heap[w.heap.size]? = some (.cells #[.string ⟨#[]⟩, .int .u64 0, .bool false, .string ⟨#[]⟩] 24) := by rw [← HW2.out]; exact Go.heap_alloc_new _ _
  have N := not_nil W2
  have HX := Lib.hid hX
  have r0 : W2.frozen? ⟨w.heap.size, 0, none⟩ = false := frozen_of hX
  have r1 : W2.frozen? ⟨w.heap.size, 1, none⟩ = false := frozen_of hX
  have r2 : W2.frozen? ⟨w.heap.size, 2, none⟩ = false := frozen_of hX
  have r3 : W2.frozen? ⟨w.heap.size, 3, none⟩ = false := frozen_of hX
  have q0 : W2.cell? ⟨w.heap.size, 0, none⟩ = some (.string ⟨#[]⟩) := cell_of hX (by simp)
  have q1 : W2.cell? ⟨w.heap.size, 1, none⟩ = some (.int .u64 0) := cell_of hX (by simp)
  have q2 : W2.cell? ⟨w.heap.size, 2, none⟩ = some (.bool false) := cell_of hX (by simp)
  have q3 : W2.cell? ⟨w.heap.size, 3, none⟩ = some (.string ⟨#[]⟩) := cell_of hX (by simp)
  clear hX
  go_enter Try.func13, Try.ntmps13
  go_wp2_with fail
  rw [HW2.out]
  refine N.mono ?_
  rintro e w' ⟨rfl, rfl⟩
  go_wp2
  obtain ⟨hh, hc⟩ := fin4 HX.out (.string ⟨#[]⟩) (.int .u64 0) (.bool false) (.string ⟨#[]⟩)
  exact bodyPost_ret (results_cell_row_tmp (p := 6) (u := 7) (ty := 24) rfl _ _ _ 24 _ (0, 0) _ rfl hh Try.underlying24 rfl (by kernel_rfl)) rfl ⟨rfl, Chg.fresh HB.out hc (Nat.le_refl _)⟩

set_option maxRecDepth 100000 in
set_option maxHeartbeats 1000000 in
theorem get_any {w : World} {b : Nat} {lv : Value} {L : List CellM} {t0 : TypeId} (h0 : w.heap[b]? = some (.cells #[lv, .bool true] t0)) (h : Has w lv L) (hL : L.length ≤ 1099511627776) (k : ByteArray) (t : Nat) :
    Calls Try.prog 13 #[.pointer (some ⟨b, 0, none⟩), .string k, .int .u64 t] w fun e w' => e = .returned (seenV (seenM L k t)) ∧ RowKit.Below w.heap.size w w' := by
  obtain ⟨W2, HW2⟩ : ∃ W, Hid (w.alloc (.cells #[.string ⟨#[]⟩, .int .u64 0, .bool false, .string ⟨#[]⟩] 24) = W) := ⟨_, Lib.hid rfl⟩
  have HB := Lib.hid (show RowKit.Below w.heap.size w W2 from by rw [← HW2.out]; exact (Below.refl w.heap.size w).alloc (Nat.le_refl _) _)
  have hX : W2.heap[w.heap.size]? = some (.cells #[.string ⟨#[]⟩, .int .u64 0, .bool false, .string ⟨#[]⟩] 24) := by rw [← HW2.out]; exact Go.heap_alloc_new _ _
  have hb2 := cell_alloc_keep h0 HB.out
  have N := not_some hb2
  have c0 : W2.cell? ⟨b, 0, none⟩ = some lv := cell_of hb2 (by simp)
  obtain ⟨o, c, rfl⟩ := h.shape
  have A := seen_any (h.stay HB.out) hL k t
  have HX := Lib.hid hX
  clear h h0 hb2 hX
  obtain ⟨yk, yt, yd, yv, yb, hE⟩ : ∃ yk yt yd yv yb, seenV (seenM L k t) = .tuple #[.agg #[.string yk, .int .u64 (yt : Nat), .bool yd, .string yv], .bool yb] := by
    rcases seenM L k t with _ | ⟨yk, yt, yd, yv⟩
    · exact ⟨_, _, _, _, _, rfl⟩
    · exact ⟨_, _, _, _, _, rfl⟩
  rw [hE] at A ⊢
  clear hE
  go_enter Try.func13, Try.ntmps13
  go_wp2_with fail
  rw [HW2.out]
  refine N.mono ?_
  rintro e w' ⟨rfl, rfl⟩
  go_wp2_with fail
  refine A.mono ?_
  rintro e w3 ⟨rfl, hb⟩
  have hx := cell_alloc_keep HX.out hb
  have HX' := Lib.hid hx
  have HBW := Lib.hid (HB.out.trans (hb.mono HB.out.size))
  have r0 : w3.frozen? ⟨w.heap.size, 0, none⟩ = false := frozen_of hx
  have r1 : w3.frozen? ⟨w.heap.size, 1, none⟩ = false := frozen_of hx
  have r2 : w3.frozen? ⟨w.heap.size, 2, none⟩ = false := frozen_of hx
  have r3 : w3.frozen? ⟨w.heap.size, 3, none⟩ = false := frozen_of hx
  have q0 : w3.cell? ⟨w.heap.size, 0, none⟩ = some (.string ⟨#[]⟩) := cell_of hx (by simp)
  have q1 : w3.cell? ⟨w.heap.size, 1, none⟩ = some (.int .u64 0) := cell_of hx (by simp)
  have q2 : w3.cell? ⟨w.heap.size, 2, none⟩ = some (.bool false) := cell_of hx (by simp)
  have q3 : w3.cell? ⟨w.heap.size, 3, none⟩ = some (.string ⟨#[]⟩) := cell_of hx (by simp)
  clear hx A N
  go_wp2
  obtain ⟨hh, hc⟩ := fin4 HX'.out (.string yk) (.int .u64 yt) (.bool yd) (.string yv)
  exact bodyPost_ret (results_cell_row_tmp (p := 6) (u := 7) (ty := 24) rfl _ _ _ 24 _ (0, 0) _ rfl hh Try.underlying24 rfl (by kernel_rfl)) rfl ⟨rfl, Chg.fresh HBW.out hc (Nat.le_refl _)⟩
end Go.Proofs.Ytnhookblhckmlaa
