/- Walks: the document's Merge. -/
import Derived.Test.YtnhookblhckmlaaVF
import Derived.Test.YtnhookblhckmlaaVG
namespace Go.Proofs.Ytnhookblhckmlaa
set_option linter.unusedVariables false
set_option linter.unusedSimpArgs false
open Go.RowKit Mk Go.Sort

/-- A slice of slices of cells. -/
def LsAt (w : World) (so : Option Addr) (Ls : List (List CellM)) : Prop :=
  ∀ i L, Ls[i]? = some L → ∃ g o si ci, so = some ⟨g, o, none⟩ ∧ g < w.heap.size ∧ w.cell? ⟨g, o + i, none⟩ = some (.slice si L.length ci) ∧ At w si L
theorem LsAt.below {w w' : World} {so : Option Addr} {Ls : List (List CellM)} (h : LsAt w so Ls) (k : RowKit.Below w.heap.size w w') : LsAt w' so Ls := fun i L hL => by
  obtain ⟨g, o, si, ci, e, hg, hc, ha⟩ := h i L hL
  exact ⟨g, o, si, ci, e, Nat.lt_of_lt_of_le hg k.size, by rw [cell_block (k.block _ hg)]; exact hc, ha.below k⟩
theorem mergeM_cons (L : List CellM) (Ls : List (List CellM)) : mergeM (L :: Ls) = L.foldl layM (mergeM Ls) := rfl
theorem drop_flat (Ls : List (List CellM)) (k : Nat) : (Ls.drop k).flatten.length ≤ Ls.flatten.length := by
  have : Ls.flatten.length = (Ls.take k).flatten.length + (Ls.drop k).flatten.length := by
    rw [← List.length_append, ← List.flatten_append, List.take_append_drop]
  omega
/-- The document's merge so far. -/
def RmAt (w : World) (v : Value) (X : List CellM) (wr : World) : Prop := Has wr v X ∧ RowKit.Below w.heap.size w wr
set_option maxRecDepth 100000 in
set_option maxHeartbeats 4000000 in
theorem rmerge_any {w : World} {so : Option Addr} {cap : Nat} {Ls : List (List CellM)} (h : LsAt w so Ls) (hn : Ls.length ≤ 1048576) (hl : Ls.flatten.length ≤ 1099511627776) :
    Calls Try.prog 25 #[.slice so Ls.length cap] w fun e w' => ∃ v, e = .returned v ∧ Has w' v (mergeM Ls) ∧ RowKit.Below w.heap.size w w' := by
  have HP := Lib.hid h
  have HL := Lib.hid hl
  have LAY := Lib.hid (fun (w : World) (lv : Value) (L : List CellM) (h : Has w lv L) (hL : L.length ≤ 1099511627776) (x : CellM) => lay_any h hL x)
  clear h
  go_enter Try.func25, Try.ntmps25
  go_wp2
  go_loopw [3, 4] (fun v i wr => ∃ (k : Nat) (o : Option Addr) (c : Nat), k ≤ Ls.length ∧ i = .int .i64 ((k : Int) - 1) ∧ v = .slice o (mergeM (Ls.drop k)).length c ∧ Hid (RmAt w (.slice o (mergeM (Ls.drop k)).length c) (mergeM (Ls.drop k)) wr)) (fun _ i _ => ((match i with | .int _ z => z | _ => 0) + 1).toNat)
  case atStart => exact ⟨Ls.length, none, 0, Nat.le_refl _, by go_num, by simp [mergeM], Lib.hid ⟨by simp [mergeM]; exact sl_nil _ _ _, Below.refl _ _⟩⟩
  case round =>
    obtain ⟨k, o, c, hk, rfl, rfl, HA⟩ := hrel
    cases k with
    | zero =>
      have q0 : decide ((((0 : Nat) : Int) - 1) ≥ 0) = false := by decide
      go_wp2
      go_ret
      exact ⟨_, rfl, HA.out⟩
    | succ m =>
      have q1 : decide ((m : Int) ≥ 0) = true := by simp
      have e1 : ((m + 1 : Nat) : Int) - 1 = m := by omega
      simp only [e1]
      obtain ⟨L, hL⟩ : ∃ L, Ls[m]? = some L := ⟨Ls[m]'(by omega), List.getElem?_eq_getElem (by omega)⟩
      have hd : Ls.drop m = L :: Ls.drop (m + 1) := by
        obtain ⟨h1, h2⟩ := List.getElem?_eq_some_iff.1 hL
        rw [← h2]; exact List.drop_eq_getElem_cons h1
      have hmd : mergeM (Ls.drop m) = L.foldl layM (mergeM (Ls.drop (m + 1))) := by rw [hd, mergeM_cons]
      have hbd : (mergeM (Ls.drop (m + 1))).length + L.length ≤ 1099511627776 := by
        have h1 := mergeM_len (Ls.drop (m + 1))
        have h2 := drop_flat Ls m
        rw [hd] at h2
        simp only [List.flatten_cons, List.length_append] at h2
        omega
      generalize mergeM (Ls.drop (m + 1)) = X at *
      have l0 : (0 : Int) ≤ m := by omega
      have l1 : (m : Int) < Ls.length := by omega
      have HMD := Lib.hid hmd
      have HLL := Lib.hid hL
      clear hmd hd hL
      go_wp2
      go_loopw [3, 5] (fun v j wq => ∃ (i : Nat) (o : Option Addr) (c : Nat), i ≤ L.length ∧ j = .int .i64 i ∧ v = .slice o ((L.take i).foldl layM X).length c ∧ Hid (RmAt w (.slice o ((L.take i).foldl layM X).length c) ((L.take i).foldl layM X) wq)) (fun _ j _ => L.length - (intOf j).toNat)
      case atStart => exact ⟨0, o, c, by omega, rfl, by simp, Lib.hid (by simpa using HA.out)⟩
      case round =>
        obtain ⟨i, o2, c2, hi, rfl, rfl, HB⟩ := hrel
        obtain ⟨g, oo, si, ci, e, hg, hc, hat⟩ := (HP.out.below HB.out.2) m L HLL.out
        subst e
        have l2 : (0 : Int) ≤ i := by omega
        by_cases hlt : i < L.length
        · obtain ⟨y, hy⟩ : ∃ y, L[i]? = some y := ⟨L[i]'hlt, List.getElem?_eq_getElem hlt⟩
          obtain ⟨g2, o3, e, hg2, h0, h1, h2, h3⟩ := hat.2 i y hy
          subst e
          have hlen : ((L.take i).foldl layM X).length ≤ 1099511627776 := by
            have := fold_len X (L.take i)
            simp only [List.length_take] at this
            omega
          have C := LAY.out _ _ _ HB.out.1 hlen y
          have HN := Lib.hid (fun (e : Ending) (w' : World) (hl : LayPost wr ((L.take i).foldl layM X) y e w') => (show ∃ o' c', e = .returned (.slice o' ((L.take (i + 1)).foldl layM X).length c') ∧ RmAt w (.slice o' ((L.take (i + 1)).foldl layM X).length c') ((L.take (i + 1)).foldl layM X) w' from by
            obtain ⟨v', rfl, a1, a2, a3⟩ := hl
            rw [← fold_take hy] at a1
            obtain ⟨o', c', rfl⟩ := a1.shape
            exact ⟨o', c', rfl, a1, HB.out.2.trans (a2.mono HB.out.2.size)⟩))
          obtain ⟨yk, yt, yd, yv⟩ := y
          simp only [cellV] at h0 h1 h2 h3 C
          have q : decide ((i : Int) < L.length) = true := by simpa using hlt
          have l3 : (i : Int) < L.length := by omega
          clear hy hat
          go_wp2_with fail
          refine C.mono ?_
          intro e w3 hlp
          obtain ⟨o', c', rfl, hrm⟩ := HN.out e w3 hlp
          have HR := Lib.hid hrm
          clear hlp hrm C HN
          go_wp2
          go_roundw
          case rel => exact ⟨i + 1, o', c', by omega, by go_num, rfl, HR⟩
          case measure => simp [intOf]; omega
        · obtain rfl : i = L.length := by omega
          have q : decide (((L.length : Nat) : Int) < L.length) = false := by simp
          have HF := HB.out
          rw [List.take_length, ← HMD.out] at HF
          have HF2 := Lib.hid HF
          have hle : ((L.take L.length).foldl layM X).length = (mergeM (Ls.drop m)).length := by rw [List.take_length, HMD.out]
          rw [hle]
          clear HF hle hat
          go_wp2
          go_roundw
          case rel => exact ⟨m, o2, c2, by omega, by go_num, rfl, HF2⟩
          case measure => simp
end Go.Proofs.Ytnhookblhckmlaa
/- The lists that come in. -/
namespace Go.Proofs.Ytnhookblhckmlaa
set_option linter.unusedVariables false
set_option linter.unusedSimpArgs false
open Go.RowKit Mk Go.Sort

theorem one_of {cs : List Value} (h : cs.length = 1) : ∃ a, cs = [a] := by
  match cs, h with
  | [a], _ => exact ⟨a, rfl⟩
section
variable {H : Type} {enc : TypeId × Value → H} {w : World} {base : Nat} {spare : Nat → Bool} {held : Bool}
theorem open_lists1 {c : Value} {m0 : Nat} {y : DataW H × List MemPlace}
    (h : DataW.trod enc Try.prog w base spare held m0 55 [c] = some y) : ∃ so n cp Ls, c = Value.slice so n cp ∧ Ls.length = n ∧ n ≤ 9223372036854775807 ∧ n ≤ cp ∧ LsAt w so Ls := by
  rcases Go.Deep.open_slice Try.underlying55 h with ⟨e, _⟩ | ⟨a, len, cap, m, n, D, Pl, e, _, hle, hcap, hm, hx, hi⟩
  · simp only [List.cons.injEq, and_true] at e
    exact ⟨_, _, _, [], e, rfl, by omega, Nat.le_refl _, fun i c h => by simp at h⟩
  · simp only [List.cons.injEq, and_true] at e
    subst e
    have hlm : len ≤ m := by rw [hm]; split <;> omega
    have hi : ∀ i, i < m → ∃ cs', w.cells? base (a.add (i * 1)) 1 = some cs' ∧ DataW.trod enc Try.prog w base spare held n 28 cs' = some (D i, Pl i) := fun i h => by
      have := hi i h
      rw [cells28] at this
      exact this
    obtain ⟨xs, hxl, hxs⟩ := choose_list (n := len) (P := fun i (L : List CellM) => ∃ g o si ci, (some a : Option Addr) = some ⟨g, o, none⟩ ∧ g < w.heap.size ∧ w.cell? ⟨g, o + i, none⟩ = some (.slice si L.length ci) ∧ At w si L) (fun i hil => by
      obtain ⟨cs, hc, ht⟩ := hi i (by omega)
      obtain ⟨_, hcl, hcell⟩ := World.cells?_some hc
      obtain ⟨c0, rfl⟩ := one_of hcl
      obtain ⟨so1, n1, cp1, L1, rfl, rfl, hat⟩ := open_cells1 ht
      have hsp : a.spot = none := by
        obtain ⟨cs0, hc0, _⟩ := hi 0 (by omega)
        obtain ⟨_, hcl0, hcell0⟩ := World.cells?_some hc0
        have h6 := hcell0 0 (by omega)
        rw [List.getElem?_eq_getElem (by omega)] at h6
        exact spot_none (a := a) h6
      obtain ⟨g, o, sp⟩ := a
      simp only at hsp
      subst hsp
      have h7 := hcell 0 (by omega)
      rw [Addr.add_mid, Addr.add_mid] at h7
      simp only [Nat.mul_one, Nat.add_zero, List.getElem?_cons_zero] at h7
      exact ⟨L1, g, o, so1, cp1, rfl, World.block_lt_of_cell? w _ h7, h7, hat⟩)
    refine ⟨_, _, _, xs, rfl, hxl, by simp only [maxLen] at hcap; omega, hle, fun i L hL => ?_⟩
    obtain ⟨hi', rfl⟩ := List.getElem?_eq_some_iff.1 hL
    exact hxs i hi'
theorem openT55 {v : Value} {d : DataW H} {p : List MemPlace} (hv1 : v.cells.toList = [v])
    (h : DataW.Trod enc Try.prog w base spare held 55 v d p) : ∃ so n cp Ls, v = .slice so n cp ∧ Ls.length = n ∧ n ≤ 9223372036854775807 ∧ n ≤ cp ∧ LsAt w so Ls := by
  obtain ⟨m0, hm0⟩ := h
  rw [hv1] at hm0
  exact open_lists1 hm0
end
end Go.Proofs.Ytnhookblhckmlaa
