/- Walks: the writer. -/
import Derived.Test.YtgmmglmokkcgeaaD5
import Derived.Test.YtgmmglmokkcgeaaA5
import Derived.Deep.RegionWith
namespace Go.Proofs.Ytgmmglmokkcgeaa
set_option linter.unusedVariables false
set_option linter.unusedSimpArgs false
open Go.RowKit Mk Go.Sort

/-- A writer has these bytes. -/
def WrAt (w : World) (b : Nat) (s : ByteArray) : Prop := w.heap[b]? = some (.cells #[.string s] 83)
/-- A text, and its length ahead. -/
def textB (t : ByteArray) : ByteArray := str (Cod.text t.data.toList)
def numB (x : Nat) : ByteArray := str (Cod.num x)
theorem textB_size (t : ByteArray) : (textB t).size ≤ 9 + t.size := by
  unfold textB
  rw [← text_str, ByteArray.size_append]
  have := num_size t.size
  omega
theorem numB_size (x : Nat) : (numB x).size ≤ 9 := num_size x
def numsB (l : List Nat) : ByteArray := str (l.flatMap Cod.num)
theorem str_append (a b : List UInt8) : str (a ++ b) = str a ++ str b := by
  apply ByteArray.ext
  simp [str]
theorem numsB_nil : numsB [] = ByteArray.empty := rfl
theorem append_empty (s : ByteArray) : s ++ ByteArray.empty = s := by simp
theorem numsB_snoc (l : List Nat) (x : Nat) : numsB (l ++ [x]) = numsB l ++ numB x := by
  unfold numsB numB
  rw [List.flatMap_append, str_append]
  simp
theorem numsB_size (l : List Nat) : (numsB l).size ≤ 9 * l.length := by
  induction l with
  | nil => exact Nat.le_of_eq rfl
  | cons x l ih =>
    have h : numsB (x :: l) = numB x ++ numsB l := by unfold numsB numB; rw [List.flatMap_cons, str_append]
    rw [h, ByteArray.size_append, List.length_cons]
    have := numB_size x
    omega
section
variable {w : World} {b : Nat} {s : ByteArray}
theorem WrAt.lt (h : WrAt w b s) : b < w.heap.size := (Array.getElem?_eq_some_iff.1 h).1
theorem WrAt.stay {w' : World} (h : WrAt w b s) (c : Chg (fun _ => False) w w') : WrAt w' b s := (c.block b h.lt (fun f => f)).trans h
theorem WrAt.put (h : WrAt w b s) {w1 : World} (c : Chg (fun _ => False) w w1) (s' : ByteArray) :
    w1.frozen? ⟨b, 0, none⟩ = false ∧ w1.cell? ⟨b, 0, none⟩ = some (.string s) ∧ WrAt (w1.setCell ⟨b, 0, none⟩ (.string s')) b s' ∧ Chg (fun g => g = b) w (w1.setCell ⟨b, 0, none⟩ (.string s')) := by
  have h1 := h.stay c
  exact ⟨frozen_of h1, cell_of h1 rfl, Mk.heap_setCell_same (i := 0) h1 _, (c.mono (G := fun g => g = b) (fun _ f => f.elim)).setCell (a := ⟨b, 0, none⟩) (Or.inl rfl) _⟩
theorem chg_of_drew {w1 : World} (h : Below w.drew.heap.size w.drew w1) : Chg (fun _ => False) w w1 := ⟨h.os, h.tape, h.output, h.size, fun i hi _ => h.block i hi⟩
set_option maxRecDepth 100000 in
theorem wtext_any (h : WrAt w b s) (t : ByteArray) (hs : s.size ≤ 1099511627776) (ht : t.size ≤ 1099511627776) :
    Calls Try.prog 32 #[.pointer (some ⟨b, 0, none⟩), .string t] w fun e w' => e = .returned (.tuple #[]) ∧ WrAt w' b (s ++ textB t) ∧ Chg (fun g => g = b) w w' := by
  have T := Lib.hid (fun v => show Calls Try.prog 64 #[.string t] v fun e w' => e = .returned (.string (textB t)) ∧ Below v.heap.size v w' from text_any t ht v)
  have hz := textB_size t
  have hadd : ∀ u : World, (Op.stringOp .add s (textB t)).run Try.prog u = .ok (.string (s ++ textB t)) u := fun u => run_string_add_sum u s (textB t) (by omega)
  generalize textB t = u at *
  have HE := Lib.hid (fun (w1 : World) (c : Chg (fun _ => False) w w1) => h.put c (s ++ u))
  have c0 : w.cell? ⟨b, 0, none⟩ = some (.string s) := cell_of h rfl
  clear h hz hs ht
  go_enter Try.func32, Try.ntmps32
  go_wp2_with fail
  go_region_with (go_at_call 64; (with_reducible refine (T.out _).mono ?_); rintro e w1 ⟨rfl, hb⟩; obtain ⟨y1, y2, y3, y4⟩ := HE.out w1 (chg_of_drew hb); have HY := Lib.hid (And.intro y3 y4); clear y3 y4 hb)
  all_goals
    go_wp2
    go_end0
    exact ⟨rfl, HY.out⟩
/-- The slice has these numbers. -/
def NumsAt (w : World) (v : Value) (l : List Nat) : Prop := sl w 30 1 v l.length (l.map fun x => Value.int .u64 (x : Nat))
theorem NumsAt.stay {w' : World} {v : Value} {l : List Nat} {F : Nat → Prop} (h : NumsAt w v l) (c : Chg F w w') (hF : ∀ g, v.ownBlock = some g → ¬ F g) : NumsAt w' v l := sl.stay h (fun g hg => c.block g (sl.lt h hg) (hF g hg))
set_option maxRecDepth 100000 in
set_option maxHeartbeats 1000000 in
theorem wnum_any (h : WrAt w b s) {o : Option Addr} {c : Nat} {l : List Nat} (hl : NumsAt w (.slice o l.length c) l) (hx : ∀ x ∈ l, x < 18446744073709551616) (hs : s.size ≤ 1099511627776) (hn : l.length ≤ 1048576) :
    Calls Try.prog 31 #[.pointer (some ⟨b, 0, none⟩), .slice o l.length c] w fun e w' => e = .returned (.tuple #[]) ∧ WrAt w' b (s ++ numsB l) ∧ Chg (fun g => g = b) w w' := by
  have hob : ∀ g, (Value.slice o l.length c).ownBlock = some g → g ≠ b := fun g hg e => by
    rcases hl.2 with ⟨e1, _⟩ | ⟨g', cap, cur, e1, hh, _⟩
    · simp only [Value.slice.injEq] at e1; rw [e1.1] at hg; simp [Value.ownBlock] at hg
    · simp only [Value.slice.injEq] at e1
      rw [e1.1] at hg
      simp only [Value.ownBlock, Option.some.injEq] at hg
      subst hg
      rw [e, h] at hh
      simp at hh
  have HOB := Lib.hid hob
  have HL := Lib.hid hl
  have HX := Lib.hid hx
  have H0 : Hid (WrAt w b (s ++ numsB (l.take 0)) ∧ Chg (fun g => g = b) w w) := Lib.hid ⟨by rw [List.take_zero, numsB_nil, append_empty]; exact h, Chg.refl _ _⟩
  clear hob hl hx h
  go_enter Try.func31, Try.ntmps31
  go_wp2
  go_loopw [8] (fun i wr => ∃ k : Nat, k ≤ l.length ∧ i = .int .i64 k ∧ Hid (WrAt wr b (s ++ numsB (l.take k)) ∧ Chg (fun g => g = b) w wr)) (fun i _ => l.length - (intOf i).toNat)
  case atStart => exact ⟨0, by omega, rfl, H0⟩
  case round =>
    obtain ⟨k, hk, rfl, HI⟩ := hrel
    clear H0
    by_cases hlt : k < l.length
    · have q : decide ((k : Int) < l.length) = true := by simp; omega
      have q' : decide (k < l.length) = true := by simpa using hlt
      obtain ⟨g, cap, e, c1⟩ := sl.cell (HL.out.stay HI.out.2 (fun g hg => HOB.out g hg)) (i := k) (u := .int .u64 (l[k] : Nat)) (by rw [List.getElem?_map, List.getElem?_eq_getElem hlt]; rfl)
      cases e
      have hx := HX.out l[k] (List.getElem_mem hlt)
      have htk : l.take (k + 1) = l.take k ++ [l[k]] := by rw [List.take_add_one, List.getElem?_eq_getElem hlt]; rfl
      have hsz := numsB_size (l.take k)
      rw [List.length_take] at hsz
      have hz2 := numB_size l[k]
      have hsnoc : s ++ numsB (l.take (k + 1)) = (s ++ numsB (l.take k)) ++ numB l[k] := by rw [htk, numsB_snoc, ByteArray.append_assoc]
      have T := Lib.hid (fun v => show Calls Try.prog 63 #[.int .u64 (l[k] : Nat)] v fun e w' => e = .returned (.string (numB l[k])) ∧ Below v.heap.size v w' from num_any l[k] hx v)
      have hS : (s ++ numsB (l.take k)).size ≤ 1099521064960 := by rw [ByteArray.size_append]; omega
      have HI2 := Lib.hid HI.out.1
      have HC2 := Lib.hid HI.out.2
      generalize numsB (l.take k) = A at *
      generalize s ++ A = S at *
      generalize numB l[k] = u at *
      have HSN := Lib.hid hsnoc
      have hadd : ∀ v : World, (Op.stringOp .add S u).run Try.prog v = .ok (.string (S ++ u)) v := fun v => run_string_add_sum v S u (by omega)
      have HE := Lib.hid (fun (w1 : World) (c : Chg (fun _ => False) wr w1) => HI2.out.put c (S ++ u))
      have c0 : wr.cell? ⟨b, 0, none⟩ = some (.string S) := cell_of HI2.out rfl
      have l0 : (0 : Int) ≤ k := by omega
      have l1 : (k : Int) < l.length := by omega
      generalize l[k] = xk at *
      clear hsnoc hsz hz2 htk hS HI
      go_wp2_with fail
      go_region_with (go_at_call 63; (with_reducible refine (T.out _).mono ?_); rintro e w1 ⟨rfl, hb⟩; obtain ⟨y1, y2, y3, y4⟩ := HE.out w1 (chg_of_drew hb); have HY := Lib.hid (And.intro y3 y4); clear y3 y4 hb)
      all_goals
        go_wp2
        go_roundw
        case rel => exact ⟨k + 1, by omega, by go_num, Lib.hid ⟨by rw [HSN.out]; exact HY.out.1, HC2.out.trans HY.out.2⟩⟩
        case measure => simp [intOf]; omega
    · obtain rfl : k = l.length := by omega
      have q : decide ((l.length : Int) < l.length) = false := by simp
      have q' : decide (l.length < l.length) = false := by simp
      have HF := Lib.hid (show WrAt wr b (s ++ numsB l) ∧ Chg (fun g => g = b) w wr from by have := HI.out; rwa [List.take_length] at this)
      clear HI
      go_wp2
      go_end0
      exact ⟨rfl, HF.out⟩
end
end Go.Proofs.Ytgmmglmokkcgeaa
