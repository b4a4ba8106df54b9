/- Walks: the writer. -/
import Derived.Test.YtgmmglmokkcgeaaGreatX0
import Derived.Test.YtgmmglmokkcgeaaGreatA5
import Derived.Deep.RegionWith
set_option linter.unusedVariables false
set_option linter.unusedSimpArgs false
namespace Go.Proofs.YtgmmglmokkcgeaaGreat
set_option linter.unusedVariables false
set_option linter.unusedSimpArgs false
open Go.RowKit Mk Go.Sort

/-- A writer has these bytes. -/
def WrAt (w : World) (b : Nat) (s : ByteArray) : Prop := w.heap[b]? = some (.cells #[.string s] 94)
/-- A text, and its length ahead. -/
def textB (t : ByteArray) : ByteArray := str (Cod.text t.data.toList)
def numB (x : Nat) : ByteArray := str (Cod.num x)
theorem textB_size (t : ByteArray) : (textB t).size ≤ 9 + t.size := by
  unfold textB
  rw [← text_str, ByteArray.size_append]
  have := num_size t.size
  omega
theorem numB_size (x : Nat) : (numB x).size ≤ 9 := num_size x
def numsB (l : List Nat) : ByteArray := str (l.flatMap Cod.num)
theorem str_append (a b : List UInt8) : str (a ++ b) = str a ++ str b := by
  apply ByteArray.ext
  simp [str]
theorem numsB_nil : numsB [] = ByteArray.empty := rfl
theorem append_empty (s : ByteArray) : s ++ ByteArray.empty = s := by simp
theorem numsB_snoc (l : List Nat) (x : Nat) : numsB (l ++ [x]) = numsB l ++ numB x := by
  unfold numsB numB
  rw [List.flatMap_append, str_append]
  simp
theorem numsB_size (l : List Nat) : (numsB l).size ≤ 9 * l.length := by
  induction l with
  | nil => exact Nat.le_of_eq rfl
  | cons x l ih =>
    have h : numsB (x :: l) = numB x ++ numsB l := by unfold numsB numB; rw [List.flatMap_cons, str_append]
    rw [h, ByteArray.size_append, List.length_cons]
    have := numB_size x
    omega
section
variable {w : World} {b : Nat} {s : ByteArray}
theorem WrAt.lt (h : WrAt w b s) : b < w.heap.size := (Array.getElem?_eq_some_iff.1 h).1
theorem WrAt.stay {w' : World} (h : WrAt w b s) (c : Chg (fun _ => False) w w') : WrAt w' b s := (c.block b h.lt (fun f => f)).trans h
theorem WrAt.put (h : WrAt w b s) {w1 : World} (c : Chg (fun _ => False) w w1) (s' : ByteArray) :
    w1.frozen? ⟨b, 0, none⟩ = false ∧ w1.cell? ⟨b, 0, none⟩ = some (.string s) ∧ WrAt (w1.setCell ⟨b, 0, none⟩ (.string s')) b s' ∧ Chg (fun g => g = b) w (w1.setCell ⟨b, 0, none⟩ (.string s')) := by
  have h1 := h.stay c
  exact ⟨frozen_of h1, cell_of h1 rfl, Mk.heap_setCell_same (i := 0) h1 _, (c.mono (G := fun g => g = b) (fun _ f => f.elim)).setCell (a := ⟨b, 0, none⟩) (Or.inl rfl) _⟩
theorem chg_of_drew {w1 : World} (h : Below w.drew.heap.size w.drew w1) : Chg (fun _ => False) w w1 := ⟨h.os, h.tape, h.output, h.size, fun i hi _ => h.block i hi⟩
set_option maxRecDepth 100000 in
theorem wtext_any (h : WrAt w b s) (t : ByteArray) (hs : s.size ≤ 1099511627776) (ht : t.size ≤ 1099511627776) :
    Calls Tryz.prog 47 #[.pointer (some ⟨b, 0, none⟩), .string t] w fun e w' => e = .returned (.tuple #[]) ∧ WrAt w' b (s ++ textB t) ∧ Chg (fun g => g = b) w w' := by
  have T := Lib.hid (fun v => show Calls Tryz.prog 90 #[.string t] v fun e w' => e = .returned (.string (textB t)) ∧ Below v.heap.size v w' from text_any t ht v)
  have hz := textB_size t
  have hadd : ∀ u : World, (Op.stringOp .add s (textB t)).run Tryz.prog u = .ok (.string (s ++ textB t)) u := fun u => run_string_add_sum u s (textB t) (by omega)
  generalize textB t = u at *
  have HE := Lib.hid (fun (w1 : World) (c : Chg (fun _ => False) w w1) => h.put c (s ++ u))
  have c0 : w.cell? ⟨b, 0, none⟩ = some (.string s) := cell_of h rfl
  clear h hz hs ht
  go_enter Tryz.func47, Tryz.ntmps47
  go_wp2_with fail
  go_region_with (go_at_call 90; (with_reducible refine (T.out _).mono ?_); rintro e w1 ⟨rfl, hb⟩; obtain ⟨y1, y2, y3, y4⟩ := HE.out w1 (chg_of_drew hb); have HY := Lib.hid (And.intro y3 y4); clear y3 y4 hb)
  all_goals
    go_wp2
    go_end0
    exact ⟨rfl, HY.out⟩
/-- The slice has these numbers. -/
def NumsAt (w : World) (v : Value) (l : List Nat) : Prop := sl w 24 1 v l.length (l.map fun x => Value.int .u64 (x : Nat))
theorem NumsAt.stay {w' : World} {v : Value} {l : List Nat} {F : Nat → Prop} (h : NumsAt w v l) (c : Chg F w w') (hF : ∀ g, v.ownBlock = some g → ¬ F g) : NumsAt w' v l := sl.stay h (fun g hg => c.block g (sl.lt h hg) (hF g hg))
set_option maxRecDepth 100000 in
set_option maxHeartbeats 1000000 in
theorem wnum_any (h : WrAt w b s) {o : Option Addr} {c : Nat} {l : List Nat} (hl : NumsAt w (.slice o l.length c) l) (hx : ∀ x ∈ l, x < 18446744073709551616) (hs : s.size ≤ 1099511627776) (hn : l.length ≤ 17179869184) :
    Calls Tryz.prog 42 #[.pointer (some ⟨b, 0, none⟩), .slice o l.length c] w fun e w' => e = .returned (.tuple #[]) ∧ WrAt w' b (s ++ numsB l) ∧ Chg (fun g => g = b) w w' := by
  have hob : ∀ g, (Value.slice o l.length c).ownBlock = some g → g ≠ b := fun g hg e => by
    rcases hl.2 with ⟨e1, _⟩ | ⟨g', cap, cur, e1, hh, _⟩
    · simp only [Value.slice.injEq] at e1; rw [e1.1] at hg; simp [Value.ownBlock] at hg
    · simp only [Value.slice.injEq] at e1
      rw [e1.1] at hg
      simp only [Value.ownBlock, Option.some.injEq] at hg
      subst hg
      rw [e, h] at hh
      simp at hh
  have HOB := Lib.hid hob
  have HL := Lib.hid hl
  have HX := Lib.hid hx
  have H0 : Hid (WrAt w b (s ++ numsB (l.take 0)) ∧ Chg (fun g => g = b) w w) := Lib.hid ⟨by rw [List.take_zero, numsB_nil, append_empty]; exact h, Chg.refl _ _⟩
  clear hob hl hx h
  go_enter Tryz.func42, Tryz.ntmps42
  go_wp2
  go_loopw [8] (fun i wr => ∃ k : Nat, k ≤ l.length ∧ i = .int .i64 k ∧ Hid (WrAt wr b (s ++ numsB (l.take k)) ∧ Chg (fun g => g = b) w wr)) (fun i _ => l.length - (intOf i).toNat)
  case atStart => exact ⟨0, by omega, rfl, H0⟩
  case round =>
    obtain ⟨k, hk, rfl, HI⟩ := hrel
    clear H0
    by_cases hlt : k < l.length
    · have q : decide ((k : Int) < l.length) = true := by simp; omega
      have q' : decide (k < l.length) = true := by simpa using hlt
      obtain ⟨g, cap, e, c1⟩ := sl.cell (HL.out.stay HI.out.2 (fun g hg => HOB.out g hg)) (i := k) (u := .int .u64 (l[k] : Nat)) (by rw [List.getElem?_map, List.getElem?_eq_getElem hlt]; rfl)
      cases e
      have hx := HX.out l[k] (List.getElem_mem hlt)
      have htk : l.take (k + 1) = l.take k ++ [l[k]] := by rw [List.take_add_one, List.getElem?_eq_getElem hlt]; rfl
      have hsz := numsB_size (l.take k)
      rw [List.length_take] at hsz
      have hz2 := numB_size l[k]
      have hsnoc : s ++ numsB (l.take (k + 1)) = (s ++ numsB (l.take k)) ++ numB l[k] := by rw [htk, numsB_snoc, ByteArray.append_assoc]
      have T := Lib.hid (fun v => show Calls Tryz.prog 83 #[.int .u64 (l[k] : Nat)] v fun e w' => e = .returned (.string (numB l[k])) ∧ Below v.heap.size v w' from num_any l[k] hx v)
      have hS : (s ++ numsB (l.take k)).size ≤ 1254130450432 := by rw [ByteArray.size_append]; omega
      have HI2 := Lib.hid HI.out.1
      have HC2 := Lib.hid HI.out.2
      generalize numsB (l.take k) = A at *
      generalize s ++ A = S at *
      generalize numB l[k] = u at *
      have HSN := Lib.hid hsnoc
      have hadd : ∀ v : World, (Op.stringOp .add S u).run Tryz.prog v = .ok (.string (S ++ u)) v := fun v => run_string_add_sum v S u (by omega)
      have HE := Lib.hid (fun (w1 : World) (c : Chg (fun _ => False) wr w1) => HI2.out.put c (S ++ u))
      have c0 : wr.cell? ⟨b, 0, none⟩ = some (.string S) := cell_of HI2.out rfl
      have l0 : (0 : Int) ≤ k := by omega
      have l1 : (k : Int) < l.length := by omega
      generalize l[k] = xk at *
      clear hsnoc hsz hz2 htk hS HI
      go_wp2_with fail
      go_region_with (go_at_call 83; (with_reducible refine (T.out _).mono ?_); rintro e w1 ⟨rfl, hb⟩; obtain ⟨y1, y2, y3, y4⟩ := HE.out w1 (chg_of_drew hb); have HY := Lib.hid (And.intro y3 y4); clear y3 y4 hb)
      all_goals
        go_wp2
        go_roundw
        case rel => exact ⟨k + 1, by omega, by go_num, Lib.hid ⟨by rw [HSN.out]; exact HY.out.1, HC2.out.trans HY.out.2⟩⟩
        case measure => simp [intOf]; omega
    · obtain rfl : k = l.length := by omega
      have q : decide ((l.length : Int) < l.length) = false := by simp
      have q' : decide (l.length < l.length) = false := by simp
      have HF := Lib.hid (show WrAt wr b (s ++ numsB l) ∧ Chg (fun g => g = b) w wr from by have := HI.out; rwa [List.take_length] at this)
      clear HI
      go_wp2
      go_end0
      exact ⟨rfl, HF.out⟩
end
end Go.Proofs.YtgmmglmokkcgeaaGreat
/- Walks: the readers. -/
namespace Go.Proofs.YtgmmglmokkcgeaaGreat
set_option linter.unusedVariables false
set_option linter.unusedSimpArgs false
open Go.RowKit Mk Go.Sort

def RdAt (t : TypeId) (w : World) (b : Nat) (r : RdS) : Prop := w.heap[b]? = some (.cells #[.string r.s, .bool r.bad] t)
section
variable {w : World} {b : Nat} {r : RdS} {t : TypeId}
theorem RdAt.lt (h : RdAt t w b r) : b < w.heap.size := (Array.getElem?_eq_some_iff.1 h).1
theorem RdAt.stay {w' : World} (h : RdAt t w b r) (c : Chg (fun _ => False) w w') : RdAt t w' b r := (c.block b h.lt (fun f => f)).trans h
theorem RdAt.put (h : RdAt t w b r) {w1 : World} (c : Chg (fun _ => False) w w1) (bd : Bool) (s' : ByteArray) :
    w1.cell? ⟨b, 1, none⟩ = some (.bool r.bad) ∧ w1.frozen? ⟨b, 1, none⟩ = false ∧ (w1.setCell ⟨b, 1, none⟩ (.bool bd)).frozen? ⟨b, 0, none⟩ = false ∧ (w1.setCell ⟨b, 1, none⟩ (.bool bd)).cell? ⟨b, 0, none⟩ = some (.string r.s) ∧
    RdAt t ((w1.setCell ⟨b, 1, none⟩ (.bool bd)).setCell ⟨b, 0, none⟩ (.string s')) b ⟨s', bd⟩ ∧ Chg (fun g => g = b) w ((w1.setCell ⟨b, 1, none⟩ (.bool bd)).setCell ⟨b, 0, none⟩ (.string s')) := by
  have h1 := h.stay c
  have g1 := Mk.heap_setCell_same (i := 1) h1 (.bool bd)
  have g2 := Mk.heap_setCell_same (i := 0) g1 (.string s')
  exact ⟨cell_of h1 rfl, frozen_of h1, frozen_of g1, cell_of g1 rfl, g2, ((c.mono (G := fun g => g = b) (fun _ f => f.elim)).setCell (a := ⟨b, 1, none⟩) (Or.inl rfl) _).setCell (a := ⟨b, 0, none⟩) (Or.inl rfl) _⟩
theorem RdAt.set1 (h : RdAt t w b r) (bd : Bool) : w.cell? ⟨b, 1, none⟩ = some (.bool r.bad) ∧ w.frozen? ⟨b, 1, none⟩ = false ∧ RdAt t (w.setCell ⟨b, 1, none⟩ (.bool bd)) b ⟨r.s, bd⟩ ∧ Chg (fun g => g = b) w (w.setCell ⟨b, 1, none⟩ (.bool bd)) :=
  ⟨cell_of h rfl, frozen_of h, Mk.heap_setCell_same (i := 1) h _, (Chg.refl (fun g => g = b) w).setCell (a := ⟨b, 1, none⟩) (Or.inl rfl) _⟩
set_option maxRecDepth 100000 in
theorem rdnum_any (h : RdAt 112 w b r) (hs : r.s.size ≤ 1099511627776) :
    Calls Tryz.prog 51 #[.pointer (some ⟨b, 0, none⟩)] w fun e w' => e = .returned (.int .u64 ((numR r).1 : Nat)) ∧ RdAt 112 w' b (numR r).2 ∧ Chg (fun g => g = b) w w' := by
  have N := readNum_any r.s (by simp only [maxLen]; omega) w
  obtain ⟨x, R, e, h1, hx, hR, he, h2, -⟩ := rnum_parts r.s (by simp only [maxLen]; omega)
  obtain ⟨e1, e2, e3⟩ := h2.out
  rw [h1] at N
  have N := Lib.hid N
  have hE : numR r = (x, ⟨R, r.bad || decide (e ≠ 0)⟩) := by unfold numR; rw [e1, e2, e3]
  rw [hE]
  have HP := Lib.hid (fun (w1 : World) (c : Chg (fun _ => False) w w1) (bd : Bool) => h.put c bd R)
  have c0 : w.cell? ⟨b, 0, none⟩ = some (.string r.s) := cell_of h rfl
  clear h e1 e2 e3 h1 hE
  obtain ⟨s, bd⟩ := r
  simp only at *
  rcases he with rfl | rfl | rfl <;> cases bd
  all_goals
    simp only [Bool.false_or, Bool.true_or, ne_eq, not_true_eq_false, decide_false, Nat.reduceEqDiff, not_false_eq_true, decide_true]
    go_enter Tryz.func51, Tryz.ntmps51
    go_wp2_with fail
    refine N.out.mono ?_
    rintro e w1 ⟨rfl, hb⟩
    obtain ⟨y1, y2, y3, y4, -, -⟩ := HP.out w1 (chg_of_below hb) true
    obtain ⟨-, -, z3, z4, -, -⟩ := HP.out w1 (chg_of_below hb) false
    have HF := Lib.hid (fun bd => (HP.out w1 (chg_of_below hb) bd).2.2.2.2)
    clear hb N HP
    go_wp2
    go_ret
    exact ⟨rfl, HF.out _⟩
set_option maxRecDepth 100000 in
theorem rdsmall_any (h : RdAt 112 w b r) (hs : r.s.size ≤ 1099511627776) :
    Calls Tryz.prog 57 #[.pointer (some ⟨b, 0, none⟩)] w fun e w' => e = .returned (.int .u32 ((smallR r).1 : Nat)) ∧ RdAt 112 w' b (smallR r).2 ∧ Chg (fun g => g = b) w w' := by
  have N := Lib.hid (rdnum_any h hs)
  have hx := (numR_le r).2
  unfold smallR
  obtain ⟨x, q, hq⟩ : ∃ x q, numR r = (x, q) := ⟨_, _, rfl⟩
  rw [hq] at N hx ⊢
  simp only at N hx ⊢
  have wx : IntKind.u32.wrap (x : Int) = ((x % 4294967296 : Nat) : Int) := by simp only [IntKind.wrap, IntKind.bits, IntKind.signed]; simp
  obtain ⟨z, hz⟩ : ∃ z, decide (4294967295 < x) = z := ⟨_, rfl⟩
  have dx : decide ((4294967295 : Int) < x) = z := by rw [← hz]; simp only [decide_eq_decide]; omega
  rw [hz]
  obtain ⟨qs, qb⟩ := q
  clear hq h hs hz
  cases z <;> cases qb
  all_goals
    go_enter Tryz.func57, Tryz.ntmps57
    go_wp2_with fail
    refine N.out.mono ?_
    rintro e w1 ⟨rfl, h1, hc⟩
    obtain ⟨y1, y2, -, -⟩ := h1.set1 true
    have HF := Lib.hid (fun bd => (h1.set1 bd).2.2)
    have HC := Lib.hid hc
    clear h1 hc N
    go_wp2
    go_ret
    exact ⟨rfl, (HF.out _).1, HC.out.trans (HF.out _).2⟩
set_option maxRecDepth 100000 in
theorem rdtext_any (h : RdAt 112 w b r) (hs : r.s.size ≤ 1099511627776) :
    Calls Tryz.prog 55 #[.pointer (some ⟨b, 0, none⟩)] w fun e w' => e = .returned (.string (textR r).1) ∧ RdAt 112 w' b (textR r).2 ∧ Chg (fun g => g = b) w w' := by
  have N := readText_any r.s (by simp only [maxLen]; omega) w
  have he := rtext_code r.s.data.toList
  unfold rtextV at N
  have hE : textR r = (str (Cod.rtext r.s.data.toList).1, ⟨str (Cod.rtext r.s.data.toList).2.1, r.bad || decide ((Cod.rtext r.s.data.toList).2.2 ≠ 0)⟩) := rfl
  rw [hE]
  generalize str (Cod.rtext r.s.data.toList).1 = T at *
  generalize str (Cod.rtext r.s.data.toList).2.1 = R at *
  generalize (Cod.rtext r.s.data.toList).2.2 = e at *
  have N := Lib.hid N
  have HP := Lib.hid (fun (w1 : World) (c : Chg (fun _ => False) w w1) (bd : Bool) => h.put c bd R)
  have c0 : w.cell? ⟨b, 0, none⟩ = some (.string r.s) := cell_of h rfl
  clear h hE
  obtain ⟨s, bd⟩ := r
  simp only at *
  rcases he with rfl | rfl | rfl <;> cases bd
  all_goals
    simp only [Bool.false_or, Bool.true_or, ne_eq, not_true_eq_false, decide_false, Nat.reduceEqDiff, not_false_eq_true, decide_true]
    go_enter Tryz.func55, Tryz.ntmps55
    go_wp2_with fail
    refine N.out.mono ?_
    rintro e w1 ⟨rfl, hb⟩
    obtain ⟨y1, y2, y3, y4, -, -⟩ := HP.out w1 (chg_of_below hb) true
    obtain ⟨-, -, z3, z4, -, -⟩ := HP.out w1 (chg_of_below hb) false
    have HF := Lib.hid (fun bd => (HP.out w1 (chg_of_below hb) bd).2.2.2.2)
    clear hb N HP
    go_wp2
    go_ret
    exact ⟨rfl, HF.out _⟩
end
end Go.Proofs.YtgmmglmokkcgeaaGreat
