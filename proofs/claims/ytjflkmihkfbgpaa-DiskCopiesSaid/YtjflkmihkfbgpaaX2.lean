/- The document's files: rows; find, bytes, gone. -/
import Derived.Test.YtjflkmihkfbgpaaX1
import Derived.Lib.Hide
import Derived.Lib.Strings
import Derived.BigQuiet
namespace Go.Proofs.Ytjflkmihkfbgpaa
open Go.RowKit Mk Go.Sort
set_option linter.unusedVariables false
set_option linter.unusedSimpArgs false

theorem toList_inj {a b : ByteArray} (h : a.toList = b.toList) : a = b := by
  have h1 : a.data.toList = b.data.toList := by rw [← Lib.toList_data, ← Lib.toList_data]; exact h
  cases a; cases b; simp only [ByteArray.mk.injEq] at h1 ⊢; exact Array.toList_inj.1 h1
theorem strLess_eq : ∀ (x y : List UInt8), Op.bytesLess x y = decide (x < y)
  | [], [] => by simp [Op.bytesLess]
  | _ :: _, [] => by simp [Op.bytesLess]
  | [], _ :: _ => by simp [Op.bytesLess]
  | a :: x, b :: y => by
    rw [Op.bytesLess, strLess_eq x y]
    simp only [List.cons_lt_cons_iff]
    by_cases h1 : a < b <;> by_cases h2 : a = b <;> by_cases h3 : x < y <;> simp [h1, h2, h3]
theorem info73 : ∃ (i : TypeInfo) (z : Value), Try.prog.info? 73 = some i ∧ i.zero = some z ∧ i.size = 2 ∧ i.bytes = 32 ∧ z.cells.size = 2 := by
  have h : ((Try.prog.info? 73).map fun i => (i.size, i.bytes, i.zero.map (·.cells.size))) = some (2, 32, some 2) := by kernel_rfl
  cases hi : Try.prog.info? 73 with
  | none => rw [hi] at h; cases h
  | some i =>
    rw [hi] at h
    simp only [Option.map_some, Option.some.injEq, Prod.mk.injEq] at h
    obtain ⟨h1, h2, h3⟩ := h
    cases hz : i.zero with
    | none => rw [hz] at h3; cases h3
    | some z => rw [hz] at h3; exact ⟨i, z, rfl, hz, h1, h2, by simpa using h3⟩
def fileL (p : ByteArray × ByteArray) : List Value := [.string p.1, .string p.2]
def fcells (L : Files) : List Value := L.flatMap fileL
theorem fcells_len (L : Files) : (fcells L).length = L.length * 2 := by
  induction L with
  | nil => rfl
  | cons c L ih => simp only [fcells, List.flatMap_cons, List.length_append, List.length_cons] at *; rw [ih]; simp [fileL]; omega
theorem fcells_append (A B : Files) : fcells (A ++ B) = fcells A ++ fcells B := by simp [fcells]
theorem fcells_get {L : Files} {i : Nat} {c : ByteArray × ByteArray} (h : L[i]? = some c) (j : Nat) (hj : j < 2) : (fcells L)[i * 2 + j]? = (fileL c)[j]? := by
  induction L generalizing i with
  | nil => simp at h
  | cons a L ih =>
    simp only [fcells, List.flatMap_cons]
    cases i with
    | zero =>
      simp only [List.getElem?_cons_zero, Option.some.injEq] at h
      subst h
      rw [List.getElem?_append_left (by simp [fileL]; omega)]
      simp
    | succ i =>
      rw [List.getElem?_append_right (by simp [fileL]; omega)]
      have h2 := ih (by simpa using h)
      rw [show (i + 1) * 2 + j - (fileL a).length = i * 2 + j by simp [fileL]; omega]
      exact h2
/-- The slice v holds the files L. -/
def FL (w : World) (v : Value) (L : Files) : Prop := sl w 73 2 v L.length (fcells L)
theorem FL.cells {w : World} {v : Value} {L : Files} (h : FL w v L) {i : Nat} {c : ByteArray × ByteArray} (hc : L[i]? = some c) : ∃ g cap, v = .slice (some ⟨g, 0, none⟩) L.length cap ∧ w.cell? ⟨g, i * 2, none⟩ = some (.string c.1) ∧ w.cell? ⟨g, i * 2 + 1, none⟩ = some (.string c.2) := by
  obtain ⟨g, cap, e, h0⟩ := sl.cell h (i := i * 2) (u := .string c.1) (by have := fcells_get hc 0 (by omega); simpa [fileL] using this)
  obtain ⟨g1, cap1, e1, h1⟩ := sl.cell h (i := i * 2 + 1) (u := .string c.2) (by have := fcells_get hc 1 (by omega); simpa [fileL] using this)
  subst e
  cases e1
  exact ⟨g, cap, rfl, h0, h1⟩
theorem FL.stay {w w' : World} {v : Value} {L : Files} (h : FL w v L) (k : Below w.heap.size w w') : FL w' v L := sl.stay h (fun _ hg => k.block _ (sl.lt h hg))
theorem FL.shape {w : World} {v : Value} {L : Files} (h : FL w v L) : ∃ o c, v = .slice o L.length c := by
  rcases h.2 with ⟨rfl, e⟩ | ⟨g, cap, cur, rfl, _⟩
  · exact ⟨_, _, by rw [e]⟩
  · exact ⟨_, _, rfl⟩
def FPost (w : World) (M : Files) (e : Ending) (w' : World) : Prop :=
  ∃ o c, e = .returned (.slice o M.length c) ∧ FL w' (.slice o M.length c) M ∧ Below w.heap.size w w' ∧ ∀ g, (Value.slice o M.length c).ownBlock = some g → w.heap.size ≤ g
structure FOut (w : World) (A : Files) (v : Value) (wr : World) : Prop where
  has : FL wr v A
  own : ∀ g, v.ownBlock = some g → w.heap.size ≤ g
  below : Below w.heap.size w wr
theorem FOut.stay {w : World} {A : Files} {v : Value} {wr w2 : World} (h : FOut w A v wr) (b : Below wr.heap.size wr w2) : FOut w A v w2 :=
  ⟨h.has.stay b, h.own, h.below.trans (b.mono h.below.size)⟩
theorem FOut.snoc {w : World} {A : Files} {v : Value} {wr w3 w4 : World} (h : FOut w A v wr) {x y : ByteArray} (hw3 : w3 = wr.alloc (.cells #[.string x, .string y] 73)) {v' : Value} (hs : sl w4 73 2 v' (A.length + 1) (fcells A ++ [.string x, .string y])) (hg : w3.grownBy w4 v.ownBlock) (ha : v'.ownBlock = v.ownBlock ∨ v'.ownBlock = some w3.heap.size) :
    (∃ o' c', v' = .slice o' (A.length + 1) c') ∧ FOut w (A ++ [(x, y)]) v' w4 := by
  have hb : Below wr.heap.size wr w3 := by rw [hw3]; exact (Below.refl _ wr).alloc (Nat.le_refl _) _
  have hhas : FL w4 v' (A ++ [(x, y)]) := by
    unfold FL
    rw [fcells_append, List.length_append]
    exact hs
  obtain ⟨o', c', e'⟩ := hhas.shape
  rw [List.length_append] at e'
  have h1 := hb.size
  have h2 := h.below.size
  refine ⟨⟨o', c', e'⟩, hhas, fun g hg' => ?_, ?_⟩
  · rcases ha with e | e
    · exact h.own g (by rw [← e]; exact hg')
    · rw [e] at hg'
      have := Option.some.inj hg'
      omega
  · exact (h.below.trans (hb.mono h.below.size)).trans ⟨hg.os, hg.tape, hg.output, hg.size, fun i hi => hg.block i (by omega) (fun e => by have := h.own i e.symm; omega)⟩
theorem fl_alloc {w : World} {v : Value} {A : Files} (h : FL w v A) (o : Obj) : sl (w.alloc o) 73 2 v A.length (fcells A) := h.stay ((Below.refl _ w).alloc (Nat.le_refl _) _)

/-- Where a file is; -1: nowhere. -/
def findI : Files → ByteArray → Nat → Int
  | [], _, _ => -1
  | p :: L, n, i => if p.1 = n then i else findI L n (i + 1)
theorem findI_none {L : Files} {n : ByteArray} (h : lk L n = none) (i : Nat) : findI L n i = -1 := by
  induction L generalizing i with
  | nil => rfl
  | cons p L ih =>
    unfold lk at h
    split at h
    · cases h
    · rename_i hp; unfold findI; rw [if_neg hp]; exact ih h _
theorem findI_some {L : Files} {n s : ByteArray} (h : lk L n = some s) (i : Nat) : ∃ j : Nat, findI L n i = ((i + j : Nat) : Int) ∧ L[j]? = some (n, s) := by
  induction L generalizing i with
  | nil => cases h
  | cons p L ih =>
    unfold lk at h
    split at h
    · rename_i hp
      refine ⟨0, by unfold findI; rw [if_pos hp]; rfl, ?_⟩
      obtain ⟨a, b⟩ := p
      simp only at hp
      have := Option.some.inj h
      simp only at this
      rw [List.getElem?_cons_zero, hp, this]
    · rename_i hp
      obtain ⟨j, h1, h2⟩ := ih h (i + 1)
      exact ⟨j + 1, by unfold findI; rw [if_neg hp, h1]; congr 1; omega, by simpa using h2⟩

set_option maxRecDepth 100000 in
theorem find_any {w : World} {v : Value} {L : Files} (h : FL w v L) (hL : L.length ≤ 1099511627776) (n : ByteArray) :
    Calls Try.prog 52 #[v, .string n] w fun e w' => e = .returned (.int .i64 (findI L n 0)) ∧ w' = w := by
  have H := Lib.hid h
  obtain ⟨o, c, rfl⟩ := h.shape
  obtain ⟨E, HE⟩ : ∃ E, Hid (findI L n 0 = E) := ⟨_, Lib.hid rfl⟩
  rw [HE.out]
  clear h
  go_enter Try.func52, Try.ntmps52
  go_wp2
  go_loop [5] (fun i => ∃ k : Nat, k ≤ L.length ∧ i = .int .i64 k ∧ Hid (findI (L.drop k) n k = E)) (fun i => L.length - (intOf i).toNat)
  case atStart => exact ⟨0, by omega, rfl, HE⟩
  case round =>
    obtain ⟨k, hk, rfl, HI⟩ := hrel
    clear HE
    have l0 : (0 : Int) ≤ k := by omega
    by_cases hlt : k < L.length
    · obtain ⟨y, hy⟩ : ∃ y, L[k]? = some y := ⟨L[k]'hlt, List.getElem?_eq_getElem hlt⟩
      have hd : L.drop k = y :: L.drop (k + 1) := by
        obtain ⟨hl, rfl⟩ := List.getElem?_eq_some_iff.1 hy
        exact List.drop_eq_getElem_cons hl
      obtain ⟨g, cap, e, h0, h1⟩ := H.out.cells hy
      cases e
      have l1 : (k : Int) < L.length := by omega
      have q : decide (k < L.length) = true := by simpa using hlt
      have hI := HI.out
      rw [hd] at hI
      unfold findI at hI
      obtain ⟨yk, yv⟩ := y
      simp only at h0 h1 hI
      clear hy hd HI
      by_cases hk2 : yk = n
      · have v1 : (yk.toList == n.toList) = true := by rw [hk2]; simp
        rw [if_pos hk2] at hI
        have HI := Lib.hid hI
        clear hI hk2
        go_wp2
        go_ret
        have hE := HI.out
        subst hE
        exact ⟨rfl, rfl⟩
      · have v1 : (yk.toList == n.toList) = false := by rw [beq_eq_false_iff_ne]; exact fun e => hk2 (toList_inj e)
        rw [if_neg hk2] at hI
        have HI := Lib.hid hI
        clear hI hk2
        go_wp2
        go_round
        case rel => exact ⟨k + 1, by omega, by go_num, HI⟩
        case measure => simp [intOf]; omega
    · obtain rfl : k = L.length := by omega
      have q : decide (L.length < L.length) = false := by simp
      have hI := HI.out
      rw [List.drop_length] at hI
      unfold findI at hI
      have HI := Lib.hid hI
      clear hI
      go_wp2
      go_ret
      have hE := HI.out
      subst hE
      exact ⟨rfl, rfl⟩

set_option maxRecDepth 100000 in
theorem bytes_any {w : World} {v : Value} {L : Files} (h : FL w v L) (hL : L.length ≤ 1099511627776) (n : ByteArray) :
    Calls Try.prog 53 #[v, .string n] w fun e w' => e = .returned (.string (byt L n)) ∧ w' = w := by
  have A := find_any h hL n
  cases hl : lk L n with
  | none =>
    have e0 : byt L n = ⟨#[]⟩ := by unfold byt; rw [hl]; rfl
    rw [findI_none hl] at A
    rw [e0]
    have A := Lib.hid A
    clear h hl
    go_enter Try.func53, Try.ntmps53
    go_wp2_with fail
    refine A.out.mono ?_
    rintro e w' ⟨rfl, rfl⟩
    go_wp2
    go_ret
    exact ⟨rfl, rfl⟩
  | some s =>
    have e0 : byt L n = s := by unfold byt; rw [hl]; rfl
    obtain ⟨j, hj, hs⟩ := findI_some hl 0
    rw [Nat.zero_add] at hj
    rw [hj] at A
    rw [e0]
    obtain ⟨g, cap, e, h0, h1⟩ := h.cells hs
    cases e
    have hlt := (List.getElem?_eq_some_iff.1 hs).1
    have l0 : (0 : Int) ≤ j := by omega
    have l1 : (j : Int) < L.length := by omega
    have A := Lib.hid A
    simp only at h1
    clear h hl hs hj
    go_enter Try.func53, Try.ntmps53
    go_wp2_with fail
    refine A.out.mono ?_
    rintro e w' ⟨rfl, rfl⟩
    go_wp2
    go_ret
    exact ⟨rfl, rfl⟩

/-- Files without one. -/
def goneM : Files → ByteArray → Files
  | [], _ => []
  | p :: L, n => (if p.1 = n then [] else [p]) ++ goneM L n
theorem goneM_cons (p : ByteArray × ByteArray) (L : Files) (n : ByteArray) : goneM (p :: L) n = (if p.1 = n then [] else [p]) ++ goneM L n := rfl

set_option maxRecDepth 100000 in
set_option maxHeartbeats 1000000 in
theorem gone_any {w : World} {v : Value} {L : Files} (h : FL w v L) (hL : L.length ≤ 1099511627776) (n : ByteArray) :
    Calls Try.prog 58 #[v, .string n] w fun e w' => FPost w (goneM L n) e w' := by
  obtain ⟨i6, z6, hi6, hz6, hsz6, hby6, hzs6⟩ := info73
  obtain ⟨o, c, rfl⟩ := h.shape
  have HH := Lib.hid h
  clear h
  go_enter Try.func58, Try.ntmps58
  go_wp2
  go_loopw [5, 6] (fun v i wr => ∃ (k : Nat) (A : Files) (ao : Option Addr) (ac : Nat), k ≤ L.length ∧ i = .int .i64 k ∧ v = .slice ao A.length ac ∧ A.length ≤ k ∧ Hid (FOut w A (.slice ao A.length ac) wr ∧ A ++ goneM (L.drop k) n = goneM L n)) (fun _ i _ => L.length - (intOf i).toNat)
  case atStart => exact ⟨0, [], none, 0, by omega, rfl, rfl, by simp, Lib.hid ⟨⟨sl_nil _ _ _, fun g hg => by simp [Value.ownBlock] at hg, Below.refl _ _⟩, rfl⟩⟩
  case round =>
    obtain ⟨k, A, ao, ac, hk, rfl, rfl, hAk, HI⟩ := hrel
    have l0 : (0 : Int) ≤ k := by omega
    by_cases hlt : k < L.length
    · obtain ⟨x, hx⟩ : ∃ x, L[k]? = some x := ⟨L[k]'hlt, List.getElem?_eq_getElem hlt⟩
      have hd : L.drop k = x :: L.drop (k + 1) := by
        obtain ⟨hl, rfl⟩ := List.getElem?_eq_some_iff.1 hx
        exact List.drop_eq_getElem_cons hl
      have hhr := HH.out.stay HI.out.1.below
      obtain ⟨g, cap, e, h0, h1⟩ := hhr.cells hx
      cases e
      have l1 : (k : Int) < L.length := by omega
      have q : decide (k < L.length) = true := by simpa using hlt
      have hgo := HI.out.2
      rw [hd, goneM_cons] at hgo
      obtain ⟨xk, xv⟩ := x
      simp only at h0 h1 hgo
      by_cases hk2 : xk = n
      · have v1 : (xk.toList == n.toList) = true := by rw [hk2]; simp
        rw [if_pos hk2, List.nil_append] at hgo
        have HN := Lib.hid (And.intro HI.out.1 hgo)
        clear hx hd hgo hhr hk2
        go_wp2
        go_round
        case rel => exact ⟨k + 1, A, ao, ac, by omega, by go_num, rfl, by omega, HN⟩
        case measure => simp [intOf]; omega
      · have v1 : (xk.toList == n.toList) = false := by rw [beq_eq_false_iff_ne]; exact fun e => hk2 (toList_inj e)
        rw [if_neg hk2] at hgo
        have HC3 := Lib.hid (cell_new_two (Go.heap_alloc_new wr (.cells #[.string xk, .string xv] 73)))
        have HSL := Lib.hid (fl_alloc HI.out.1.has (.cells #[.string xk, .string xv] 73))
        have bb1 : A.length + 1 ≤ maxLen := by simp only [maxLen]; omega
        have bb2 : (A.length + 1) * 32 ≤ 140737488355328 := by omega
        have E1 := Lib.hid (fun (v' : Value) (w4 : World) (hs : sl w4 73 2 v' (A.length + 1) (fcells A ++ [.string xk, .string xv])) (hg4 : (wr.alloc (.cells #[.string xk, .string xv] 73)).grownBy w4 (Value.slice ao A.length ac).ownBlock) (ha : v'.ownBlock = (Value.slice ao A.length ac).ownBlock ∨ v'.ownBlock = some (wr.alloc (.cells #[.string xk, .string xv] 73)).heap.size) =>
          (show ∃ (o' : Option Addr) (c' : Nat), v' = .slice o' (A.length + 1) c' ∧ Hid (FOut w (A ++ [(xk, xv)]) (.slice o' (A.length + 1) c') w4 ∧ (A ++ [(xk, xv)]) ++ goneM (L.drop (k + 1)) n = goneM L n) from by
            obtain ⟨⟨o', c', rfl⟩, ho⟩ := HI.out.1.snoc rfl hs hg4 ha
            exact ⟨o', c', rfl, Lib.hid ⟨ho, by rw [List.append_assoc]; exact hgo⟩⟩))
        clear hx hd hgo hhr hk2
        go_wp2_with (refine wpList_append_sl (by rfl) (.tmp 20) (.tmp 25) 39 (by rfl) 73 i6 z6 2 32 Try.underlying39 hi6 hz6 hsz6 hby6 hzs6 (by decide) (.slice ao A.length ac) A.length (fcells A) (by rfl) HSL.out (some ⟨wr.heap.size, 0, none⟩) 1 1 [.string xk, .string xv] (by rfl) (by rfl) (fun _ => ⟨_, rfl, HC3.out⟩) (fun h => absurd h (by decide)) (by simp [Value.oneCell']) bb1 bb2 ?_; intro v' w4 hs hg4 ha; obtain ⟨o', c', hv', HN⟩ := E1.out v' w4 hs hg4 ha; clear hs hg4 ha; subst hv')
        go_round
        case rel => exact ⟨k + 1, A ++ [(xk, xv)], o', c', by omega, by go_num, by simp, by simp; omega, by simpa using HN⟩
        case measure => simp [intOf]; omega
    · obtain rfl : k = L.length := by omega
      have q : decide (L.length < L.length) = false := by simp
      have HF := Lib.hid (show FPost w (goneM L n) (.returned (.slice ao A.length ac)) wr from by
        have h2 := HI.out.2
        rw [List.drop_length] at h2
        have h3 : A = goneM L n := by rw [← h2]; simp [goneM]
        rw [← h3]
        exact ⟨_, _, rfl, HI.out.1.has, HI.out.1.below, HI.out.1.own⟩)
      go_wp2
      go_ret
      exact HF.out
end Go.Proofs.Ytjflkmihkfbgpaa
