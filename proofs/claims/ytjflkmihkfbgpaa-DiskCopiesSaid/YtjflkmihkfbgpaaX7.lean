/- The document's disk: what its memory is; New, Used, Read. -/
import Derived.Test.YtjflkmihkfbgpaaX6
namespace Go.Proofs.Ytjflkmihkfbgpaa
open Go.RowKit Mk Go.Sort
set_option linter.unusedVariables false
set_option linter.unusedSimpArgs false

theorem info68 : ∃ (i : TypeInfo) (z : Value), Try.prog.info? 68 = some i ∧ i.zero = some z ∧ i.size = 4 ∧ i.bytes = 48 ∧ z.cells.size = 4 := by
  have h : ((Try.prog.info? 68).map fun i => (i.size, i.bytes, i.zero.map (·.cells.size))) = some (4, 48, some 4) := by kernel_rfl
  cases hi : Try.prog.info? 68 with
  | none => rw [hi] at h; cases h
  | some i =>
    rw [hi] at h
    simp only [Option.map_some, Option.some.injEq, Prod.mk.injEq] at h
    obtain ⟨h1, h2, h3⟩ := h
    cases hz : i.zero with
    | none => rw [hz] at h3; cases h3
    | some z => rw [hz] at h3; exact ⟨i, z, rfl, hz, h1, h2, by simpa using h3⟩

def ocells (T : List Thing) : List Value := T.flatMap opL
theorem ocells_len (T : List Thing) : (ocells T).length = T.length * 4 := by
  induction T with
  | nil => rfl
  | cons c L ih => simp only [ocells, List.flatMap_cons, List.length_append, List.length_cons] at *; rw [ih]; simp [opL]; omega
theorem ocells_append (A B : List Thing) : ocells (A ++ B) = ocells A ++ ocells B := by simp [ocells]
theorem ocells_get {T : List Thing} {i : Nat} {t : Thing} (h : T[i]? = some t) (j : Nat) (hj : j < 4) : (ocells T)[i * 4 + j]? = (opL t)[j]? := by
  induction T generalizing i with
  | nil => simp at h
  | cons a T ih =>
    simp only [ocells, List.flatMap_cons]
    cases i with
    | zero =>
      simp only [List.getElem?_cons_zero, Option.some.injEq] at h
      subst h
      rw [List.getElem?_append_left (by simp [opL]; omega)]
      simp
    | succ i =>
      rw [List.getElem?_append_right (by simp [opL]; omega)]
      have h2 := ih (by simpa using h)
      rw [show (i + 1) * 4 + j - (opL a).length = i * 4 + j by simp [opL]; omega]
      exact h2
/-- Files behind things, as the document has them. -/
def refActs (L : Files) (T : List Thing) : Files := T.foldl (fun L t => refAct t L) L
def rmays : Files → List Thing → Prop
  | _, [] => True
  | L, t :: T => may t.1 L ∧ rmays (refAct t L) T
theorem refActs_append (L : Files) (T U : List Thing) : refActs L (T ++ U) = refActs (refActs L T) U := List.foldl_append
theorem rmays_append {L : Files} {T U : List Thing} : rmays L (T ++ U) ↔ rmays L T ∧ rmays (refActs L T) U := by
  induction T generalizing L with
  | nil => simp [rmays, refActs]
  | cons t T ih => simp [rmays, refActs, ih, and_assoc]
theorem laidGo_len (n s : ByteArray) (d : Bool) (L : Files) : (laidGo n s d L).length ≤ L.length + (if d then 0 else 1) := by
  induction L generalizing d with
  | nil => cases d <;> simp [laidGo]
  | cons p L ih =>
    rw [laidGo_cons]
    have h := ih (d || ahead n p.1)
    generalize ahead n p.1 = b at *
    simp only [List.length_append, List.length_cons]
    by_cases hp : p.1 = n
    · rw [if_pos hp]
      cases d <;> cases b <;> simp at h ⊢ <;> omega
    · rw [if_neg hp]
      cases d <;> cases b <;> simp at h ⊢ <;> omega
theorem laidM_len (L : Files) (n s : ByteArray) : (laidM L n s).length ≤ L.length + 1 := laidGo_len n s false L
theorem refAct_len (t : Thing) (L : Files) : (refAct t L).length ≤ L.length + 1 := by
  obtain ⟨d, s⟩ := t
  cases d with
  | app n => exact laidM_len ..
  | wr n => exact laidM_len ..
  | trunc n k => exact laidM_len ..
  | ren a b => exact Nat.le_trans (laidM_len ..) (by have := goneM_len L a; omega)
  | rem n => exact Nat.le_trans (goneM_len L n) (by omega)
theorem refActs_len (L : Files) (T : List Thing) : (refActs L T).length ≤ L.length + T.length := by
  induction T generalizing L with
  | nil => exact Nat.le_refl _
  | cons t T ih => have h1 := ih (refAct t L); have h2 := refAct_len t L; simp only [refActs, List.foldl_cons, List.length_cons] at *; omega

/-- The document's disk. -/
structure RefM where
  room : Nat
  K : Files
  T : List Thing
  N : Files
structure RRep (w : World) (x : Nat) (kv ov nv : Value) (F : Nat → Prop) (S : Nat) (r : RefM) : Prop where
  blk : w.heap[x]? = some (.cells #[.int .i64 r.room, kv, ov, nv] 42)
  k : FL w kv r.K
  o : sl w 68 4 ov r.T.length (ocells r.T)
  n : FL w nv r.N
  fx : F x
  fk : ∀ g, kv.ownBlock = some g → F g
  fo : ∀ g, ov.ownBlock = some g → F g
  fn : ∀ g, nv.ownBlock = some g → F g
  room : r.room ≤ 9223372036854775807
  len : r.K.length + r.T.length ≤ S ∧ r.N.length ≤ S
  size : tot r.N ≤ S ∧ tot r.K + bulk r.T ≤ S ∧ S ≤ 1099511627776
  acts : r.N = refActs r.K r.T
  mays : rmays r.K r.T
def RIs (w : World) (x : Nat) (F : Nat → Prop) (S : Nat) (r : RefM) : Prop := ∃ kv ov nv, RRep w x kv ov nv F S r
section
variable {w w' : World} {x : Nat} {kv ov nv : Value} {F G : Nat → Prop} {S : Nat} {r : RefM}
theorem RRep.lt (h : RRep w x kv ov nv F S r) : x < w.heap.size := (Array.getElem?_eq_some_iff.1 h.blk).1
theorem RRep.stay (h : RRep w x kv ov nv F S r) (c : Chg G w w') (hd : ∀ i, F i → ¬ G i) : RRep w' x kv ov nv F S r :=
  ⟨(c.block x h.lt (hd x h.fx)).trans h.blk, sl.stay h.k (fun g hg => c.block g (sl.lt h.k hg) (hd g (h.fk g hg))), sl.stay h.o (fun g hg => c.block g (sl.lt h.o hg) (hd g (h.fo g hg))), sl.stay h.n (fun g hg => c.block g (sl.lt h.n hg) (hd g (h.fn g hg))), h.fx, h.fk, h.fo, h.fn, h.room, h.len, h.size, h.acts, h.mays⟩
theorem RRep.below (h : RRep w x kv ov nv F S r) (c : Below w.heap.size w w') : RRep w' x kv ov nv F S r := h.stay (chg_of_below c) (fun _ _ f => f)
theorem RRep.foot (h : RRep w x kv ov nv F S r) (hF : ∀ i, F i → G i) : RRep w x kv ov nv G S r :=
  ⟨h.blk, h.k, h.o, h.n, hF _ h.fx, fun g hg => hF _ (h.fk g hg), fun g hg => hF _ (h.fo g hg), fun g hg => hF _ (h.fn g hg), h.room, h.len, h.size, h.acts, h.mays⟩
theorem RRep.larger {S' : Nat} (h : RRep w x kv ov nv F S r) (hS : S ≤ S') (h' : S' ≤ 1099511627776) : RRep w x kv ov nv F S' r :=
  ⟨h.blk, h.k, h.o, h.n, h.fx, h.fk, h.fo, h.fn, h.room, ⟨Nat.le_trans h.len.1 hS, Nat.le_trans h.len.2 hS⟩, ⟨Nat.le_trans h.size.1 hS, Nat.le_trans h.size.2.1 hS, h'⟩, h.acts, h.mays⟩
theorem RRep.cells (h : RRep w x kv ov nv F S r) : w.cell? ⟨x, 0, none⟩ = some (.int .i64 r.room) ∧ w.cell? ⟨x, 1, none⟩ = some kv ∧ w.cell? ⟨x, 2, none⟩ = some ov ∧ w.cell? ⟨x, 3, none⟩ = some nv :=
  ⟨cell_of h.blk rfl, cell_of h.blk rfl, cell_of h.blk rfl, cell_of h.blk rfl⟩
theorem RRep.nes (h : RRep w x kv ov nv F S r) : (∀ g, kv.ownBlock = some g → g ≠ x) ∧ (∀ g, ov.ownBlock = some g → g ≠ x) ∧ (∀ g, nv.ownBlock = some g → g ≠ x) ∧ (∀ g, ov.ownBlock = some g → kv.ownBlock ≠ some g ∧ nv.ownBlock ≠ some g) := by
  have rowF : ∀ {v : Value} {L : Files}, FL w v L → ∀ g, v.ownBlock = some g → ∃ cur, w.heap[g]? = some (.cells cur 73) := fun {v L} hv g hg => by
    rcases hv.2 with ⟨rfl, _⟩ | ⟨g', cap, cur, rfl, hh, _⟩
    · simp [Value.ownBlock] at hg
    · simp [Value.ownBlock] at hg; subst hg; exact ⟨cur, hh⟩
  have rowO : ∀ g, ov.ownBlock = some g → ∃ cur, w.heap[g]? = some (.cells cur 68) := fun g hg => by
    rcases h.o.2 with ⟨rfl, _⟩ | ⟨g', cap, cur, rfl, hh, _⟩
    · simp [Value.ownBlock] at hg
    · simp [Value.ownBlock] at hg; subst hg; exact ⟨cur, hh⟩
  refine ⟨fun g hg e => ?_, fun g hg e => ?_, fun g hg e => ?_, fun g hg => ⟨fun e => ?_, fun e => ?_⟩⟩
  · obtain ⟨cur, hh⟩ := rowF h.k g hg; rw [e, h.blk] at hh; simp at hh
  · obtain ⟨cur, hh⟩ := rowO g hg; rw [e, h.blk] at hh; simp at hh
  · obtain ⟨cur, hh⟩ := rowF h.n g hg; rw [e, h.blk] at hh; simp at hh
  · obtain ⟨cur, hh⟩ := rowO g hg; obtain ⟨cur', hh'⟩ := rowF h.k g e; rw [hh] at hh'; simp at hh'
  · obtain ⟨cur, hh⟩ := rowO g hg; obtain ⟨cur', hh'⟩ := rowF h.n g e; rw [hh] at hh'; simp at hh'
/-- A call's end: the document's disk is so; nothing but its own blocks has turned. -/
structure RTo (w : World) (x : Nat) (F : Nat → Prop) (S : Nat) (r : RefM) (w' : World) : Prop where
  is : RIs w' x (fun g => F g ∨ w.heap.size ≤ g) S r
  chg : Chg F w w'
theorem RTo.of_below (h : RIs w x F S r) (c : Below w.heap.size w w') : RTo w x F S r w' := by
  obtain ⟨kv, ov, nv, h⟩ := h
  exact ⟨⟨kv, ov, nv, (h.below c).foot (fun _ => Or.inl)⟩, (chg_of_below c).mono (fun _ f => f.elim)⟩
theorem RTo.larger {S' : Nat} (h : RTo w x F S r w') (hS : S ≤ S') (h' : S' ≤ 1099511627776) : RTo w x F S' r w' := by
  obtain ⟨⟨kv, ov, nv, h1⟩, h2⟩ := h
  exact ⟨⟨kv, ov, nv, h1.larger hS h'⟩, h2⟩

def rnewM (room : Int) : RefM := ⟨room.toNat, [], [], []⟩
theorem rnew_any (w : World) (room : Int) (h1 : room ≤ 9223372036854775807) :
    Calls Try.prog 14 #[.int .i64 room] w fun e w' => ∃ x, e = .returned (.pointer (some ⟨x, 0, none⟩)) ∧ RIs w' x (fun g => w.heap.size ≤ g) 0 (rnewM room) ∧ Below w.heap.size w w' := by
  have fin : ∀ k : Nat, (k : Int) = (rnewM room).room → (rnewM room).room ≤ 9223372036854775807 → RIs (w.alloc (.cells #[.int .i64 k, .slice none 0 0, .slice none 0 0, .slice none 0 0] 42)) w.heap.size (fun g => w.heap.size ≤ g) 0 (rnewM room) := fun k hk hr => by
    refine ⟨.slice none 0 0, .slice none 0 0, .slice none 0 0, ?_, sl_nil _ _ _, sl_nil _ _ _, sl_nil _ _ _, Nat.le_refl _, ?_, ?_, ?_, hr, ⟨Nat.le_refl _, Nat.le_refl _⟩, ⟨Nat.le_refl _, Nat.le_refl _, by omega⟩, rfl, trivial⟩
    · rw [← hk]; exact Go.heap_alloc_new _ _
    · intro g hg; simp [Value.ownBlock] at hg
    · intro g hg; simp [Value.ownBlock] at hg
    · intro g hg; simp [Value.ownBlock] at hg
  by_cases h0 : room < 0
  · have q : decide (room < 0) = true := by simpa using h0
    have HF := Lib.hid (fin 0 (by simp only [rnewM]; omega) (by simp only [rnewM]; omega))
    clear fin
    go_enter Try.func14, Try.ntmps14
    go_wp2
    go_ret
    exact ⟨_, rfl, HF.out, (Below.refl _ w).alloc (Nat.le_refl _) _⟩
  · have q : decide (room < 0) = false := by simpa using h0
    obtain ⟨k, rfl⟩ : ∃ k : Nat, room = k := ⟨room.toNat, by omega⟩
    have HF := Lib.hid (fin k (by simp [rnewM]) (by simp only [rnewM]; omega))
    clear fin
    go_enter Try.func14, Try.ntmps14
    go_wp2
    go_ret
    exact ⟨_, rfl, HF.out, (Below.refl _ w).alloc (Nat.le_refl _) _⟩
theorem rmay_any (s : ByteArray) (w : World) : Calls Try.prog 51 #[.string s] w fun e w' => e = .returned (.bool (named s)) ∧ w' = w := by
  have h1 : decide ((1 : Int) ≤ s.size) = decide (1 ≤ s.size) := by simp; omega
  have h2 : decide ((s.size : Int) ≤ 128) = decide (s.size ≤ 128) := by simp; omega
  unfold named
  cases e1 : decide (1 ≤ s.size) <;> cases e2 : decide (s.size ≤ 128) <;> rw [e1] at h1 <;> rw [e2] at h2 <;> clear e1 e2
  all_goals
    go_enter Try.func51, Try.ntmps51
    go_wp2
    go_ret
    exact ⟨rfl, rfl⟩
set_option maxRecDepth 100000 in
theorem rused_any (h : RIs w x F S r) : Calls Try.prog 17 #[.pointer (some ⟨x, 0, none⟩)] w fun e w' => e = .returned (.int .i64 (tot r.N)) ∧ w' = w := by
  obtain ⟨kv, ov, nv, h⟩ := h
  have c3 := h.cells.2.2.2
  obtain ⟨ao, ac, rfl⟩ := h.n.shape
  have HN := Lib.hid h.n
  have hb : tot r.N ≤ 1099511627776 := Nat.le_trans h.size.1 h.size.2.2
  have hl : r.N.length ≤ 1099511627776 := Nat.le_trans h.len.2 h.size.2.2
  generalize r.N = L at *
  clear h
  have hsplit : ∀ (k : Nat) (p : ByteArray × ByteArray), L[k]? = some p → tot (L.drop k) = p.2.size + tot (L.drop (k + 1)) := fun k p hp => by
    obtain ⟨hl, rfl⟩ := List.getElem?_eq_some_iff.1 hp
    rw [List.drop_eq_getElem_cons hl]
    unfold tot
    rw [List.map_cons, List.sum_cons]
  have HS := Lib.hid hsplit
  clear hsplit
  go_enter Try.func17, Try.ntmps17
  go_wp2
  go_loop [3, 4] (fun s i => ∃ (k n : Nat), k ≤ L.length ∧ i = .int .i64 k ∧ s = .int .i64 n ∧ Hid (n + tot (L.drop k) = tot L)) (fun _ i => L.length - (intOf i).toNat)
  case atStart => exact ⟨0, 0, by omega, rfl, rfl, Lib.hid (by simp)⟩
  case round =>
    obtain ⟨k, n, hk, rfl, rfl, HI⟩ := hrel
    have l0 : (0 : Int) ≤ k := by omega
    by_cases hlt : k < L.length
    · obtain ⟨y, hy⟩ : ∃ y, L[k]? = some y := ⟨L[k]'hlt, List.getElem?_eq_getElem hlt⟩
      obtain ⟨g, cap, e, h0, h1⟩ := HN.out.cells hy
      cases e
      have l1 : (k : Int) < L.length := by omega
      have q : decide (k < L.length) = true := by simpa using hlt
      have hs := HS.out k y hy
      have hI := HI.out
      rw [hs] at hI
      obtain ⟨yk, yv⟩ := y
      simp only at h0 h1 hI
      have hn : n + yv.size ≤ 1099511627776 := by omega
      have HI2 := Lib.hid (show n + yv.size + tot (L.drop (k + 1)) = tot L by omega)
      clear hy hs hI
      go_wp2
      go_round
      case rel => exact ⟨k + 1, n + yv.size, by omega, by go_num, by go_num, HI2⟩
      case measure => simp [intOf]; omega
    · obtain rfl : k = L.length := by omega
      have q : decide (L.length < L.length) = false := by simp
      have hI := HI.out
      rw [List.drop_length] at hI
      have hI2 : n = tot L := by simpa [tot] using hI
      subst hI2
      clear hI
      go_wp2
      go_ret
      exact ⟨rfl, rfl⟩
def rreadM (r : RefM) (n : ByteArray) : ByteArray × Int := if named n = false then (⟨#[]⟩, 2) else match lk r.N n with
  | none => (⟨#[]⟩, 5)
  | some s => (s, 0)
set_option maxRecDepth 100000 in
theorem rread_any (h : RIs w x F S r) (n : ByteArray) : Calls Try.prog 39 #[.pointer (some ⟨x, 0, none⟩), .string n] w fun e w' => e = .returned (.tuple #[.string (rreadM r n).1, .int .i64 (rreadM r n).2]) ∧ w' = w := by
  obtain ⟨kv, ov, nv, h⟩ := h
  have c3 := h.cells.2.2.2
  obtain ⟨ao, ac, rfl⟩ := h.n.shape
  have hl : r.N.length ≤ 1099511627776 := Nat.le_trans h.len.2 h.size.2.2
  have MY := Lib.hid (rmay_any n w)
  have FI := find_any h.n hl n
  have BY := Lib.hid (bytes_any h.n hl n)
  unfold rreadM
  cases hn : named n
  · rw [hn] at MY
    clear h FI BY hn
    simp only [if_true]
    go_enter Try.func39, Try.ntmps39
    go_wp2_with fail
    refine MY.out.mono ?_
    rintro e w' ⟨rfl, rfl⟩
    go_wp2
    go_ret2
    exact ⟨rfl, rfl⟩
  · rw [hn] at MY
    simp only [Bool.true_eq_false, if_false]
    cases hk : lk r.N n with
    | none =>
      rw [findI_none hk] at FI
      have FI := Lib.hid FI
      clear h BY hn hk
      go_enter Try.func39, Try.ntmps39
      go_wp2_with fail
      refine MY.out.mono ?_
      rintro e w' ⟨rfl, rfl⟩
      go_wp2_with fail
      refine FI.out.mono ?_
      rintro e w' ⟨rfl, rfl⟩
      go_wp2
      go_ret2
      exact ⟨rfl, rfl⟩
    | some s =>
      obtain ⟨j, hj, -⟩ := findI_some hk 0
      rw [Nat.zero_add] at hj
      rw [hj] at FI
      have e0 : byt r.N n = s := by unfold byt; rw [hk]; rfl
      rw [e0] at BY
      have FI := Lib.hid FI
      have l0 : (0 : Int) ≤ j := by omega
      clear h hn hk hj e0
      go_enter Try.func39, Try.ntmps39
      go_wp2_with fail
      refine MY.out.mono ?_
      rintro e w' ⟨rfl, rfl⟩
      go_wp2_with fail
      refine FI.out.mono ?_
      rintro e w' ⟨rfl, rfl⟩
      go_wp2_with fail
      refine BY.out.mono ?_
      rintro e w' ⟨rfl, rfl⟩
      go_wp2
      go_ret2
      exact ⟨rfl, rfl⟩
end
end Go.Proofs.Ytjflkmihkfbgpaa
