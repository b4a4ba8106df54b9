/- Files: texts by their names; a map's block that holds them, in whatever order. Holds of any program. -/
import Derived.Test.YtjflkmihkfbgpaaRange
import Derived.StringKeys
namespace Go.Proofs.Ytjflkmihkfbgpaa
open Go Go.ChangeMaps Go.MapKept Go.RowKit
open Mk

section
variable {K V W : Type} [DecidableEq K]

theorem lk_map (f : V → W) (L : List (K × V)) (x : K) : lk (L.map fun p => (p.1, f p.2)) x = (lk L x).map f := by
  induction L with
  | nil => rfl
  | cons p L ih => simp only [List.map_cons, lk, ih]; split <;> rfl
theorem upd_map (f : V → W) (L : List (K × V)) (x : K) (v : V) : upd (L.map fun p => (p.1, f p.2)) x (f v) = (upd L x v).map fun p => (p.1, f p.2) := by
  induction L with
  | nil => rfl
  | cons p L ih => simp only [List.map_cons, upd, ih]; split <;> rfl
theorem del_map (f : V → W) (L : List (K × V)) (x : K) : del (L.map fun p => (p.1, f p.2)) x = (del L x).map fun p => (p.1, f p.2) := by
  induction L with
  | nil => rfl
  | cons p L ih => simp only [List.map_cons, del, ih]; split <;> rfl

/-- No key twice. -/
def Apart (L : List (K × V)) : Prop := L.Pairwise (fun p q => p.1 ≠ q.1)
omit [DecidableEq K] in
theorem Apart.perm {L M : List (K × V)} (h : Apart L) (hp : L.Perm M) : Apart M := hp.pairwise h (fun h e => h e.symm)

theorem lk_perm {L M : List (K × V)} (hp : L.Perm M) (h : Apart L) (x : K) : lk L x = lk M x := by
  induction hp with
  | nil => rfl
  | cons p _ ih => simp only [lk, ih (List.pairwise_cons.1 h).2]
  | swap p q l =>
    have h1 : q.1 ≠ p.1 := (List.pairwise_cons.1 h).1 p (by simp)
    simp only [lk]
    by_cases a : q.1 = x
    · have : p.1 ≠ x := fun e => h1 (a.trans e.symm)
      simp [a, this]
    · simp [a]
  | trans h1 h2 i1 i2 => exact (i1 h).trans (i2 (h.perm h1))
theorem upd_perm {L M : List (K × V)} (hp : L.Perm M) (h : Apart L) (x : K) (v : V) : (upd L x v).Perm (upd M x v) := by
  induction hp with
  | nil => exact List.Perm.refl _
  | cons p hp ih =>
    simp only [upd]
    split
    · exact hp.cons _
    · exact (ih (List.pairwise_cons.1 h).2).cons _
  | swap p q l =>
    have h1 : q.1 ≠ p.1 := (List.pairwise_cons.1 h).1 p (by simp)
    simp only [upd]
    by_cases a : q.1 = x
    · have : p.1 ≠ x := fun e => h1 (a.trans e.symm)
      simp only [a, this, if_true, if_false]
      exact List.Perm.swap ..
    · by_cases b : p.1 = x
      · simp only [a, b, if_true, if_false]
        exact List.Perm.swap ..
      · simp only [a, b, if_false]
        exact List.Perm.swap ..
  | trans h1 h2 i1 i2 => exact (i1 h).trans (i2 (h.perm h1))
theorem del_perm {L M : List (K × V)} (hp : L.Perm M) (h : Apart L) (x : K) : (del L x).Perm (del M x) := by
  induction hp with
  | nil => exact List.Perm.refl _
  | cons p hp ih =>
    simp only [del]
    split
    · exact hp
    · exact (ih (List.pairwise_cons.1 h).2).cons _
  | swap p q l =>
    have h1 : q.1 ≠ p.1 := (List.pairwise_cons.1 h).1 p (by simp)
    simp only [del]
    by_cases a : q.1 = x
    · have : p.1 ≠ x := fun e => h1 (a.trans e.symm)
      simp only [a, this, if_true, if_false]
      exact List.Perm.refl _
    · by_cases b : p.1 = x
      · simp only [a, b, if_true, if_false]
        exact List.Perm.refl _
      · simp only [a, b, if_false]
        exact List.Perm.swap ..
  | trans h1 h2 i1 i2 => exact (i1 h).trans (i2 (h.perm h1))
theorem upd_apart {L : List (K × V)} (h : Apart L) (x : K) (v : V) : Apart (upd L x v) := by
  have hk : ∀ p ∈ upd L x v, p.1 = x ∨ ∃ q ∈ L, q.1 = p.1 := fun p hp => by
    rcases mem_upd hp with rfl | ⟨h1, _⟩ | h1
    · exact Or.inl rfl
    · exact Or.inr ⟨p, h1, rfl⟩
    · exact Or.inr ⟨p, h1, rfl⟩
  have e : (upd L x v).map (·.1) = _ := keys_upd L x v
  have h0 : (L.map (·.1)).Pairwise (fun a b => a ≠ b) := List.pairwise_map.2 h
  refine List.pairwise_map.1 (show ((upd L x v).map (·.1)).Pairwise (fun a b => a ≠ b) from ?_)
  rw [e]
  split
  · exact h0
  · rename_i hx
    refine List.pairwise_append.2 ⟨h0, by simp, fun a ha b hb => ?_⟩
    simp at hb
    subst hb
    exact fun e => hx (e ▸ ha)
theorem del_sublist (L : List (K × V)) (x : K) : (del L x).Sublist L := by
  induction L with
  | nil => exact List.Sublist.refl _
  | cons p L ih =>
    simp only [del]
    split
    · exact List.sublist_cons_self _ _
    · exact ih.cons_cons _
theorem del_apart {L : List (K × V)} (h : Apart L) (x : K) : Apart (del L x) := h.sublist (del_sublist L x)
theorem len_upd (L : List (K × V)) (x : K) (v : V) : (upd L x v).length = L.length + if (lk L x).isSome then 0 else 1 := by
  induction L with
  | nil => rfl
  | cons p L ih => simp only [upd, lk]; split <;> simp_all <;> omega
theorem len_del (L : List (K × V)) (x : K) : (del L x).length + (if (lk L x).isSome then 1 else 0) = L.length := by
  induction L with
  | nil => rfl
  | cons p L ih => simp only [del, lk]; split <;> simp_all <;> omega
end

abbrev Files := List (ByteArray × ByteArray)

/-- A file's bytes; nothing of none. -/
def byt (L : Files) (x : ByteArray) : ByteArray := (lk L x).getD ByteArray.empty
/-- All bytes. -/
def tot (L : Files) : Nat := (L.map (fun p => p.2.size)).sum

theorem tot_perm {L M : Files} (h : L.Perm M) : tot L = tot M := (h.map _).sum_nat
theorem tot_upd (L : Files) (x v : ByteArray) : tot (upd L x v) + (byt L x).size = tot L + v.size := by
  unfold tot byt
  induction L with
  | nil => simp [upd, lk]
  | cons p L ih =>
    simp only [upd, lk]
    split
    · simp; omega
    · simp only [List.map_cons, List.sum_cons]; omega
theorem tot_del (L : Files) (x : ByteArray) : tot (del L x) + (byt L x).size = tot L := by
  unfold tot byt
  induction L with
  | nil => simp [del, lk]
  | cons p L ih =>
    simp only [del, lk]
    split
    · simp; omega
    · simp only [List.map_cons, List.sum_cons]; omega
theorem byt_le (L : Files) (x : ByteArray) : (byt L x).size ≤ tot L := by have := tot_del L x; omega

def vals (L : Files) : List (ByteArray × Value) := L.map (fun p => (p.1, .string p.2))
def okS (s : ByteArray) : Prop := s.size ≤ maxLen
def kvS (s : ByteArray) : Value := .string s

theorem keysS {P : Program} {k : TypeId} (hk : P.underlying k = some .string) : Keys P k okS kvS :=
  ⟨Go.Maps.string_keyed hk, fun a b h => by simpa [kvS] using h, fun x hx => ⟨_, Go.WideMaps.keyOf_string_mk hk hx⟩⟩

/-- Block r has these files, in whatever order. -/
def files (w : World) (r : Nat) (L : Files) : Prop := ∃ M, M.Perm L ∧ mapAt okS kvS w r (vals M)

section
variable {P : Program} {w w' : World} {t k e : TypeId} {r : Nat} {L : Files} {x : ByteArray}

theorem files.stay (h : files w r L) (e : w'.heap[r]? = w.heap[r]?) : files w' r L := by
  obtain ⟨M, h1, h2⟩ := h; exact ⟨M, h1, h2.stay e⟩
theorem files.lt (h : files w r L) : r < w.heap.size := by obtain ⟨M, h1, h2⟩ := h; exact h2.lt
theorem files.perm {M : Files} (h : files w r L) (hp : L.Perm M) : files w r M := by
  obtain ⟨N, h1, h2⟩ := h; exact ⟨N, h1.trans hp, h2⟩
theorem apart_vals {M : Files} (h : (vals M).Pairwise (fun p q => p.1 ≠ q.1)) : Apart M := by
  unfold vals at h
  exact (List.pairwise_map (f := fun p : ByteArray × ByteArray => (p.1, Value.string p.2))).1 h
theorem files.apart (h : files w r L) : Apart L := by
  obtain ⟨M, h1, h2⟩ := h
  exact (apart_vals h2.apart).perm h1
theorem files.ok (h : files w r L) : ∀ p ∈ L, okS p.1 := by
  obtain ⟨M, h1, es, c, h2, h3⟩ := h
  intro p hp
  exact h3.ok (p.1, .string p.2) (List.mem_map.2 ⟨p, h1.mem_iff.2 hp, rfl⟩)
theorem files_made (w : World) : files (w.alloc (.map #[] 0)) w.heap.size [] := ⟨[], List.Perm.refl _, mapAt_made w⟩

theorem files.lookup (h : files w r L) (ht : P.underlying t = some (.map k e)) (hk : P.underlying k = some .string) (hz : (zeroValue e).run P w = .ok (.string ByteArray.empty) w) (hx : okS x) (c : Bool) :
    (Instr.lookup t (.map (some r)) (.string x) c).run P w = .ok (if c then .tuple #[.string (byt L x), .bool (lk L x).isSome] else .string (byt L x)) w := by
  obtain ⟨M, h1, h2⟩ := h
  have := run_lookup (keysS hk) ht hz h2 hx c
  rw [show vals M = M.map (fun p => (p.1, Value.string p.2)) from rfl, lk_map, lk_perm h1 (apart_vals h2.apart)] at this
  refine this.trans ?_
  unfold byt
  cases lk L x <;> cases c <;> rfl
theorem files.update (h : files w r L) (ht : P.underlying t = some (.map k e)) (hk : P.underlying k = some .string) (hx : okS x) (v : ByteArray) :
    ∃ o, (Instr.mapUpdate t (.map (some r)) (.string x) (.string v)).run P w = .ok () (setBlock w r o) ∧ ∀ w' : World, w'.heap[r]? = some o → files w' r (upd L x v) := by
  obtain ⟨M, h1, h2⟩ := h
  obtain ⟨es, c, h3, h4⟩ := run_update (keysS hk) ht h2 hx (.string v)
  rw [show vals M = M.map (fun p => (p.1, Value.string p.2)) from rfl, upd_map] at h4
  exact ⟨_, h3, fun w' hw' => ⟨upd M x v, upd_perm h1 (apart_vals h2.apart) x v, es, c, hw', h4⟩⟩
theorem files.delete (h : files w r L) (ht : P.underlying t = some (.map k e)) (hk : P.underlying k = some .string) (hx : okS x) (ty : TypeId) :
    ∃ o, (Builtin.delete_ #[t, k] ty #[.map (some r), .string x]).run P w = .ok (.tuple #[]) (setBlock w r o) ∧ ∀ w' : World, w'.heap[r]? = some o → files w' r (del L x) := by
  obtain ⟨M, h1, h2⟩ := h
  obtain ⟨es, c, h3, h4⟩ := run_delete (keysS hk) ht h2 hx ty
  rw [show vals M = M.map (fun p => (p.1, Value.string p.2)) from rfl, del_map] at h4
  exact ⟨_, h3, fun w' hw' => ⟨del M x, del_perm h1 (apart_vals h2.apart) x, es, c, hw', h4⟩⟩
theorem files.len (h : files w r L) (ht : P.underlying t = some (.map k e)) (ty : TypeId) : (Builtin.len_ #[t] ty #[.map (some r)]).run P w = .ok (.int .i64 L.length) w := by
  obtain ⟨M, h1, h2⟩ := h
  rw [run_len ht h2 ty, ← h1.length_eq]
  simp [vals]
/-- 'f[name] += b': the entry is taken (or made), and stored into behind. -/
theorem files.entry (h : files w r L) (ht : P.underlying t = some (.map k e)) (hk : P.underlying k = some .string) (hz : ∀ u : World, (zeroValue e).run P u = .ok (.string ByteArray.empty) u) (hx : okS x) (v : ByteArray) :
    ∃ (st : Nat) (o o' : Obj), (∀ u : World, u.heap[r]? = w.heap[r]? → (Instr.mapEntry t (.map (some r)) (.string x)).run P u = .ok (.tuple #[.string (byt L x), .int .i64 st]) (setBlock u r o)) ∧
      (∀ u : World, u.heap[r]? = some o → (Instr.entryStore t (.map (some r)) (.int .i64 st) (.string v)).run P u = .ok () (setBlock u r o')) ∧ ∀ w' : World, w'.heap[r]? = some o' → files w' r (upd L x v) := by
  obtain ⟨M, h1, es, c, hb, E⟩ := h
  have ha := apart_vals E.apart
  obtain ⟨st, es1, c1, h2, h3⟩ := run_entry (r := r) (keysS hk) ht hz E hx
  obtain ⟨es2, c2, h4, h5⟩ := h3 (.string v)
  rw [show vals M = M.map (fun p => (p.1, Value.string p.2)) from rfl, upd_map] at h5
  rw [show vals M = M.map (fun p => (p.1, Value.string p.2)) from rfl, lk_map, lk_perm h1 ha] at h2
  have hv : ((lk L x).map Value.string).getD (.string ByteArray.empty) = .string (byt L x) := by unfold byt; cases lk L x <;> rfl
  rw [hv] at h2
  exact ⟨st, _, _, fun u hu => h2 u (hu.trans hb), h4, fun w' hw' => ⟨upd M x v, upd_perm h1 ha x v, es2, c2, hw', h5⟩⟩

theorem files.clear (h : files w r L) (ht : P.underlying t = some (.map k e)) (ty : TypeId) :
    ∃ o, (Builtin.clear_ #[t] ty #[.map (some r)]).run P w = .ok (.tuple #[]) (setBlock w r o) ∧ ∀ w' : World, w'.heap[r]? = some o → files w' r [] := by
  obtain ⟨M, h1, es, c, hb, E⟩ := h
  refine ⟨.map #[] c, ?_, fun w' hw' => ⟨[], List.Perm.refl _, #[], c, hw', stamped_empty c, rfl, by simp [vals]⟩⟩
  simp [Builtin.clear_, run_underlying ht, MapKept.run_getObj_map hb, MapKept.run_setObj_map _ hb, Result.andThen, setBlock]
/-- The block itself: whatever block is like it has the files, too. -/
theorem files.whole (h : files w r L) : ∃ es c, w.heap[r]? = some (.map es c) ∧ ∀ (w' : World) (r' : Nat), w'.heap[r']? = some (.map es c) → files w' r' L := by
  obtain ⟨M, h1, es, c, hb, E⟩ := h
  exact ⟨es, c, hb, fun w' r' h => ⟨M, h1, es, c, h, E⟩⟩

/-- Block r goes over the files of block bm, those of 'left' are still to come. -/
def filesOver (w : World) (r bm : Nat) (L left : Files) : Prop := ∃ M, M.Perm L ∧ rangeAt okS kvS w r bm (vals M) (vals left)

theorem filesOver.stay {bm : Nat} {left : Files} (h : filesOver w r bm L left) (e1 : w'.heap[bm]? = w.heap[bm]?) (e2 : w'.heap[r]? = w.heap[r]?) : filesOver w' r bm L left := by
  obtain ⟨M, h1, h2⟩ := h; exact ⟨M, h1, h2.stay e1 e2⟩
theorem filesOver.files {bm : Nat} {left : Files} (h : filesOver w r bm L left) : files w bm L := by
  obtain ⟨M, h1, h2⟩ := h; exact ⟨M, h1, h2.map⟩
theorem filesOver.lt {bm : Nat} {left : Files} (h : filesOver w r bm L left) : bm < w.heap.size ∧ r < w.heap.size ∧ bm ≠ r := by
  obtain ⟨M, h1, h2⟩ := h; exact h2.lt
theorem filesOver.left_eq {bm : Nat} {left : Files} (h : filesOver w r bm L left) : w.rangeLeft bm r = left.length := by
  obtain ⟨M, h1, h2⟩ := h
  rw [h2.left_eq]
  simp [vals]
theorem files.range (h : files w r L) (ht : P.underlying t = some (.map k e)) :
    ∃ it left, (Instr.range t (.map (some r))).run P w = .ok (.pointer (some ⟨w.heap.size, 0, none⟩)) (w.alloc it) ∧ left.Perm L ∧ filesOver (w.alloc it) w.heap.size r L left := by
  obtain ⟨M, h1, h2⟩ := h
  obtain ⟨it, h3, h4⟩ := h2.range (P := P) ht
  exact ⟨it, M, h3, h1, M, h1, h4⟩
theorem vals_cut {left : Files} {a b : List (ByteArray × Value)} {p : ByteArray × Value} (h : vals left = a ++ p :: b) : ∃ A x s B, left = A ++ (x, s) :: B ∧ vals A = a ∧ vals B = b ∧ p = (x, .string s) := by
  unfold vals at h
  obtain ⟨A, c, rfl, h1, h2⟩ := List.map_eq_append_iff.1 h
  obtain ⟨q, B, rfl, h3, h4⟩ := List.map_eq_cons_iff.1 h2
  exact ⟨A, q.1, q.2, B, rfl, h1, h4, h3.symm⟩
theorem filesOver.next {bm : Nat} {left : Files} (h : filesOver w r bm L left) :
    (left = [] ∧ ∀ ty, (Instr.next (.pointer (some ⟨r, 0, none⟩)) false ty).run P w = .ok (.tuple #[.bool false]) w) ∨
    ∃ a x s b w', left = a ++ (x, s) :: b ∧ (x, s) ∈ L ∧ (∀ ty, (Instr.next (.pointer (some ⟨r, 0, none⟩)) false ty).run P w = .ok (.tuple #[.bool true, .string x, .string s]) w') ∧ Chg (fun i => i = r) w w' ∧ w'.heap.size = w.heap.size ∧ filesOver w' r bm L (a ++ b) ∧
      ∀ u : World, u.heap[r]? = w'.heap[r]? → u.heap[bm]? = w'.heap[bm]? → (Instr.entry (.pointer (some ⟨r, 0, none⟩))).run P u = .ok (.tuple #[.string x, .string s]) u := by
  obtain ⟨M, h1, h2⟩ := h
  have hsub := h2.sub
  rcases h2.next (P := P) with ⟨h3, h4⟩ | ⟨a, p, b, w', h3, h4, h5, h6, h7, h8⟩
  · refine Or.inl ⟨?_, h4⟩
    simpa [vals] using h3
  · obtain ⟨A, x, s, B, rfl, rfl, rfl, rfl⟩ := vals_cut h3
    refine Or.inr ⟨A, x, s, B, w', rfl, ?_, h4, h5, h6, ⟨M, h1, ?_⟩, h8⟩
    · have : ((x, Value.string s) : ByteArray × Value) ∈ vals M := hsub.subset (by rw [h3]; simp)
      obtain ⟨q, hq, hqe⟩ := List.mem_map.1 this
      simp only [Prod.mk.injEq, Value.string.injEq] at hqe
      have : q = (x, s) := Prod.ext hqe.1 hqe.2
      exact h1.mem_iff.1 (this ▸ hq)
    · rw [show vals (A ++ B) = vals A ++ vals B from List.map_append]
      exact h7
end
end Go.Proofs.Ytjflkmihkfbgpaa
