/- Plain: a list struck pair by pair. -/
import Derived.Test.YtgmmglmokkcgeaaGreatO2
import Derived.Test.YtgmmglmokkcgeaaGreatRange
import Derived.Test.YtgmmglmokkcgeaaGreatA5
namespace Go.Proofs.YtgmmglmokkcgeaaGreat.Mk
set_option linter.unusedVariables false
set_option linter.unusedSimpArgs false
section
variable {K V : Type} [DecidableEq K]
theorem del_filter {L : List (K × V)} (hd : L.Pairwise (fun p q => p.1 ≠ q.1)) (x : K) : del L x = L.filter (fun p => !decide (p.1 = x)) := by
  induction L with
  | nil => rfl
  | cons p L ih =>
    obtain ⟨h1, h2⟩ := List.pairwise_cons.1 hd
    unfold del
    by_cases e : p.1 = x
    · subst e
      rw [if_pos rfl, List.filter_cons]
      rw [if_neg (by simp)]
      exact (List.filter_eq_self.2 (fun q hq => by simp; exact fun e => h1 q hq e.symm)).symm
    · rw [if_neg e, List.filter_cons, if_pos (by simp [e]), ih h2]
/-- D0 without those that q strikes and that are no more to come. -/
def struck (D0 : List (K × V)) (q : K × V → Bool) (left : List (K × V)) : List (K × V) := D0.filter (fun y => q y || decide (y.1 ∈ left.map (·.1)))
variable {D0 a b : List (K × V)} {q : K × V → Bool} {p : K × V}
omit [DecidableEq K] in
theorem key_eq (hd : D0.Pairwise (fun p q => p.1 ≠ q.1)) {y z : K × V} (hy : y ∈ D0) (hz : z ∈ D0) (e : y.1 = z.1) : y = z := by
  obtain ⟨i, hi, rfl⟩ := List.getElem_of_mem hy
  obtain ⟨j, hj, rfl⟩ := List.getElem_of_mem hz
  rcases Nat.lt_trichotomy i j with h | h | h
  · exact absurd e (List.pairwise_iff_getElem.1 hd i j hi hj h)
  · subst h; rfl
  · exact absurd e.symm (List.pairwise_iff_getElem.1 hd j i hj hi h)
theorem struck_keep (hd : D0.Pairwise (fun p q => p.1 ≠ q.1)) (hp : p ∈ D0) (hq : q p = true) : struck D0 q (a ++ p :: b) = struck D0 q (a ++ b) := by
  refine List.filter_congr (fun y hy => ?_)
  show (q y || decide (y.1 ∈ (a ++ p :: b).map (·.1))) = (q y || decide (y.1 ∈ (a ++ b).map (·.1)))
  by_cases e : y.1 = p.1
  · obtain rfl := key_eq hd hy hp e
    rw [hq]; rfl
  · rw [decide_eq_decide.2 (show (y.1 ∈ (a ++ p :: b).map (·.1)) ↔ (y.1 ∈ (a ++ b).map (·.1)) by rw [List.map_append, List.map_append, List.map_cons, List.mem_append, List.mem_append, List.mem_cons]; exact ⟨fun h => h.imp id (fun h => h.resolve_left e), fun h => h.imp id Or.inr⟩)]
theorem struck_cut (hd : D0.Pairwise (fun p q => p.1 ≠ q.1)) (hp : p ∈ D0) (hq : q p = false) (hn : ∀ y ∈ a ++ b, y.1 ≠ p.1) : del (struck D0 q (a ++ p :: b)) p.1 = struck D0 q (a ++ b) := by
  unfold struck
  rw [del_filter (hd.sublist List.filter_sublist), List.filter_filter]
  refine List.filter_congr (fun y hy => ?_)
  show (!decide (y.1 = p.1) && (q y || decide (y.1 ∈ (a ++ p :: b).map (·.1)))) = (q y || decide (y.1 ∈ (a ++ b).map (·.1)))
  by_cases e : y.1 = p.1
  · obtain rfl := key_eq hd hy hp e
    have : ¬ y.1 ∈ (a ++ b).map (·.1) := fun h => by
      obtain ⟨z, hz, e⟩ := List.mem_map.1 h
      exact hn z hz e
    rw [hq, decide_eq_false this, decide_eq_true rfl]; rfl
  · rw [decide_eq_false e, decide_eq_decide.2 (show (y.1 ∈ (a ++ p :: b).map (·.1)) ↔ (y.1 ∈ (a ++ b).map (·.1)) by rw [List.map_append, List.map_append, List.map_cons, List.mem_append, List.mem_append, List.mem_cons]; exact ⟨fun h => h.imp id (fun h => h.resolve_left e), fun h => h.imp id Or.inr⟩)]; rfl
theorem struck_all : struck D0 q D0 = D0 := List.filter_eq_self.2 (fun y hy => by
  have : y.1 ∈ D0.map (·.1) := List.mem_map.2 ⟨y, hy, rfl⟩
  simp [this])
theorem struck_end : struck D0 q [] = D0.filter q := by unfold struck; simp
end
end Go.Proofs.YtgmmglmokkcgeaaGreat.Mk
/- A loop over a map that strikes what it has visited. Holds of any program. -/
namespace Go.Proofs.YtgmmglmokkcgeaaGreat.Mk
set_option linter.unusedVariables false
set_option linter.unusedSimpArgs false
open Go Go.ChangeMaps Go.MapKept Go.RowKit

theorem filter_eraseIdx {α : Type} {f : α → Bool} {l : List α} : ∀ {j : Nat} {x : α}, l[j]? = some x → f x = false → (l.eraseIdx j).filter f = l.filter f := by
  induction l with
  | nil => intro j x h; simp at h
  | cons y l ih =>
    intro j x h hf
    cases j with
    | zero =>
      simp only [List.getElem?_cons_zero, Option.some.injEq] at h
      subst h
      simp [hf]
    | succ j =>
      rw [List.getElem?_cons_succ] at h
      rw [List.eraseIdx_cons_succ, List.filter_cons, List.filter_cons, ih h hf]

section
variable {K : Type} [DecidableEq K] {P : Program} {w : World} {t k e : TypeId} {ok : K → Prop} {kv : K → Value} {r bm : Nat} {L left : List (K × Value)} {x : K}
theorem rangeAt.del (A : Keys P k ok kv) (ht : P.underlying t = some (.map k e)) (h : rangeAt ok kv w r bm L left) (hx : ok x) (hn : ∀ p ∈ left, p.1 ≠ x) :
    ∃ es c, (∀ ty, (Builtin.delete_ #[t, k] ty #[.map (some bm), kv x]).run P w = .ok (.tuple #[]) (setBlock w bm (.map es c))) ∧ Ent ok kv es c (Mk.del L x) ∧ rangeAt ok kv (setBlock w bm (.map es c)) r bm (Mk.del L x) left := by
  have hlt := h.lt
  obtain ⟨es, clock, since, seen, c0, hb, E, hr, hold, hsc, hsc', hleft, hsub⟩ := h
  have hr' : ∀ o, (setBlock w bm o).heap[r]? = w.heap[r]? := fun o => by
    unfold setBlock
    rw [Array.getElem?_setIfInBounds_ne hlt.2.2]
  have hb' : ∀ o, (setBlock w bm o).heap[bm]? = some o := fun o => by
    unfold setBlock
    simp [hlt.1]
  obtain ⟨l, hl⟩ := A.lit x hx
  rcases find_spec A E hx w with ⟨h1, h2, h3⟩ | ⟨j, en, h1, h2, h3, h4⟩
  · refine ⟨es, clock, ?_, by rw [(lk_none h3).2.2]; exact E, es, clock, since, seen, c0, hb' _, by rw [(lk_none h3).2.2]; exact E, (hr' _).trans hr, hold, hsc, hsc', hleft, by rw [(lk_none h3).2.2]; exact hsub⟩
    intro ty
    simp [Builtin.delete_, run_underlying ht, MapKept.run_getObj_map hb, A.keyed.check w _ hl, h1, MapKept.run_setObj_map _ hb, Result.andThen, setBlock]
  · have hjs : j < es.size := by simpa using (List.getElem?_eq_some_iff.1 h2).1
    have hse : (es.eraseIdxIfInBounds j).toList = es.toList.eraseIdx j := by
      unfold Array.eraseIdxIfInBounds
      rw [dif_pos hjs]
      simp
    have hdel : Mk.del L x = L.eraseIdx j := (lk_some E.apart h4).2.2
    have E' : Ent ok kv (es.eraseIdxIfInBounds j) clock (Mk.del L x) := ⟨stamped_erase E.stamped j, by rw [hse, hdel, map_eraseIdx, E.is, map_eraseIdx], fun p hp => by
      rw [hdel] at hp
      exact E.ok p ((List.eraseIdx_sublist _ _).subset hp)⟩
    refine ⟨es.eraseIdxIfInBounds j, clock, ?_, E', es.eraseIdxIfInBounds j, clock, since, seen, c0, hb' _, E', (hr' _).trans hr, fun y hy => ?_, hsc, hsc', ?_, ?_⟩
    · intro ty
      simp [Builtin.delete_, run_underlying ht, MapKept.run_getObj_map hb, A.keyed.check w _ hl, h1, MapKept.run_setObj_map _ hb, Result.andThen, setBlock]
    · rw [hse] at hy
      exact hold y ((List.eraseIdx_sublist _ _).subset hy)
    · rw [← hleft]
      congr 1
      unfold leftOf
      rw [Array.toList_filter, Array.toList_filter, hse]
      refine filter_eraseIdx h2 ?_
      cases hf : (fun e : MapEntry => !seen.contains e.born) en with
      | false => exact hf
      | true =>
        exfalso
        have hm : en ∈ (leftOf es seen).toList := by
          unfold leftOf
          rw [Array.toList_filter]
          exact List.mem_filter.2 ⟨List.mem_of_getElem? h2, hf⟩
        have : (en.key, en.val) ∈ left.map (fun p => (kv p.1, p.2)) := by
          rw [← hleft]
          exact List.mem_map.2 ⟨en, hm, rfl⟩
        obtain ⟨p, hp, he⟩ := List.mem_map.1 this
        simp only [Prod.mk.injEq] at he
        exact hn p hp (A.inj _ _ (he.1.trans h3))
    · have h5 : left.filter (fun p => decide (p.1 ≠ x)) = left := List.filter_eq_self.2 (fun p hp => decide_eq_true (hn p hp))
      rw [hdel, ← h5]
      refine (hsub.filter _).trans ?_
      rw [← filter_eraseIdx h4 (decide_eq_false (fun h => h rfl))]
      exact List.filter_sublist
end
end Go.Proofs.YtgmmglmokkcgeaaGreat.Mk
/- The state while a mark strikes what it has visited. -/
namespace Go.Proofs.YtgmmglmokkcgeaaGreat
set_option linter.unusedVariables false
set_option linter.unusedSimpArgs false
open Go.RowKit Mk Go.Sort
theorem nv_cut {K : Type} {left : List (K × Nat)} {a b : List (K × Value)} {p : K × Value} (h : nv left = a ++ p :: b) : ∃ a0 p0 b0, left = a0 ++ p0 :: b0 ∧ a = nv a0 ∧ p = (p0.1, nV p0.2) ∧ b = nv b0 := by
  unfold nv at h
  obtain ⟨a0, c, rfl, h1, h2⟩ := List.map_eq_append_iff.1 h
  obtain ⟨p0, b0, rfl, h3, h4⟩ := List.map_eq_cons_iff.1 h2
  exact ⟨a0, p0, b0, rfl, h1.symm, h3.symm, h4.symm⟩
theorem nv_del {K : Type} [DecidableEq K] (L : List (K × Nat)) (x : K) : del (nv L) x = nv (del L x) := del_map nV L x
theorem nv_apart {K : Type} {L : List (K × Nat)} (h : (nv L).Pairwise (fun p q => p.1 ≠ q.1)) : L.Pairwise (fun p q => p.1 ≠ q.1) := by
  unfold nv at h
  rw [List.pairwise_map] at h
  exact h
theorem mid_ne {K : Type} {a b : List (K × Nat)} {p : K × Nat} (h : (a ++ p :: b).Pairwise (fun p q => p.1 ≠ q.1)) : ∀ y ∈ a ++ b, y.1 ≠ p.1 := by
  intro y hy
  obtain ⟨_, h2, h3⟩ := List.pairwise_append.1 h
  obtain ⟨h4, _⟩ := List.pairwise_cons.1 h2
  rcases List.mem_append.1 hy with hy | hy
  · exact h3 y hy p (by simp)
  · exact (h4 y hy).symm
section
variable {w : World} {b : Nat} {R : Loc} {F : Nat → Prop} {n : OM}
/-- The first loop of a mark. -/
structure DecAt (b : Nat) (R : Loc) (F : Nat → Prop) (n : OM) (q : Nat × Nat → Bool) (r : Nat) (left : List (Nat × Nat)) (w : World) : Prop where
  rep : OrRep w b R F { n with dec := struck n.dec q left }
  over : rangeAt okU kvU w r R.d (nv (struck n.dec q left)) (nv left)
  sub : left.Sublist n.dec
  ap : n.dec.Pairwise (fun p q => p.1 ≠ q.1)
structure LasAt (b : Nat) (R : Loc) (F : Nat → Prop) (n : OM) (q : ByteArray × Nat → Bool) (r : Nat) (left : List (ByteArray × Nat)) (w : World) : Prop where
  rep : OrRep w b R F { n with las := struck n.las q left }
  over : rangeAt okS kvS w r R.l (nv (struck n.las q left)) (nv left)
  sub : left.Sublist n.las
  ap : n.las.Pairwise (fun p q => p.1 ≠ q.1)
theorem OrRep.startD (h : OrRep w b R F n) (q : Nat × Nat → Bool) : ∃ it, (Instr.range 31 (.map (some R.d))).run Tryz.prog w = .ok (.pointer (some ⟨w.heap.size, 0, none⟩)) (w.alloc it) ∧ DecAt b R F n q w.heap.size n.dec (w.alloc it) := by
  obtain ⟨it, h1, h2⟩ := h.dec.range (P := Tryz.prog) Tryz.underlying31
  have e : struck n.dec q n.dec = n.dec := struck_all
  exact ⟨it, h1, by rw [e]; exact h.same ((Chg.refl _ _).alloc _), by rw [e]; exact h2, List.Sublist.refl _, nv_apart h.dec.apart⟩
theorem OrRep.startL (h : OrRep w b R F n) (q : ByteArray × Nat → Bool) : ∃ it, (Instr.range 32 (.map (some R.l))).run Tryz.prog w = .ok (.pointer (some ⟨w.heap.size, 0, none⟩)) (w.alloc it) ∧ LasAt b R F n q w.heap.size n.las (w.alloc it) := by
  obtain ⟨it, h1, h2⟩ := h.las.range (P := Tryz.prog) Tryz.underlying32
  have e : struck n.las q n.las = n.las := struck_all
  exact ⟨it, h1, by rw [e]; exact h.same ((Chg.refl _ _).alloc _), by rw [e]; exact h2, List.Sublist.refl _, nv_apart h.las.apart⟩
variable {r : Nat}
theorem DecAt.stay {q : Nat × Nat → Bool} {left : List (Nat × Nat)} {w' : World} {G : Nat → Prop} (h : DecAt b R F n q r left w) (c : Chg G w w') (hd : ∀ i, F i → ¬ G i) (hr : ¬ G r) : DecAt b R F n q r left w' :=
  ⟨h.rep.stay c hd, h.over.stay (c.block _ h.over.lt.1 (hd _ h.rep.fd)) (c.block _ h.over.lt.2.1 hr), h.sub, h.ap⟩
theorem LasAt.stay {q : ByteArray × Nat → Bool} {left : List (ByteArray × Nat)} {w' : World} {G : Nat → Prop} (h : LasAt b R F n q r left w) (c : Chg G w w') (hd : ∀ i, F i → ¬ G i) (hr : ¬ G r) : LasAt b R F n q r left w' :=
  ⟨h.rep.stay c hd, h.over.stay (c.block _ h.over.lt.1 (hd _ h.rep.fl)) (c.block _ h.over.lt.2.1 hr), h.sub, h.ap⟩
theorem DecAt.next {q : Nat × Nat → Bool} {left : List (Nat × Nat)} (h : DecAt b R F n q r left w) (hr : ¬ F r) :
    (left = [] ∧ (∀ ty, (Instr.next (.pointer (some ⟨r, 0, none⟩)) false ty).run Tryz.prog w = .ok (.tuple #[.bool false]) w) ∧ OrRep w b R F { n with dec := n.dec.filter q }) ∨
    ∃ a0 b0 x c w', left = a0 ++ (x, c) :: b0 ∧ x < 18446744073709551616 ∧ (∀ ty, (Instr.next (.pointer (some ⟨r, 0, none⟩)) false ty).run Tryz.prog w = .ok (.tuple #[.bool true, .int .u64 (x : Nat), .int .u64 (c : Nat)]) w') ∧ Chg (fun i => i = r) w w' ∧ w'.heap.size = w.heap.size ∧
      OrRep w' b R F { n with dec := struck n.dec q (a0 ++ (x, c) :: b0) } ∧
      (∀ u : World, u.heap[r]? = w'.heap[r]? → u.heap[R.d]? = w'.heap[R.d]? → (Instr.entry (.pointer (some ⟨r, 0, none⟩))).run Tryz.prog u = .ok (.tuple #[.int .u64 (x : Nat), .int .u64 (c : Nat)]) u) ∧
      (q (x, c) = true → DecAt b R F n q r (a0 ++ b0) w') ∧
      (q (x, c) = false → ∃ es ck, (∀ ty, (Builtin.delete_ #[31, 24] ty #[.map (some R.d), .int .u64 (x : Nat)]).run Tryz.prog w' = .ok (.tuple #[]) (ChangeMaps.setBlock w' R.d (.map es ck))) ∧ DecAt b R F n q r (a0 ++ b0) (ChangeMaps.setBlock w' R.d (.map es ck))) := by
  rcases h.over.next (P := Tryz.prog) with ⟨h0, hn⟩ | ⟨a, p, bb, w', h0, hn, hc, hs, ho, he⟩
  · have e : left = [] := by cases left with
      | nil => rfl
      | cons x l => simp [nv] at h0
    subst e
    refine Or.inl ⟨rfl, hn, ?_⟩
    have := h.rep
    rw [struck_end] at this
    exact this
  · obtain ⟨a0, ⟨x, c⟩, b0, rfl, rfl, rfl, rfl⟩ := nv_cut h0
    obtain ⟨es0, ck0, hb0, E0⟩ := h.over.map
    have hx : x < 18446744073709551616 := E0.ok (x, nV c) (h.over.sub.subset (by rw [h0]; simp))
    have hm : (x, c) ∈ n.dec := h.sub.subset (by simp)
    have hne := mid_ne (h.ap.sublist h.sub)
    have hrep := h.rep.stay hc (fun i hi e => hr (by rw [← e]; exact hi))
    have hsub : (a0 ++ b0).Sublist n.dec := (List.Sublist.append_left (List.sublist_cons_self _ _) _).trans h.sub
    have hcat : nv a0 ++ nv b0 = nv (a0 ++ b0) := by unfold nv; rw [List.map_append]
    rw [hcat] at ho
    refine Or.inr ⟨a0, b0, x, c, w', rfl, hx, hn, hc, hs, hrep, he, fun hq => ⟨?_, ?_, hsub, h.ap⟩, fun hq => ?_⟩
    · rw [← struck_keep h.ap hm hq]; exact hrep
    · rw [← struck_keep h.ap hm hq]; exact ho
    · obtain ⟨es, ck, h1, h2, h3⟩ := ho.del (P := Tryz.prog) keysU Tryz.underlying31 (x := x) hx (fun p hp e => by
        unfold nv at hp
        obtain ⟨y, hy, rfl⟩ := List.mem_map.1 hp
        exact hne y hy e)
      rw [nv_del, struck_cut h.ap hm hq hne] at h2 h3
      exact ⟨es, ck, h1, hrep.putD h2, h3, hsub, h.ap⟩
theorem LasAt.next {q : ByteArray × Nat → Bool} {left : List (ByteArray × Nat)} (h : LasAt b R F n q r left w) (hr : ¬ F r) :
    (left = [] ∧ (∀ ty, (Instr.next (.pointer (some ⟨r, 0, none⟩)) false ty).run Tryz.prog w = .ok (.tuple #[.bool false]) w) ∧ OrRep w b R F { n with las := n.las.filter q }) ∨
    ∃ a0 b0 x c w', left = a0 ++ (x, c) :: b0 ∧ (∀ ty, (Instr.next (.pointer (some ⟨r, 0, none⟩)) false ty).run Tryz.prog w = .ok (.tuple #[.bool true, .string x, .int .u64 (c : Nat)]) w') ∧ Chg (fun i => i = r) w w' ∧ w'.heap.size = w.heap.size ∧
      OrRep w' b R F { n with las := struck n.las q (a0 ++ (x, c) :: b0) } ∧
      (∀ u : World, u.heap[r]? = w'.heap[r]? → u.heap[R.l]? = w'.heap[R.l]? → (Instr.entry (.pointer (some ⟨r, 0, none⟩))).run Tryz.prog u = .ok (.tuple #[.string x, .int .u64 (c : Nat)]) u) ∧
      (q (x, c) = true → LasAt b R F n q r (a0 ++ b0) w') ∧
      (q (x, c) = false → ∃ es ck, (∀ ty, (Builtin.delete_ #[32, 9] ty #[.map (some R.l), .string x]).run Tryz.prog w' = .ok (.tuple #[]) (ChangeMaps.setBlock w' R.l (.map es ck))) ∧ LasAt b R F n q r (a0 ++ b0) (ChangeMaps.setBlock w' R.l (.map es ck))) := by
  rcases h.over.next (P := Tryz.prog) with ⟨h0, hn⟩ | ⟨a, p, bb, w', h0, hn, hc, hs, ho, he⟩
  · have e : left = [] := by cases left with
      | nil => rfl
      | cons x l => simp [nv] at h0
    subst e
    refine Or.inl ⟨rfl, hn, ?_⟩
    have := h.rep
    rw [struck_end] at this
    exact this
  · obtain ⟨a0, ⟨x, c⟩, b0, rfl, rfl, rfl, rfl⟩ := nv_cut h0
    obtain ⟨es0, ck0, hb0, E0⟩ := h.over.map
    have hx : okS x := E0.ok (x, nV c) (h.over.sub.subset (by rw [h0]; simp))
    have hm : (x, c) ∈ n.las := h.sub.subset (by simp)
    have hne := mid_ne (h.ap.sublist h.sub)
    have hrep := h.rep.stay hc (fun i hi e => hr (by rw [← e]; exact hi))
    have hsub : (a0 ++ b0).Sublist n.las := (List.Sublist.append_left (List.sublist_cons_self _ _) _).trans h.sub
    have hcat : nv a0 ++ nv b0 = nv (a0 ++ b0) := by unfold nv; rw [List.map_append]
    rw [hcat] at ho
    refine Or.inr ⟨a0, b0, x, c, w', rfl, hn, hc, hs, hrep, he, fun hq => ⟨?_, ?_, hsub, h.ap⟩, fun hq => ?_⟩
    · rw [← struck_keep h.ap hm hq]; exact hrep
    · rw [← struck_keep h.ap hm hq]; exact ho
    · obtain ⟨es, ck, h1, h2, h3⟩ := ho.del (P := Tryz.prog) keysS Tryz.underlying32 (x := x) hx (fun p hp e => by
        unfold nv at hp
        obtain ⟨y, hy, rfl⟩ := List.mem_map.1 hp
        exact hne y hy e)
      rw [nv_del, struck_cut h.ap hm hq hne] at h2 h3
      exact ⟨es, ck, h1, hrep.putL h2, h3, hsub, h.ap⟩
end
end Go.Proofs.YtgmmglmokkcgeaaGreat
