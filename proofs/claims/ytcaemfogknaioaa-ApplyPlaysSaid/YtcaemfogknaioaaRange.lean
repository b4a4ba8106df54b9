/- A loop over a map by its pairs. Holds of any program. -/
import Derived.Test.YtcaemfogknaioaaFoot
import Derived.Maps.Range
namespace Go.Proofs.Ytcaemfogknaioaa.Mk
open Go Go.ChangeMaps Go.MapKept Go.RowKit

section
variable {K : Type} {ok : K → Prop} {kv : K → Value}

/-- Block r is a loop's place over the map in block bm, of the pairs L; those of 'left' are still to come. -/
def rangeAt (ok : K → Prop) (kv : K → Value) (w : World) (r bm : Nat) (L left : List (K × Value)) : Prop :=
  ∃ es clock since seen c0, w.heap[bm]? = some (.map es clock) ∧ Ent ok kv es clock L ∧ w.heap[r]? = some (.mapIter (some bm) since seen c0) ∧ (∀ x ∈ es.toList, x.born < since) ∧ since ≤ c0 ∧ since ≤ clock ∧
    (leftOf es seen).toList.map (fun e => (e.key, e.val)) = left.map (fun p => (kv p.1, p.2)) ∧ left.Sublist L

theorem rangeAt.stay {w w' : World} {r bm : Nat} {L left : List (K × Value)} (h : rangeAt ok kv w r bm L left) (e1 : w'.heap[bm]? = w.heap[bm]?) (e2 : w'.heap[r]? = w.heap[r]?) : rangeAt ok kv w' r bm L left := by
  obtain ⟨es, c, s, sn, c0, h1, h2, h3, h4⟩ := h
  exact ⟨es, c, s, sn, c0, e1.trans h1, h2, e2.trans h3, h4⟩
theorem rangeAt.map {w : World} {r bm : Nat} {L left : List (K × Value)} (h : rangeAt ok kv w r bm L left) : mapAt ok kv w bm L := by
  obtain ⟨es, c, s, sn, c0, h1, h2, h3, h4⟩ := h
  exact ⟨es, c, h1, h2⟩
theorem rangeAt.lt {w : World} {r bm : Nat} {L left : List (K × Value)} (h : rangeAt ok kv w r bm L left) : bm < w.heap.size ∧ r < w.heap.size ∧ bm ≠ r := by
  obtain ⟨es, c, s, sn, c0, h1, h2, h3, h4⟩ := h
  refine ⟨(Array.getElem?_eq_some_iff.1 h1).1, (Array.getElem?_eq_some_iff.1 h3).1, fun e => ?_⟩
  subst e
  rw [h1] at h3
  cases h3
theorem rangeAt.sub {w : World} {r bm : Nat} {L left : List (K × Value)} (h : rangeAt ok kv w r bm L left) : left.Sublist L := by
  obtain ⟨es, c, s, sn, c0, h1, h2, h3, h4, h5, h5', h6, h7⟩ := h
  exact h7

theorem pairs_cut {es : List MapEntry} {left : List (K × Value)} {A B : List MapEntry} {e : MapEntry} (h : (A ++ e :: B).map (fun e => (e.key, e.val)) = left.map (fun p => (kv p.1, p.2))) :
    ∃ a p b, left = a ++ p :: b ∧ A.map (fun e => (e.key, e.val)) = a.map (fun p => (kv p.1, p.2)) ∧ B.map (fun e => (e.key, e.val)) = b.map (fun p => (kv p.1, p.2)) ∧ e.key = kv p.1 ∧ e.val = p.2 := by
  rw [List.map_append, List.map_cons] at h
  obtain ⟨a, c, rfl, h1, h2⟩ := List.map_eq_append_iff.1 h.symm
  obtain ⟨p, b, rfl, h3, h4⟩ := List.map_eq_cons_iff.1 h2
  simp only [Prod.mk.injEq] at h3
  exact ⟨a, p, b, rfl, h1.symm, h4.symm, h3.1.symm, h3.2.symm⟩

theorem left_push {es : Array MapEntry} {seen : Array Nat} {A B : List MapEntry} {e : MapEntry} (hn : (es.toList.map (·.born)).Nodup) (h : (leftOf es seen).toList = A ++ e :: B) : (leftOf es (seen.push e.born)).toList = A ++ B := by
  have h1 : (leftOf es (seen.push e.born)).toList = (leftOf es seen).toList.filter (fun x => !(x.born == e.born)) := by
    unfold leftOf
    rw [Array.toList_filter, Array.toList_filter, List.filter_filter]
    refine List.filter_congr (fun x _ => ?_)
    rw [contains_push, Bool.not_or, Bool.and_comm]
  have h2 : ((leftOf es seen).toList.map (·.born)).Nodup := by
    unfold leftOf
    rw [Array.toList_filter]
    exact hn.sublist (List.filter_sublist.map _)
  rw [h, List.map_append, List.map_cons] at h2
  have h3 := List.nodup_append.1 h2
  have h4 := List.nodup_cons.1 h3.2.1
  rw [h1, h, List.filter_append, List.filter_cons]
  have f1 : A.filter (fun x => !(x.born == e.born)) = A := List.filter_eq_self.2 (fun x hx => by
    have := h3.2.2 x.born (List.mem_map.2 ⟨x, hx, rfl⟩) e.born (by simp)
    simp [this])
  have f2 : B.filter (fun x => !(x.born == e.born)) = B := List.filter_eq_self.2 (fun x hx => by
    have : x.born ≠ e.born := fun he => h4.1 (by rw [← he]; exact List.mem_map.2 ⟨x, hx, rfl⟩)
    simp [this])
  simp [f1, f2]

theorem rangeAt.left_eq {w : World} {r bm : Nat} {L left : List (K × Value)} (h : rangeAt ok kv w r bm L left) : w.rangeLeft bm r = left.length := by
  obtain ⟨es, c, s, sn, c0, h1, h2, h3, h4, h5, h6, h7, h8⟩ := h
  have := congrArg List.length h7
  simp only [List.length_map, Array.length_toList] at this
  unfold World.rangeLeft
  rw [h1, h3]
  exact this

variable {P : Program} {w : World} {t k e : TypeId} {r bm : Nat} {L left : List (K × Value)}

theorem mapAt.range (h : mapAt ok kv w bm L) (ht : P.underlying t = some (.map k e)) :
    ∃ it, (Instr.range t (.map (some bm))).run P w = .ok (.pointer (some ⟨w.heap.size, 0, none⟩)) (w.alloc it) ∧ rangeAt ok kv (w.alloc it) w.heap.size bm L L := by
  obtain ⟨es, clock, hb, E⟩ := h
  have hlt := (Array.getElem?_eq_some_iff.1 hb).1
  refine ⟨_, run_range_map w t k e bm es clock ht hb, es, clock, clock, #[], clock, (heap_alloc_old w _ hlt).trans hb, E, heap_alloc_new w _, ?_, Nat.le_refl _, Nat.le_refl _, ?_, List.Sublist.refl _⟩
  · exact E.stamped.1
  · have : leftOf es #[] = es := by simp [leftOf]
    rw [this, E.is]

/-- A step: nothing is left, or a pair of those left comes, whichever. -/
theorem rangeAt.next (h : rangeAt ok kv w r bm L left) :
    (left = [] ∧ ∀ ty, (Instr.next (.pointer (some ⟨r, 0, none⟩)) false ty).run P w = .ok (.tuple #[.bool false]) w) ∨
    ∃ a p b w', left = a ++ p :: b ∧ (∀ ty, (Instr.next (.pointer (some ⟨r, 0, none⟩)) false ty).run P w = .ok (.tuple #[.bool true, kv p.1, p.2]) w') ∧ Chg (fun i => i = r) w w' ∧ w'.heap.size = w.heap.size ∧ rangeAt ok kv w' r bm L (a ++ b) ∧
      ∀ u : World, u.heap[r]? = w'.heap[r]? → u.heap[bm]? = w'.heap[bm]? → (Instr.entry (.pointer (some ⟨r, 0, none⟩))).run P u = .ok (.tuple #[kv p.1, p.2]) u := by
  obtain ⟨hl1, hl2, hl3⟩ := h.lt
  obtain ⟨es, clock, since, seen, c0, hb, E, hr, hold, hsc, hsc', hleft, hsub⟩ := h
  by_cases h0 : (leftOf es seen).size = 0
  · refine Or.inl ⟨?_, fun ty => ?_⟩
    · have : leftOf es seen = #[] := Array.eq_empty_of_size_eq_zero h0
      rw [this] at hleft
      simpa using hleft.symm
    · rcases run_next_at (P := P) w ty r bm since c0 seen es clock hr hb hold hsc with ⟨_, hn⟩ | ⟨e, he, _⟩
      · exact hn
      · have : leftOf es seen = #[] := Array.eq_empty_of_size_eq_zero h0
        rw [this] at he
        simp at he
  · refine Or.inr ?_
    rcases run_next_at (P := P) w 0 r bm since c0 seen es clock hr hb hold hsc with ⟨h1, _⟩ | ⟨e, he, w1, hw1, hrun⟩
    · exact absurd h1 h0
    · obtain ⟨A, B, hAB⟩ := List.append_of_mem he
      rw [hAB] at hleft
      obtain ⟨a, p, b, rfl, ha, hbb, hk, hv⟩ := pairs_cut (es := es.toList) hleft
      have hr' : ∀ i, (setBlock w1 r (.mapIter (some bm) since (seen.push e.born) clock)).heap[i]? = if i = r then some (.mapIter (some bm) since (seen.push e.born) clock) else w.heap[i]? := by
        intro i
        have hw : w1.heap = w.heap := by rcases hw1 with rfl | rfl <;> rfl
        by_cases hi : i = r
        · subst hi
          rw [if_pos rfl]
          unfold setBlock
          rw [hw]
          simp [hl2]
        · rw [if_neg hi]
          unfold setBlock
          rw [hw, Array.getElem?_setIfInBounds_ne (Ne.symm hi)]
      have hs' : (setBlock w1 r (.mapIter (some bm) since (seen.push e.born) clock)).heap.size = w.heap.size := by
        have hw : w1.heap = w.heap := by rcases hw1 with rfl | rfl <;> rfl
        simp [setBlock, hw]
      refine ⟨a, p, b, _, rfl, fun ty => ?_, ?_, hs', ?_, ?_⟩
      · rw [← hk, ← hv]
        exact hrun
      · refine ⟨?_, ?_, ?_, ?_, fun i hi hF => ?_⟩
        · rcases hw1 with rfl | rfl <;> rfl
        · rcases hw1 with rfl | rfl <;> rfl
        · rcases hw1 with rfl | rfl <;> rfl
        · omega
        · rw [hr', if_neg hF]
      · refine ⟨es, clock, since, seen.push e.born, clock, by rw [hr', if_neg hl3]; exact hb, E, by rw [hr', if_pos rfl], hold, hsc', hsc', ?_, ?_⟩
        · rw [left_push E.stamped.2.1 hAB, List.map_append, List.map_append, ha, hbb]
        · exact (List.Sublist.append_left (List.sublist_cons_self _ _) _).trans hsub
      · intro u hu1 hu2
        rw [hr', if_pos rfl] at hu1
        rw [hr', if_neg hl3] at hu2
        rw [run_entry_at (P := P) u r bm since seen es clock e hu1 (hu2.trans hb) (mem_left he).1 E.stamped.2.1, hk, hv]
end
end Go.Proofs.Ytcaemfogknaioaa.Mk
