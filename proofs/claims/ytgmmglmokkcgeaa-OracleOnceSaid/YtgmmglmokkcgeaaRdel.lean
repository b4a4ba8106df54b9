/- A loop over a map that strikes what it has visited. Holds of any program. -/
import Derived.Test.YtgmmglmokkcgeaaRange
import Derived.Test.YtgmmglmokkcgeaaMapKit
namespace Go.Proofs.Ytgmmglmokkcgeaa.Mk
set_option linter.unusedVariables false
set_option linter.unusedSimpArgs false
open Go Go.ChangeMaps Go.MapKept Go.RowKit

theorem filter_eraseIdx {α : Type} {f : α → Bool} {l : List α} : ∀ {j : Nat} {x : α}, l[j]? = some x → f x = false → (l.eraseIdx j).filter f = l.filter f := by
  induction l with
  | nil => intro j x h; simp at h
  | cons y l ih =>
    intro j x h hf
    cases j with
    | zero =>
      simp only [List.getElem?_cons_zero, Option.some.injEq] at h
      subst h
      simp [hf]
    | succ j =>
      rw [List.getElem?_cons_succ] at h
      rw [List.eraseIdx_cons_succ, List.filter_cons, List.filter_cons, ih h hf]

section
variable {K : Type} [DecidableEq K] {P : Program} {w : World} {t k e : TypeId} {ok : K → Prop} {kv : K → Value} {r bm : Nat} {L left : List (K × Value)} {x : K}
theorem rangeAt.del (A : Keys P k ok kv) (ht : P.underlying t = some (.map k e)) (h : rangeAt ok kv w r bm L left) (hx : ok x) (hn : ∀ p ∈ left, p.1 ≠ x) :
    ∃ es c, (∀ ty, (Builtin.delete_ #[t, k] ty #[.map (some bm), kv x]).run P w = .ok (.tuple #[]) (setBlock w bm (.map es c))) ∧ Ent ok kv es c (Mk.del L x) ∧ rangeAt ok kv (setBlock w bm (.map es c)) r bm (Mk.del L x) left := by
  have hlt := h.lt
  obtain ⟨es, clock, since, seen, c0, hb, E, hr, hold, hsc, hsc', hleft, hsub⟩ := h
  have hr' : ∀ o, (setBlock w bm o).heap[r]? = w.heap[r]? := fun o => by
    unfold setBlock
    rw [Array.getElem?_setIfInBounds_ne hlt.2.2]
  have hb' : ∀ o, (setBlock w bm o).heap[bm]? = some o := fun o => by
    unfold setBlock
    simp [hlt.1]
  obtain ⟨l, hl⟩ := A.lit x hx
  rcases find_spec A E hx w with ⟨h1, h2, h3⟩ | ⟨j, en, h1, h2, h3, h4⟩
  · refine ⟨es, clock, ?_, by rw [(lk_none h3).2.2]; exact E, es, clock, since, seen, c0, hb' _, by rw [(lk_none h3).2.2]; exact E, (hr' _).trans hr, hold, hsc, hsc', hleft, by rw [(lk_none h3).2.2]; exact hsub⟩
    intro ty
    simp [Builtin.delete_, run_underlying ht, MapKept.run_getObj_map hb, A.keyed.check w _ hl, h1, MapKept.run_setObj_map _ hb, Result.andThen, setBlock]
  · have hjs : j < es.size := by simpa using (List.getElem?_eq_some_iff.1 h2).1
    have hse : (es.eraseIdxIfInBounds j).toList = es.toList.eraseIdx j := by
      unfold Array.eraseIdxIfInBounds
      rw [dif_pos hjs]
      simp
    have hdel : Mk.del L x = L.eraseIdx j := (lk_some E.apart h4).2.2
    have E' : Ent ok kv (es.eraseIdxIfInBounds j) clock (Mk.del L x) := ⟨stamped_erase E.stamped j, by rw [hse, hdel, map_eraseIdx, E.is, map_eraseIdx], fun p hp => by
      rw [hdel] at hp
      exact E.ok p ((List.eraseIdx_sublist _ _).subset hp)⟩
    refine ⟨es.eraseIdxIfInBounds j, clock, ?_, E', es.eraseIdxIfInBounds j, clock, since, seen, c0, hb' _, E', (hr' _).trans hr, fun y hy => ?_, hsc, hsc', ?_, ?_⟩
    · intro ty
      simp [Builtin.delete_, run_underlying ht, MapKept.run_getObj_map hb, A.keyed.check w _ hl, h1, MapKept.run_setObj_map _ hb, Result.andThen, setBlock]
    · rw [hse] at hy
      exact hold y ((List.eraseIdx_sublist _ _).subset hy)
    · rw [← hleft]
      congr 1
      unfold leftOf
      rw [Array.toList_filter, Array.toList_filter, hse]
      refine filter_eraseIdx h2 ?_
      cases hf : (fun e : MapEntry => !seen.contains e.born) en with
      | false => exact hf
      | true =>
        exfalso
        have hm : en ∈ (leftOf es seen).toList := by
          unfold leftOf
          rw [Array.toList_filter]
          exact List.mem_filter.2 ⟨List.mem_of_getElem? h2, hf⟩
        have : (en.key, en.val) ∈ left.map (fun p => (kv p.1, p.2)) := by
          rw [← hleft]
          exact List.mem_map.2 ⟨en, hm, rfl⟩
        obtain ⟨p, hp, he⟩ := List.mem_map.1 this
        simp only [Prod.mk.injEq] at he
        exact hn p hp (A.inj _ _ (he.1.trans h3))
    · have h5 : left.filter (fun p => decide (p.1 ≠ x)) = left := List.filter_eq_self.2 (fun p hp => decide_eq_true (hn p hp))
      rw [hdel, ← h5]
      refine (hsub.filter _).trans ?_
      rw [← filter_eraseIdx h4 (decide_eq_false (fun h => h rfl))]
      exact List.filter_sublist
end
end Go.Proofs.Ytgmmglmokkcgeaa.Mk
