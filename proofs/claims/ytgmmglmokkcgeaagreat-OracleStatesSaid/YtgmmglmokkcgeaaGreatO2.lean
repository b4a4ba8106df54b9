/- A map by its pairs (key, value), in the order of their first store; keys by an injective encoding. Holds of any program. -/
import Derived.WalkKit
import Derived.Maps.OwnOps
import Derived.WideKeyEntry
namespace Go.Proofs.YtgmmglmokkcgeaaGreat.Mk
set_option linter.unusedVariables false
set_option linter.unusedSimpArgs false
open Go Go.ChangeMaps Go.MapKept Go.RowKit
open Go.Maps (Keyed)
open Go.WideElems (findIdx_born findIdx_arr modify_last set_self)

section
variable {K V : Type} [DecidableEq K]

def lk : List (K × V) → K → Option V
  | [], _ => none
  | p :: L, x => if p.1 = x then some p.2 else lk L x
def upd : List (K × V) → K → V → List (K × V)
  | [], x, v => [(x, v)]
  | p :: L, x, v => if p.1 = x then (x, v) :: L else p :: upd L x v
def del : List (K × V) → K → List (K × V)
  | [], _ => []
  | p :: L, x => if p.1 = x then L else p :: del L x

theorem lk_none {L : List (K × V)} {x : K} (h : ∀ p ∈ L, p.1 ≠ x) : lk L x = none ∧ (∀ u, upd L x u = L ++ [(x, u)]) ∧ del L x = L := by
  induction L with
  | nil => exact ⟨rfl, fun _ => rfl, rfl⟩
  | cons p L ih =>
    have h0 := h p (by simp)
    obtain ⟨a, b, c⟩ := ih (fun q hq => h q (by simp [hq]))
    simp [lk, upd, del, h0, a, b, c]

theorem lk_some {L : List (K × V)} {x : K} {j : Nat} {v : V} (hd : L.Pairwise (fun p q => p.1 ≠ q.1)) (h : L[j]? = some (x, v)) : lk L x = some v ∧ (∀ u, upd L x u = L.set j (x, u)) ∧ del L x = L.eraseIdx j := by
  induction L generalizing j with
  | nil => simp at h
  | cons p L ih =>
    obtain ⟨h1, h2⟩ := List.pairwise_cons.1 hd
    cases j with
    | zero => simp at h; subst h; simp [lk, upd, del]
    | succ j =>
      simp at h
      have hne : p.1 ≠ x := h1 _ (List.mem_of_getElem? h)
      obtain ⟨a, b, c⟩ := ih h2 h
      simp [lk, upd, del, hne, a, b, c]

theorem lk_upd_same (L : List (K × V)) (x : K) (v : V) : lk (upd L x v) x = some v := by
  induction L with
  | nil => simp [upd, lk]
  | cons p L ih => unfold upd; split <;> simp_all [lk]
theorem lk_upd_other (L : List (K × V)) {x y : K} (v : V) (h : y ≠ x) : lk (upd L x v) y = lk L y := by
  induction L with
  | nil => simp [upd, lk, h.symm]
  | cons p L ih =>
    unfold upd
    split
    · rename_i e; simp [lk, e, h.symm]
    · simp [lk, ih]
theorem lk_upd (L : List (K × V)) (x y : K) (v : V) : lk (upd L x v) y = if y = x then some v else lk L y := by
  split
  · rename_i h; subst h; exact lk_upd_same ..
  · exact lk_upd_other _ _ ‹_›
theorem mem_upd {L : List (K × V)} {x : K} {v : V} {p : K × V} (h : p ∈ upd L x v) : p = (x, v) ∨ p ∈ L ∧ p.1 ≠ x ∨ p ∈ L := by
  induction L with
  | nil => simp [upd] at h; exact Or.inl h
  | cons q L ih =>
    unfold upd at h
    split at h
    · rcases List.mem_cons.1 h with h | h
      · exact Or.inl h
      · exact Or.inr (Or.inr (by simp [h]))
    · rcases List.mem_cons.1 h with h | h
      · exact Or.inr (Or.inr (by simp [h]))
      · rcases ih h with h | h | h
        · exact Or.inl h
        · exact Or.inr (Or.inr (by simp [h.1]))
        · exact Or.inr (Or.inr (by simp [h]))
theorem keys_upd (L : List (K × V)) (x : K) (v : V) : (upd L x v).map (·.1) = if x ∈ L.map (·.1) then L.map (·.1) else L.map (·.1) ++ [x] := by
  induction L with
  | nil => simp [upd]
  | cons p L ih =>
    unfold upd
    by_cases e : p.1 = x
    · simp [e]
    · rw [if_neg e, List.map_cons, ih]
      have : x ≠ p.1 := fun h => e h.symm
      by_cases hm : x ∈ L.map (·.1) <;> simp_all
theorem lk_mem {L : List (K × V)} {x : K} {v : V} (h : lk L x = some v) : (x, v) ∈ L := by
  induction L with
  | nil => simp [lk] at h
  | cons p L ih =>
    unfold lk at h
    split at h
    · rename_i e; cases h; subst e; simp
    · simp [ih h]
theorem lk_del_same {L : List (K × V)} (hd : L.Pairwise (fun p q => p.1 ≠ q.1)) (x : K) : lk (del L x) x = none := by
  induction L with
  | nil => rfl
  | cons p L ih =>
    obtain ⟨h1, h2⟩ := List.pairwise_cons.1 hd
    unfold del
    split
    · rename_i e; exact (lk_none (fun q hq => by rw [← e]; exact (h1 q hq).symm)).1
    · rename_i e; simp [lk, e, ih h2]
theorem lk_del_other (L : List (K × V)) {x y : K} (h : y ≠ x) : lk (del L x) y = lk L y := by
  induction L with
  | nil => rfl
  | cons p L ih =>
    unfold del
    split
    · rename_i e; simp [lk, e, h.symm]
    · simp [lk, ih]
end

section
variable {K : Type} [DecidableEq K] {P : Program} {k : TypeId} {ok : K → Prop} {kv : K → Value}

/-- Keys of this type are these. -/
structure Keys (P : Program) (k : TypeId) (ok : K → Prop) (kv : K → Value) : Prop where
  keyed : Keyed P k
  inj : ∀ a b, kv a = kv b → a = b
  lit : ∀ x, ok x → ∃ l, keyOf P k (kv x) = some l

/-- Entries are these pairs. -/
structure Ent (ok : K → Prop) (kv : K → Value) (es : Array MapEntry) (clock : Nat) (L : List (K × Value)) : Prop where
  stamped : Stamped es clock
  is : es.toList.map (fun e => (e.key, e.val)) = L.map (fun p => (kv p.1, p.2))
  ok : ∀ p ∈ L, ok p.1

omit [DecidableEq K] in
theorem Ent.key {es : Array MapEntry} {clock : Nat} {L : List (K × Value)} (E : Ent ok kv es clock L) {e : MapEntry} (he : e ∈ es.toList) : ∃ p ∈ L, e.key = kv p.1 ∧ e.val = p.2 := by
  have : (e.key, e.val) ∈ es.toList.map (fun e => (e.key, e.val)) := List.mem_map.2 ⟨e, he, rfl⟩
  rw [E.is] at this
  obtain ⟨p, hp, e1⟩ := List.mem_map.1 this
  simp only [Prod.mk.injEq] at e1
  exact ⟨p, hp, e1.1.symm, e1.2.symm⟩
omit [DecidableEq K] in
theorem Ent.apart {es : Array MapEntry} {clock : Nat} {L : List (K × Value)} (E : Ent ok kv es clock L) : L.Pairwise (fun p q => p.1 ≠ q.1) := by
  have h3 := ((stamped_iff es clock).1 E.stamped).2.2
  have h4 : (es.toList.map (fun e => (e.key, e.val))).Pairwise (fun p q => p.1 ≠ q.1) := List.pairwise_map.2 h3
  rw [E.is] at h4
  exact (List.pairwise_map.1 h4).imp (fun h e => h (by simp [e]))

/-- Block r is a map of these pairs. -/
def mapAt (ok : K → Prop) (kv : K → Value) (w : World) (r : Nat) (L : List (K × Value)) : Prop := ∃ es clock, w.heap[r]? = some (.map es clock) ∧ Ent ok kv es clock L

omit [DecidableEq K] in
theorem mapAt.stay {w w' : World} {r : Nat} {L : List (K × Value)} (h : mapAt ok kv w r L) (e : w'.heap[r]? = w.heap[r]?) : mapAt ok kv w' r L := by
  obtain ⟨es, c, h1, h2⟩ := h; exact ⟨es, c, e.trans h1, h2⟩
omit [DecidableEq K] in
theorem mapAt.lt {w : World} {r : Nat} {L : List (K × Value)} (h : mapAt ok kv w r L) : r < w.heap.size := by
  obtain ⟨es, c, h1, h2⟩ := h; exact (Array.getElem?_eq_some_iff.1 h1).1
omit [DecidableEq K] in
theorem mapAt.apart {w : World} {r : Nat} {L : List (K × Value)} (h : mapAt ok kv w r L) : L.Pairwise (fun p q => p.1 ≠ q.1) := by
  obtain ⟨es, c, h1, h2⟩ := h; exact h2.apart
omit [DecidableEq K] in
theorem mapAt_made (w : World) : mapAt ok kv (w.alloc (.map #[] 0)) w.heap.size [] :=
  ⟨#[], 0, (MapKept.heap_alloc w _).1, stamped_empty 0, rfl, by simp⟩

omit [DecidableEq K] in
theorem find_spec (A : Keys P k ok kv) {es : Array MapEntry} {clock : Nat} {L : List (K × Value)} (E : Ent ok kv es clock L) {x : K} (hx : ok x) (w : World) :
    ((Instr.findKey k (kv x) es.toList).run P w = .ok none w ∧ (∀ e ∈ es.toList, e.key ≠ kv x) ∧ ∀ p ∈ L, p.1 ≠ x) ∨
    ∃ j e, (Instr.findKey k (kv x) es.toList).run P w = .ok (some (j, e.val)) w ∧ es.toList[j]? = some e ∧ e.key = kv x ∧ L[j]? = some (x, e.val) := by
  obtain ⟨l, hl⟩ := A.lit x hx
  rcases A.keyed.find w hl es.toList (fun e he => by obtain ⟨p, hp, e1, _⟩ := E.key he; rw [e1]; exact A.lit _ (E.ok p hp)) with ⟨h1, h2⟩ | ⟨j, e, h1, h2, h3⟩
  · refine Or.inl ⟨h1, h2, fun p hp e => ?_⟩
    have : (kv p.1, p.2) ∈ L.map (fun p => (kv p.1, p.2)) := List.mem_map.2 ⟨p, hp, rfl⟩
    rw [← E.is] at this
    obtain ⟨q, hq, e1⟩ := List.mem_map.1 this
    simp only [Prod.mk.injEq] at e1
    exact h2 q hq (by rw [e1.1, e])
  · refine Or.inr ⟨j, e, h1, h2, h3, ?_⟩
    have : (es.toList.map (fun e => (e.key, e.val)))[j]? = some (e.key, e.val) := by simp [List.getElem?_map, h2]
    rw [E.is, List.getElem?_map] at this
    cases hL : L[j]? with
    | none => simp [hL] at this
    | some p =>
      simp [hL] at this
      rw [h3] at this
      have := A.inj _ _ this.1
      obtain ⟨_, e2⟩ := ‹_ ∧ _›
      obtain ⟨a, b⟩ := p
      simp_all

variable {t e : TypeId} {r : Nat} {w : World} {L : List (K × Value)} {x : K}

theorem run_lookup (A : Keys P k ok kv) (ht : P.underlying t = some (.map k e)) {z : Value} (hz : (zeroValue e).run P w = .ok z w) (h : mapAt ok kv w r L) (hx : ok x) (c : Bool) :
    (Instr.lookup t (.map (some r)) (kv x) c).run P w = .ok (if c then .tuple #[(lk L x).getD z, .bool (lk L x).isSome] else (lk L x).getD z) w := by
  obtain ⟨es, clock, hb, E⟩ := h
  obtain ⟨l, hl⟩ := A.lit x hx
  rcases find_spec A E hx w with ⟨h1, _, h3⟩ | ⟨j, en, h1, _, _, h4⟩
  · rw [(lk_none h3).1]
    simp [Instr.lookup, run_underlying ht, MapKept.run_getObj_map hb, A.keyed.check w _ hl, h1, hz, Result.andThen]
  · rw [(lk_some E.apart h4).1]
    simp [Instr.lookup, run_underlying ht, MapKept.run_getObj_map hb, A.keyed.check w _ hl, h1, Result.andThen]

theorem Ent.push {es : Array MapEntry} {clock : Nat} (E : Ent ok kv es clock L) (hx : ok x) (h : ∀ e ∈ es.toList, e.key ≠ kv x) (h3 : ∀ p ∈ L, p.1 ≠ x) (v : Value) : Ent ok kv (es.push ⟨kv x, v, clock⟩) (clock + 1) (upd L x v) := by
  rw [(lk_none h3).2.1]
  exact ⟨stamped_push E.stamped h, by simp [E.is], fun p hp => by
    rcases List.mem_append.1 hp with hp | hp
    · exact E.ok p hp
    · simp at hp; subst hp; exact hx⟩
theorem Ent.modify {es : Array MapEntry} {clock : Nat} (E : Ent ok kv es clock L) (hx : ok x) {j : Nat} {e : MapEntry} (h2 : es.toList[j]? = some e) (h3 : e.key = kv x) (h4 : L[j]? = some (x, e.val)) (v : Value) :
    Ent ok kv (es.modify j (fun e' => { e' with key := kv x, val := v })) clock (upd L x v) := by
  have hj : es[j]? = some e := by simpa using h2
  have hkeyf : ∀ e', es[j]? = some e' → ({ e' with key := kv x, val := v } : MapEntry).key = e'.key := fun e' he' => by rw [hj] at he'; cases he'; exact h3.symm
  rw [(lk_some E.apart h4).2.1]
  refine ⟨stamped_modify E.stamped _ _ (fun _ _ => rfl) (fun e' _ he' => hkeyf e' he'), ?_, fun p hp => ?_⟩
  · rw [Array.toList_modify, modify_eq_set _ _ _ _ h2, List.map_set, E.is, List.map_set]
  · rcases List.mem_or_eq_of_mem_set hp with hp | hp
    · exact E.ok p hp
    · subst hp; exact hx

theorem run_update (A : Keys P k ok kv) (ht : P.underlying t = some (.map k e)) (h : mapAt ok kv w r L) (hx : ok x) (v : Value) :
    ∃ es c, (Instr.mapUpdate t (.map (some r)) (kv x) v).run P w = .ok () (setBlock w r (.map es c)) ∧ Ent ok kv es c (upd L x v) := by
  obtain ⟨es, clock, hb, E⟩ := h
  obtain ⟨l, hl⟩ := A.lit x hx
  rcases find_spec A E hx w with ⟨h1, h2, h3⟩ | ⟨j, en, h1, h2, h3, h4⟩
  · refine ⟨_, _, ?_, E.push hx h2 h3 v⟩
    simp [Instr.mapUpdate, run_underlying ht, MapKept.run_getObj_map hb, A.keyed.check w false hl, h1, MapKept.run_setObj_map _ hb, Result.andThen, setBlock]
  · have hj : es[j]? = some en := by simpa using h2
    refine ⟨_, _, ?_, E.modify hx h2 h3 h4 v⟩
    simp [Instr.mapUpdate, run_underlying ht, MapKept.run_getObj_map hb, A.keyed.check w false hl, h1, hj, h3, A.keyed.stays w hl, MapKept.run_setObj_map _ hb, Result.andThen, setBlock]

theorem run_delete (A : Keys P k ok kv) (ht : P.underlying t = some (.map k e)) (h : mapAt ok kv w r L) (hx : ok x) (ty : TypeId) :
    ∃ es c, (Builtin.delete_ #[t, k] ty #[.map (some r), kv x]).run P w = .ok (.tuple #[]) (setBlock w r (.map es c)) ∧ Ent ok kv es c (del L x) := by
  obtain ⟨es, clock, hb, E⟩ := h
  obtain ⟨l, hl⟩ := A.lit x hx
  rcases find_spec A E hx w with ⟨h1, h2, h3⟩ | ⟨j, en, h1, h2, h3, h4⟩
  · refine ⟨es, clock, ?_, by rw [(lk_none h3).2.2]; exact E⟩
    simp [Builtin.delete_, run_underlying ht, MapKept.run_getObj_map hb, A.keyed.check w _ hl, h1, MapKept.run_setObj_map _ hb, Result.andThen, setBlock]
  · have hjs : j < es.size := by simpa using (List.getElem?_eq_some_iff.1 h2).1
    have hsub : (es.eraseIdxIfInBounds j).toList = es.toList.eraseIdx j := by
      unfold Array.eraseIdxIfInBounds
      rw [dif_pos hjs]
      simp
    refine ⟨es.eraseIdxIfInBounds j, clock, ?_, stamped_erase E.stamped j, ?_, fun p hp => ?_⟩
    · simp [Builtin.delete_, run_underlying ht, MapKept.run_getObj_map hb, A.keyed.check w _ hl, h1, MapKept.run_setObj_map _ hb, Result.andThen, setBlock]
    · rw [hsub, (lk_some E.apart h4).2.2, map_eraseIdx, E.is, map_eraseIdx]
    · rw [(lk_some E.apart h4).2.2] at hp
      exact E.ok p ((List.eraseIdx_sublist _ _).subset hp)

omit [DecidableEq K] in
theorem run_len (ht : P.underlying t = some (.map k e)) (h : mapAt ok kv w r L) (ty : TypeId) : (Builtin.len_ #[t] ty #[.map (some r)]).run P w = .ok (.int .i64 L.length) w := by
  obtain ⟨es, clock, hb, E⟩ := h
  have e1 : es.size = L.length := by have := congrArg List.length E.is; simpa using this
  simp [Builtin.len_, run_underlying ht, MapKept.run_getObj_map hb, goInt, Result.andThen, e1]

/-- 'm[k] = append(m[k], ..)': the entry is taken (or made), and stored into behind. -/
theorem run_entry (A : Keys P k ok kv) (ht : P.underlying t = some (.map k e)) {z : Value} (hz : ∀ u : World, (zeroValue e).run P u = .ok z u) {es : Array MapEntry} {clock : Nat} (E : Ent ok kv es clock L) (hx : ok x) :
    ∃ (st : Nat) (es1 : Array MapEntry) (clock1 : Nat), (∀ w : World, w.heap[r]? = some (.map es clock) → (Instr.mapEntry t (.map (some r)) (kv x)).run P w = .ok (.tuple #[(lk L x).getD z, .int .i64 st]) (setBlock w r (.map es1 clock1))) ∧
      ∀ val, ∃ es' clock', (∀ w2 : World, w2.heap[r]? = some (.map es1 clock1) → (Instr.entryStore t (.map (some r)) (.int .i64 st) val).run P w2 = .ok () (setBlock w2 r (.map es' clock'))) ∧ Ent ok kv es' clock' (upd L x val) := by
  obtain ⟨l, hl⟩ := A.lit x hx
  have s2 := ((stamped_iff es clock).1 E.stamped).2.1
  have s1 := ((stamped_iff es clock).1 E.stamped).1
  rcases find_spec A E hx default with ⟨_, h2, h3⟩ | ⟨j, en, _, h2, h3, h4⟩
  · refine ⟨clock, es.push ⟨kv x, z, clock⟩, clock + 1, fun w hb => ?_, fun val => ⟨es.push ⟨kv x, val, clock⟩, clock + 1, fun w2 hw2 => ?_, E.push hx h2 h3 val⟩⟩
    · rcases find_spec A E hx w with ⟨h1, _, _⟩ | ⟨j, en, _, _, _, h4⟩
      · rw [(lk_none h3).1]
        simp [Instr.mapEntry, run_underlying ht, MapKept.run_getObj_map hb, A.keyed.check w false hl, h1, hz, MapKept.run_setObj_map _ hb, Result.andThen, setBlock, goInt]
      · exact absurd rfl (h3 _ (List.mem_of_getElem? h4))
    · have hidx : (es.push ⟨kv x, z, clock⟩).findIdx? (fun e => ((e.born : Nat) : Int) == ((clock : Nat) : Int)) = some es.size := by
        rw [findIdx_arr]
        have := findIdx_born (l := (es.push ⟨kv x, z, clock⟩).toList) (j := es.size) (e0 := ⟨kv x, z, clock⟩) (by
          simp only [Array.toList_push, List.map_append, List.map_cons, List.map_nil]
          refine List.nodup_append.2 ⟨s2, by simp, fun a ha c hc e1 => ?_⟩
          simp only [List.mem_singleton] at hc
          obtain ⟨y, hy, rfl⟩ := List.mem_map.1 ha
          have := s1 y hy
          omega) (by simp)
        exact this
      have hmod : (es.push ⟨kv x, z, clock⟩).modify es.size (fun e => { e with val := val }) = es.push ⟨kv x, val, clock⟩ := by
        apply Array.ext'
        rw [Array.toList_modify, Array.toList_push, Array.toList_push, ← Array.length_toList, modify_last]
      simp [Instr.entryStore, MapKept.run_getObj_map hw2, asInt, asIntOf, hidx, hmod, MapKept.run_setObj_map _ hw2, Result.andThen, setBlock]
  · have hj : es[j]? = some en := by simpa using h2
    have hsame : es.modify j (fun e => { e with key := kv x }) = es := by
      apply Array.ext'
      rw [Array.toList_modify, modify_eq_set _ _ _ _ h2]
      have : ({ en with key := kv x } : MapEntry) = en := by rw [← h3]
      rw [this]
      exact set_self _ _ _ h2
    refine ⟨en.born, es, clock, fun w hb => ?_, fun val => ⟨es.modify j (fun e' => { e' with key := kv x, val := val }), clock, fun w2 hw2 => ?_, E.modify hx h2 h3 h4 val⟩⟩
    · rcases find_spec A E hx w with ⟨_, _, h5⟩ | ⟨j', en', h1, h2', h3', h4'⟩
      · exact absurd rfl (h5 _ (List.mem_of_getElem? h4))
      · have hjj : j' = j := by
          have hp := E.apart
          rcases Nat.lt_trichotomy j' j with hlt | he | hgt
          · exfalso
            obtain ⟨a1, a2⟩ := List.getElem?_eq_some_iff.1 h4'
            obtain ⟨b1, b2⟩ := List.getElem?_eq_some_iff.1 h4
            exact List.pairwise_iff_getElem.1 hp j' j a1 b1 hlt (by rw [a2, b2])
          · exact he
          · exfalso
            obtain ⟨a1, a2⟩ := List.getElem?_eq_some_iff.1 h4'
            obtain ⟨b1, b2⟩ := List.getElem?_eq_some_iff.1 h4
            exact List.pairwise_iff_getElem.1 hp j j' b1 a1 hgt (by rw [a2, b2])
        subst hjj
        rw [h2] at h2'
        cases h2'
        rw [(lk_some E.apart h4).1]
        simp [Instr.mapEntry, run_underlying ht, MapKept.run_getObj_map hb, A.keyed.check w false hl, h1, hj, h3, A.keyed.stays w hl, hsame, MapKept.run_setObj_map _ hb, Result.andThen, setBlock, goInt]
    · have hidx : es.findIdx? (fun e => ((e.born : Nat) : Int) == ((en.born : Nat) : Int)) = some j := by
        rw [findIdx_arr]
        exact findIdx_born s2 h2
      have hmod : es.modify j (fun e => { e with val := val }) = es.modify j (fun e' => { e' with key := kv x, val := val }) := by
        apply Array.ext'
        rw [Array.toList_modify, Array.toList_modify, modify_eq_set _ _ _ _ h2, modify_eq_set _ _ _ _ h2, ← h3]
      simp [Instr.entryStore, MapKept.run_getObj_map hw2, asInt, asIntOf, hidx, hmod, MapKept.run_setObj_map _ hw2, Result.andThen, setBlock]
end
end Go.Proofs.YtgmmglmokkcgeaaGreat.Mk
/- The oracle, plain: what each command does; what holds of it ever after. -/
namespace Go.Proofs.YtgmmglmokkcgeaaGreat
set_option linter.unusedVariables false
set_option linter.unusedSimpArgs false
open Mk
structure Tb where
  p : ByteArray
  g : Nat
  to : Nat
  at_ : Nat
  tn : Nat
def Tb.zero : Tb := ⟨⟨#[]⟩, 0, 0, 0, 0⟩
structure OM where
  time : Nat
  uid : Nat
  mark : Nat
  dec : List (Nat × Nat)
  las : List (ByteArray × Nat)
  tab : List (ByteArray × Tb)
  com : ByteArray → List Nat
def OM.new : OM := ⟨0, 0, 0, [], [], [], fun _ => []⟩
structure OpM where
  k : Nat
  n : Nat
  st : Nat
  keys : List ByteArray
  needs : List (ByteArray × Nat)
  pred : ByteArray
  g : Nat
  to : Nat
  at_ : Nat
structure AnM where
  code : Nat
  first : Nat
  commit : Nat
  tb : Tb
def an0 : AnM := ⟨0, 0, 0, .zero⟩

def chOk (c : UInt8) : Bool := (97 ≤ c.toNat && c.toNat ≤ 122) || (48 ≤ c.toNat && c.toNat ≤ 57) || c.toNat == 95 || c.toNat == 46
def predOk (s : ByteArray) : Bool := decide (1 ≤ s.size) && decide (s.size ≤ 64) && (match s.toList with | c :: _ => 97 ≤ c.toNat && c.toNat ≤ 122 | [] => false) && s.toList.all chOk
def lessB (a b : ByteArray) : Bool := Op.bytesLess a.toList b.toList
def risingM : List ByteArray → Bool
  | a :: b :: l => lessB a b && risingM (b :: l)
  | _ => true
def listsM (o : OpM) : Bool := o.keys.all (fun k => decide (1 ≤ k.size) && decide (k.size ≤ 16384)) && o.needs.all (fun x => predOk x.1 && decide (x.2 ≠ 0)) && decide (o.keys.length ≤ 256) && decide (1 ≤ o.needs.length) && decide (o.needs.length ≤ 256) && risingM o.keys && risingM (o.needs.map (·.1))
def kindM (o : OpM) : Bool := match o.k with
  | 1 | 2 => decide (1 ≤ o.n) && decide (o.n ≤ 4096)
  | 3 => decide (0 < o.st) && listsM o
  | 4 => decide (0 < o.st)
  | 5 => predOk o.pred && decide (0 < o.g)
  | 6 => predOk o.pred && decide (0 < o.to)
  | 7 | 8 => predOk o.pred && decide (0 < o.at_)
  | 9 => decide (0 < o.at_)
  | _ => false
def leftM (o : OpM) : Bool := (decide (o.n = 0) || o.k == 1 || o.k == 2) && (decide (o.st = 0) || o.k == 3 || o.k == 4) && (o.keys.isEmpty || o.k == 3) && (o.needs.isEmpty || o.k == 3) && (decide (o.pred.toList = []) || o.k == 5 || o.k == 6 || o.k == 7 || o.k == 8) && (decide (o.g = 0) || o.k == 5) && (decide (o.to = 0) || o.k == 6) && (decide (o.at_ = 0) || o.k == 7 || o.k == 8 || o.k == 9)
def mayM (o : OpM) : Bool := kindM o && leftM o

def wasM (n : OM) (st : Nat) : AnM × Bool := if n.time < st then (⟨201, 0, 0, .zero⟩, true) else (⟨0, 0, (lk n.dec st).getD 0, .zero⟩, (lk n.dec st).isSome || decide (st < n.mark))
def needM (n : OM) (x : ByteArray × Nat) : Bool := match lk n.tab x.1 with
  | some t => t.to == 0 && t.tn == x.2
  | none => false
def clearM (n : OM) (o : OpM) : Bool := o.keys.all (fun k => decide ((lk n.las k).getD 0 ≤ o.st)) && o.needs.all (needM n)
def abortM (n : OM) (o : OpM) : OM × AnM := if (wasM n o.st).2 then (n, (wasM n o.st).1) else ({ n with dec := upd n.dec o.st 0 }, (wasM n o.st).1)
def lastM (T : Nat) (keys : List ByteArray) (L : List (ByteArray × Nat)) : List (ByteArray × Nat) := keys.foldl (fun L k => upd L k T) L
def comM (T : Nat) (needs : List (ByteArray × Nat)) (f : ByteArray → List Nat) : ByteArray → List Nat := needs.foldl (fun f x => fun p => if p = x.1 then f p ++ [T] else f p) f
def commitM (n : OM) (o : OpM) : OM × AnM := if (wasM n o.st).2 then (n, (wasM n o.st).1) else if clearM n o then
    ({ n with time := n.time + 1, dec := upd n.dec o.st (n.time + 1), las := lastM (n.time + 1) o.keys n.las, com := comM (n.time + 1) o.needs n.com }, ⟨0, 0, n.time + 1, .zero⟩)
  else abortM n o
def giveM (n : OM) (o : OpM) : OM × AnM := match lk n.tab o.pred with
  | some t => (n, ⟨202, 0, 0, t⟩)
  | none => ({ n with tab := upd n.tab o.pred ⟨o.pred, o.g, 0, 0, 1⟩ }, ⟨0, 0, 0, ⟨o.pred, o.g, 0, 0, 1⟩⟩)
def fenceM (n : OM) (o : OpM) : OM × AnM := match lk n.tab o.pred with
  | none => (n, ⟨5, 0, 0, .zero⟩)
  | some t => if t.to ≠ 0 then (n, ⟨3, 0, 0, t⟩) else if t.g = o.to then (n, ⟨2, 0, 0, t⟩) else
    ({ n with time := n.time + 1, tab := upd n.tab o.pred ⟨t.p, t.g, o.to, n.time + 1, t.tn + 1⟩ }, ⟨0, 0, 0, ⟨t.p, t.g, o.to, n.time + 1, t.tn + 1⟩⟩)
def endM (n : OM) (o : OpM) : OM × AnM := match lk n.tab o.pred with
  | none => (n, ⟨5, 0, 0, .zero⟩)
  | some t => if t.to = 0 ∨ t.at_ ≠ o.at_ then (n, ⟨3, 0, 0, t⟩) else
    ({ n with tab := upd n.tab o.pred ⟨t.p, if o.k = 7 then t.to else t.g, 0, 0, t.tn + 1⟩ }, ⟨0, 0, 0, ⟨t.p, if o.k = 7 then t.to else t.g, 0, 0, t.tn + 1⟩⟩)
def raiseM (n : OM) (o : OpM) : OM × AnM := if n.time < o.at_ then (n, ⟨2, 0, 0, .zero⟩) else if n.mark < o.at_ then
    ({ n with mark := o.at_, dec := n.dec.filter (fun p => !(p.2 == 0 && decide (p.1 < o.at_))), las := n.las.filter (fun p => decide (o.at_ < p.2)) }, an0)
  else (n, an0)
def doM (n : OM) (o : OpM) : OM × AnM := match o.k with
  | 1 => ({ n with time := n.time + o.n }, ⟨0, n.time + 1, 0, .zero⟩)
  | 2 => ({ n with uid := n.uid + o.n }, ⟨0, n.uid + 1, 0, .zero⟩)
  | 3 => commitM n o
  | 4 => abortM n o
  | 5 => giveM n o
  | 6 => fenceM n o
  | 7 | 8 => endM n o
  | _ => raiseM n o
def applyM (n : OM) (o : OpM) : OM × AnM := if mayM o then doM n o else (n, ⟨200, 0, 0, .zero⟩)
def decisionM (n : OM) (st : Nat) : Nat × Bool := ((lk n.dec st).getD 0, (lk n.dec st).isSome || (decide (0 < st) && decide (st < n.mark)))
/-- How many of a list that rises are not behind a time, as the search tells it. -/
def seenM (l : List Nat) (t : Nat) : Nat := (l.takeWhile (fun x => decide (x < t))).length + if t ∈ l then 1 else 0

/-- How far the numbers go. -/
structure Lim (n : OM) (B : Nat) : Prop where
  time : n.time ≤ B
  uid : n.uid ≤ B
  turn : ∀ p ∈ n.tab, p.2.tn ≤ B
  com : ∀ p, (n.com p).length ≤ B
theorem comM_len (T : Nat) (needs : List (ByteArray × Nat)) (f : ByteArray → List Nat) (p : ByteArray) : (comM T needs f p).length ≤ (f p).length + needs.length := by
  induction needs generalizing f with
  | nil => exact Nat.le_refl _
  | cons x l ih =>
    have : comM T (x :: l) f p = comM T l (fun p => if p = x.1 then f p ++ [T] else f p) p := rfl
    rw [this]
    refine Nat.le_trans (ih _) ?_
    simp only [List.length_cons]
    split <;> simp <;> omega
theorem mem_upd2 {K V : Type} [DecidableEq K] {L : List (K × V)} {x : K} {v : V} {p : K × V} (h : p ∈ upd L x v) : p = (x, v) ∨ p ∈ L := by
  rcases mem_upd h with h | h | h
  · exact Or.inl h
  · exact Or.inr h.1
  · exact Or.inr h
theorem Lim.mono {n : OM} {B C : Nat} (h : Lim n B) (hc : B ≤ C) : Lim n C := ⟨Nat.le_trans h.time hc, Nat.le_trans h.uid hc, fun p hp => Nat.le_trans (h.turn p hp) hc, fun p => Nat.le_trans (h.com p) hc⟩
theorem Lim.up {n : OM} {B : Nat} (h : Lim n B) {x : ByteArray} {t : Tb} (ht : t.tn ≤ B) {p : ByteArray × Tb} (hp : p ∈ upd n.tab x t) : p.2.tn ≤ B := by
  rcases mem_upd2 hp with rfl | hp
  · exact ht
  · exact h.turn p hp
theorem Lim.abort {n : OM} {B : Nat} (h : Lim n B) (o : OpM) : Lim (abortM n o).1 B := by
  unfold abortM
  split
  · exact h
  · exact ⟨h.time, h.uid, h.turn, h.com⟩
theorem Lim.apply {n : OM} {B : Nat} (h : Lim n B) (o : OpM) : Lim (applyM n o).1 (B + 4096) := by
  have h1 := h.mono (Nat.le_add_right B 4096)
  unfold applyM
  split
  · rename_i hm
    unfold mayM kindM at hm
    unfold doM
    split
    · simp_all
      exact ⟨by have := h.time; simp only; omega, h1.uid, h1.turn, h1.com⟩
    · simp_all
      exact ⟨h1.time, by have := h.uid; simp only; omega, h1.turn, h1.com⟩
    · unfold commitM
      split
      · exact h1
      · split
        · refine ⟨by have := h.time; simp only; omega, h1.uid, h1.turn, fun p => ?_⟩
          have := comM_len (n.time + 1) o.needs n.com p
          have := h.com p
          have h256 : o.needs.length ≤ 256 := by
            have hk : o.k = 3 := by assumption
            have h9 : ((decide (0 < o.st) && listsM o) && leftM o) = true := by rw [hk] at hm; exact hm
            simp only [listsM, Bool.and_eq_true, decide_eq_true_eq] at h9
            exact h9.1.2.1.1.2
          simp only
          omega
        · exact h1.abort o
    · exact h1.abort o
    · unfold giveM
      split
      · exact h1
      · exact ⟨h1.time, h1.uid, fun p hp => h1.up (by simp only; omega) hp, h1.com⟩
    · unfold fenceM
      split
      · exact h1
      · rename_i t ht
        split
        · exact h1
        · split
          · exact h1
          · have := h.turn _ (lk_mem ht)
            exact ⟨by have := h.time; simp only; omega, h1.uid, fun p hp => h1.up (by simp only at this ⊢; omega) hp, h1.com⟩
    · unfold endM
      split
      · exact h1
      · rename_i t ht
        split
        · exact h1
        · have := h.turn _ (lk_mem ht)
          exact ⟨h1.time, h1.uid, fun p hp => h1.up (by simp only at this ⊢; omega) hp, h1.com⟩
    · unfold endM
      split
      · exact h1
      · rename_i t ht
        split
        · exact h1
        · have := h.turn _ (lk_mem ht)
          exact ⟨h1.time, h1.uid, fun p hp => h1.up (by simp only at this ⊢; omega) hp, h1.com⟩
    · unfold raiseM
      split
      · exact h1
      · split
        · exact ⟨h1.time, h1.uid, h1.turn, h1.com⟩
        · exact h1
  · exact h1
end Go.Proofs.YtgmmglmokkcgeaaGreat
/- The oracle, plain: what stays true. -/
namespace Go.Proofs.YtgmmglmokkcgeaaGreat
set_option linter.unusedVariables false
set_option linter.unusedSimpArgs false
open Mk
structure OInv (n : OM) : Prop where
  dle : ∀ p ∈ n.dec, p.2 ≤ n.time
  dst : ∀ p ∈ n.dec, p.2 ≠ 0 → p.1 < p.2
  cle : ∀ p, ∀ t ∈ n.com p, t ≤ n.time
  cso : ∀ p, (n.com p).Pairwise (· ≤ ·)
  dd : n.dec.Pairwise (fun p q => p.1 ≠ q.1)
theorem OInv.new : OInv .new := ⟨by simp [OM.new], by simp [OM.new], by simp [OM.new], by simp [OM.new], by simp [OM.new]⟩
theorem upd_apart {K V : Type} [DecidableEq K] {L : List (K × V)} (h : L.Pairwise (fun p q => p.1 ≠ q.1)) (x : K) (v : V) : (upd L x v).Pairwise (fun p q => p.1 ≠ q.1) := by
  have h1 : (L.map (·.1)).Nodup := List.pairwise_map.2 h
  have h2 : ((upd L x v).map (·.1)).Nodup := by
    rw [keys_upd]
    split
    · exact h1
    · rename_i hx
      exact List.nodup_append.2 ⟨h1, by simp, fun a ha b hb e => by simp at hb; subst hb; subst e; exact hx ha⟩
  exact List.pairwise_map.1 h2
theorem comM_app (T : Nat) (needs : List (ByteArray × Nat)) (f : ByteArray → List Nat) (p : ByteArray) : ∃ j, comM T needs f p = f p ++ List.replicate j T := by
  induction needs generalizing f with
  | nil => exact ⟨0, by simp [comM]⟩
  | cons x l ih =>
    obtain ⟨j, hj⟩ := ih (fun p => if p = x.1 then f p ++ [T] else f p)
    have : comM T (x :: l) f p = comM T l (fun p => if p = x.1 then f p ++ [T] else f p) p := rfl
    rw [this, hj]
    by_cases e : p = x.1
    · exact ⟨j + 1, by simp [e, List.replicate_succ]⟩
    · exact ⟨j, by simp [e]⟩
theorem seenM_app (l : List Nat) (T j t : Nat) (h : t < T) : seenM (l ++ List.replicate j T) t = seenM l t := by
  have h1 : (l ++ List.replicate j T).takeWhile (fun x => decide (x < t)) = l.takeWhile (fun x => decide (x < t)) := by
    induction l with
    | nil =>
      cases j with
      | zero => rfl
      | succ j => simp [List.replicate_succ, List.takeWhile_cons]; omega
    | cons a l ih => simp only [List.cons_append, List.takeWhile_cons, ih]
  have h2 : t ∈ l ++ List.replicate j T ↔ t ∈ l := by
    simp only [List.mem_append, List.mem_replicate]
    constructor
    · rintro (h | ⟨_, h⟩)
      · exact h
      · omega
    · exact Or.inl
  unfold seenM
  rw [h1]
  by_cases e : t ∈ l
  · rw [if_pos (h2.2 e), if_pos e]
  · rw [if_neg (fun h => e (h2.1 h)), if_neg e]
theorem lk_filter {K V : Type} [DecidableEq K] {L : List (K × V)} (h : L.Pairwise (fun p q => p.1 ≠ q.1)) (f : K × V → Bool) (x : K) : lk (L.filter f) x = match lk L x with | some v => if f (x, v) then some v else none | none => none := by
  induction L with
  | nil => rfl
  | cons p L ih =>
    obtain ⟨h1, h2⟩ := List.pairwise_cons.1 h
    have hn : p.1 = x → lk L x = none := fun e => (lk_none (fun q hq => by rw [← e]; exact (h1 q hq).symm)).1
    rw [List.filter_cons]
    by_cases e : p.1 = x
    · have hl : lk (p :: L) x = some p.2 := by simp [lk, e]
      have hp : (x, p.2) = p := by rw [← e]
      rw [hl]
      simp only [hp]
      split
      · simp [lk, e]
      · rw [ih h2, hn e]
    · have hl : lk (p :: L) x = lk L x := by simp [lk, e]
      rw [hl]
      split
      · rw [← ih h2]; simp [lk, e]
      · exact ih h2
theorem lastM_lk (T : Nat) (keys : List ByteArray) (L : List (ByteArray × Nat)) (x : ByteArray) : (x ∈ keys → lk (lastM T keys L) x = some T) ∧ (x ∉ keys → lk (lastM T keys L) x = lk L x) := by
  induction keys generalizing L with
  | nil => exact ⟨fun h => (by cases h), fun _ => rfl⟩
  | cons k l ih =>
    have : lastM T (k :: l) L = lastM T l (upd L k T) := rfl
    rw [this]
    obtain ⟨i1, i2⟩ := ih (upd L k T)
    refine ⟨fun h => ?_, fun h => ?_⟩
    · by_cases e1 : x ∈ l
      · exact i1 e1
      · rcases List.mem_cons.1 h with rfl | h
        · rw [i2 e1, lk_upd_same]
        · exact absurd h e1
    · rw [i2 (fun e => h (List.mem_cons_of_mem _ e)), lk_upd_other _ _ (fun e => h (by rw [e]; exact List.mem_cons_self))]

section
variable {n : OM} {o : OpM}
theorem was_free (h : (wasM n o.st).2 = false) : ¬ n.time < o.st ∧ lk n.dec o.st = none ∧ ¬ o.st < n.mark ∧ (wasM n o.st).1 = an0 := by
  unfold wasM at h ⊢
  split at h
  · cases h
  · rename_i ht
    simp only [Bool.or_eq_false_iff, decide_eq_false_iff_not] at h
    have hn : lk n.dec o.st = none := by cases hh : lk n.dec o.st with | none => rfl | some v => rw [hh] at h; simp at h
    rw [if_neg ht]
    refine ⟨ht, hn, h.2, ?_⟩
    rw [hn]; rfl
theorem was_over (h : (wasM n o.st).2 = true) (hc : (wasM n o.st).1.code = 0) : (lk n.dec o.st = some (wasM n o.st).1.commit ∨ lk n.dec o.st = none ∧ (wasM n o.st).1.commit = 0 ∧ o.st < n.mark) := by
  unfold wasM at h hc ⊢
  split at h
  · rename_i ht
    rw [if_pos ht] at hc
    cases hc
  · rename_i ht
    rw [if_neg ht]
    simp only [Bool.or_eq_true, decide_eq_true_eq] at h
    cases hh : lk n.dec o.st with
    | some v => exact Or.inl (by simp)
    | none => rw [hh] at h; exact Or.inr ⟨rfl, by simp, by simpa using h⟩
theorem abort_cases (n : OM) (o : OpM) : ((wasM n o.st).2 = true ∧ abortM n o = (n, (wasM n o.st).1)) ∨ ((wasM n o.st).2 = false ∧ abortM n o = ({ n with dec := upd n.dec o.st 0 }, an0)) := by
  unfold abortM
  cases h : (wasM n o.st).2
  · right
    refine ⟨rfl, ?_⟩
    rw [if_neg (by simp), (was_free h).2.2.2]
  · left
    exact ⟨rfl, by rw [if_pos rfl]⟩
theorem commit_cases (n : OM) (o : OpM) : ((wasM n o.st).2 = true ∧ commitM n o = (n, (wasM n o.st).1)) ∨ ((wasM n o.st).2 = false ∧ clearM n o = false ∧ commitM n o = ({ n with dec := upd n.dec o.st 0 }, an0)) ∨
    ((wasM n o.st).2 = false ∧ clearM n o = true ∧ commitM n o = ({ n with time := n.time + 1, dec := upd n.dec o.st (n.time + 1), las := lastM (n.time + 1) o.keys n.las, com := comM (n.time + 1) o.needs n.com }, ⟨0, 0, n.time + 1, .zero⟩)) := by
  unfold commitM
  cases h : (wasM n o.st).2
  · right
    rw [if_neg (by simp)]
    cases hc : clearM n o
    · left
      refine ⟨rfl, rfl, ?_⟩
      rw [if_neg (by simp)]
      rcases abort_cases n o with ⟨h1, _⟩ | ⟨_, h2⟩
      · rw [h] at h1; cases h1
      · exact h2
    · right
      exact ⟨rfl, rfl, by rw [if_pos rfl]⟩
  · left
    exact ⟨rfl, by rw [if_pos rfl]⟩

theorem OInv.dec0 (h : OInv n) (st : Nat) : OInv { n with dec := upd n.dec st 0 } :=
  ⟨fun p hp => by rcases mem_upd2 hp with rfl | hp; exact Nat.zero_le _; exact h.dle p hp, fun p hp => by rcases mem_upd2 hp with rfl | hp; (intro h0; exact absurd rfl h0); exact h.dst p hp, h.cle, h.cso, upd_apart h.dd _ _⟩
theorem OInv.apply (h : OInv n) (o : OpM) : OInv (applyM n o).1 := by
  unfold applyM
  split
  · unfold doM
    split
    · exact ⟨fun p hp => Nat.le_trans (h.dle p hp) (Nat.le_add_right _ _), h.dst, fun p t ht => Nat.le_trans (h.cle p t ht) (Nat.le_add_right _ _), h.cso, h.dd⟩
    · exact ⟨h.dle, h.dst, h.cle, h.cso, h.dd⟩
    · rcases commit_cases n o with ⟨_, e⟩ | ⟨_, _, e⟩ | ⟨hw, _, e⟩
      · rw [e]; exact h
      · rw [e]; exact h.dec0 _
      · rw [e]
        have hf := was_free hw
        refine ⟨fun p hp => ?_, fun p hp h0 => ?_, fun p t ht => ?_, fun p => ?_, upd_apart h.dd _ _⟩
        · rcases mem_upd2 hp with rfl | hp
          · exact Nat.le_refl _
          · exact Nat.le_succ_of_le (h.dle p hp)
        · rcases mem_upd2 hp with rfl | hp
          · simp only; omega
          · exact h.dst p hp h0
        · obtain ⟨j, hj⟩ := comM_app (n.time + 1) o.needs n.com p
          simp only [hj, List.mem_append, List.mem_replicate] at ht
          simp only
          rcases ht with ht | ⟨_, ht⟩
          · have := h.cle p t ht; omega
          · omega
        · obtain ⟨j, hj⟩ := comM_app (n.time + 1) o.needs n.com p
          simp only [hj]
          rw [List.pairwise_append]
          refine ⟨h.cso p, List.pairwise_replicate.2 (Or.inr (Nat.le_refl _)), fun a ha b hb => ?_⟩
          have := h.cle p a ha
          have := (List.mem_replicate.1 hb).2
          omega
    · rcases abort_cases n o with ⟨_, e⟩ | ⟨_, e⟩
      · rw [e]; exact h
      · rw [e]; exact h.dec0 _
    · unfold giveM
      split
      · exact h
      · exact ⟨h.dle, h.dst, h.cle, h.cso, h.dd⟩
    · unfold fenceM
      split
      · exact h
      · split
        · exact h
        · split
          · exact h
          · exact ⟨fun p hp => Nat.le_succ_of_le (h.dle p hp), h.dst, fun p t ht => Nat.le_succ_of_le (h.cle p t ht), h.cso, h.dd⟩
    · unfold endM
      split
      · exact h
      · split
        · exact h
        · exact ⟨h.dle, h.dst, h.cle, h.cso, h.dd⟩
    · unfold endM
      split
      · exact h
      · split
        · exact h
        · exact ⟨h.dle, h.dst, h.cle, h.cso, h.dd⟩
    · unfold raiseM
      split
      · exact h
      · split
        · exact ⟨fun p hp => h.dle p (List.mem_filter.1 hp).1, fun p hp => h.dst p (List.mem_filter.1 hp).1, h.cle, h.cso, h.dd.sublist List.filter_sublist⟩
        · exact h
  · exact h

theorem time_le (n : OM) (o : OpM) : n.time ≤ (applyM n o).1.time := by
  unfold applyM
  split
  · unfold doM
    split
    · exact Nat.le_add_right _ _
    · exact Nat.le_refl _
    · rcases commit_cases n o with ⟨_, e⟩ | ⟨_, _, e⟩ | ⟨hw, _, e⟩ <;> rw [e]
      · exact Nat.le_refl _
      · exact Nat.le_refl _
      · exact Nat.le_succ _
    · rcases abort_cases n o with ⟨_, e⟩ | ⟨_, e⟩ <;> rw [e] <;> exact Nat.le_refl _
    · unfold giveM; split <;> exact Nat.le_refl _
    · unfold fenceM
      split
      · exact Nat.le_refl _
      · split
        · exact Nat.le_refl _
        · split
          · exact Nat.le_refl _
          · exact Nat.le_succ _
    · unfold endM
      split
      · exact Nat.le_refl _
      · split <;> exact Nat.le_refl _
    · unfold endM
      split
      · exact Nat.le_refl _
      · split <;> exact Nat.le_refl _
    · unfold raiseM
      split
      · exact Nat.le_refl _
      · split <;> exact Nat.le_refl _
  · exact Nat.le_refl _

/-- What the law says of a start that it has seen decided. -/
def OnceD (n : OM) (D : List (Nat × Nat)) : Prop := ∀ p ∈ D, 0 < p.1 ∧ (lk n.dec p.1 = some p.2 ∨ lk n.dec p.1 = none ∧ p.2 = 0 ∧ p.1 < n.mark)
theorem OnceD.tells {D : List (Nat × Nat)} (h : OnceD n D) {p : Nat × Nat} (hp : p ∈ D) : decisionM n p.1 = (p.2, true) := by
  obtain ⟨h0, h1 | ⟨h1, h2, h3⟩⟩ := h p hp
  · simp [decisionM, h1]
  · simp [decisionM, h1, h2, h0, h3]
theorem OnceD.set {D : List (Nat × Nat)} (h : OnceD n D) (hw : (wasM n o.st).2 = false) (c : Nat) {n' : OM} (e1 : n'.dec = upd n.dec o.st c) (e2 : n'.mark = n.mark) : OnceD n' D := by
  intro p hp
  obtain ⟨_, f2, f3, _⟩ := was_free hw
  obtain ⟨h0, h1⟩ := h p hp
  have hne : p.1 ≠ o.st := fun e => by
    rw [e] at h1
    rcases h1 with h1 | ⟨_, _, h1⟩
    · rw [f2] at h1; cases h1
    · exact f3 h1
  rw [e1, e2, lk_upd_other _ _ hne]
  exact ⟨h0, h1⟩
theorem OnceD.keep {D : List (Nat × Nat)} (h : OnceD n D) (hi : OInv n) (o : OpM) : OnceD (applyM n o).1 D := by
  unfold applyM
  split
  · unfold doM
    split
    · exact h
    · exact h
    · rcases commit_cases n o with ⟨_, e⟩ | ⟨hw, _, e⟩ | ⟨hw, _, e⟩ <;> rw [e]
      · exact h
      · exact h.set hw 0 rfl rfl
      · exact h.set hw _ rfl rfl
    · rcases abort_cases n o with ⟨_, e⟩ | ⟨hw, e⟩ <;> rw [e]
      · exact h
      · exact h.set hw 0 rfl rfl
    · unfold giveM; split <;> exact h
    · unfold fenceM
      split
      · exact h
      · split
        · exact h
        · split <;> exact h
    · unfold endM
      split
      · exact h
      · split <;> exact h
    · unfold endM
      split
      · exact h
      · split <;> exact h
    · unfold raiseM
      split
      · exact h
      · split
        · rename_i hm
          intro p hp
          obtain ⟨h0, h1⟩ := h p hp
          refine ⟨h0, ?_⟩
          simp only
          rw [lk_filter hi.dd]
          rcases h1 with h1 | ⟨h1, h2, h3⟩
          · rw [h1]
            simp only
            by_cases hk : p.2 = 0 ∧ p.1 < o.at_
            · right
              refine ⟨by rw [if_neg]; simp [hk.1, hk.2], hk.1, hk.2⟩
            · left
              rw [if_pos]
              simp only [Bool.not_eq_true', Bool.and_eq_false_iff, beq_eq_false_iff_ne, decide_eq_false_iff_not]
              by_cases h9 : p.2 = 0
              · exact Or.inr (fun h8 => hk ⟨h9, h8⟩)
              · exact Or.inl h9
          · right
            rw [h1]
            exact ⟨rfl, h2, by omega⟩
        · exact h
  · exact h
/-- A commit or an abort that is not refused: what is told is what was told, and is told from now on. -/
theorem OnceD.tell {D : List (Nat × Nat)} (h : OnceD n D) (hi : OInv n) (hm : mayM o = true) (hk : o.k = 3 ∨ o.k = 4) (hc : (applyM n o).2.code = 0) :
    (∀ c, lk D o.st = some c → c = (applyM n o).2.commit) ∧ ((applyM n o).2.commit ≠ 0 → o.st < (applyM n o).2.commit) ∧ OnceD (applyM n o).1 (upd D o.st (applyM n o).2.commit) := by
  have hst : 0 < o.st := by
    unfold mayM kindM at hm
    rcases hk with hk | hk <;> rw [hk] at hm <;> simp at hm
    · exact hm.1.1
    · exact hm.1
  have hK := h.keep hi o
  have key : ∀ c, (applyM n o).2.commit = c → (0 < o.st ∧ (lk (applyM n o).1.dec o.st = some c ∨ lk (applyM n o).1.dec o.st = none ∧ c = 0 ∧ o.st < (applyM n o).1.mark)) → OnceD (applyM n o).1 (upd D o.st (applyM n o).2.commit) := by
    intro c e hh p hp
    rcases mem_upd2 hp with rfl | hp
    · rw [e]; exact hh
    · exact hK p hp
  have ea : applyM n o = doM n o := by unfold applyM; rw [if_pos hm]
  have fresh : (wasM n o.st).2 = false → ∀ c, lk D o.st ≠ some c := fun hw c hl => by
    obtain ⟨_, f2, f3, _⟩ := was_free hw
    obtain ⟨_, h1 | ⟨_, _, h1⟩⟩ := h _ (lk_mem hl)
    · rw [f2] at h1; cases h1
    · exact f3 h1
  have over : (wasM n o.st).2 = true → applyM n o = (n, (wasM n o.st).1) → _ := fun hw e => by
    have hc' : (wasM n o.st).1.code = 0 := by rw [e] at hc; exact hc
    have ho := was_over hw hc'
    refine (⟨fun c hl => ?_, fun h0 => ?_, key _ rfl ⟨hst, ?_⟩⟩ : (∀ c, lk D o.st = some c → c = (applyM n o).2.commit) ∧ ((applyM n o).2.commit ≠ 0 → o.st < (applyM n o).2.commit) ∧ OnceD (applyM n o).1 (upd D o.st (applyM n o).2.commit))
    · rw [e]
      obtain ⟨_, h1⟩ := h _ (lk_mem hl)
      simp only at h1 ⊢
      rcases ho with ho | ⟨ho, ho2, _⟩
      · rcases h1 with h1 | ⟨h1, _, _⟩
        · rw [ho] at h1; cases h1; rfl
        · rw [ho] at h1; cases h1
      · rcases h1 with h1 | ⟨_, h2, _⟩
        · rw [ho] at h1; cases h1
        · rw [ho2, h2]
    · rw [e] at h0 ⊢
      simp only at h0 ⊢
      rcases ho with ho | ⟨_, ho2, _⟩
      · exact hi.dst _ (lk_mem ho) h0
      · exact absurd ho2 h0
    · rw [e]; exact ho
  have aborts : (wasM n o.st).2 = false → applyM n o = ({ n with dec := upd n.dec o.st 0 }, an0) → _ := fun hw e => by
    refine (⟨fun c hl => absurd hl (fresh hw c), fun h0 => ?_, key 0 ?_ ⟨hst, Or.inl ?_⟩⟩ : (∀ c, lk D o.st = some c → c = (applyM n o).2.commit) ∧ ((applyM n o).2.commit ≠ 0 → o.st < (applyM n o).2.commit) ∧ OnceD (applyM n o).1 (upd D o.st (applyM n o).2.commit))
    · rw [e] at h0; exact absurd rfl h0
    · rw [e]; rfl
    · rw [e]; exact lk_upd_same _ _ _
  rcases hk with hk | hk
  · have ed : doM n o = commitM n o := by unfold doM; rw [hk]; rfl
    rcases commit_cases n o with ⟨hw, e⟩ | ⟨hw, _, e⟩ | ⟨hw, _, e⟩
    · exact over hw (by rw [ea, ed, e])
    · exact aborts hw (by rw [ea, ed, e])
    · have e' : applyM n o = ({ n with time := n.time + 1, dec := upd n.dec o.st (n.time + 1), las := lastM (n.time + 1) o.keys n.las, com := comM (n.time + 1) o.needs n.com }, ⟨0, 0, n.time + 1, .zero⟩) := by rw [ea, ed, e]
      refine ⟨fun c hl => absurd hl (fresh hw c), fun h0 => ?_, key (n.time + 1) ?_ ⟨hst, Or.inl ?_⟩⟩
      · rw [e']; have := (was_free hw).1; simp only; omega
      · rw [e']
      · rw [e']; exact lk_upd_same _ _ _
  · have ed : doM n o = abortM n o := by unfold doM; rw [hk]; rfl
    rcases abort_cases n o with ⟨hw, e⟩ | ⟨hw, e⟩
    · exact over hw (by rw [ea, ed, e])
    · exact aborts hw (by rw [ea, ed, e])

def givenM (o : OpM) (a : AnM) (was : Nat) : Nat := if o.k = 1 then a.first else if o.k = 6 then a.tb.at_ else if o.k = 3 then (if was < a.commit then a.commit else 0) else 0
theorem given_next (hi : OInv n) (hm : mayM o = true) (hc : (applyM n o).2.code = 0) : (givenM o (applyM n o).2 n.time ≠ 0 → givenM o (applyM n o).2 n.time = n.time + 1) ∧ (givenM o (applyM n o).2 n.time = 0 → (applyM n o).1.time = n.time ∨ o.k = 1) := by
  have ea : applyM n o = doM n o := by unfold applyM; rw [if_pos hm]
  rw [ea] at hc ⊢
  unfold givenM
  by_cases k1 : o.k = 1
  · rw [if_pos k1]
    have : doM n o = ({ n with time := n.time + o.n }, ⟨0, n.time + 1, 0, .zero⟩) := by unfold doM; rw [k1]; rfl
    rw [this]
    exact ⟨fun _ => rfl, fun h => by cases h⟩
  rw [if_neg k1]
  by_cases k6 : o.k = 6
  · rw [if_pos k6]
    have : doM n o = fenceM n o := by unfold doM; rw [k6]; rfl
    rw [this] at hc ⊢
    unfold fenceM at hc ⊢
    split at hc
    · cases hc
    · rename_i t ht
      split at hc
      · cases hc
      · split at hc
        · cases hc
        · rename_i h1 h2
          rw [if_neg h1, if_neg h2]
          exact ⟨fun _ => rfl, fun h => by cases h⟩
  rw [if_neg k6]
  by_cases k3 : o.k = 3
  · rw [if_pos k3]
    have : doM n o = commitM n o := by unfold doM; rw [k3]; rfl
    rw [this] at hc ⊢
    rcases commit_cases n o with ⟨hw, e⟩ | ⟨hw, _, e⟩ | ⟨hw, _, e⟩
    · rw [e] at hc ⊢
      have hle : ¬ n.time < (wasM n o.st).1.commit := by
        rcases was_over hw hc with h | ⟨_, h, _⟩
        · have := hi.dle _ (lk_mem h); simp only at this; omega
        · omega
      rw [if_neg hle]
      exact ⟨fun h => absurd rfl h, fun _ => Or.inl rfl⟩
    · rw [e]
      exact ⟨fun h => absurd (if_neg (by simp [an0])) h, fun _ => Or.inl rfl⟩
    · rw [e]
      rw [if_pos (Nat.lt_succ_self _)]
      exact ⟨fun _ => rfl, fun h => by cases h⟩
  rw [if_neg k3]
  refine ⟨fun h => absurd rfl h, fun _ => Or.inl ?_⟩
  unfold doM
  split
  · rename_i h; exact absurd h k1
  · rfl
  · rename_i h; exact absurd h k3
  · rcases abort_cases n o with ⟨_, e⟩ | ⟨_, e⟩ <;> rw [e]
  · unfold giveM; split <;> rfl
  · rename_i h; exact absurd h k6
  · unfold endM
    split
    · rfl
    · split <;> rfl
  · unfold endM
    split
    · rfl
    · split <;> rfl
  · unfold raiseM
    split
    · rfl
    · split <;> rfl
theorem refused_same (hc : (applyM n o).2.code ≠ 0) : (applyM n o).1 = n := by
  unfold applyM at hc ⊢
  split
  · rename_i hm
    rw [if_pos hm] at hc
    unfold doM at hc ⊢
    split
    · simp_all
    · simp_all
    · rename_i hk
      simp only [hk] at hc
      rcases commit_cases n o with ⟨_, e⟩ | ⟨_, _, e⟩ | ⟨hw, _, e⟩ <;> rw [e] at hc ⊢
      · exact absurd rfl hc
      · exact absurd rfl hc
    · rename_i hk
      simp only [hk] at hc
      rcases abort_cases n o with ⟨_, e⟩ | ⟨_, e⟩ <;> rw [e] at hc ⊢
      exact absurd rfl hc
    · rename_i hk
      simp only [hk] at hc
      unfold giveM at hc ⊢
      split
      · rfl
      · rename_i h; rw [h] at hc; exact absurd rfl hc
    · rename_i hk
      simp only [hk] at hc
      unfold fenceM at hc ⊢
      split
      · rfl
      · rename_i t h
        rw [h] at hc
        simp only at hc
        split
        · rfl
        · rename_i h1
          rw [if_neg h1] at hc
          split
          · rfl
          · rename_i h2; rw [if_neg h2] at hc; exact absurd rfl hc
    · rename_i hk
      simp only [hk] at hc
      unfold endM at hc ⊢
      split
      · rfl
      · rename_i t h
        rw [h] at hc
        simp only at hc
        split
        · rfl
        · rename_i h2; rw [if_neg h2] at hc; exact absurd rfl hc
    · rename_i hk
      simp only [hk] at hc
      unfold endM at hc ⊢
      split
      · rfl
      · rename_i t h
        rw [h] at hc
        simp only at hc
        split
        · rfl
        · rename_i h2; rw [if_neg h2] at hc; exact absurd rfl hc
    · unfold raiseM at hc ⊢
      split
      · rfl
      · split
        · rename_i h1 h2; simp_all [an0]
        · rfl
  · rfl
theorem commit_needs (hi : OInv n) (hm : mayM o = true) (hk : o.k = 3) (hc : (applyM n o).2.code = 0) (ht : n.time < (applyM n o).2.commit) : clearM n o = true := by
  have ea : applyM n o = commitM n o := by unfold applyM; rw [if_pos hm]; unfold doM; rw [hk]; rfl
  rw [ea] at hc ht
  rcases commit_cases n o with ⟨hw, e⟩ | ⟨hw, _, e⟩ | ⟨hw, h, e⟩
  · rw [e] at hc ht
    rcases was_over hw hc with h | ⟨_, h, _⟩
    · have := hi.dle _ (lk_mem h); simp only at this ht; omega
    · simp only at ht; omega
  · rw [e] at ht; simp [an0] at ht
  · exact h
theorem seen_keep (p : ByteArray) (n : OM) (o : OpM) (t : Nat) (ht : t ≤ n.time) : seenM ((applyM n o).1.com p) t = seenM (n.com p) t := by
  unfold applyM
  split
  · unfold doM
    split
    · rfl
    · rfl
    · rcases commit_cases n o with ⟨_, e⟩ | ⟨_, _, e⟩ | ⟨hw, _, e⟩ <;> rw [e]
      obtain ⟨j, hj⟩ := comM_app (n.time + 1) o.needs n.com p
      simp only [hj]
      exact seenM_app _ _ _ _ (by omega)
    · rcases abort_cases n o with ⟨_, e⟩ | ⟨_, e⟩ <;> rw [e]
    · unfold giveM; split <;> rfl
    · unfold fenceM
      split
      · rfl
      · split
        · rfl
        · split <;> rfl
    · unfold endM
      split
      · rfl
      · split <;> rfl
    · unfold endM
      split
      · rfl
      · split <;> rfl
    · unfold raiseM
      split
      · rfl
      · split <;> rfl
  · rfl
/-- What was committed: when, and of which keys. -/
def ApartI (n : OM) (done : List (List ByteArray × Nat)) : Prop := ∀ d ∈ done, d.2 ≤ n.time ∧ ∀ k ∈ d.1, ∃ v, lk n.las k = some v ∧ d.2 ≤ v
theorem ApartI.keep {done : List (List ByteArray × Nat)} (h : ApartI n done) (hk : o.k ≠ 9) : ApartI (applyM n o).1 done := by
  intro d hd
  obtain ⟨h1, h2⟩ := h d hd
  refine ⟨Nat.le_trans h1 (time_le n o), fun k hk' => ?_⟩
  obtain ⟨v, h3, h4⟩ := h2 k hk'
  unfold applyM
  split
  · rename_i hm
    unfold doM
    split
    · exact ⟨v, h3, h4⟩
    · exact ⟨v, h3, h4⟩
    · rcases commit_cases n o with ⟨_, e⟩ | ⟨_, _, e⟩ | ⟨hw, _, e⟩ <;> rw [e]
      · exact ⟨v, h3, h4⟩
      · exact ⟨v, h3, h4⟩
      · obtain ⟨i1, i2⟩ := lastM_lk (n.time + 1) o.keys n.las k
        by_cases hx : k ∈ o.keys
        · exact ⟨_, i1 hx, by omega⟩
        · exact ⟨v, (i2 hx).trans h3, h4⟩
    · rcases abort_cases n o with ⟨_, e⟩ | ⟨_, e⟩ <;> rw [e] <;> exact ⟨v, h3, h4⟩
    · unfold giveM; split <;> exact ⟨v, h3, h4⟩
    · unfold fenceM
      split
      · exact ⟨v, h3, h4⟩
      · split
        · exact ⟨v, h3, h4⟩
        · split <;> exact ⟨v, h3, h4⟩
    · unfold endM
      split
      · exact ⟨v, h3, h4⟩
      · split <;> exact ⟨v, h3, h4⟩
    · unfold endM
      split
      · exact ⟨v, h3, h4⟩
      · split <;> exact ⟨v, h3, h4⟩
    · rename_i h1 h2 h3' h4' h5 h6 h7 h8
      exfalso
      unfold mayM kindM at hm
      split at hm <;> simp_all
  · exact ⟨v, h3, h4⟩
theorem ApartI.free {done : List (List ByteArray × Nat)} (h : ApartI n done) (hc : clearM n o = true) {d : List ByteArray × Nat} (hd : d ∈ done) {k : ByteArray} (h1 : k ∈ d.1) (h2 : k ∈ o.keys) : ¬ o.st < d.2 := by
  obtain ⟨_, h3⟩ := h d hd
  obtain ⟨v, h4, h5⟩ := h3 k h1
  unfold clearM at hc
  simp only [Bool.and_eq_true, List.all_eq_true, decide_eq_true_eq] at hc
  have := hc.1 k h2
  rw [h4] at this
  simp at this
  omega
theorem ApartI.add {done : List (List ByteArray × Nat)} (h : ApartI n done) (hi : OInv n) (hm : mayM o = true) (hk : o.k = 3) (hc : (applyM n o).2.code = 0) (ht : n.time < (applyM n o).2.commit) : ApartI (applyM n o).1 (done ++ [(o.keys, (applyM n o).2.commit)]) ∧ (applyM n o).2.commit = n.time + 1 := by
  have hcl := commit_needs hi hm hk hc ht
  have hK := h.keep (o := o) (by omega)
  have ea : applyM n o = commitM n o := by unfold applyM; rw [if_pos hm]; unfold doM; rw [hk]; rfl
  rw [ea] at hc ht hK ⊢
  rcases commit_cases n o with ⟨hw, e⟩ | ⟨hw, h1, e⟩ | ⟨hw, _, e⟩
  · exfalso
    rw [e] at hc ht
    rcases was_over hw hc with h | ⟨_, h, _⟩
    · have := hi.dle _ (lk_mem h); simp only at this ht; omega
    · simp only at ht; omega
  · rw [hcl] at h1; cases h1
  · rw [e] at hK ⊢
    refine ⟨fun d hd => ?_, rfl⟩
    rcases List.mem_append.1 hd with hd | hd
    · exact hK d hd
    · simp only [List.mem_singleton] at hd
      subst hd
      refine ⟨Nat.le_refl _, fun k hk' => ⟨n.time + 1, ?_, Nat.le_refl _⟩⟩
      exact (lastM_lk (n.time + 1) o.keys n.las k).1 hk'
end
end Go.Proofs.YtgmmglmokkcgeaaGreat
