/- A map by its pairs (key, value), in the order of their first store; keys by an injective encoding. Holds of any program. -/
import Derived.WalkKit
import Derived.Maps.OwnOps
import Derived.WideKeyEntry
namespace Go.Proofs.Ytnhookblhckmlaa.Mk
open Go Go.ChangeMaps Go.MapKept Go.RowKit
open Go.Maps (Keyed)
open Go.WideElems (findIdx_born findIdx_arr modify_last set_self)

section
variable {K V : Type} [DecidableEq K]

def lk : List (K × V) → K → Option V
  | [], _ => none
  | p :: L, x => if p.1 = x then some p.2 else lk L x
def upd : List (K × V) → K → V → List (K × V)
  | [], x, v => [(x, v)]
  | p :: L, x, v => if p.1 = x then (x, v) :: L else p :: upd L x v
def del : List (K × V) → K → List (K × V)
  | [], _ => []
  | p :: L, x => if p.1 = x then L else p :: del L x

theorem lk_none {L : List (K × V)} {x : K} (h : ∀ p ∈ L, p.1 ≠ x) : lk L x = none ∧ (∀ u, upd L x u = L ++ [(x, u)]) ∧ del L x = L := by
  induction L with
  | nil => exact ⟨rfl, fun _ => rfl, rfl⟩
  | cons p L ih =>
    have h0 := h p (by simp)
    obtain ⟨a, b, c⟩ := ih (fun q hq => h q (by simp [hq]))
    simp [lk, upd, del, h0, a, b, c]

theorem lk_some {L : List (K × V)} {x : K} {j : Nat} {v : V} (hd : L.Pairwise (fun p q => p.1 ≠ q.1)) (h : L[j]? = some (x, v)) : lk L x = some v ∧ (∀ u, upd L x u = L.set j (x, u)) ∧ del L x = L.eraseIdx j := by
  induction L generalizing j with
  | nil => simp at h
  | cons p L ih =>
    obtain ⟨h1, h2⟩ := List.pairwise_cons.1 hd
    cases j with
    | zero => simp at h; subst h; simp [lk, upd, del]
    | succ j =>
      simp at h
      have hne : p.1 ≠ x := h1 _ (List.mem_of_getElem? h)
      obtain ⟨a, b, c⟩ := ih h2 h
      simp [lk, upd, del, hne, a, b, c]

theorem lk_upd_same (L : List (K × V)) (x : K) (v : V) : lk (upd L x v) x = some v := by
  induction L with
  | nil => simp [upd, lk]
  | cons p L ih => unfold upd; split <;> simp_all [lk]
theorem lk_upd_other (L : List (K × V)) {x y : K} (v : V) (h : y ≠ x) : lk (upd L x v) y = lk L y := by
  induction L with
  | nil => simp [upd, lk, h.symm]
  | cons p L ih =>
    unfold upd
    split
    · rename_i e; simp [lk, e, h.symm]
    · simp [lk, ih]
theorem lk_upd (L : List (K × V)) (x y : K) (v : V) : lk (upd L x v) y = if y = x then some v else lk L y := by
  split
  · rename_i h; subst h; exact lk_upd_same ..
  · exact lk_upd_other _ _ ‹_›
theorem mem_upd {L : List (K × V)} {x : K} {v : V} {p : K × V} (h : p ∈ upd L x v) : p = (x, v) ∨ p ∈ L ∧ p.1 ≠ x ∨ p ∈ L := by
  induction L with
  | nil => simp [upd] at h; exact Or.inl h
  | cons q L ih =>
    unfold upd at h
    split at h
    · rcases List.mem_cons.1 h with h | h
      · exact Or.inl h
      · exact Or.inr (Or.inr (by simp [h]))
    · rcases List.mem_cons.1 h with h | h
      · exact Or.inr (Or.inr (by simp [h]))
      · rcases ih h with h | h | h
        · exact Or.inl h
        · exact Or.inr (Or.inr (by simp [h.1]))
        · exact Or.inr (Or.inr (by simp [h]))
theorem keys_upd (L : List (K × V)) (x : K) (v : V) : (upd L x v).map (·.1) = if x ∈ L.map (·.1) then L.map (·.1) else L.map (·.1) ++ [x] := by
  induction L with
  | nil => simp [upd]
  | cons p L ih =>
    unfold upd
    by_cases e : p.1 = x
    · simp [e]
    · rw [if_neg e, List.map_cons, ih]
      have : x ≠ p.1 := fun h => e h.symm
      by_cases hm : x ∈ L.map (·.1) <;> simp_all
theorem lk_mem {L : List (K × V)} {x : K} {v : V} (h : lk L x = some v) : (x, v) ∈ L := by
  induction L with
  | nil => simp [lk] at h
  | cons p L ih =>
    unfold lk at h
    split at h
    · rename_i e; cases h; subst e; simp
    · simp [ih h]
theorem lk_del_same {L : List (K × V)} (hd : L.Pairwise (fun p q => p.1 ≠ q.1)) (x : K) : lk (del L x) x = none := by
  induction L with
  | nil => rfl
  | cons p L ih =>
    obtain ⟨h1, h2⟩ := List.pairwise_cons.1 hd
    unfold del
    split
    · rename_i e; exact (lk_none (fun q hq => by rw [← e]; exact (h1 q hq).symm)).1
    · rename_i e; simp [lk, e, ih h2]
theorem lk_del_other (L : List (K × V)) {x y : K} (h : y ≠ x) : lk (del L x) y = lk L y := by
  induction L with
  | nil => rfl
  | cons p L ih =>
    unfold del
    split
    · rename_i e; simp [lk, e, h.symm]
    · simp [lk, ih]
end

section
variable {K : Type} [DecidableEq K] {P : Program} {k : TypeId} {ok : K → Prop} {kv : K → Value}

/-- Keys of this type are these. -/
structure Keys (P : Program) (k : TypeId) (ok : K → Prop) (kv : K → Value) : Prop where
  keyed : Keyed P k
  inj : ∀ a b, kv a = kv b → a = b
  lit : ∀ x, ok x → ∃ l, keyOf P k (kv x) = some l

/-- Entries are these pairs. -/
structure Ent (ok : K → Prop) (kv : K → Value) (es : Array MapEntry) (clock : Nat) (L : List (K × Value)) : Prop where
  stamped : Stamped es clock
  is : es.toList.map (fun e => (e.key, e.val)) = L.map (fun p => (kv p.1, p.2))
  ok : ∀ p ∈ L, ok p.1

omit [DecidableEq K] in
theorem Ent.key {es : Array MapEntry} {clock : Nat} {L : List (K × Value)} (E : Ent ok kv es clock L) {e : MapEntry} (he : e ∈ es.toList) : ∃ p ∈ L, e.key = kv p.1 ∧ e.val = p.2 := by
  have : (e.key, e.val) ∈ es.toList.map (fun e => (e.key, e.val)) := List.mem_map.2 ⟨e, he, rfl⟩
  rw [E.is] at this
  obtain ⟨p, hp, e1⟩ := List.mem_map.1 this
  simp only [Prod.mk.injEq] at e1
  exact ⟨p, hp, e1.1.symm, e1.2.symm⟩
omit [DecidableEq K] in
theorem Ent.apart {es : Array MapEntry} {clock : Nat} {L : List (K × Value)} (E : Ent ok kv es clock L) : L.Pairwise (fun p q => p.1 ≠ q.1) := by
  have h3 := ((stamped_iff es clock).1 E.stamped).2.2
  have h4 : (es.toList.map (fun e => (e.key, e.val))).Pairwise (fun p q => p.1 ≠ q.1) := List.pairwise_map.2 h3
  rw [E.is] at h4
  exact (List.pairwise_map.1 h4).imp (fun h e => h (by simp [e]))

/-- Block r is a map of these pairs. -/
def mapAt (ok : K → Prop) (kv : K → Value) (w : World) (r : Nat) (L : List (K × Value)) : Prop := ∃ es clock, w.heap[r]? = some (.map es clock) ∧ Ent ok kv es clock L

omit [DecidableEq K] in
theorem mapAt.stay {w w' : World} {r : Nat} {L : List (K × Value)} (h : mapAt ok kv w r L) (e : w'.heap[r]? = w.heap[r]?) : mapAt ok kv w' r L := by
  obtain ⟨es, c, h1, h2⟩ := h; exact ⟨es, c, e.trans h1, h2⟩
omit [DecidableEq K] in
theorem mapAt.lt {w : World} {r : Nat} {L : List (K × Value)} (h : mapAt ok kv w r L) : r < w.heap.size := by
  obtain ⟨es, c, h1, h2⟩ := h; exact (Array.getElem?_eq_some_iff.1 h1).1
omit [DecidableEq K] in
theorem mapAt.apart {w : World} {r : Nat} {L : List (K × Value)} (h : mapAt ok kv w r L) : L.Pairwise (fun p q => p.1 ≠ q.1) := by
  obtain ⟨es, c, h1, h2⟩ := h; exact h2.apart
omit [DecidableEq K] in
theorem mapAt_made (w : World) : mapAt ok kv (w.alloc (.map #[] 0)) w.heap.size [] :=
  ⟨#[], 0, (MapKept.heap_alloc w _).1, stamped_empty 0, rfl, by simp⟩

omit [DecidableEq K] in
theorem find_spec (A : Keys P k ok kv) {es : Array MapEntry} {clock : Nat} {L : List (K × Value)} (E : Ent ok kv es clock L) {x : K} (hx : ok x) (w : World) :
    ((Instr.findKey k (kv x) es.toList).run P w = .ok none w ∧ (∀ e ∈ es.toList, e.key ≠ kv x) ∧ ∀ p ∈ L, p.1 ≠ x) ∨
    ∃ j e, (Instr.findKey k (kv x) es.toList).run P w = .ok (some (j, e.val)) w ∧ es.toList[j]? = some e ∧ e.key = kv x ∧ L[j]? = some (x, e.val) := by
  obtain ⟨l, hl⟩ := A.lit x hx
  rcases A.keyed.find w hl es.toList (fun e he => by obtain ⟨p, hp, e1, _⟩ := E.key he; rw [e1]; exact A.lit _ (E.ok p hp)) with ⟨h1, h2⟩ | ⟨j, e, h1, h2, h3⟩
  · refine Or.inl ⟨h1, h2, fun p hp e => ?_⟩
    have : (kv p.1, p.2) ∈ L.map (fun p => (kv p.1, p.2)) := List.mem_map.2 ⟨p, hp, rfl⟩
    rw [← E.is] at this
    obtain ⟨q, hq, e1⟩ := List.mem_map.1 this
    simp only [Prod.mk.injEq] at e1
    exact h2 q hq (by rw [e1.1, e])
  · refine Or.inr ⟨j, e, h1, h2, h3, ?_⟩
    have : (es.toList.map (fun e => (e.key, e.val)))[j]? = some (e.key, e.val) := by simp [List.getElem?_map, h2]
    rw [E.is, List.getElem?_map] at this
    cases hL : L[j]? with
    | none => simp [hL] at this
    | some p =>
      simp [hL] at this
      rw [h3] at this
      have := A.inj _ _ this.1
      obtain ⟨_, e2⟩ := ‹_ ∧ _›
      obtain ⟨a, b⟩ := p
      simp_all

variable {t e : TypeId} {r : Nat} {w : World} {L : List (K × Value)} {x : K}

theorem run_lookup (A : Keys P k ok kv) (ht : P.underlying t = some (.map k e)) {z : Value} (hz : (zeroValue e).run P w = .ok z w) (h : mapAt ok kv w r L) (hx : ok x) (c : Bool) :
    (Instr.lookup t (.map (some r)) (kv x) c).run P w = .ok (if c then .tuple #[(lk L x).getD z, .bool (lk L x).isSome] else (lk L x).getD z) w := by
  obtain ⟨es, clock, hb, E⟩ := h
  obtain ⟨l, hl⟩ := A.lit x hx
  rcases find_spec A E hx w with ⟨h1, _, h3⟩ | ⟨j, en, h1, _, _, h4⟩
  · rw [(lk_none h3).1]
    simp [Instr.lookup, run_underlying ht, MapKept.run_getObj_map hb, A.keyed.check w _ hl, h1, hz, Result.andThen]
  · rw [(lk_some E.apart h4).1]
    simp [Instr.lookup, run_underlying ht, MapKept.run_getObj_map hb, A.keyed.check w _ hl, h1, Result.andThen]

theorem Ent.push {es : Array MapEntry} {clock : Nat} (E : Ent ok kv es clock L) (hx : ok x) (h : ∀ e ∈ es.toList, e.key ≠ kv x) (h3 : ∀ p ∈ L, p.1 ≠ x) (v : Value) : Ent ok kv (es.push ⟨kv x, v, clock⟩) (clock + 1) (upd L x v) := by
  rw [(lk_none h3).2.1]
  exact ⟨stamped_push E.stamped h, by simp [E.is], fun p hp => by
    rcases List.mem_append.1 hp with hp | hp
    · exact E.ok p hp
    · simp at hp; subst hp; exact hx⟩
theorem Ent.modify {es : Array MapEntry} {clock : Nat} (E : Ent ok kv es clock L) (hx : ok x) {j : Nat} {e : MapEntry} (h2 : es.toList[j]? = some e) (h3 : e.key = kv x) (h4 : L[j]? = some (x, e.val)) (v : Value) :
    Ent ok kv (es.modify j (fun e' => { e' with key := kv x, val := v })) clock (upd L x v) := by
  have hj : es[j]? = some e := by simpa using h2
  have hkeyf : ∀ e', es[j]? = some e' → ({ e' with key := kv x, val := v } : MapEntry).key = e'.key := fun e' he' => by rw [hj] at he'; cases he'; exact h3.symm
  rw [(lk_some E.apart h4).2.1]
  refine ⟨stamped_modify E.stamped _ _ (fun _ _ => rfl) (fun e' _ he' => hkeyf e' he'), ?_, fun p hp => ?_⟩
  · rw [Array.toList_modify, modify_eq_set _ _ _ _ h2, List.map_set, E.is, List.map_set]
  · rcases List.mem_or_eq_of_mem_set hp with hp | hp
    · exact E.ok p hp
    · subst hp; exact hx

theorem run_update (A : Keys P k ok kv) (ht : P.underlying t = some (.map k e)) (h : mapAt ok kv w r L) (hx : ok x) (v : Value) :
    ∃ es c, (Instr.mapUpdate t (.map (some r)) (kv x) v).run P w = .ok () (setBlock w r (.map es c)) ∧ Ent ok kv es c (upd L x v) := by
  obtain ⟨es, clock, hb, E⟩ := h
  obtain ⟨l, hl⟩ := A.lit x hx
  rcases find_spec A E hx w with ⟨h1, h2, h3⟩ | ⟨j, en, h1, h2, h3, h4⟩
  · refine ⟨_, _, ?_, E.push hx h2 h3 v⟩
    simp [Instr.mapUpdate, run_underlying ht, MapKept.run_getObj_map hb, A.keyed.check w false hl, h1, MapKept.run_setObj_map _ hb, Result.andThen, setBlock]
  · have hj : es[j]? = some en := by simpa using h2
    refine ⟨_, _, ?_, E.modify hx h2 h3 h4 v⟩
    simp [Instr.mapUpdate, run_underlying ht, MapKept.run_getObj_map hb, A.keyed.check w false hl, h1, hj, h3, A.keyed.stays w hl, MapKept.run_setObj_map _ hb, Result.andThen, setBlock]

theorem run_delete (A : Keys P k ok kv) (ht : P.underlying t = some (.map k e)) (h : mapAt ok kv w r L) (hx : ok x) (ty : TypeId) :
    ∃ es c, (Builtin.delete_ #[t, k] ty #[.map (some r), kv x]).run P w = .ok (.tuple #[]) (setBlock w r (.map es c)) ∧ Ent ok kv es c (del L x) := by
  obtain ⟨es, clock, hb, E⟩ := h
  obtain ⟨l, hl⟩ := A.lit x hx
  rcases find_spec A E hx w with ⟨h1, h2, h3⟩ | ⟨j, en, h1, h2, h3, h4⟩
  · refine ⟨es, clock, ?_, by rw [(lk_none h3).2.2]; exact E⟩
    simp [Builtin.delete_, run_underlying ht, MapKept.run_getObj_map hb, A.keyed.check w _ hl, h1, MapKept.run_setObj_map _ hb, Result.andThen, setBlock]
  · have hjs : j < es.size := by simpa using (List.getElem?_eq_some_iff.1 h2).1
    have hsub : (es.eraseIdxIfInBounds j).toList = es.toList.eraseIdx j := by
      unfold Array.eraseIdxIfInBounds
      rw [dif_pos hjs]
      simp
    refine ⟨es.eraseIdxIfInBounds j, clock, ?_, stamped_erase E.stamped j, ?_, fun p hp => ?_⟩
    · simp [Builtin.delete_, run_underlying ht, MapKept.run_getObj_map hb, A.keyed.check w _ hl, h1, MapKept.run_setObj_map _ hb, Result.andThen, setBlock]
    · rw [hsub, (lk_some E.apart h4).2.2, map_eraseIdx, E.is, map_eraseIdx]
    · rw [(lk_some E.apart h4).2.2] at hp
      exact E.ok p ((List.eraseIdx_sublist _ _).subset hp)

omit [DecidableEq K] in
theorem run_len (ht : P.underlying t = some (.map k e)) (h : mapAt ok kv w r L) (ty : TypeId) : (Builtin.len_ #[t] ty #[.map (some r)]).run P w = .ok (.int .i64 L.length) w := by
  obtain ⟨es, clock, hb, E⟩ := h
  have e1 : es.size = L.length := by have := congrArg List.length E.is; simpa using this
  simp [Builtin.len_, run_underlying ht, MapKept.run_getObj_map hb, goInt, Result.andThen, e1]

/-- 'm[k] = append(m[k], ..)': the entry is taken (or made), and stored into behind. -/
theorem run_entry (A : Keys P k ok kv) (ht : P.underlying t = some (.map k e)) {z : Value} (hz : ∀ u : World, (zeroValue e).run P u = .ok z u) {es : Array MapEntry} {clock : Nat} (E : Ent ok kv es clock L) (hx : ok x) :
    ∃ (st : Nat) (es1 : Array MapEntry) (clock1 : Nat), (∀ w : World, w.heap[r]? = some (.map es clock) → (Instr.mapEntry t (.map (some r)) (kv x)).run P w = .ok (.tuple #[(lk L x).getD z, .int .i64 st]) (setBlock w r (.map es1 clock1))) ∧
      ∀ val, ∃ es' clock', (∀ w2 : World, w2.heap[r]? = some (.map es1 clock1) → (Instr.entryStore t (.map (some r)) (.int .i64 st) val).run P w2 = .ok () (setBlock w2 r (.map es' clock'))) ∧ Ent ok kv es' clock' (upd L x val) := by
  obtain ⟨l, hl⟩ := A.lit x hx
  have s2 := ((stamped_iff es clock).1 E.stamped).2.1
  have s1 := ((stamped_iff es clock).1 E.stamped).1
  rcases find_spec A E hx default with ⟨_, h2, h3⟩ | ⟨j, en, _, h2, h3, h4⟩
  · refine ⟨clock, es.push ⟨kv x, z, clock⟩, clock + 1, fun w hb => ?_, fun val => ⟨es.push ⟨kv x, val, clock⟩, clock + 1, fun w2 hw2 => ?_, E.push hx h2 h3 val⟩⟩
    · rcases find_spec A E hx w with ⟨h1, _, _⟩ | ⟨j, en, _, _, _, h4⟩
      · rw [(lk_none h3).1]
        simp [Instr.mapEntry, run_underlying ht, MapKept.run_getObj_map hb, A.keyed.check w false hl, h1, hz, MapKept.run_setObj_map _ hb, Result.andThen, setBlock, goInt]
      · exact absurd rfl (h3 _ (List.mem_of_getElem? h4))
    · have hidx : (es.push ⟨kv x, z, clock⟩).findIdx? (fun e => ((e.born : Nat) : Int) == ((clock : Nat) : Int)) = some es.size := by
        rw [findIdx_arr]
        have := findIdx_born (l := (es.push ⟨kv x, z, clock⟩).toList) (j := es.size) (e0 := ⟨kv x, z, clock⟩) (by
          simp only [Array.toList_push, List.map_append, List.map_cons, List.map_nil]
          refine List.nodup_append.2 ⟨s2, by simp, fun a ha c hc e1 => ?_⟩
          simp only [List.mem_singleton] at hc
          obtain ⟨y, hy, rfl⟩ := List.mem_map.1 ha
          have := s1 y hy
          omega) (by simp)
        exact this
      have hmod : (es.push ⟨kv x, z, clock⟩).modify es.size (fun e => { e with val := val }) = es.push ⟨kv x, val, clock⟩ := by
        apply Array.ext'
        rw [Array.toList_modify, Array.toList_push, Array.toList_push, ← Array.length_toList, modify_last]
      simp [Instr.entryStore, MapKept.run_getObj_map hw2, asInt, asIntOf, hidx, hmod, MapKept.run_setObj_map _ hw2, Result.andThen, setBlock]
  · have hj : es[j]? = some en := by simpa using h2
    have hsame : es.modify j (fun e => { e with key := kv x }) = es := by
      apply Array.ext'
      rw [Array.toList_modify, modify_eq_set _ _ _ _ h2]
      have : ({ en with key := kv x } : MapEntry) = en := by rw [← h3]
      rw [this]
      exact set_self _ _ _ h2
    refine ⟨en.born, es, clock, fun w hb => ?_, fun val => ⟨es.modify j (fun e' => { e' with key := kv x, val := val }), clock, fun w2 hw2 => ?_, E.modify hx h2 h3 h4 val⟩⟩
    · rcases find_spec A E hx w with ⟨_, _, h5⟩ | ⟨j', en', h1, h2', h3', h4'⟩
      · exact absurd rfl (h5 _ (List.mem_of_getElem? h4))
      · have hjj : j' = j := by
          have hp := E.apart
          rcases Nat.lt_trichotomy j' j with hlt | he | hgt
          · exfalso
            obtain ⟨a1, a2⟩ := List.getElem?_eq_some_iff.1 h4'
            obtain ⟨b1, b2⟩ := List.getElem?_eq_some_iff.1 h4
            exact List.pairwise_iff_getElem.1 hp j' j a1 b1 hlt (by rw [a2, b2])
          · exact he
          · exfalso
            obtain ⟨a1, a2⟩ := List.getElem?_eq_some_iff.1 h4'
            obtain ⟨b1, b2⟩ := List.getElem?_eq_some_iff.1 h4
            exact List.pairwise_iff_getElem.1 hp j j' b1 a1 hgt (by rw [a2, b2])
        subst hjj
        rw [h2] at h2'
        cases h2'
        rw [(lk_some E.apart h4).1]
        simp [Instr.mapEntry, run_underlying ht, MapKept.run_getObj_map hb, A.keyed.check w false hl, h1, hj, h3, A.keyed.stays w hl, hsame, MapKept.run_setObj_map _ hb, Result.andThen, setBlock, goInt]
    · have hidx : es.findIdx? (fun e => ((e.born : Nat) : Int) == ((en.born : Nat) : Int)) = some j := by
        rw [findIdx_arr]
        exact findIdx_born s2 h2
      have hmod : es.modify j (fun e => { e with val := val }) = es.modify j (fun e' => { e' with key := kv x, val := val }) := by
        apply Array.ext'
        rw [Array.toList_modify, Array.toList_modify, modify_eq_set _ _ _ _ h2, modify_eq_set _ _ _ _ h2, ← h3]
      simp [Instr.entryStore, MapKept.run_getObj_map hw2, asInt, asIntOf, hidx, hmod, MapKept.run_setObj_map _ hw2, Result.andThen, setBlock]
end
end Go.Proofs.Ytnhookblhckmlaa.Mk
