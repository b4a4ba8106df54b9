/- The state while a mark strikes what it has visited. -/
import Derived.Test.YtgmmglmokkcgeaaA5
import Derived.Test.YtgmmglmokkcgeaaB0
import Derived.Test.YtgmmglmokkcgeaaRdel
namespace Go.Proofs.Ytgmmglmokkcgeaa
set_option linter.unusedVariables false
set_option linter.unusedSimpArgs false
open Go.RowKit Mk Go.Sort
theorem nv_cut {K : Type} {left : List (K × Nat)} {a b : List (K × Value)} {p : K × Value} (h : nv left = a ++ p :: b) : ∃ a0 p0 b0, left = a0 ++ p0 :: b0 ∧ a = nv a0 ∧ p = (p0.1, nV p0.2) ∧ b = nv b0 := by
  unfold nv at h
  obtain ⟨a0, c, rfl, h1, h2⟩ := List.map_eq_append_iff.1 h
  obtain ⟨p0, b0, rfl, h3, h4⟩ := List.map_eq_cons_iff.1 h2
  exact ⟨a0, p0, b0, rfl, h1.symm, h3.symm, h4.symm⟩
theorem nv_del {K : Type} [DecidableEq K] (L : List (K × Nat)) (x : K) : del (nv L) x = nv (del L x) := del_map nV L x
theorem nv_apart {K : Type} {L : List (K × Nat)} (h : (nv L).Pairwise (fun p q => p.1 ≠ q.1)) : L.Pairwise (fun p q => p.1 ≠ q.1) := by
  unfold nv at h
  rw [List.pairwise_map] at h
  exact h
theorem mid_ne {K : Type} {a b : List (K × Nat)} {p : K × Nat} (h : (a ++ p :: b).Pairwise (fun p q => p.1 ≠ q.1)) : ∀ y ∈ a ++ b, y.1 ≠ p.1 := by
  intro y hy
  obtain ⟨_, h2, h3⟩ := List.pairwise_append.1 h
  obtain ⟨h4, _⟩ := List.pairwise_cons.1 h2
  rcases List.mem_append.1 hy with hy | hy
  · exact h3 y hy p (by simp)
  · exact (h4 y hy).symm
section
variable {w : World} {b : Nat} {R : Loc} {F : Nat → Prop} {n : OM}
/-- The first loop of a mark. -/
structure DecAt (b : Nat) (R : Loc) (F : Nat → Prop) (n : OM) (q : Nat × Nat → Bool) (r : Nat) (left : List (Nat × Nat)) (w : World) : Prop where
  rep : OrRep w b R F { n with dec := struck n.dec q left }
  over : rangeAt okU kvU w r R.d (nv (struck n.dec q left)) (nv left)
  sub : left.Sublist n.dec
  ap : n.dec.Pairwise (fun p q => p.1 ≠ q.1)
structure LasAt (b : Nat) (R : Loc) (F : Nat → Prop) (n : OM) (q : ByteArray × Nat → Bool) (r : Nat) (left : List (ByteArray × Nat)) (w : World) : Prop where
  rep : OrRep w b R F { n with las := struck n.las q left }
  over : rangeAt okS kvS w r R.l (nv (struck n.las q left)) (nv left)
  sub : left.Sublist n.las
  ap : n.las.Pairwise (fun p q => p.1 ≠ q.1)
theorem OrRep.startD (h : OrRep w b R F n) (q : Nat × Nat → Bool) : ∃ it, (Instr.range 45 (.map (some R.d))).run Try.prog w = .ok (.pointer (some ⟨w.heap.size, 0, none⟩)) (w.alloc it) ∧ DecAt b R F n q w.heap.size n.dec (w.alloc it) := by
  obtain ⟨it, h1, h2⟩ := h.dec.range (P := Try.prog) Try.underlying45
  have e : struck n.dec q n.dec = n.dec := struck_all
  exact ⟨it, h1, by rw [e]; exact h.same ((Chg.refl _ _).alloc _), by rw [e]; exact h2, List.Sublist.refl _, nv_apart h.dec.apart⟩
theorem OrRep.startL (h : OrRep w b R F n) (q : ByteArray × Nat → Bool) : ∃ it, (Instr.range 69 (.map (some R.l))).run Try.prog w = .ok (.pointer (some ⟨w.heap.size, 0, none⟩)) (w.alloc it) ∧ LasAt b R F n q w.heap.size n.las (w.alloc it) := by
  obtain ⟨it, h1, h2⟩ := h.las.range (P := Try.prog) Try.underlying69
  have e : struck n.las q n.las = n.las := struck_all
  exact ⟨it, h1, by rw [e]; exact h.same ((Chg.refl _ _).alloc _), by rw [e]; exact h2, List.Sublist.refl _, nv_apart h.las.apart⟩
variable {r : Nat}
theorem DecAt.stay {q : Nat × Nat → Bool} {left : List (Nat × Nat)} {w' : World} {G : Nat → Prop} (h : DecAt b R F n q r left w) (c : Chg G w w') (hd : ∀ i, F i → ¬ G i) (hr : ¬ G r) : DecAt b R F n q r left w' :=
  ⟨h.rep.stay c hd, h.over.stay (c.block _ h.over.lt.1 (hd _ h.rep.fd)) (c.block _ h.over.lt.2.1 hr), h.sub, h.ap⟩
theorem LasAt.stay {q : ByteArray × Nat → Bool} {left : List (ByteArray × Nat)} {w' : World} {G : Nat → Prop} (h : LasAt b R F n q r left w) (c : Chg G w w') (hd : ∀ i, F i → ¬ G i) (hr : ¬ G r) : LasAt b R F n q r left w' :=
  ⟨h.rep.stay c hd, h.over.stay (c.block _ h.over.lt.1 (hd _ h.rep.fl)) (c.block _ h.over.lt.2.1 hr), h.sub, h.ap⟩
theorem DecAt.next {q : Nat × Nat → Bool} {left : List (Nat × Nat)} (h : DecAt b R F n q r left w) (hr : ¬ F r) :
    (left = [] ∧ (∀ ty, (Instr.next (.pointer (some ⟨r, 0, none⟩)) false ty).run Try.prog w = .ok (.tuple #[.bool false]) w) ∧ OrRep w b R F { n with dec := n.dec.filter q }) ∨
    ∃ a0 b0 x c w', left = a0 ++ (x, c) :: b0 ∧ x < 18446744073709551616 ∧ (∀ ty, (Instr.next (.pointer (some ⟨r, 0, none⟩)) false ty).run Try.prog w = .ok (.tuple #[.bool true, .int .u64 (x : Nat), .int .u64 (c : Nat)]) w') ∧ Chg (fun i => i = r) w w' ∧ w'.heap.size = w.heap.size ∧
      OrRep w' b R F { n with dec := struck n.dec q (a0 ++ (x, c) :: b0) } ∧
      (∀ u : World, u.heap[r]? = w'.heap[r]? → u.heap[R.d]? = w'.heap[R.d]? → (Instr.entry (.pointer (some ⟨r, 0, none⟩))).run Try.prog u = .ok (.tuple #[.int .u64 (x : Nat), .int .u64 (c : Nat)]) u) ∧
      (q (x, c) = true → DecAt b R F n q r (a0 ++ b0) w') ∧
      (q (x, c) = false → ∃ es ck, (∀ ty, (Builtin.delete_ #[45, 30] ty #[.map (some R.d), .int .u64 (x : Nat)]).run Try.prog w' = .ok (.tuple #[]) (ChangeMaps.setBlock w' R.d (.map es ck))) ∧ DecAt b R F n q r (a0 ++ b0) (ChangeMaps.setBlock w' R.d (.map es ck))) := by
  rcases h.over.next (P := Try.prog) with ⟨h0, hn⟩ | ⟨a, p, bb, w', h0, hn, hc, hs, ho, he⟩
  · have e : left = [] := by cases left with
      | nil => rfl
      | cons x l => simp [nv] at h0
    subst e
    refine Or.inl ⟨rfl, hn, ?_⟩
    have := h.rep
    rw [struck_end] at this
    exact this
  · obtain ⟨a0, ⟨x, c⟩, b0, rfl, rfl, rfl, rfl⟩ := nv_cut h0
    obtain ⟨es0, ck0, hb0, E0⟩ := h.over.map
    have hx : x < 18446744073709551616 := E0.ok (x, nV c) (h.over.sub.subset (by rw [h0]; simp))
    have hm : (x, c) ∈ n.dec := h.sub.subset (by simp)
    have hne := mid_ne (h.ap.sublist h.sub)
    have hrep := h.rep.stay hc (fun i hi e => hr (by rw [← e]; exact hi))
    have hsub : (a0 ++ b0).Sublist n.dec := (List.Sublist.append_left (List.sublist_cons_self _ _) _).trans h.sub
    have hcat : nv a0 ++ nv b0 = nv (a0 ++ b0) := by unfold nv; rw [List.map_append]
    rw [hcat] at ho
    refine Or.inr ⟨a0, b0, x, c, w', rfl, hx, hn, hc, hs, hrep, he, fun hq => ⟨?_, ?_, hsub, h.ap⟩, fun hq => ?_⟩
    · rw [← struck_keep h.ap hm hq]; exact hrep
    · rw [← struck_keep h.ap hm hq]; exact ho
    · obtain ⟨es, ck, h1, h2, h3⟩ := ho.del (P := Try.prog) keysU Try.underlying45 (x := x) hx (fun p hp e => by
        unfold nv at hp
        obtain ⟨y, hy, rfl⟩ := List.mem_map.1 hp
        exact hne y hy e)
      rw [nv_del, struck_cut h.ap hm hq hne] at h2 h3
      exact ⟨es, ck, h1, hrep.putD h2, h3, hsub, h.ap⟩
theorem LasAt.next {q : ByteArray × Nat → Bool} {left : List (ByteArray × Nat)} (h : LasAt b R F n q r left w) (hr : ¬ F r) :
    (left = [] ∧ (∀ ty, (Instr.next (.pointer (some ⟨r, 0, none⟩)) false ty).run Try.prog w = .ok (.tuple #[.bool false]) w) ∧ OrRep w b R F { n with las := n.las.filter q }) ∨
    ∃ a0 b0 x c w', left = a0 ++ (x, c) :: b0 ∧ (∀ ty, (Instr.next (.pointer (some ⟨r, 0, none⟩)) false ty).run Try.prog w = .ok (.tuple #[.bool true, .string x, .int .u64 (c : Nat)]) w') ∧ Chg (fun i => i = r) w w' ∧ w'.heap.size = w.heap.size ∧
      OrRep w' b R F { n with las := struck n.las q (a0 ++ (x, c) :: b0) } ∧
      (∀ u : World, u.heap[r]? = w'.heap[r]? → u.heap[R.l]? = w'.heap[R.l]? → (Instr.entry (.pointer (some ⟨r, 0, none⟩))).run Try.prog u = .ok (.tuple #[.string x, .int .u64 (c : Nat)]) u) ∧
      (q (x, c) = true → LasAt b R F n q r (a0 ++ b0) w') ∧
      (q (x, c) = false → ∃ es ck, (∀ ty, (Builtin.delete_ #[69, 9] ty #[.map (some R.l), .string x]).run Try.prog w' = .ok (.tuple #[]) (ChangeMaps.setBlock w' R.l (.map es ck))) ∧ LasAt b R F n q r (a0 ++ b0) (ChangeMaps.setBlock w' R.l (.map es ck))) := by
  rcases h.over.next (P := Try.prog) with ⟨h0, hn⟩ | ⟨a, p, bb, w', h0, hn, hc, hs, ho, he⟩
  · have e : left = [] := by cases left with
      | nil => rfl
      | cons x l => simp [nv] at h0
    subst e
    refine Or.inl ⟨rfl, hn, ?_⟩
    have := h.rep
    rw [struck_end] at this
    exact this
  · obtain ⟨a0, ⟨x, c⟩, b0, rfl, rfl, rfl, rfl⟩ := nv_cut h0
    obtain ⟨es0, ck0, hb0, E0⟩ := h.over.map
    have hx : okS x := E0.ok (x, nV c) (h.over.sub.subset (by rw [h0]; simp))
    have hm : (x, c) ∈ n.las := h.sub.subset (by simp)
    have hne := mid_ne (h.ap.sublist h.sub)
    have hrep := h.rep.stay hc (fun i hi e => hr (by rw [← e]; exact hi))
    have hsub : (a0 ++ b0).Sublist n.las := (List.Sublist.append_left (List.sublist_cons_self _ _) _).trans h.sub
    have hcat : nv a0 ++ nv b0 = nv (a0 ++ b0) := by unfold nv; rw [List.map_append]
    rw [hcat] at ho
    refine Or.inr ⟨a0, b0, x, c, w', rfl, hn, hc, hs, hrep, he, fun hq => ⟨?_, ?_, hsub, h.ap⟩, fun hq => ?_⟩
    · rw [← struck_keep h.ap hm hq]; exact hrep
    · rw [← struck_keep h.ap hm hq]; exact ho
    · obtain ⟨es, ck, h1, h2, h3⟩ := ho.del (P := Try.prog) keysS Try.underlying69 (x := x) hx (fun p hp e => by
        unfold nv at hp
        obtain ⟨y, hy, rfl⟩ := List.mem_map.1 hp
        exact hne y hy e)
      rw [nv_del, struck_cut h.ap hm hq hne] at h2 h3
      exact ⟨es, ck, h1, hrep.putL h2, h3, hsub, h.ap⟩
end
end Go.Proofs.Ytgmmglmokkcgeaa
