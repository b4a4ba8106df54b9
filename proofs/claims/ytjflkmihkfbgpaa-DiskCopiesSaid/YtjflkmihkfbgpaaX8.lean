/- The document's Do: what is kept. -/
import Derived.Test.YtjflkmihkfbgpaaX7
namespace Go.Proofs.Ytjflkmihkfbgpaa
open Go.RowKit Mk Go.Sort
set_option linter.unusedVariables false
set_option linter.unusedSimpArgs false

theorem byt_cons (p : ByteArray × ByteArray) (L : Files) (n : ByteArray) : byt (p :: L) n = if p.1 = n then p.2 else byt L n := by
  have h : lk (p :: L) n = if p.1 = n then some p.2 else lk L n := rfl
  unfold byt
  rw [h]
  split <;> rfl
theorem tot_cons (p : ByteArray × ByteArray) (L : Files) : tot (p :: L) = p.2.size + tot L := by
  unfold tot; rw [List.map_cons, List.sum_cons]
theorem tot_append (A B : Files) : tot (A ++ B) = tot A + tot B := by
  unfold tot; rw [List.map_append, List.sum_append]
theorem tot_nil : tot [] = 0 := rfl
theorem goneM_tot (L : Files) (n : ByteArray) : tot (goneM L n) + (byt L n).size ≤ tot L := by
  induction L with
  | nil => exact Nat.le_refl _
  | cons p L ih =>
    rw [goneM_cons, byt_cons, tot_append, tot_cons]
    split
    · rw [tot_nil]; omega
    · rw [tot_cons, tot_nil]; omega
theorem laidGo_tot (n s : ByteArray) (d : Bool) (L : Files) : tot (laidGo n s d L) + (byt L n).size ≤ tot L + (if d then 0 else s.size) := by
  induction L generalizing d with
  | nil =>
    have : (byt [] n).size = 0 := rfl
    cases d <;> simp [laidGo, tot_cons, tot_nil, this]
  | cons p L ih =>
    rw [laidGo_cons, byt_cons, tot_append, tot_append, tot_cons]
    have h := ih (d || ahead n p.1)
    generalize ahead n p.1 = b at *
    by_cases hp : p.1 = n
    · rw [if_pos hp, if_pos hp, tot_nil]
      cases d <;> cases b <;> simp [tot_cons, tot_nil] at h ⊢ <;> omega
    · rw [if_neg hp, if_neg hp, tot_cons, tot_nil]
      cases d <;> cases b <;> simp [tot_cons, tot_nil] at h ⊢ <;> omega
theorem laidM_tot (L : Files) (n s : ByteArray) : tot (laidM L n s) + (byt L n).size ≤ tot L + s.size := laidGo_tot n s false L
theorem refAct_tot (t : Thing) (L : Files) : tot (refAct t L) ≤ tot L + t.2.size := by
  obtain ⟨d, s⟩ := t
  cases d with
  | app n => have := laidM_tot L n (byt L n ++ s); simp only [refAct, ByteArray.size_append] at *; omega
  | wr n => have := laidM_tot L n s; simp only [refAct] at *; omega
  | trunc n k => have := laidM_tot L n ((byt L n).extract 0 k); simp only [refAct, ByteArray.size_extract] at *; omega
  | ren a b => have h1 := laidM_tot (goneM L a) b (byt L a); have h2 := goneM_tot L a; simp only [refAct] at *; omega
  | rem n => have := goneM_tot L n; simp only [refAct] at *; omega
theorem refActs_tot (L : Files) (T : List Thing) : tot (refActs L T) ≤ tot L + bulk T := by
  unfold bulk
  induction T generalizing L with
  | nil => exact Nat.le_refl _
  | cons t T ih => have h1 := ih (refAct t L); have h2 := refAct_tot t L; simp only [refActs, List.foldl_cons, List.map_cons, List.sum_cons] at *; omega

section
variable {w : World} {x : Nat} {kv ov nv : Value} {F : Nat → Prop} {S : Nat} {r : RefM}

/-- In Do: the disk, and the box of the thing. -/
structure DoAt (w : World) (x : Nat) (kv ov nv : Value) (F : Nat → Prop) (S : Nat) (r : RefM) (cs : List Value) (W : World) : Prop where
  rep : RRep W x kv ov nv F S r
  box : W.heap[w.heap.size]? = some (.cells cs.toArray 68)
  below : Below w.heap.size w W
  lt : x < w.heap.size
theorem DoAt.stay {cs : List Value} {W W' : World} (h : DoAt w x kv ov nv F S r cs W) (k : Below W.heap.size W W') : DoAt w x kv ov nv F S r cs W' :=
  ⟨h.rep.below k, (k.block _ (Array.getElem?_eq_some_iff.1 h.box).1).trans h.box, h.below.trans (k.mono h.below.size), h.lt⟩
theorem DoAt.new (h : RRep w x kv ov nv F S r) (cs : List Value) : DoAt w x kv ov nv F S r cs (w.alloc (.cells cs.toArray 68)) :=
  have k : Below w.heap.size w (w.alloc (.cells cs.toArray 68)) := (Below.refl _ w).alloc (Nat.le_refl _) _
  ⟨h.below k, Go.heap_alloc_new _ _, k, h.lt⟩
theorem DoAt.same {cs : List Value} {W : World} (h : DoAt w x kv ov nv F S r cs W) (hS : S + 1 ≤ 1099511627776) : RTo w x F (S + 1) r W :=
  ⟨⟨kv, ov, nv, (h.rep.larger (by omega) hS).foot (fun _ => Or.inl)⟩, (chg_of_below h.below).mono (fun _ f => f.elim)⟩

/-- The files are new. -/
structure DoMid (w : World) (x : Nat) (kv ov nv' : Value) (F : Nat → Prop) (room : Nat) (K : Files) (T : List Thing) (N' : Files) (cs : List Value) (W : World) : Prop where
  blk : W.heap[x]? = some (.cells #[.int .i64 room, kv, ov, nv'] 42)
  k : FL W kv K
  o : sl W 68 4 ov T.length (ocells T)
  n : FL W nv' N'
  box : W.heap[w.heap.size]? = some (.cells cs.toArray 68)
  own : ∀ g, nv'.ownBlock = some g → w.heap.size ≤ g
  chg : Chg F w W
  lt : x < w.heap.size
theorem do_mid {cs : List Value} {W w1 : World} (h : DoAt w x kv ov nv F S r cs W) {N' : Files} {o : Option Addr} {c : Nat} (hf : FL w1 (.slice o N'.length c) N') (hb : Below W.heap.size W w1) (ho : ∀ g, (Value.slice o N'.length c).ownBlock = some g → W.heap.size ≤ g) :
    w1.frozen? ⟨x, 3, none⟩ = false ∧ w1.cell? ⟨x, 3, none⟩ = some nv ∧ DoMid w x kv ov (.slice o N'.length c) F r.room r.K r.T N' cs (w1.setCell ⟨x, 3, none⟩ (.slice o N'.length c)) := by
  have h1 := h.stay hb
  have hW := h.below.size
  have hl := h.lt
  obtain ⟨n1, n2, n3, n4⟩ := h1.rep.nes
  have e : ∀ i, i ≠ x → (w1.setCell ⟨x, 3, none⟩ (.slice o N'.length c)).heap[i]? = w1.heap[i]? := fun i hi => Below.heap_setCell _ _ _ _ hi
  have hg := Mk.heap_setCell_same (i := 3) h1.rep.blk (.slice o N'.length c)
  refine ⟨frozen_of h1.rep.blk, cell_of h1.rep.blk rfl, ⟨hg, ?_, ?_, ?_, ?_, ?_, ?_, hl⟩⟩
  · exact sl.stay h1.rep.k (fun g hg => e g (n1 g hg))
  · exact sl.stay h1.rep.o (fun g hg => e g (n2 g hg))
  · exact sl.stay hf (fun g hg => e g (by have := ho g hg; omega))
  · rw [e _ (by omega)]; exact h1.box
  · intro g hg; have := ho g hg; omega
  · exact ((chg_of_below h1.below).mono (fun _ f => f.elim)).setCell (Or.inl h.rep.fx) _
theorem do_fin {t : Thing} {o : Option Addr} {c : Nat} {W : World} (h0 : RRep w x kv ov nv F S r) (h : DoMid w x kv ov (.slice o (refAct t r.N).length c) F r.room r.K r.T (refAct t r.N) (opL t) W) (hm : may t.1 r.N) (hS : S + t.2.size + 1 ≤ 1099511627776)
    {v' : Value} {w4 : World} (hs : sl w4 68 4 v' (r.T.length + 1) (ocells r.T ++ opL t)) (hg : (W.alloc (.cells (opL t).toArray 68)).grownBy w4 ov.ownBlock) (ha : v'.ownBlock = ov.ownBlock ∨ v'.ownBlock = some (W.alloc (.cells (opL t).toArray 68)).heap.size) :
    w4.frozen? ⟨x, 2, none⟩ = false ∧ w4.cell? ⟨x, 2, none⟩ = some ov ∧ RTo w x F (S + t.2.size + 1) ⟨r.room, r.K, r.T ++ [t], refAct t r.N⟩ (w4.setCell ⟨x, 2, none⟩ v') := by
  have hxl : x < W.heap.size := (Array.getElem?_eq_some_iff.1 h.blk).1
  have hWs := h.chg.size
  have hos : ∀ g, ov.ownBlock = some g → g < w.heap.size ∧ g ≠ x := fun g hg => ⟨sl.lt h0.o hg, h0.nes.2.1 g hg⟩
  have hgs := hg.size
  simp only [World.size_alloc] at hgs ha
  have keep : ∀ i, i < W.heap.size → ov.ownBlock ≠ some i → w4.heap[i]? = W.heap[i]? := fun i hi hne => by
    rw [hg.block i (by rw [World.size_alloc]; omega) (fun e => hne e.symm)]
    exact Below.heap_alloc _ _ _ hi
  have hx4 : w4.heap[x]? = some (.cells #[.int .i64 r.room, kv, ov, .slice o (refAct t r.N).length c] 42) := (keep x hxl (fun e => (hos x e).2 rfl)).trans h.blk
  have e : ∀ i, i ≠ x → (w4.setCell ⟨x, 2, none⟩ v').heap[i]? = w4.heap[i]? := fun i hi => Below.heap_setCell _ _ _ _ hi
  obtain ⟨m1, m2, m3, m4⟩ := h0.nes
  have hv' : ∀ g, v'.ownBlock = some g → g ≠ x ∧ (F g ∨ w.heap.size ≤ g) := fun g hg' => by
    rcases ha with e1 | e1
    · rw [e1] at hg'; exact ⟨(hos g hg').2, Or.inl (h0.fo g hg')⟩
    · rw [e1] at hg'; have := Option.some.inj hg'; exact ⟨by omega, Or.inr (by omega)⟩
  refine ⟨frozen_of hx4, cell_of hx4 rfl, ⟨⟨kv, v', .slice o (refAct t r.N).length c, ?_, ?_, ?_, ?_, Or.inl h0.fx, fun g hg => Or.inl (h0.fk g hg), fun g hg => (hv' g hg).2, fun g hg => Or.inr (h.own g hg), h0.room, ?_, ?_, ?_, ?_⟩, ?_⟩⟩
  · exact Mk.heap_setCell_same (i := 2) hx4 v'
  · exact sl.stay h.k (fun g hg => (e g (m1 g hg)).trans (keep g (sl.lt h.k hg) (fun e2 => (m4 g e2).1 hg)))
  · have : ocells (r.T ++ [t]) = ocells r.T ++ opL t := by simp [ocells]
    show sl _ 68 4 v' (r.T ++ [t]).length (ocells (r.T ++ [t]))
    rw [this, List.length_append]
    exact sl.stay hs (fun g hg => e g (hv' g hg).1)
  · exact sl.stay h.n (fun g hg => (e g (by have := h.own g hg; have := h.lt; omega)).trans (keep g (sl.lt h.n hg) (fun e2 => by have := h.own g hg; have := (hos g e2).1; omega)))
  · have h1 := h0.len
    have h2 := refAct_len t r.N
    simp only [List.length_append, List.length_singleton]
    omega
  · have h1 := h0.size
    have h2 := refAct_tot t r.N
    have h3 : bulk (r.T ++ [t]) = bulk r.T + t.2.size := by unfold bulk; simp
    rw [h3]
    simp only
    omega
  · show refAct t r.N = refActs r.K (r.T ++ [t])
    rw [refActs_append, ← h0.acts]; rfl
  · show rmays r.K (r.T ++ [t])
    rw [rmays_append, ← h0.acts]; exact ⟨h0.mays, hm, trivial⟩
  · have c1 : Chg F w (W.alloc (.cells (opL t).toArray 68)) := h.chg.alloc _
    have c2 := c1.grown hg (fun i hi => Or.inl (h0.fo i hi))
    exact c2.setCell (Or.inl h0.fx) _
end
end Go.Proofs.Ytjflkmihkfbgpaa
