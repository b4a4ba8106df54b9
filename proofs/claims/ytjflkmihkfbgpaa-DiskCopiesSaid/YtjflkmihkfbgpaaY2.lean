/- Both disks beside each other: what a call of both leaves. -/
import Derived.Test.YtjflkmihkfbgpaaY1
namespace Go.Proofs.Ytjflkmihkfbgpaa
open Go.RowKit Mk

def rown (x : Nat) (kv ov nv : Value) (g : Nat) : Prop := g = x ∨ kv.ownBlock = some g ∨ ov.ownBlock = some g ∨ nv.ownBlock = some g
section
variable {w w0 w1 w1' w2 : World} {b x n0 : Nat} {F FA FB : Nat → Prop} {S S' : Nat} {d d' : DiskM} {r r' : RefM} {r1 r2 : Nat} {v : Value} {ts : List (Value × Thing)} {kv ov nv : Value}
theorem RRep.tight (h : RRep w x kv ov nv F S r) : RRep w x kv ov nv (rown x kv ov nv) S r :=
  ⟨h.blk, h.k, h.o, h.n, Or.inl rfl, fun g hg => Or.inr (Or.inl hg), fun g hg => Or.inr (Or.inr (Or.inl hg)), fun g hg => Or.inr (Or.inr (Or.inr hg)), h.room, h.len, h.size, h.acts, h.mays⟩
theorem RRep.own_in (h : RRep w x kv ov nv F S r) {g : Nat} (hg : rown x kv ov nv g) : F g := by
  rcases hg with rfl | e | e | e
  · exact h.fx
  · exact h.fk g e
  · exact h.fo g e
  · exact h.fn g e
theorem DiskRep.tight (h : DiskRep w b r1 r2 v ts F S d) : DiskRep w b r1 r2 v ts (own b r1 r2 v) S d :=
  ⟨h.disk, h.now, h.kept, h.ne, h.things, h.loose, h.capt, h.mays, h.acts, h.size, h.len, h.room, Or.inl rfl, Or.inr (Or.inl rfl), Or.inr (Or.inr (Or.inl rfl)), fun g hg => Or.inr (Or.inr (Or.inr hg))⟩
theorem sl_row {e : TypeId} {size n : Nat} {v : Value} {xs : List Value} (h : sl w e size v n xs) {g : Nat} (hg : v.ownBlock = some g) : ∃ cur, w.heap[g]? = some (.cells cur e) := by
  rcases h.2 with ⟨rfl, _⟩ | ⟨g', cap, cur, rfl, hh, _⟩
  · simp [Value.ownBlock] at hg
  · simp [Value.ownBlock] at hg; subst hg; exact ⟨cur, hh⟩
theorem RRep.kinds (h : RRep w x kv ov nv F S r) {g : Nat} (hg : rown x kv ov nv g) : ∃ cur t, w.heap[g]? = some (.cells cur t) ∧ (t = 42 ∨ t = 68 ∨ t = 73) := by
  rcases hg with rfl | e | e | e
  · exact ⟨_, _, h.blk, Or.inl rfl⟩
  · obtain ⟨cur, hc⟩ := sl_row h.k e; exact ⟨cur, 73, hc, Or.inr (Or.inr rfl)⟩
  · obtain ⟨cur, hc⟩ := sl_row h.o e; exact ⟨cur, 68, hc, Or.inr (Or.inl rfl)⟩
  · obtain ⟨cur, hc⟩ := sl_row h.n e; exact ⟨cur, 73, hc, Or.inr (Or.inr rfl)⟩
theorem DiskRep.kinds (h : DiskRep w b r1 r2 v ts F S d) {g : Nat} (hg : own b r1 r2 v g) : (∃ cur t, w.heap[g]? = some (.cells cur t) ∧ (t = 57 ∨ t = 64)) ∨ ∃ es c, w.heap[g]? = some (.map es c) := by
  rcases hg with rfl | rfl | rfl | e
  · exact Or.inl ⟨_, _, h.disk, Or.inl rfl⟩
  · exact Or.inr h.now.obj
  · exact Or.inr h.kept.obj
  · obtain ⟨cur, hc⟩ := h.row e; exact Or.inl ⟨cur, 64, hc, Or.inr rfl⟩
theorem own_apart (h : DiskRep w b r1 r2 v ts F S d) (k : RRep w x kv ov nv FB S' r) (g : Nat) (hg : own b r1 r2 v g) : ¬ rown x kv ov nv g := fun hr => by
  obtain ⟨cur, t, h1, h2⟩ := k.kinds hr
  rcases h.kinds hg with ⟨cur', t', h3, h4⟩ | ⟨es, c, h3⟩
  · rw [h1] at h3
    simp only [Option.some.injEq, Obj.cells.injEq] at h3
    rcases h2 with rfl | rfl | rfl <;> rcases h4 with rfl | rfl <;> exact absurd h3.2 (by decide)
  · rw [h1] at h3; simp at h3
theorem RRep.keeps (k : RRep w x kv ov nv F S r) {u u' : World} (he : ∀ g, rown x kv ov nv g → u.heap[g]? = w.heap[g]?) (c : Chg (rown x kv ov nv) u u') : Keep u u' := Keep.of_chg c (fun g hg _ => by
  obtain ⟨cur, t, h1, h2⟩ := k.kinds hg
  unfold capS capI
  rw [he g hg, h1]
  refine ⟨fun n e => ?_, fun n e => ?_⟩ <;> simp only [Option.some.injEq, Obj.cells.injEq] at e <;> rcases h2 with rfl | rfl | rfl <;> exact absurd e.2 (by decide))
/-- Both disks, each in blocks of its own. -/
structure Two (n0 : Nat) (w : World) (b x S : Nat) (d : DiskM) (r : RefM) : Prop where
  a : DiskIs w b (fun g => n0 ≤ g) S d
  rr : RIs w x (fun g => n0 ≤ g) S r
  like : Like d r
structure Side (n0 : Nat) (w : World) (b x S : Nat) (d : DiskM) (r : RefM) (FA FB : Nat → Prop) : Prop where
  a : DiskIs w b FA S d
  rr : RIs w x FB S r
  sep : ∀ g, FA g → ¬ FB g
  la : ∀ g, FA g → n0 ≤ g ∧ g < w.heap.size
  lb : ∀ g, FB g → n0 ≤ g ∧ g < w.heap.size
  keep : ∀ u u', (∀ g, FB g → u.heap[g]? = w.heap[g]?) → Chg FB u u' → Keep u u'
theorem Two.side (h : Two n0 w b x S d r) : ∃ FA FB, Side n0 w b x S d r FA FB := by
  obtain ⟨⟨r1, r2, v, ts, ha⟩, ⟨kv, ov, nv, hr⟩, -⟩ := h
  refine ⟨own b r1 r2 v, rown x kv ov nv, ⟨r1, r2, v, ts, ha.tight⟩, ⟨kv, ov, nv, hr.tight⟩, own_apart ha hr, fun g hg => ⟨ha.own_in hg, ?_⟩, fun g hg => ⟨hr.own_in hg, ?_⟩, fun u u' he c => hr.keeps he c⟩
  · rcases ha.kinds hg with ⟨_, _, h1, _⟩ | ⟨_, _, h1⟩ <;> exact (Array.getElem?_eq_some_iff.1 h1).1
  · obtain ⟨_, _, h1, _⟩ := hr.kinds hg; exact (Array.getElem?_eq_some_iff.1 h1).1
theorem RIs.stay {G : Nat → Prop} (h : RIs w x F S r) (c : Chg G w w1) (hd : ∀ i, F i → ¬ G i) : RIs w1 x F S r := by
  obtain ⟨kv, ov, nv, h⟩ := h; exact ⟨kv, ov, nv, h.stay c hd⟩
theorem RIs.foot {G : Nat → Prop} (h : RIs w x F S r) (hF : ∀ i, F i → G i) : RIs w x G S r := by
  obtain ⟨kv, ov, nv, h⟩ := h; exact ⟨kv, ov, nv, h.foot hF⟩
theorem RIs.larger (h : RIs w x F S r) (hS : S ≤ S') (h' : S' ≤ 1099511627776) : RIs w x F S' r := by
  obtain ⟨kv, ov, nv, h⟩ := h; exact ⟨kv, ov, nv, h.larger hS h'⟩
theorem Two.larger (h : Two n0 w b x S d r) (hS : S ≤ S') (h' : S' ≤ 1099511627776) : Two n0 w b x S' d r := ⟨h.a.larger hS h', h.rr.larger hS h', h.like⟩
theorem Two.lim (h : Two n0 w b x S d r) : S ≤ 1099511627776 := by obtain ⟨-, ⟨kv, ov, nv, hr⟩, -⟩ := h; exact hr.size.2.2
/-- A change outside of both. -/
theorem Two.stay {G : Nat → Prop} (h : Two n0 w b x S d r) (c : Chg G w w1) (hG : ∀ g, G g → g < n0) (hk : Keep w w1) : Two n0 w1 b x S d r :=
  ⟨h.a.stay c (fun i hi g => by have := hG i g; omega) hk, h.rr.stay c (fun i hi g => by have := hG i g; omega), h.like⟩
theorem Two.same (h : Two n0 w b x S d r) (c : Chg (fun _ => False) w w1) : Two n0 w1 b x S d r :=
  h.stay c (fun _ f => f.elim) (Keep.of_none c)
theorem Side.same (h : Side n0 w b x S d r FA FB) (c : Chg (fun _ => False) w w0) : Side n0 w0 b x S d r FA FB :=
  ⟨h.a.same c, h.rr.stay c (fun _ _ f => f), h.sep, fun g hg => ⟨(h.la g hg).1, Nat.lt_of_lt_of_le (h.la g hg).2 c.size⟩, fun g hg => ⟨(h.lb g hg).1, Nat.lt_of_lt_of_le (h.lb g hg).2 c.size⟩, fun u u' he cc => h.keep u u' (fun g hg => (he g hg).trans (c.block g (h.lb g hg).2 (fun f => f))) cc⟩
/-- The program's disk behind a call of the document's. -/
theorem Side.seeA (h : Side n0 w b x S d r FA FB) (c : Chg FB w w1) : DiskIs w1 b FA S d :=
  h.a.stay c (fun g f => h.sep g f) (h.keep w w1 (fun _ _ => rfl) c)
theorem Side.seeB (h : Side n0 w b x S d r FA FB) (c : Chg FA w w1) : RIs w1 x FB S r :=
  h.rr.stay c (fun g f f' => h.sep g f' f)
theorem Side.chg (h : Side n0 w b x S d r FA FB) {u u' : World} (c : Chg FA u u') : Chg (fun g => n0 ≤ g) u u' := c.mono (fun g f => (h.la g f).1)
theorem Side.chgB (h : Side n0 w b x S d r FA FB) {u u' : World} (c : Chg FB u u') : Chg (fun g => n0 ≤ g) u u' := c.mono (fun g f => (h.lb g f).1)
/-- What a call of both leaves. -/
structure TwoP (n0 : Nat) (w : World) (b x S : Nat) (d : DiskM) (r : RefM) (w' : World) : Prop where
  two : Two n0 w' b x S d r
  chg : Chg (fun g => n0 ≤ g) w w'
  keep : Keep w w'
theorem TwoP.same (h : TwoP n0 w b x S d r w1) (c : Chg (fun _ => False) w1 w2) : TwoP n0 w b x S d r w2 := ⟨h.two.same c, h.chg.trans (c.mono (fun _ f => f.elim)), h.keep.trans (Keep.of_none c)⟩
theorem TwoP.pre (h : TwoP n0 w0 b x S d r w1) (c : Chg (fun _ => False) w w0) : TwoP n0 w b x S d r w1 := ⟨h.two, (c.mono (fun _ f => f.elim)).trans h.chg, (Keep.of_none c).trans h.keep⟩
theorem Side.fin_ab (T : Side n0 w0 b x S d r FA FB) (hn : n0 ≤ w0.heap.size) (hA : To w0 b FA S' d' w1) (hB : RTo w1 x FB S' r' w2) (hl : Like d' r') : TwoP n0 w0 b x S' d' r' w2 := by
  have hz := hA.chg.size
  have he : ∀ g, FB g → w1.heap[g]? = w0.heap[g]? := fun g hg => hA.chg.block g (T.lb g hg).2 (fun f => T.sep g f hg)
  have hk := T.keep w1 w2 he hB.chg
  refine ⟨⟨?_, ?_, hl⟩, (T.chg hA.chg).trans (T.chgB hB.chg), hA.keep.trans hk⟩
  · refine (hA.is.stay hB.chg (fun g hg f => ?_) hk).foot (fun g hg => ?_)
    · rcases hg with h | h
      · exact T.sep g h f
      · have := (T.lb g f).2; omega
    · rcases hg with h | h
      · exact (T.la g h).1
      · exact Nat.le_trans hn h
  · refine hB.is.foot (fun g hg => ?_)
    rcases hg with h | h
    · exact (T.lb g h).1
    · exact Nat.le_trans hn (Nat.le_trans hz h)
theorem Side.fin_ba (T : Side n0 w0 b x S d r FA FB) (hn : n0 ≤ w0.heap.size) (hB : RTo w0 x FB S' r' w1) (hA : To w1 b FA S' d' w2) (hl : Like d' r') : TwoP n0 w0 b x S' d' r' w2 := by
  have hz := hB.chg.size
  have hk := T.keep w0 w1 (fun _ _ => rfl) hB.chg
  refine ⟨⟨?_, ?_, hl⟩, (T.chgB hB.chg).trans (T.chg hA.chg), hk.trans hA.keep⟩
  · refine hA.is.foot (fun g hg => ?_)
    rcases hg with h | h
    · exact (T.la g h).1
    · exact Nat.le_trans hn (Nat.le_trans hz h)
  · refine (hB.is.stay hA.chg (fun g hg f => ?_)).foot (fun g hg => ?_)
    · rcases hg with h | h
      · exact T.sep g f h
      · have := (T.la g f).2; omega
    · rcases hg with h | h
      · exact (T.lb g h).1
      · exact Nat.le_trans hn h
theorem Side.few (T : Side n0 w b x S d r FA FB) (hl : Like d r) : d.now.length ≤ S ∧ d.T.length ≤ S ∧ S ≤ 1099511627776 := by
  obtain ⟨kv, ov, nv, hr⟩ := T.rr
  obtain ⟨r1, r2, v, ts, ha⟩ := T.a
  exact ⟨by rw [← hl.len]; exact hr.len.2, ha.len, hr.size.2.2⟩
end
end Go.Proofs.Ytjflkmihkfbgpaa
