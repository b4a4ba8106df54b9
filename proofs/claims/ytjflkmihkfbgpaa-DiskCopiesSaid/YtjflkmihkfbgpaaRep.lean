/- The disk: what its memory is. -/
import Derived.Test.YtjflkmihkfbgpaaActs
import Derived.Test.YtjflkmihkfbgpaaRows
import Derived.WalkSpells
import Derived.WalkLawsBesides
namespace Go.Proofs.Ytjflkmihkfbgpaa
open Go.RowKit Mk

/-- A captured name, or number, lies in a block of its own. -/
def capS (w : World) (c : Nat) (n : ByteArray) : Prop := w.heap[c]? = some (.cells #[.string n] 9)
def capI (w : World) (c : Nat) (k : Nat) : Prop := w.heap[c]? = some (.cells #[.int .i64 k] 3)

/-- The function value f does this. -/
def capt (w : World) (f : Value) : Do → Prop
  | .app n => okS n ∧ ∃ c, f = .func (.func 34) #[] #[.pointer (some ⟨c, 0, none⟩)] ∧ capS w c n
  | .wr n => okS n ∧ ∃ c, f = .func (.func 31) #[] #[.pointer (some ⟨c, 0, none⟩)] ∧ capS w c n
  | .trunc n k => okS n ∧ ∃ c c', f = .func (.func 44) #[] #[.pointer (some ⟨c, 0, none⟩), .pointer (some ⟨c', 0, none⟩)] ∧ capS w c n ∧ capI w c' k
  | .ren a b => okS a ∧ okS b ∧ ∃ c c', f = .func (.func 45) #[] #[.pointer (some ⟨c, 0, none⟩), .pointer (some ⟨c', 0, none⟩)] ∧ capS w c a ∧ capS w c' b
  | .rem n => okS n ∧ ∃ c, f = .func (.func 46) #[] #[.pointer (some ⟨c, 0, none⟩)] ∧ capS w c n

/-- What is captured stays. -/
def Keep (w w' : World) : Prop := ∀ c : Nat, (∀ n : ByteArray, capS w c n → capS w' c n) ∧ (∀ k : Nat, capI w c k → capI w' c k)
theorem Keep.refl (w : World) : Keep w w := fun _ => ⟨fun _ h => h, fun _ h => h⟩
theorem Keep.trans {w w1 w2 : World} (h : Keep w w1) (k : Keep w1 w2) : Keep w w2 := fun c => ⟨fun n a => (k c).1 n ((h c).1 n a), fun n a => (k c).2 n ((h c).2 n a)⟩
theorem Keep.capt {w w' : World} (h : Keep w w') {f : Value} {d : Do} (hc : capt w f d) : capt w' f d := by
  cases d with
  | app n => obtain ⟨a, c, b, e⟩ := hc; exact ⟨a, c, b, (h c).1 n e⟩
  | wr n => obtain ⟨a, c, b, e⟩ := hc; exact ⟨a, c, b, (h c).1 n e⟩
  | trunc n k => obtain ⟨a, c, c', b, e, e'⟩ := hc; exact ⟨a, c, c', b, (h c).1 n e, (h c').2 k e'⟩
  | ren x y => obtain ⟨a, a', c, c', b, e, e'⟩ := hc; exact ⟨a, a', c, c', b, (h c).1 x e, (h c').1 y e'⟩
  | rem n => obtain ⟨a, c, b, e⟩ := hc; exact ⟨a, c, b, (h c).1 n e⟩
/-- Where only blocks of another make turn, it stays. -/
theorem Keep.of_chg {F : Nat → Prop} {w w' : World} (h : Chg F w w') (hF : ∀ c, F c → c < w.heap.size → (∀ n, ¬ capS w c n) ∧ (∀ k, ¬ capI w c k)) : Keep w w' := fun c => by
  refine ⟨fun n a => ?_, fun k a => ?_⟩
  · have hlt := (Array.getElem?_eq_some_iff.1 a).1
    exact (h.block c hlt (fun f => (hF c f hlt).1 n a)).trans a
  · have hlt := (Array.getElem?_eq_some_iff.1 a).1
    exact (h.block c hlt (fun f => (hF c f hlt).2 k a)).trans a
theorem Keep.of_none {w w' : World} (h : Chg (fun _ => False) w w') : Keep w w' := Keep.of_chg h (fun _ f => f.elim)

/-- The cells of things. -/
def tcells (ts : List (Value × Thing)) : List Value := ts.flatMap fun t => [t.1, .string t.2.2]
theorem tcells_len (ts : List (Value × Thing)) : (tcells ts).length = ts.length * 2 := by
  induction ts with
  | nil => rfl
  | cons t ts ih => simp only [tcells, List.flatMap_cons, List.length_append, List.length_cons, List.length_nil] at ih ⊢; omega
theorem tcells_get (ts : List (Value × Thing)) (j : Nat) (h : j < ts.length) : (tcells ts)[2 * j]? = some ts[j].1 ∧ (tcells ts)[2 * j + 1]? = some (.string ts[j].2.2) := by
  induction ts generalizing j with
  | nil => simp at h
  | cons t ts ih =>
    cases j with
    | zero => simp [tcells]
    | succ j =>
      have := ih j (by simpa using h)
      simp only [tcells, List.flatMap_cons, List.getElem_cons_succ] at this ⊢
      rw [List.getElem?_append_right (by simp; omega), List.getElem?_append_right (by simp; omega)]
      refine ⟨?_, ?_⟩
      · rw [← this.1]; congr 1
      · rw [← this.2]; congr 1

/-- A disk: room for so many bytes; the files as they are seen, and as they are kept; what is loose. -/
structure DiskM where
  room : Nat
  now : Files
  kept : Files
  T : List Thing

structure DiskRep (w : World) (b r1 r2 : Nat) (v : Value) (ts : List (Value × Thing)) (F : Nat → Prop) (S : Nat) (d : DiskM) : Prop where
  disk : w.heap[b]? = some (.cells #[.int .i64 d.room, .map (some r1), .map (some r2), v] 57)
  now : files w r1 d.now
  kept : files w r2 d.kept
  ne : r1 ≠ r2
  things : ts.map (·.2) = d.T
  loose : sl w 64 2 v ts.length (tcells ts)
  capt : ∀ t ∈ ts, capt w t.1 t.2.1
  mays : mays d.kept d.T
  acts : (acts d.kept d.T).Perm d.now
  size : tot d.now ≤ S ∧ tot d.kept + bulk d.T ≤ S ∧ S ≤ 1099511627776
  len : d.T.length ≤ S
  room : d.room ≤ 9223372036854775807
  fb : F b
  f1 : F r1
  f2 : F r2
  fv : ∀ g, v.ownBlock = some g → F g

def DiskIs (w : World) (b : Nat) (F : Nat → Prop) (S : Nat) (d : DiskM) : Prop := ∃ r1 r2 v ts, DiskRep w b r1 r2 v ts F S d

section
variable {w w' : World} {b r1 r2 : Nat} {v : Value} {ts : List (Value × Thing)} {F G : Nat → Prop} {S : Nat} {d : DiskM}

theorem DiskRep.stay (h : DiskRep w b r1 r2 v ts F S d) (c : Chg G w w') (hd : ∀ i, F i → ¬ G i) (hk : Keep w w') : DiskRep w' b r1 r2 v ts F S d where
  disk := (c.block b (Array.getElem?_eq_some_iff.1 h.disk).1 (hd b h.fb)).trans h.disk
  now := h.now.stay (c.block r1 h.now.lt (hd r1 h.f1))
  kept := h.kept.stay (c.block r2 h.kept.lt (hd r2 h.f2))
  ne := h.ne
  things := h.things
  loose := h.loose.stay (fun g hg => c.block g (h.loose.lt hg) (hd g (h.fv g hg)))
  capt t ht := hk.capt (h.capt t ht)
  mays := h.mays
  acts := h.acts
  size := h.size
  len := h.len
  room := h.room
  fb := h.fb
  f1 := h.f1
  f2 := h.f2
  fv := h.fv
theorem DiskRep.same (h : DiskRep w b r1 r2 v ts F S d) (c : Chg (fun _ => False) w w') : DiskRep w' b r1 r2 v ts F S d := h.stay c (fun _ _ h => h) (Keep.of_none c)
theorem DiskRep.foot (h : DiskRep w b r1 r2 v ts F S d) (hF : ∀ i, F i → G i) : DiskRep w b r1 r2 v ts G S d :=
  ⟨h.disk, h.now, h.kept, h.ne, h.things, h.loose, h.capt, h.mays, h.acts, h.size, h.len, h.room, hF _ h.fb, hF _ h.f1, hF _ h.f2, fun g hg => hF _ (h.fv g hg)⟩
theorem DiskIs.stay (h : DiskIs w b F S d) (c : Chg G w w') (hd : ∀ i, F i → ¬ G i) (hk : Keep w w') : DiskIs w' b F S d := by
  obtain ⟨r1, r2, v, ts, h⟩ := h
  exact ⟨r1, r2, v, ts, h.stay c hd hk⟩
theorem DiskRep.lt (h : DiskRep w b r1 r2 v ts F S d) : b < w.heap.size ∧ r1 < w.heap.size ∧ r2 < w.heap.size :=
  ⟨(Array.getElem?_eq_some_iff.1 h.disk).1, h.now.lt, h.kept.lt⟩
theorem files.obj {L : Files} {r : Nat} (h : files w r L) : ∃ es c, w.heap[r]? = some (.map es c) := by
  obtain ⟨M, _, es, c, h, _⟩ := h; exact ⟨es, c, h⟩
theorem DiskRep.row (h : DiskRep w b r1 r2 v ts F S d) {g : Nat} (hg : v.ownBlock = some g) : ∃ cur, w.heap[g]? = some (.cells cur 64) := by
  rcases h.loose.2 with ⟨rfl, _⟩ | ⟨g', cap, cur, rfl, hh, _⟩
  · simp [Value.ownBlock] at hg
  · simp [Value.ownBlock] at hg; subst hg; exact ⟨cur, hh⟩
theorem DiskRep.nes (h : DiskRep w b r1 r2 v ts F S d) : b ≠ r1 ∧ b ≠ r2 ∧ ∀ g, v.ownBlock = some g → g ≠ b ∧ g ≠ r1 ∧ g ≠ r2 := by
  obtain ⟨es, c, hr1⟩ := h.now.obj
  obtain ⟨es', c', hr2⟩ := h.kept.obj
  refine ⟨fun e => ?_, fun e => ?_, fun g hg => ?_⟩
  · have := h.disk; rw [e, hr1] at this; simp at this
  · have := h.disk; rw [e, hr2] at this; simp at this
  · obtain ⟨cur, hh⟩ := h.row hg
    refine ⟨fun e => ?_, fun e => ?_, fun e => ?_⟩
    · rw [e, h.disk] at hh; simp at hh
    · rw [e, hr1] at hh; simp at hh
    · rw [e, hr2] at hh; simp at hh
/-- Its own blocks. -/
def own (b r1 r2 : Nat) (v : Value) (g : Nat) : Prop := g = b ∨ g = r1 ∨ g = r2 ∨ v.ownBlock = some g
/-- A change of its own blocks turns nothing that is captured. -/
theorem DiskRep.keeps (h : DiskRep w b r1 r2 v ts F S d) (c : Chg (own b r1 r2 v) w w') : Keep w w' := Keep.of_chg c (fun g hg _ => by
  obtain ⟨es, c, hr1⟩ := h.now.obj
  obtain ⟨es', c', hr2⟩ := h.kept.obj
  unfold capS capI
  rcases hg with rfl | rfl | rfl | hg
  · rw [h.disk]; simp
  · rw [hr1]; simp
  · rw [hr2]; simp
  · obtain ⟨cur, hh⟩ := h.row hg
    rw [hh]
    refine ⟨fun n e => ?_, fun n e => ?_⟩ <;> simp at e)
theorem DiskRep.cells (h : DiskRep w b r1 r2 v ts F S d) : w.cell? ⟨b, 0, none⟩ = some (.int .i64 d.room) ∧ w.cell? ⟨b, 1, none⟩ = some (.map (some r1)) ∧ w.cell? ⟨b, 2, none⟩ = some (.map (some r2)) ∧ w.cell? ⟨b, 3, none⟩ = some v :=
  ⟨cell_of h.disk (by simp), cell_of h.disk (by simp), cell_of h.disk (by simp), cell_of h.disk (by simp)⟩
end
end Go.Proofs.Ytjflkmihkfbgpaa
