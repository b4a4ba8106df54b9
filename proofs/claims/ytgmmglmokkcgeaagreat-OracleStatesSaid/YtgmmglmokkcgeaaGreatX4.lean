/- A state's bytes, plain: what is written, how much it is, and that it is read back. -/
import Derived.Test.YtgmmglmokkcgeaaGreatX1
import Derived.Test.YtgmmglmokkcgeaaGreatX0
namespace Go.Proofs.YtgmmglmokkcgeaaGreat
set_option linter.unusedVariables false
set_option linter.unusedSimpArgs false
set_option linter.unusedSectionVars false
open Mk

def decE (p : Nat × Nat) : List UInt8 := Cod.num p.1 ++ Cod.num p.2
def lasE (p : ByteArray × Nat) : List UInt8 := Cod.text p.1.data.toList ++ Cod.num p.2
def tabE (p : ByteArray × Tb) : List UInt8 := Cod.text p.2.p.data.toList ++ (Cod.num p.2.g ++ (Cod.num p.2.to ++ (Cod.num p.2.at_ ++ Cod.num p.2.tn)))
def comE (p : ByteArray × List Nat) : List UInt8 := Cod.text p.1.data.toList ++ (Cod.num p.2.length ++ p.2.flatMap Cod.num)
/-- A state's bytes. -/
def bytesR (r : RM) : List UInt8 := Cod.num r.time ++ (Cod.num r.uid ++ (Cod.num r.mark ++ (Cod.num r.d.length ++ (r.d.flatMap decE ++ (Cod.num r.k.length ++ (r.k.flatMap lasE ++ (Cod.num r.t.length ++ (r.t.flatMap tabE ++ (Cod.num r.c.length ++ r.c.flatMap comE)))))))))

/-- Reading: one of each. -/
def decN (s : RdS × List (Nat × Nat)) : RdS × List (Nat × Nat) := ((numR (numR s.1).2).2, lay ltN (numR s.1).1 (numR (numR s.1).2).1 s.2)
def lasN (s : RdS × List (ByteArray × Nat)) : RdS × List (ByteArray × Nat) := ((numR (textR s.1).2).2, lay lessB (textR s.1).1 (numR (textR s.1).2).1 s.2)
def tabR (r : RdS) : Tb × RdS :=
  let g := smallR (textR r).2
  let t := smallR g.2
  let a := numR t.2
  let n := numR a.2
  (⟨(textR r).1, g.1, t.1, a.1, n.1⟩, n.2)
def tabN (s : RdS × List (ByteArray × Tb)) : RdS × List (ByteArray × Tb) := ((tabR s.1).2, lay lessB (tabR s.1).1.p (tabR s.1).1 s.2)
def rowN (s : RdS × List Nat) : RdS × List Nat := ((numR s.1).2, s.2 ++ [(numR s.1).1])
def rowR (r : RdS) : RdS × List Nat := runR (fun s : RdS × List Nat => s.1) rowN (numR r).1 ((numR r).2, [])
def comN (s : RdS × List (ByteArray × List Nat)) : RdS × List (ByteArray × List Nat) := ((rowR (textR s.1).2).1, lay lessB (textR s.1).1 (rowR (textR s.1).2).2 s.2)
def manyR {σ : Type} (rd : σ → RdS) (next : σ → σ) (mk : RdS → σ) (r : RdS) : σ := runR rd next (numR r).1 (mk (numR r).2)
def decR (r : RdS) : RdS × List (Nat × Nat) := manyR (fun s => s.1) decN (fun r => (r, [])) r
def lasR (r : RdS) : RdS × List (ByteArray × Nat) := manyR (fun s => s.1) lasN (fun r => (r, [])) r
def tabsR (r : RdS) : RdS × List (ByteArray × Tb) := manyR (fun s => s.1) tabN (fun r => (r, [])) r
def comR (r : RdS) : RdS × List (ByteArray × List Nat) := manyR (fun s => s.1) comN (fun r => (r, [])) r
/-- What bytes are read as, and what is left. -/
def parseR (b : ByteArray) : RdS × RM :=
  let t := numR ⟨b, false⟩
  let u := numR t.2
  let m := numR u.2
  let d := decR m.2
  let k := lasR d.1
  let g := tabsR k.1
  let c := comR g.1
  (c.1, ⟨t.1, u.1, m.1, d.2, k.2, g.2, c.2⟩)

theorem numR_num (x : Nat) (hx : x < 18446744073709551616) (l : List UInt8) (b : Bool) : numR ⟨str (Cod.num x ++ l), b⟩ = (x, ⟨str l, b⟩) := by
  unfold numR
  have : (str (Cod.num x ++ l)).data.toList = Cod.num x ++ l := rfl
  simp only [this, Cod.rnum_num x hx l]
  simp
theorem smallR_num (x : Nat) (hx : x < 4294967296) (l : List UInt8) (b : Bool) : smallR ⟨str (Cod.num x ++ l), b⟩ = (x, ⟨str l, b⟩) := by
  unfold smallR
  rw [numR_num x (by omega) l b]
  simp only
  rw [Nat.mod_eq_of_lt hx]
  have : ¬ 4294967295 < x := by omega
  simp [this]
theorem textR_text (t : ByteArray) (ht : t.size < 18446744073709551616) (l : List UInt8) (b : Bool) : textR ⟨str (Cod.text t.data.toList ++ l), b⟩ = (t, ⟨str l, b⟩) := by
  unfold textR
  have : (str (Cod.text t.data.toList ++ l)).data.toList = Cod.text t.data.toList ++ l := rfl
  simp only [this, Cod.rtext_text t.data.toList (by rw [len_list]; exact ht) l]
  simp [str_self]
section
variable {K V : Type} [DecidableEq K] {lt : K → K → Bool}
theorem lay_snoc (O : Ordered lt) {x : K} {v : V} : ∀ {L : List (K × V)}, Ris lt (L ++ [(x, v)]) → lay lt x v L = L ++ [(x, v)]
  | [], _ => rfl
  | p :: L, h => by
    obtain ⟨h1, h2⟩ := List.pairwise_cons.1 h
    have hp : lt p.1 x = true := h1 (x, v) (by simp)
    unfold lay
    rw [if_pos hp, lay_snoc O h2]
    rfl
/-- Reading what was written: one behind the other. -/
theorem runR_back (O : Ordered lt) {enc : K × V → List UInt8} {next : RdS × List (K × V) → RdS × List (K × V)} {ok : K × V → Prop}
    (hn : ∀ p l L, ok p → next (⟨str (enc p ++ l), false⟩, L) = (⟨str l, false⟩, lay lt p.1 p.2 L)) :
    ∀ (M L : List (K × V)) (l : List UInt8), Ris lt (L ++ M) → (∀ p ∈ M, ok p) → runR (fun s : RdS × List (K × V) => s.1) next M.length (⟨str (M.flatMap enc ++ l), false⟩, L) = (⟨str l, false⟩, L ++ M)
  | [], L, l, _, _ => by simp [runR]
  | p :: M, L, l, h, ho => by
    have hu : runR (fun s : RdS × List (K × V) => s.1) next (p :: M).length (⟨str ((p :: M).flatMap enc ++ l), false⟩, L) = runR (fun s : RdS × List (K × V) => s.1) next M.length (next (⟨str ((p :: M).flatMap enc ++ l), false⟩, L)) := rfl
    rw [hu, List.flatMap_cons, List.append_assoc, hn p _ L (ho p (List.mem_cons_self ..)), lay_snoc O (h.sublist (by simp)), runR_back O hn M (L ++ [(p.1, p.2)]) l (by simpa using h) (fun q hq => ho q (List.mem_cons_of_mem _ hq))]
    simp
end
theorem row_back : ∀ (M L : List Nat) (l : List UInt8), (∀ x ∈ M, x < 18446744073709551616) → runR (fun s : RdS × List Nat => s.1) rowN M.length (⟨str (M.flatMap Cod.num ++ l), false⟩, L) = (⟨str l, false⟩, L ++ M)
  | [], L, l, _ => by simp [runR]
  | x :: M, L, l, h => by
    have hu : runR (fun s : RdS × List Nat => s.1) rowN (x :: M).length (⟨str ((x :: M).flatMap Cod.num ++ l), false⟩, L) = runR (fun s : RdS × List Nat => s.1) rowN M.length (rowN (⟨str ((x :: M).flatMap Cod.num ++ l), false⟩, L)) := rfl
    rw [hu, List.flatMap_cons, List.append_assoc]
    have e : rowN (⟨str (Cod.num x ++ (M.flatMap Cod.num ++ l)), false⟩, L) = (⟨str (M.flatMap Cod.num ++ l), false⟩, L ++ [x]) := by
      unfold rowN
      rw [numR_num x (h x (List.mem_cons_self ..))]
    rw [e, row_back M _ l (fun y hy => h y (List.mem_cons_of_mem _ hy))]
    simp
/-- How great what is written is. -/
structure Wid (r : RM) : Prop where
  time : r.time < 18446744073709551616
  uid : r.uid < 18446744073709551616
  mark : r.mark < 18446744073709551616
  dl : r.d.length < 18446744073709551616
  kl : r.k.length < 18446744073709551616
  tl : r.t.length < 18446744073709551616
  cl : r.c.length < 18446744073709551616
  d : ∀ p ∈ r.d, p.1 < 18446744073709551616 ∧ p.2 < 18446744073709551616
  k : ∀ p ∈ r.k, p.1.size < 18446744073709551616 ∧ p.2 < 18446744073709551616
  t : ∀ p ∈ r.t, p.2.p = p.1 ∧ p.1.size < 18446744073709551616 ∧ p.2.g < 4294967296 ∧ p.2.to < 4294967296 ∧ p.2.at_ < 18446744073709551616 ∧ p.2.tn < 18446744073709551616
  c : ∀ p ∈ r.c, p.1.size < 18446744073709551616 ∧ p.2.length < 18446744073709551616 ∧ ∀ x ∈ p.2, x < 18446744073709551616
  ds : Ris ltN r.d
  ks : Ris lessB r.k
  ts : Ris lessB r.t
  cs : Ris lessB r.c
theorem parse_back {r : RM} (h : Wid r) : parseR (str (bytesR r)) = (⟨str [], false⟩, r) := by
  have hd : ∀ l, decR ⟨str (Cod.num r.d.length ++ (r.d.flatMap decE ++ l)), false⟩ = (⟨str l, false⟩, r.d) := fun l => by
    unfold decR manyR
    rw [numR_num _ h.dl]
    exact runR_back ltN_ord (ok := fun p => p.1 < 18446744073709551616 ∧ p.2 < 18446744073709551616) (fun p l L hp => by
      unfold decN decE
      rw [List.append_assoc, numR_num _ hp.1]
      simp only [numR_num _ hp.2]) r.d [] l h.ds h.d
  have hk : ∀ l, lasR ⟨str (Cod.num r.k.length ++ (r.k.flatMap lasE ++ l)), false⟩ = (⟨str l, false⟩, r.k) := fun l => by
    unfold lasR manyR
    rw [numR_num _ h.kl]
    exact runR_back lessB_ord (ok := fun p => p.1.size < 18446744073709551616 ∧ p.2 < 18446744073709551616) (fun p l L hp => by
      unfold lasN lasE
      rw [List.append_assoc, textR_text _ hp.1]
      simp only [numR_num _ hp.2]) r.k [] l h.ks h.k
  have ht : ∀ l, tabsR ⟨str (Cod.num r.t.length ++ (r.t.flatMap tabE ++ l)), false⟩ = (⟨str l, false⟩, r.t) := fun l => by
    unfold tabsR manyR
    rw [numR_num _ h.tl]
    exact runR_back lessB_ord (ok := fun p => p.2.p = p.1 ∧ p.1.size < 18446744073709551616 ∧ p.2.g < 4294967296 ∧ p.2.to < 4294967296 ∧ p.2.at_ < 18446744073709551616 ∧ p.2.tn < 18446744073709551616) (fun p l L hp => by
      obtain ⟨h1, h2, h3, h4, h5, h6⟩ := hp
      unfold tabN tabR tabE
      rw [← h1] at h2 ⊢
      simp only [List.append_assoc, textR_text _ h2, smallR_num _ h3, smallR_num _ h4, numR_num _ h5, numR_num _ h6]) r.t [] l h.ts h.t
  have hc : comR ⟨str (Cod.num r.c.length ++ r.c.flatMap comE), false⟩ = (⟨str [], false⟩, r.c) := by
    have e : r.c.flatMap comE = r.c.flatMap comE ++ [] := (List.append_nil _).symm
    unfold comR manyR
    rw [numR_num _ h.cl, e]
    exact runR_back lessB_ord (ok := fun p => p.1.size < 18446744073709551616 ∧ p.2.length < 18446744073709551616 ∧ ∀ x ∈ p.2, x < 18446744073709551616) (fun p l L hp => by
      obtain ⟨h1, h2, h3⟩ := hp
      have hr : rowR ⟨str (Cod.num p.2.length ++ (p.2.flatMap Cod.num ++ l)), false⟩ = (⟨str l, false⟩, p.2) := by
        unfold rowR
        rw [numR_num _ h2]
        exact row_back p.2 [] l h3
      unfold comN comE
      simp only [List.append_assoc, textR_text _ h1, hr]) r.c [] [] h.cs h.c
  unfold parseR bytesR
  simp only [numR_num _ h.time, numR_num _ h.uid, numR_num _ h.mark, hd, hk, ht, hc]
/-- States that are written alike are alike. -/
theorem bytesR_inj {a b : RM} (ha : Wid a) (hb : Wid b) (h : bytesR a = bytesR b) : a = b := by
  have h1 := parse_back ha
  rw [h, parse_back hb] at h1
  exact (Prod.mk.inj h1).2.symm
end Go.Proofs.YtgmmglmokkcgeaaGreat
/- A state's bytes, plain: as far as they are written. -/
namespace Go.Proofs.YtgmmglmokkcgeaaGreat
set_option linter.unusedVariables false
set_option linter.unusedSimpArgs false
set_option linter.unusedSectionVars false
open Mk

def pre0 (r : RM) : List UInt8 := Cod.num r.time ++ (Cod.num r.uid ++ (Cod.num r.mark ++ Cod.num r.d.length))
def pre1 (r : RM) (i : Nat) : List UInt8 := pre0 r ++ (r.d.take i).flatMap decE
def pre2 (r : RM) (i : Nat) : List UInt8 := (pre1 r r.d.length ++ Cod.num r.k.length) ++ (r.k.take i).flatMap lasE
def pre3 (r : RM) (i : Nat) : List UInt8 := (pre2 r r.k.length ++ Cod.num r.t.length) ++ (r.t.take i).flatMap tabE
def pre4 (r : RM) (i : Nat) : List UInt8 := (pre3 r r.t.length ++ Cod.num r.c.length) ++ (r.c.take i).flatMap comE
theorem flat_take {α : Type} (l : List α) (f : α → List UInt8) (i : Nat) : l.flatMap f = (l.take i).flatMap f ++ (l.drop i).flatMap f := by
  rw [← List.flatMap_append, List.take_append_drop]
theorem flat_succ {α : Type} {l : List α} (f : α → List UInt8) {i : Nat} {p : α} (h : l[i]? = some p) : (l.take (i + 1)).flatMap f = (l.take i).flatMap f ++ f p := by
  rw [List.take_add_one, h, List.flatMap_append]
  simp
section
variable (r : RM)
theorem pre1_all : pre1 r r.d.length = pre0 r ++ r.d.flatMap decE := by unfold pre1; rw [List.take_length]
theorem pre2_all : pre2 r r.k.length = (pre1 r r.d.length ++ Cod.num r.k.length) ++ r.k.flatMap lasE := by unfold pre2; rw [List.take_length]
theorem pre3_all : pre3 r r.t.length = (pre2 r r.k.length ++ Cod.num r.t.length) ++ r.t.flatMap tabE := by unfold pre3; rw [List.take_length]
theorem pre4_all : pre4 r r.c.length = bytesR r := by
  unfold pre4
  rw [List.take_length, pre3_all, pre2_all, pre1_all]
  unfold pre0 bytesR
  simp only [List.append_assoc]
theorem pre4_le (i : Nat) : (pre4 r i).length ≤ (bytesR r).length := by
  rw [← pre4_all]
  unfold pre4
  rw [List.take_length, flat_take r.c comE i]
  simp only [List.length_append]
  omega
theorem pre4_0 : pre4 r 0 = pre3 r r.t.length ++ Cod.num r.c.length := by unfold pre4; simp
theorem pre3_0 : pre3 r 0 = pre2 r r.k.length ++ Cod.num r.t.length := by unfold pre3; simp
theorem pre2_0 : pre2 r 0 = pre1 r r.d.length ++ Cod.num r.k.length := by unfold pre2; simp
theorem pre1_0 : pre1 r 0 = pre0 r := by unfold pre1; simp
theorem pre3_end : (pre3 r r.t.length).length ≤ (bytesR r).length := by
  have h := pre4_le r 0
  rw [pre4_0, List.length_append] at h
  omega
theorem pre3_le (i : Nat) : (pre3 r i).length ≤ (bytesR r).length := by
  refine Nat.le_trans ?_ (pre3_end r)
  rw [pre3_all]
  unfold pre3
  rw [flat_take r.t tabE i]
  simp only [List.length_append]
  omega
theorem pre2_end : (pre2 r r.k.length).length ≤ (bytesR r).length := by
  have h := pre3_le r 0
  rw [pre3_0, List.length_append] at h
  omega
theorem pre2_le (i : Nat) : (pre2 r i).length ≤ (bytesR r).length := by
  refine Nat.le_trans ?_ (pre2_end r)
  rw [pre2_all]
  unfold pre2
  rw [flat_take r.k lasE i]
  simp only [List.length_append]
  omega
theorem pre1_end : (pre1 r r.d.length).length ≤ (bytesR r).length := by
  have h := pre2_le r 0
  rw [pre2_0, List.length_append] at h
  omega
theorem pre1_le (i : Nat) : (pre1 r i).length ≤ (bytesR r).length := by
  refine Nat.le_trans ?_ (pre1_end r)
  rw [pre1_all]
  unfold pre1
  rw [flat_take r.d decE i]
  simp only [List.length_append]
  omega
variable {r}
theorem pre1_succ {i : Nat} {p : Nat × Nat} (h : r.d[i]? = some p) : pre1 r (i + 1) = pre1 r i ++ (Cod.num p.1 ++ Cod.num p.2) := by unfold pre1; rw [flat_succ decE h, List.append_assoc]; rfl
theorem pre2_succ {i : Nat} {p : ByteArray × Nat} (h : r.k[i]? = some p) : pre2 r (i + 1) = (pre2 r i ++ Cod.text p.1.data.toList) ++ Cod.num p.2 := by unfold pre2; rw [flat_succ lasE h]; unfold lasE; simp only [List.append_assoc]
theorem pre3_succ {i : Nat} {p : ByteArray × Tb} (h : r.t[i]? = some p) : pre3 r (i + 1) = (pre3 r i ++ Cod.text p.2.p.data.toList) ++ (Cod.num p.2.g ++ (Cod.num p.2.to ++ (Cod.num p.2.at_ ++ Cod.num p.2.tn))) := by unfold pre3; rw [flat_succ tabE h]; unfold tabE; simp only [List.append_assoc]
theorem pre4_succ {i : Nat} {p : ByteArray × List Nat} (h : r.c[i]? = some p) : pre4 r (i + 1) = ((pre4 r i ++ Cod.text p.1.data.toList) ++ Cod.num p.2.length) ++ p.2.flatMap Cod.num := by unfold pre4; rw [flat_succ comE h]; unfold comE; simp only [List.append_assoc]
theorem pre2_mid {i : Nat} {p : ByteArray × Nat} (h : r.k[i]? = some p) : (pre2 r i ++ Cod.text p.1.data.toList).length ≤ (bytesR r).length := by
  have := pre2_le r (i + 1)
  rw [pre2_succ h, List.length_append] at this
  omega
theorem pre3_mid {i : Nat} {p : ByteArray × Tb} (h : r.t[i]? = some p) : (pre3 r i ++ Cod.text p.2.p.data.toList).length ≤ (bytesR r).length := by
  have := pre3_le r (i + 1)
  rw [pre3_succ h, List.length_append] at this
  omega
theorem pre4_mid {i : Nat} {p : ByteArray × List Nat} (h : r.c[i]? = some p) : (pre4 r i ++ Cod.text p.1.data.toList).length ≤ (bytesR r).length ∧ ((pre4 r i ++ Cod.text p.1.data.toList) ++ Cod.num p.2.length).length ≤ (bytesR r).length := by
  have := pre4_le r (i + 1)
  rw [pre4_succ h] at this
  simp only [List.length_append] at this ⊢
  omega
theorem num_pos (x : Nat) : 1 ≤ (Cod.num x).length := by rw [Cod.num_len]; omega
theorem flat_ge {α : Type} {f : α → List UInt8} (hf : ∀ x, 1 ≤ (f x).length) (l : List α) : l.length ≤ (l.flatMap f).length := by
  induction l with
  | nil => simp
  | cons x l ih =>
    have := hf x
    rw [List.flatMap_cons, List.length_append, List.length_cons]
    omega
theorem text_ge (t : List UInt8) : t.length + 1 ≤ (Cod.text t).length := by
  have := num_pos t.length
  unfold Cod.text
  rw [List.length_append]
  omega
/-- How much is in a state is no more than its bytes. -/
theorem bytes_parts (r : RM) : r.d.length ≤ (bytesR r).length ∧ r.k.length ≤ (bytesR r).length ∧ r.t.length ≤ (bytesR r).length ∧ r.c.length ≤ (bytesR r).length := by
  have h1 := flat_ge (f := decE) (fun x => by have := num_pos x.1; unfold decE; rw [List.length_append]; omega) r.d
  have h2 := flat_ge (f := lasE) (fun x => by have := num_pos x.2; unfold lasE; rw [List.length_append]; omega) r.k
  have h3 := flat_ge (f := tabE) (fun x => by have := num_pos x.2.g; unfold tabE; simp only [List.length_append]; omega) r.t
  have h4 := flat_ge (f := comE) (fun x => by have := num_pos x.2.length; unfold comE; simp only [List.length_append]; omega) r.c
  unfold bytesR
  simp only [List.length_append]
  omega
theorem flat_mem {α : Type} {f : α → List UInt8} {x : α} {l : List α} (h : x ∈ l) : (f x).length ≤ (l.flatMap f).length := by
  induction l with
  | nil => cases h
  | cons y l ih =>
    rw [List.flatMap_cons, List.length_append]
    rcases List.mem_cons.1 h with rfl | h
    · omega
    · have := ih h; omega
/-- And of each text. -/
theorem bytes_texts (r : RM) : (∀ p ∈ r.k, p.1.size ≤ (bytesR r).length) ∧ (∀ p ∈ r.t, p.2.p.size ≤ (bytesR r).length) ∧ (∀ p ∈ r.c, p.1.size ≤ (bytesR r).length ∧ p.2.length ≤ (bytesR r).length) := by
  refine ⟨fun p hp => ?_, fun p hp => ?_, fun p hp => ?_⟩
  · have h := flat_mem (f := lasE) hp
    have h2 := text_ge p.1.data.toList
    rw [len_list] at h2
    unfold lasE at h
    unfold bytesR lasE
    simp only [List.length_append] at h ⊢
    omega
  · have h := flat_mem (f := tabE) hp
    have h2 := text_ge p.2.p.data.toList
    rw [len_list] at h2
    unfold tabE at h
    unfold bytesR tabE
    simp only [List.length_append] at h ⊢
    omega
  · have h := flat_mem (f := comE) hp
    have h2 := text_ge p.1.data.toList
    have h3 := flat_ge (f := Cod.num) num_pos p.2
    rw [len_list] at h2
    unfold comE at h
    unfold bytesR comE
    simp only [List.length_append] at h ⊢
    omega
end
end Go.Proofs.YtgmmglmokkcgeaaGreat
/- What bytes are read as, plain: how great it is, and how many bytes it makes. -/
namespace Go.Proofs.YtgmmglmokkcgeaaGreat
set_option linter.unusedVariables false
set_option linter.unusedSimpArgs false
set_option linter.unusedSectionVars false
open Mk

theorem runR_inv {σ : Type} {rd : σ → RdS} {next : σ → σ} (P : σ → Prop) (hs : ∀ s, P s → (rd s).bad = false → P (next s)) : ∀ (n : Nat) (s : σ), P s → P (runR rd next n s)
  | 0, s, h => h
  | n + 1, s, h => by
    unfold runR
    cases hb : (rd s).bad
    · exact runR_inv P hs n _ (hs s h hb)
    · exact h
theorem nl9 (x : Nat) : (Cod.num x).length ≤ 9 := num_size x
theorem rtext_more {l : List UInt8} (h : (Cod.rtext l).2.2 = 0) : (Cod.rtext l).2.1.length + (Cod.rtext l).1.length + 1 ≤ l.length := by
  unfold Cod.rtext at h ⊢
  split
  · rename_i e; rw [if_pos e] at h; exact absurd h e
  · rename_i e
    rw [if_neg e] at h
    have h0 := rnum_less (by omega : (Cod.rnum l).2.2 = 0)
    split
    · rename_i e2; rw [if_pos e2] at h; simp at h
    · simp only [List.length_drop, List.length_take]; omega
theorem textR_more {r : RdS} (h : (textR r).2.bad = false) : (textR r).2.s.size + (textR r).1.size + 1 ≤ r.s.size := by
  unfold textR at h ⊢
  simp only [Bool.or_eq_false_iff, decide_eq_false_iff_not, ne_eq, Decidable.not_not] at h
  have := rtext_more h.2
  rw [len_list] at this
  exact this
theorem numR_more {r : RdS} (h : (numR r).2.bad = false) : (numR r).2.s.size + 1 ≤ r.s.size := by
  unfold numR at h ⊢
  simp only [Bool.or_eq_false_iff, decide_eq_false_iff_not, ne_eq, Decidable.not_not] at h
  have := rnum_less h.2
  rw [len_list] at this
  exact this
theorem num_ok {r : RdS} (h : (numR r).2.bad = false) : r.bad = false := by
  cases hb : r.bad
  · rfl
  · rw [bad_num hb] at h; cases h
theorem text_ok {r : RdS} (h : (textR r).2.bad = false) : r.bad = false := by
  cases hb : r.bad
  · rfl
  · rw [bad_text hb] at h; cases h
theorem small_num {r : RdS} (h : (smallR r).2.bad = false) : (numR r).2.bad = false := by
  unfold smallR at h
  simp only [Bool.or_eq_false_iff] at h
  exact h.1
theorem smallR_more {r : RdS} (h : (smallR r).2.bad = false) : (smallR r).2.s.size + 1 ≤ r.s.size := numR_more (small_num h)
theorem small_ok {r : RdS} (h : (smallR r).2.bad = false) : r.bad = false := num_ok (small_num h)
section
variable {K V : Type} [DecidableEq K] {lt : K → K → Bool}
theorem flat_lay (enc : K × V → List UInt8) (x : K) (v : V) (L : List (K × V)) : ((lay lt x v L).flatMap enc).length ≤ (L.flatMap enc).length + (enc (x, v)).length := by
  induction L with
  | nil => simp [lay]
  | cons p L ih =>
    unfold lay
    split
    · simp only [List.flatMap_cons, List.length_append]; omega
    · split
      · simp only [List.flatMap_cons, List.length_append]; omega
      · simp only [List.flatMap_cons, List.length_append]; omega
end
theorem text9 (t : ByteArray) : (Cod.text t.data.toList).length ≤ 9 + t.size := by
  have := nl9 t.data.toList.length
  unfold Cod.text
  rw [List.length_append, len_list]
  rw [len_list] at this
  omega
/-- A list that is being read: how much, how wide. -/
structure LsOk {α : Type} (S : Nat) (enc : α → List UInt8) (ok : α → Prop) (C : Nat) (s : RdS × List α) : Prop where
  sz : s.1.s.size ≤ S
  ok : ∀ p ∈ s.2, ok p
  few : s.2.length + s.1.s.size ≤ S + 1
  few2 : s.1.bad = false → s.2.length + s.1.s.size ≤ S
  len : s.1.bad = false → (s.2.flatMap enc).length + 9 * s.1.s.size ≤ C
theorem LsOk.start {α : Type} {S : Nat} {enc : α → List UInt8} {ok : α → Prop} {r : RdS} (h : r.s.size ≤ S) : LsOk S enc ok (9 * r.s.size) (r, ([] : List α)) := ⟨h, by simp, by simp; omega, fun _ => by simp; omega, fun _ => by simp⟩
theorem dec_ok (S : Nat) (r : RdS) (h : r.s.size ≤ S) : LsOk S decE (fun p => p.1 < 18446744073709551616 ∧ p.2 < 18446744073709551616) (9 * (numR r).2.s.size) (decR r) ∧ Ris ltN (decR r).2 := by
  have h0 := (numR_le r).1
  unfold decR manyR
  refine runR_inv (fun s => LsOk S decE (fun p => p.1 < 18446744073709551616 ∧ p.2 < 18446744073709551616) (9 * (numR r).2.s.size) s ∧ Ris ltN s.2) (fun s hs hb => ?_) _ _ ⟨.start (by omega), List.Pairwise.nil⟩
  obtain ⟨k, hr⟩ := hs
  have a1 := numR_le s.1
  have a2 := numR_le (numR s.1).2
  have hs := k.sz
  unfold decN
  refine ⟨⟨by simp only; omega, fun p hp => ?_, ?_, fun hb2 => ?_, fun hb2 => ?_⟩, lay_ris ltN_ord _ _ hr⟩
  · rcases lay_mem hp with rfl | hp
    · exact ⟨a1.2, a2.2⟩
    · exact k.ok p hp
  · have := lay_len (lt := ltN) (numR s.1).1 (numR (numR s.1).2).1 s.2
    have := k.few2 hb
    simp only
    omega
  · have := lay_len (lt := ltN) (numR s.1).1 (numR (numR s.1).2).1 s.2
    have := k.few2 hb
    have := numR_more hb2
    simp only
    omega
  · have h1 := flat_lay (lt := ltN) decE (numR s.1).1 (numR (numR s.1).2).1 s.2
    have h2 := numR_more hb2
    have h3 := numR_more (num_ok hb2)
    have h4 := k.len hb
    have h5 := nl9 (numR s.1).1
    have h6 := nl9 (numR (numR s.1).2).1
    have h7 : (decE ((numR s.1).1, (numR (numR s.1).2).1)).length ≤ 18 := by unfold decE; rw [List.length_append]; simp only; omega
    simp only
    omega
theorem las_ok (S : Nat) (r : RdS) (h : r.s.size ≤ S) : LsOk S lasE (fun p => p.1.size ≤ S ∧ p.2 < 18446744073709551616) (9 * (numR r).2.s.size) (lasR r) ∧ Ris lessB (lasR r).2 := by
  have h0 := (numR_le r).1
  unfold lasR manyR
  refine runR_inv (fun s => LsOk S lasE (fun p => p.1.size ≤ S ∧ p.2 < 18446744073709551616) (9 * (numR r).2.s.size) s ∧ Ris lessB s.2) (fun s hs hb => ?_) _ _ ⟨.start (by omega), List.Pairwise.nil⟩
  obtain ⟨k, hr⟩ := hs
  have a1 := textR_le s.1
  have a2 := numR_le (textR s.1).2
  have hs := k.sz
  unfold lasN
  refine ⟨⟨by simp only; omega, fun p hp => ?_, ?_, fun hb2 => ?_, fun hb2 => ?_⟩, lay_ris lessB_ord _ _ hr⟩
  · rcases lay_mem hp with rfl | hp
    · exact ⟨by simp only; omega, a2.2⟩
    · exact k.ok p hp
  · have := lay_len (lt := lessB) (textR s.1).1 (numR (textR s.1).2).1 s.2
    have := k.few2 hb
    simp only
    omega
  · have := lay_len (lt := lessB) (textR s.1).1 (numR (textR s.1).2).1 s.2
    have := k.few2 hb
    have := numR_more hb2
    simp only
    omega
  · have h1 := flat_lay (lt := lessB) lasE (textR s.1).1 (numR (textR s.1).2).1 s.2
    have h2 := numR_more hb2
    have h3 := textR_more (num_ok hb2)
    have h4 := k.len hb
    have h5 := text9 (textR s.1).1
    have h6 := nl9 (numR (textR s.1).2).1
    have h7 : (lasE ((textR s.1).1, (numR (textR s.1).2).1)).length ≤ 18 + (textR s.1).1.size := by unfold lasE; rw [List.length_append]; simp only; omega
    simp only
    omega
theorem tabR_le (r : RdS) : (tabR r).2.s.size ≤ (textR r).2.s.size ∧ (tabR r).1.p = (textR r).1 ∧ (tabR r).1.g < 4294967296 ∧ (tabR r).1.to < 4294967296 ∧ (tabR r).1.at_ < 18446744073709551616 ∧ (tabR r).1.tn < 18446744073709551616 := by
  unfold tabR
  have a1 := smallR_le (textR r).2
  have a2 := smallR_le (smallR (textR r).2).2
  have a3 := numR_le (smallR (smallR (textR r).2).2).2
  have a4 := numR_le (numR (smallR (smallR (textR r).2).2).2).2
  simp only
  exact ⟨by omega, trivial, a1.2, a2.2, a3.2, a4.2⟩
theorem tabR_more {r : RdS} (h : (tabR r).2.bad = false) : (tabR r).2.s.size + 4 ≤ (textR r).2.s.size ∧ (textR r).2.bad = false := by
  unfold tabR at h ⊢
  simp only at h ⊢
  have b3 := num_ok h
  have b2 := num_ok b3
  have b1 := small_ok b2
  have c4 := numR_more h
  have c3 := numR_more b3
  have c2 := smallR_more b2
  have c1 := smallR_more b1
  exact ⟨by omega, small_ok b1⟩
theorem tabs_ok (S : Nat) (r : RdS) (h : r.s.size ≤ S) : LsOk S tabE (fun p => p.2.p = p.1 ∧ p.1.size ≤ S ∧ p.2.g < 4294967296 ∧ p.2.to < 4294967296 ∧ p.2.at_ < 18446744073709551616 ∧ p.2.tn < 18446744073709551616) (9 * (numR r).2.s.size) (tabsR r) ∧ Ris lessB (tabsR r).2 := by
  have h0 := (numR_le r).1
  unfold tabsR manyR
  refine runR_inv (fun s => LsOk S tabE (fun p => p.2.p = p.1 ∧ p.1.size ≤ S ∧ p.2.g < 4294967296 ∧ p.2.to < 4294967296 ∧ p.2.at_ < 18446744073709551616 ∧ p.2.tn < 18446744073709551616) (9 * (numR r).2.s.size) s ∧ Ris lessB s.2) (fun s hs hb => ?_) _ _ ⟨.start (by omega), List.Pairwise.nil⟩
  obtain ⟨k, hr⟩ := hs
  have a1 := textR_le s.1
  have a2 := tabR_le s.1
  have hs := k.sz
  unfold tabN
  refine ⟨⟨by simp only; omega, fun p hp => ?_, ?_, fun hb2 => ?_, fun hb2 => ?_⟩, lay_ris lessB_ord _ _ hr⟩
  · rcases lay_mem hp with rfl | hp
    · exact ⟨rfl, by simp only; rw [a2.2.1]; omega, a2.2.2⟩
    · exact k.ok p hp
  · have := lay_len (lt := lessB) (tabR s.1).1.p (tabR s.1).1 s.2
    have := k.few2 hb
    simp only
    omega
  · have := lay_len (lt := lessB) (tabR s.1).1.p (tabR s.1).1 s.2
    have := k.few2 hb
    have := tabR_more hb2
    simp only
    omega
  · have h1 := flat_lay (lt := lessB) tabE (tabR s.1).1.p (tabR s.1).1 s.2
    obtain ⟨h2, h8⟩ := tabR_more hb2
    have h3 := textR_more h8
    have h4 := k.len hb
    have h5 := text9 (tabR s.1).1.p
    rw [a2.2.1] at h5
    have n1 := nl9 (tabR s.1).1.g
    have n2 := nl9 (tabR s.1).1.to
    have n3 := nl9 (tabR s.1).1.at_
    have n4 := nl9 (tabR s.1).1.tn
    have h7 : (tabE ((tabR s.1).1.p, (tabR s.1).1)).length ≤ 45 + (textR s.1).1.size := by unfold tabE; simp only [List.length_append]; rw [a2.2.1]; omega
    simp only
    omega
theorem row_ok (S : Nat) (r : RdS) (h : r.s.size ≤ S) : LsOk S Cod.num (fun x => x < 18446744073709551616) (9 * (numR r).2.s.size) (rowR r) := by
  have h0 := (numR_le r).1
  unfold rowR
  refine runR_inv (fun s => LsOk S Cod.num (fun x => x < 18446744073709551616) (9 * (numR r).2.s.size) s) (fun s k hb => ?_) _ _ (.start (by omega))
  have a1 := numR_le s.1
  have hs := k.sz
  unfold rowN
  refine ⟨by simp only; omega, fun p hp => ?_, ?_, fun hb2 => ?_, fun hb2 => ?_⟩
  · rcases List.mem_append.1 hp with hp | hp
    · exact k.ok p hp
    · rw [List.mem_singleton.1 hp]; exact a1.2
  · have := k.few2 hb
    simp only [List.length_append, List.length_singleton]
    omega
  · have := k.few2 hb
    have := numR_more hb2
    simp only [List.length_append, List.length_singleton]
    omega
  · have h2 := numR_more hb2
    have h4 := k.len hb
    have h5 := nl9 (numR s.1).1
    simp only [List.flatMap_append, List.length_append, List.flatMap_cons, List.flatMap_nil, List.append_nil]
    omega
theorem rowR_bad (r : RdS) (h : (rowR r).1.bad = false) : (numR r).2.bad = false := by
  cases hb : (numR r).2.bad
  · rfl
  · have : rowR r = ((numR r).2, []) := by
      unfold rowR
      exact runR_bad (fun s : RdS × List Nat => s.1) rowN (s := ((numR r).2, [])) hb _
    rw [this, hb] at h
    cases h
theorem com_ok (S : Nat) (r : RdS) (h : r.s.size ≤ S) : LsOk S comE (fun p => p.1.size ≤ S ∧ p.2.length ≤ S + 1 ∧ ∀ x ∈ p.2, x < 18446744073709551616) (9 * (numR r).2.s.size) (comR r) ∧ Ris lessB (comR r).2 := by
  have h0 := (numR_le r).1
  unfold comR manyR
  refine runR_inv (fun s => LsOk S comE (fun p => p.1.size ≤ S ∧ p.2.length ≤ S + 1 ∧ ∀ x ∈ p.2, x < 18446744073709551616) (9 * (numR r).2.s.size) s ∧ Ris lessB s.2) (fun s hs hb => ?_) _ _ ⟨.start (by omega), List.Pairwise.nil⟩
  obtain ⟨k, hr⟩ := hs
  have a1 := textR_le s.1
  have hs := k.sz
  have a2 := row_ok (textR s.1).2.s.size (textR s.1).2 (Nat.le_refl _)
  have a3 := a2.sz
  have a4 := a2.few
  have a5 := (numR_le (textR s.1).2).1
  unfold comN
  refine ⟨⟨by simp only; omega, fun p hp => ?_, ?_, fun hb2 => ?_, fun hb2 => ?_⟩, lay_ris lessB_ord _ _ hr⟩
  · rcases lay_mem hp with rfl | hp
    · exact ⟨by simp only; omega, by simp only; omega, a2.ok⟩
    · exact k.ok p hp
  · have := lay_len (lt := lessB) (textR s.1).1 (rowR (textR s.1).2).2 s.2
    have := k.few2 hb
    simp only
    omega
  · have := lay_len (lt := lessB) (textR s.1).1 (rowR (textR s.1).2).2 s.2
    have := k.few2 hb
    have := numR_more (rowR_bad _ hb2)
    have := a2.few2 hb2
    have h8 := textR_more (num_ok (rowR_bad _ hb2))
    simp only
    omega
  · have h1 := flat_lay (lt := lessB) comE (textR s.1).1 (rowR (textR s.1).2).2 s.2
    have h2 := a2.len hb2
    have h3 := numR_more (rowR_bad _ hb2)
    have h8 := textR_more (num_ok (rowR_bad _ hb2))
    have h4 := k.len hb
    have h5 := text9 (textR s.1).1
    have h6 := nl9 (rowR (textR s.1).2).2.length
    have h7 : (comE ((textR s.1).1, (rowR (textR s.1).2).2)).length ≤ 18 + (textR s.1).1.size + ((rowR (textR s.1).2).2.flatMap Cod.num).length := by unfold comE; simp only [List.length_append]; omega
    simp only
    omega
theorem many_bad {σ : Type} {rd : σ → RdS} {next : σ → σ} {mk : RdS → σ} (hmk : ∀ r, rd (mk r) = r) {r : RdS} (h : (rd (manyR rd next mk r)).bad = false) : (numR r).2.bad = false := by
  cases hb : (numR r).2.bad
  · rfl
  · have : manyR rd next mk r = mk (numR r).2 := by
      unfold manyR
      exact runR_bad rd next (by rw [hmk]; exact hb) _
    rw [this, hmk, hb] at h
    cases h
/-- What is read is no wider than this. -/
theorem parse_wid {b : ByteArray} {S : Nat} (hb : b.size ≤ S) (hS : S ≤ 1099511627776) : Wid (parseR b).2 := by
  have h1 := numR_le ⟨b, false⟩
  have h2 := numR_le (numR ⟨b, false⟩).2
  have h3 := numR_le (numR (numR ⟨b, false⟩).2).2
  simp only at h1
  obtain ⟨d, d2⟩ := dec_ok S (numR (numR (numR ⟨b, false⟩).2).2).2 (by omega)
  obtain ⟨k, k2⟩ := las_ok S _ d.sz
  obtain ⟨t, t2⟩ := tabs_ok S _ k.sz
  obtain ⟨c, c2⟩ := com_ok S _ t.sz
  have e1 := d.few
  have e2 := k.few
  have e3 := t.few
  have e4 := c.few
  unfold parseR
  exact ⟨h1.2, h2.2, h3.2, by simp only; omega, by simp only; omega, by simp only; omega, by simp only; omega, d.ok, fun p hp => ⟨by have := (k.ok p hp).1; omega, (k.ok p hp).2⟩, fun p hp => ⟨(t.ok p hp).1, by have := (t.ok p hp).2.1; omega, (t.ok p hp).2.2⟩, fun p hp => ⟨by have := (c.ok p hp).1; omega, by have := (c.ok p hp).2.1; omega, (c.ok p hp).2.2⟩, d2, k2, t2, c2⟩
theorem parse_rows {b : ByteArray} {S : Nat} (hb : b.size ≤ S) : ∀ p ∈ (parseR b).2.c, p.2.length ≤ S + 1 := by
  have h1 := (numR_le ⟨b, false⟩).1
  have h2 := (numR_le (numR ⟨b, false⟩).2).1
  have h3 := (numR_le (numR (numR ⟨b, false⟩).2).2).1
  simp only at h1
  obtain ⟨d, d2⟩ := dec_ok S (numR (numR (numR ⟨b, false⟩).2).2).2 (by omega)
  obtain ⟨k, k2⟩ := las_ok S _ d.sz
  obtain ⟨t, t2⟩ := tabs_ok S _ k.sz
  obtain ⟨c, c2⟩ := com_ok S _ t.sz
  intro p hp
  exact (c.ok p hp).2.1
/-- What was read well makes no more bytes than this. -/
theorem parse_len {b : ByteArray} (hok : (parseR b).1.bad = false) : (bytesR (parseR b).2).length ≤ 9 * b.size := by
  unfold parseR at hok ⊢
  simp only at hok ⊢
  have a4 := many_bad (mk := fun r => (r, ([] : List (ByteArray × List Nat)))) (fun _ => rfl) hok
  have b4 := num_ok a4
  have a3 := many_bad (mk := fun r => (r, ([] : List (ByteArray × Tb)))) (fun _ => rfl) b4
  have b3 := num_ok a3
  have a2 := many_bad (mk := fun r => (r, ([] : List (ByteArray × Nat)))) (fun _ => rfl) b3
  have b2 := num_ok a2
  have a1 := many_bad (mk := fun r => (r, ([] : List (Nat × Nat)))) (fun _ => rfl) b2
  have b1 := num_ok a1
  have b0 := num_ok b1
  have m1 : (numR ⟨b, false⟩).2.s.size + 1 ≤ b.size := numR_more (num_ok b0)
  have m2 := numR_more b0
  have m3 := numR_more b1
  have n1 := numR_more a1
  have n2 := numR_more a2
  have n3 := numR_more a3
  have n4 := numR_more a4
  have l1 := (dec_ok _ (numR (numR (numR ⟨b, false⟩).2).2).2 (Nat.le_refl _)).1.len b2
  have l2 := (las_ok _ (decR (numR (numR (numR ⟨b, false⟩).2).2).2).1 (Nat.le_refl _)).1.len b3
  have l3 := (tabs_ok _ (lasR (decR (numR (numR (numR ⟨b, false⟩).2).2).2).1).1 (Nat.le_refl _)).1.len b4
  have l4 := (com_ok _ (tabsR (lasR (decR (numR (numR (numR ⟨b, false⟩).2).2).2).1).1).1 (Nat.le_refl _)).1.len hok
  have k1 := nl9 (numR ⟨b, false⟩).1
  have k2 := nl9 (numR (numR ⟨b, false⟩).2).1
  have k3 := nl9 (numR (numR (numR ⟨b, false⟩).2).2).1
  have k4 := nl9 (decR (numR (numR (numR ⟨b, false⟩).2).2).2).2.length
  have k5 := nl9 (lasR (decR (numR (numR (numR ⟨b, false⟩).2).2).2).1).2.length
  have k6 := nl9 (tabsR (lasR (decR (numR (numR (numR ⟨b, false⟩).2).2).2).1).1).2.length
  have k7 := nl9 (comR (tabsR (lasR (decR (numR (numR (numR ⟨b, false⟩).2).2).2).1).1).1).2.length
  unfold bytesR
  simp only [List.length_append]
  omega
end Go.Proofs.YtgmmglmokkcgeaaGreat
