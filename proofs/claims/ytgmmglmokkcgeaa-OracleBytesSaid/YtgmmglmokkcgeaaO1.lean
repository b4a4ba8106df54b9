/- The oracle, plain: what each command does; what holds of it ever after. -/
import Derived.Test.YtgmmglmokkcgeaaMapKit
namespace Go.Proofs.Ytgmmglmokkcgeaa
set_option linter.unusedVariables false
set_option linter.unusedSimpArgs false
open Mk
structure Tb where
  p : ByteArray
  g : Nat
  to : Nat
  at_ : Nat
  tn : Nat
def Tb.zero : Tb := ⟨⟨#[]⟩, 0, 0, 0, 0⟩
structure OM where
  time : Nat
  uid : Nat
  mark : Nat
  dec : List (Nat × Nat)
  las : List (ByteArray × Nat)
  tab : List (ByteArray × Tb)
  com : ByteArray → List Nat
def OM.new : OM := ⟨0, 0, 0, [], [], [], fun _ => []⟩
structure OpM where
  k : Nat
  n : Nat
  st : Nat
  keys : List ByteArray
  needs : List (ByteArray × Nat)
  pred : ByteArray
  g : Nat
  to : Nat
  at_ : Nat
structure AnM where
  code : Nat
  first : Nat
  commit : Nat
  tb : Tb
def an0 : AnM := ⟨0, 0, 0, .zero⟩

def chOk (c : UInt8) : Bool := (97 ≤ c.toNat && c.toNat ≤ 122) || (48 ≤ c.toNat && c.toNat ≤ 57) || c.toNat == 95 || c.toNat == 46
def predOk (s : ByteArray) : Bool := decide (1 ≤ s.size) && decide (s.size ≤ 64) && (match s.toList with | c :: _ => 97 ≤ c.toNat && c.toNat ≤ 122 | [] => false) && s.toList.all chOk
def lessB (a b : ByteArray) : Bool := Op.bytesLess a.toList b.toList
def risingM : List ByteArray → Bool
  | a :: b :: l => lessB a b && risingM (b :: l)
  | _ => true
def listsM (o : OpM) : Bool := o.keys.all (fun k => decide (1 ≤ k.size) && decide (k.size ≤ 16384)) && o.needs.all (fun x => predOk x.1 && decide (x.2 ≠ 0)) && decide (o.keys.length ≤ 256) && decide (1 ≤ o.needs.length) && decide (o.needs.length ≤ 256) && risingM o.keys && risingM (o.needs.map (·.1))
def kindM (o : OpM) : Bool := match o.k with
  | 1 | 2 => decide (1 ≤ o.n) && decide (o.n ≤ 4096)
  | 3 => decide (0 < o.st) && listsM o
  | 4 => decide (0 < o.st)
  | 5 => predOk o.pred && decide (0 < o.g)
  | 6 => predOk o.pred && decide (0 < o.to)
  | 7 | 8 => predOk o.pred && decide (0 < o.at_)
  | 9 => decide (0 < o.at_)
  | _ => false
def leftM (o : OpM) : Bool := (decide (o.n = 0) || o.k == 1 || o.k == 2) && (decide (o.st = 0) || o.k == 3 || o.k == 4) && (o.keys.isEmpty || o.k == 3) && (o.needs.isEmpty || o.k == 3) && (decide (o.pred.toList = []) || o.k == 5 || o.k == 6 || o.k == 7 || o.k == 8) && (decide (o.g = 0) || o.k == 5) && (decide (o.to = 0) || o.k == 6) && (decide (o.at_ = 0) || o.k == 7 || o.k == 8 || o.k == 9)
def mayM (o : OpM) : Bool := kindM o && leftM o

def wasM (n : OM) (st : Nat) : AnM × Bool := if n.time < st then (⟨201, 0, 0, .zero⟩, true) else (⟨0, 0, (lk n.dec st).getD 0, .zero⟩, (lk n.dec st).isSome || decide (st < n.mark))
def needM (n : OM) (x : ByteArray × Nat) : Bool := match lk n.tab x.1 with
  | some t => t.to == 0 && t.tn == x.2
  | none => false
def clearM (n : OM) (o : OpM) : Bool := o.keys.all (fun k => decide ((lk n.las k).getD 0 ≤ o.st)) && o.needs.all (needM n)
def abortM (n : OM) (o : OpM) : OM × AnM := if (wasM n o.st).2 then (n, (wasM n o.st).1) else ({ n with dec := upd n.dec o.st 0 }, (wasM n o.st).1)
def lastM (T : Nat) (keys : List ByteArray) (L : List (ByteArray × Nat)) : List (ByteArray × Nat) := keys.foldl (fun L k => upd L k T) L
def comM (T : Nat) (needs : List (ByteArray × Nat)) (f : ByteArray → List Nat) : ByteArray → List Nat := needs.foldl (fun f x => fun p => if p = x.1 then f p ++ [T] else f p) f
def commitM (n : OM) (o : OpM) : OM × AnM := if (wasM n o.st).2 then (n, (wasM n o.st).1) else if clearM n o then
    ({ n with time := n.time + 1, dec := upd n.dec o.st (n.time + 1), las := lastM (n.time + 1) o.keys n.las, com := comM (n.time + 1) o.needs n.com }, ⟨0, 0, n.time + 1, .zero⟩)
  else abortM n o
def giveM (n : OM) (o : OpM) : OM × AnM := match lk n.tab o.pred with
  | some t => (n, ⟨202, 0, 0, t⟩)
  | none => ({ n with tab := upd n.tab o.pred ⟨o.pred, o.g, 0, 0, 1⟩ }, ⟨0, 0, 0, ⟨o.pred, o.g, 0, 0, 1⟩⟩)
def fenceM (n : OM) (o : OpM) : OM × AnM := match lk n.tab o.pred with
  | none => (n, ⟨5, 0, 0, .zero⟩)
  | some t => if t.to ≠ 0 then (n, ⟨3, 0, 0, t⟩) else if t.g = o.to then (n, ⟨2, 0, 0, t⟩) else
    ({ n with time := n.time + 1, tab := upd n.tab o.pred ⟨t.p, t.g, o.to, n.time + 1, t.tn + 1⟩ }, ⟨0, 0, 0, ⟨t.p, t.g, o.to, n.time + 1, t.tn + 1⟩⟩)
def endM (n : OM) (o : OpM) : OM × AnM := match lk n.tab o.pred with
  | none => (n, ⟨5, 0, 0, .zero⟩)
  | some t => if t.to = 0 ∨ t.at_ ≠ o.at_ then (n, ⟨3, 0, 0, t⟩) else
    ({ n with tab := upd n.tab o.pred ⟨t.p, if o.k = 7 then t.to else t.g, 0, 0, t.tn + 1⟩ }, ⟨0, 0, 0, ⟨t.p, if o.k = 7 then t.to else t.g, 0, 0, t.tn + 1⟩⟩)
def raiseM (n : OM) (o : OpM) : OM × AnM := if n.time < o.at_ then (n, ⟨2, 0, 0, .zero⟩) else if n.mark < o.at_ then
    ({ n with mark := o.at_, dec := n.dec.filter (fun p => !(p.2 == 0 && decide (p.1 < o.at_))), las := n.las.filter (fun p => decide (o.at_ < p.2)) }, an0)
  else (n, an0)
def doM (n : OM) (o : OpM) : OM × AnM := match o.k with
  | 1 => ({ n with time := n.time + o.n }, ⟨0, n.time + 1, 0, .zero⟩)
  | 2 => ({ n with uid := n.uid + o.n }, ⟨0, n.uid + 1, 0, .zero⟩)
  | 3 => commitM n o
  | 4 => abortM n o
  | 5 => giveM n o
  | 6 => fenceM n o
  | 7 | 8 => endM n o
  | _ => raiseM n o
def applyM (n : OM) (o : OpM) : OM × AnM := if mayM o then doM n o else (n, ⟨200, 0, 0, .zero⟩)
def decisionM (n : OM) (st : Nat) : Nat × Bool := ((lk n.dec st).getD 0, (lk n.dec st).isSome || (decide (0 < st) && decide (st < n.mark)))
/-- How many of a list that rises are not behind a time, as the search tells it. -/
def seenM (l : List Nat) (t : Nat) : Nat := (l.takeWhile (fun x => decide (x < t))).length + if t ∈ l then 1 else 0

/-- How far the numbers go. -/
structure Lim (n : OM) (B : Nat) : Prop where
  time : n.time ≤ B
  uid : n.uid ≤ B
  turn : ∀ p ∈ n.tab, p.2.tn ≤ B
  com : ∀ p, (n.com p).length ≤ B
theorem comM_len (T : Nat) (needs : List (ByteArray × Nat)) (f : ByteArray → List Nat) (p : ByteArray) : (comM T needs f p).length ≤ (f p).length + needs.length := by
  induction needs generalizing f with
  | nil => exact Nat.le_refl _
  | cons x l ih =>
    have : comM T (x :: l) f p = comM T l (fun p => if p = x.1 then f p ++ [T] else f p) p := rfl
    rw [this]
    refine Nat.le_trans (ih _) ?_
    simp only [List.length_cons]
    split <;> simp <;> omega
theorem mem_upd2 {K V : Type} [DecidableEq K] {L : List (K × V)} {x : K} {v : V} {p : K × V} (h : p ∈ upd L x v) : p = (x, v) ∨ p ∈ L := by
  rcases mem_upd h with h | h | h
  · exact Or.inl h
  · exact Or.inr h.1
  · exact Or.inr h
theorem Lim.mono {n : OM} {B C : Nat} (h : Lim n B) (hc : B ≤ C) : Lim n C := ⟨Nat.le_trans h.time hc, Nat.le_trans h.uid hc, fun p hp => Nat.le_trans (h.turn p hp) hc, fun p => Nat.le_trans (h.com p) hc⟩
theorem Lim.up {n : OM} {B : Nat} (h : Lim n B) {x : ByteArray} {t : Tb} (ht : t.tn ≤ B) {p : ByteArray × Tb} (hp : p ∈ upd n.tab x t) : p.2.tn ≤ B := by
  rcases mem_upd2 hp with rfl | hp
  · exact ht
  · exact h.turn p hp
theorem Lim.abort {n : OM} {B : Nat} (h : Lim n B) (o : OpM) : Lim (abortM n o).1 B := by
  unfold abortM
  split
  · exact h
  · exact ⟨h.time, h.uid, h.turn, h.com⟩
theorem Lim.apply {n : OM} {B : Nat} (h : Lim n B) (o : OpM) : Lim (applyM n o).1 (B + 4096) := by
  have h1 := h.mono (Nat.le_add_right B 4096)
  unfold applyM
  split
  · rename_i hm
    unfold mayM kindM at hm
    unfold doM
    split
    · simp_all
      exact ⟨by have := h.time; simp only; omega, h1.uid, h1.turn, h1.com⟩
    · simp_all
      exact ⟨h1.time, by have := h.uid; simp only; omega, h1.turn, h1.com⟩
    · unfold commitM
      split
      · exact h1
      · split
        · refine ⟨by have := h.time; simp only; omega, h1.uid, h1.turn, fun p => ?_⟩
          have := comM_len (n.time + 1) o.needs n.com p
          have := h.com p
          have h256 : o.needs.length ≤ 256 := by
            have hk : o.k = 3 := by assumption
            have h9 : ((decide (0 < o.st) && listsM o) && leftM o) = true := by rw [hk] at hm; exact hm
            simp only [listsM, Bool.and_eq_true, decide_eq_true_eq] at h9
            exact h9.1.2.1.1.2
          simp only
          omega
        · exact h1.abort o
    · exact h1.abort o
    · unfold giveM
      split
      · exact h1
      · exact ⟨h1.time, h1.uid, fun p hp => h1.up (by simp only; omega) hp, h1.com⟩
    · unfold fenceM
      split
      · exact h1
      · rename_i t ht
        split
        · exact h1
        · split
          · exact h1
          · have := h.turn _ (lk_mem ht)
            exact ⟨by have := h.time; simp only; omega, h1.uid, fun p hp => h1.up (by simp only at this ⊢; omega) hp, h1.com⟩
    · unfold endM
      split
      · exact h1
      · rename_i t ht
        split
        · exact h1
        · have := h.turn _ (lk_mem ht)
          exact ⟨h1.time, h1.uid, fun p hp => h1.up (by simp only at this ⊢; omega) hp, h1.com⟩
    · unfold endM
      split
      · exact h1
      · rename_i t ht
        split
        · exact h1
        · have := h.turn _ (lk_mem ht)
          exact ⟨h1.time, h1.uid, fun p hp => h1.up (by simp only at this ⊢; omega) hp, h1.com⟩
    · unfold raiseM
      split
      · exact h1
      · split
        · exact ⟨h1.time, h1.uid, h1.turn, h1.com⟩
        · exact h1
  · exact h1
end Go.Proofs.Ytgmmglmokkcgeaa
