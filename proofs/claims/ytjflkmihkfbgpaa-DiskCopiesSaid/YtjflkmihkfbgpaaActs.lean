/- What a disk's things do to files; plain. -/
import Derived.Test.YtjflkmihkfbgpaaFiles
namespace Go.Proofs.Ytjflkmihkfbgpaa
open Mk

/-- What is done to a file, or two. -/
inductive Do where
  | app (n : ByteArray)
  | wr (n : ByteArray)
  | trunc (n : ByteArray) (k : Nat)
  | ren (a b : ByteArray)
  | rem (n : ByteArray)

/-- Files behind it. -/
def act : Do → Files → ByteArray → Files
  | .app n, L, b => upd L n (byt L n ++ b)
  | .wr n, L, b => upd L n b
  | .trunc n k, L, _ => upd L n ((byt L n).extract 0 k)
  | .ren a b, L, _ => upd (del L a) b (byt L a)
  | .rem n, L, _ => del L n

/-- May it be done here, with these bytes? -/
def may (d : Do) (L : Files) : Prop := match d with
  | .trunc n k => k ≤ (byt L n).size
  | _ => True

theorem act_apart {L : Files} (h : Apart L) (d : Do) (b : ByteArray) : Apart (act d L b) := by
  cases d with
  | app n => exact upd_apart h ..
  | wr n => exact upd_apart h ..
  | trunc n k => exact upd_apart h ..
  | ren x y => exact upd_apart (del_apart h _) ..
  | rem n => exact del_apart h _
theorem byt_perm {L M : Files} (hp : L.Perm M) (h : Apart L) (x : ByteArray) : byt L x = byt M x := by unfold byt; rw [lk_perm hp h]
theorem act_perm {L M : Files} (hp : L.Perm M) (h : Apart L) (d : Do) (b : ByteArray) : (act d L b).Perm (act d M b) := by
  cases d with
  | app n => simp only [act, byt_perm hp h]; exact upd_perm hp h ..
  | wr n => exact upd_perm hp h ..
  | trunc n k => simp only [act, byt_perm hp h]; exact upd_perm hp h ..
  | ren x y => simp only [act, byt_perm hp h]; exact upd_perm (del_perm hp h x) (del_apart h x) ..
  | rem n => exact del_perm hp h ..

theorem act_tot (d : Do) (L : Files) (b : ByteArray) : tot (act d L b) ≤ tot L + b.size := by
  cases d with
  | app n => have := tot_upd L n (byt L n ++ b); simp only [act, ByteArray.size_append] at *; omega
  | wr n => have := tot_upd L n b; simp only [act]; omega
  | trunc n k => have := tot_upd L n ((byt L n).extract 0 k); simp only [act, ByteArray.size_extract] at *; omega
  | ren x y => have h1 := tot_upd (del L x) y (byt L x); have h2 := tot_del L x; simp only [act]; omega
  | rem n => have h2 := tot_del L n; simp only [act]; omega

/-- A thing: what is done, and its bytes. -/
abbrev Thing := Do × ByteArray
/-- Files behind things. -/
def acts (L : Files) (T : List Thing) : Files := T.foldl (fun L t => act t.1 L t.2) L
/-- May they all be done? -/
def mays : Files → List Thing → Prop
  | _, [] => True
  | L, t :: T => may t.1 L ∧ mays (act t.1 L t.2) T

theorem acts_append (L : Files) (T U : List Thing) : acts L (T ++ U) = acts (acts L T) U := List.foldl_append
theorem acts_apart {L : Files} (h : Apart L) (T : List Thing) : Apart (acts L T) := by
  induction T generalizing L with
  | nil => exact h
  | cons t T ih => exact ih (act_apart h ..)
theorem acts_perm {L M : Files} (hp : L.Perm M) (h : Apart L) (T : List Thing) : (acts L T).Perm (acts M T) := by
  induction T generalizing L M with
  | nil => exact hp
  | cons t T ih => exact ih (act_perm hp h ..) (act_apart h ..)
theorem may_perm {L M : Files} (hp : L.Perm M) (h : Apart L) {d : Do} (hm : may d L) : may d M := by
  cases d <;> simp only [may] at *
  rwa [← byt_perm hp h]
theorem mays_perm {L M : Files} (hp : L.Perm M) (h : Apart L) {T : List Thing} (hm : mays L T) : mays M T := by
  induction T generalizing L M with
  | nil => trivial
  | cons t T ih => exact ⟨may_perm hp h hm.1, ih (act_perm hp h ..) (act_apart h ..) hm.2⟩
theorem mays_append {L : Files} {T U : List Thing} : mays L (T ++ U) ↔ mays L T ∧ mays (acts L T) U := by
  induction T generalizing L with
  | nil => simp [mays, acts]
  | cons t T ih => simp [mays, acts, ih, and_assoc]

/-- All bytes of things. -/
def bulk (T : List Thing) : Nat := (T.map (fun t => t.2.size)).sum
theorem acts_tot (L : Files) (T : List Thing) : tot (acts L T) ≤ tot L + bulk T := by
  unfold bulk
  induction T generalizing L with
  | nil => exact Nat.le_refl _
  | cons t T ih => have h1 := ih (act t.1 L t.2); have h2 := act_tot t.1 L t.2; simp only [acts, List.foldl_cons, List.map_cons, List.sum_cons] at *; omega

/-- A thing's first bytes, where a crash tears it. -/
def tear (L : Files) (t : Thing) (n : Nat) : Files := if min n t.2.size = 0 then L else act t.1 L (t.2.extract 0 (min n t.2.size))
/-- Files behind a crash. -/
def crash (L : Files) (T : List Thing) (keep torn : Nat) : Files := match T[keep]? with
  | some t => tear (acts L (T.take keep)) t torn
  | none => acts L T

theorem tear_apart {L : Files} (h : Apart L) (t : Thing) (n : Nat) : Apart (tear L t n) := by
  unfold tear
  split
  · exact h
  · exact act_apart h ..
theorem crash_apart {L : Files} (h : Apart L) (T : List Thing) (k n : Nat) : Apart (crash L T k n) := by
  unfold crash
  split
  · exact tear_apart (acts_apart h _) ..
  · exact acts_apart h _
theorem tear_tot (L : Files) (t : Thing) (n : Nat) : tot (tear L t n) ≤ tot L + t.2.size := by
  unfold tear
  split
  · omega
  · have := act_tot t.1 L (t.2.extract 0 (min n t.2.size)); simp only [ByteArray.size_extract] at this; omega
theorem crash_tot (L : Files) (T : List Thing) (k n : Nat) : tot (crash L T k n) ≤ tot L + bulk T := by
  unfold crash
  split
  · rename_i t h
    have h1 := tear_tot (acts L (T.take k)) t n
    have h2 := acts_tot L (T.take k)
    have h3 : bulk (T.take k) + t.2.size ≤ bulk T := by
      obtain ⟨hk, ht⟩ := List.getElem?_eq_some_iff.1 h
      have : T = T.take k ++ t :: T.drop (k+1) := by rw [← ht, List.getElem_cons_drop, List.take_append_drop]
      unfold bulk
      conv => rhs; rw [this]
      simp only [List.map_append, List.map_cons, List.sum_append, List.sum_cons]
      omega
    omega
  · exact acts_tot L T
theorem tear_perm {L M : Files} (hp : L.Perm M) (h : Apart L) (t : Thing) (n : Nat) : (tear L t n).Perm (tear M t n) := by
  unfold tear
  split
  · exact hp
  · exact act_perm hp h ..
end Go.Proofs.Ytjflkmihkfbgpaa
