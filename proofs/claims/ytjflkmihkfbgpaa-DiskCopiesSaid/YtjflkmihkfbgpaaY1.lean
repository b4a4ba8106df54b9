/- The document's disk and the program's: what they have in common; plain. -/
import Derived.Test.YtjflkmihkfbgpaaXc
namespace Go.Proofs.Ytjflkmihkfbgpaa
open Mk

/-- Files rising by name. -/
def Rises (L : Files) : Prop := L.Pairwise (fun p q => p.1.toList < q.1.toList)
theorem Rises.apart {L : Files} (h : Rises L) : Apart L := h.imp (fun {a b} hab e => by rw [e] at hab; exact List.lt_irrefl _ hab)
theorem Rises.names {L : Files} (h : Rises L) : (L.map (·.1)).Pairwise (fun a b => a.toList < b.toList) := by
  rw [List.pairwise_map]; exact h
theorem upd_new {L : Files} {n s : ByteArray} (h : ∀ q ∈ L, q.1 ≠ n) : ((n, s) :: L).Perm (upd L n s) := by
  rw [(lk_none h).2.1 s]
  exact (List.perm_append_singleton _ _).symm
theorem gone_none {L : Files} {n : ByteArray} (h : ∀ q ∈ L, q.1 ≠ n) : goneM L n = L := by
  induction L with
  | nil => rfl
  | cons p L ih =>
    rw [goneM_cons, if_neg (h p List.mem_cons_self), ih (fun q hq => h q (List.mem_cons_of_mem _ hq))]; rfl
theorem goneM_eq {L : Files} (h : Apart L) (n : ByteArray) : goneM L n = del L n := by
  induction L with
  | nil => rfl
  | cons p L ih =>
    obtain ⟨h1, h2⟩ := List.pairwise_cons.1 h
    rw [goneM_cons]
    unfold del
    by_cases hp : p.1 = n
    · rw [if_pos hp, if_pos hp, gone_none (fun q hq e => h1 q hq (by rw [hp, e]))]; rfl
    · rw [if_neg hp, if_neg hp, ih h2]; rfl
theorem laid_true {L : Files} {n s : ByteArray} (h : ∀ q ∈ L, q.1 ≠ n) : laidGo n s true L = L := by
  induction L with
  | nil => rfl
  | cons p L ih =>
    rw [laidGo_cons, if_neg (h p List.mem_cons_self), Bool.true_or, ih (fun q hq => h q (List.mem_cons_of_mem _ hq))]; rfl
theorem laid_mem {L : Files} {n s : ByteArray} {d : Bool} {q : ByteArray × ByteArray} (h : q ∈ laidGo n s d L) : q = (n, s) ∨ q ∈ L := by
  induction L generalizing d with
  | nil => cases d <;> simp [laidGo] at h ⊢; exact h
  | cons p L ih =>
    rw [laidGo_cons, List.mem_append, List.mem_append] at h
    rcases h with h | h | h
    · split at h
      · left; simpa using h
      · simp at h
    · split at h
      · simp at h
      · right; simp only [List.mem_singleton] at h; rw [h]; exact List.mem_cons_self
    · rcases ih h with e | e
      · exact Or.inl e
      · exact Or.inr (List.mem_cons_of_mem _ e)
theorem ahead_eq (n m : ByteArray) : ahead n m = !decide (m.toList < n.toList) := by unfold ahead; rw [strLess_eq]
theorem laid_all {L : Files} (h : Rises L) (n s : ByteArray) : Rises (laidM L n s) ∧ (laidM L n s).Perm (upd L n s) := by
  unfold laidM
  induction L with
  | nil => exact ⟨List.pairwise_singleton _ _, List.Perm.refl _⟩
  | cons p L ih =>
    obtain ⟨h1, h2⟩ := List.pairwise_cons.1 h
    rw [laidGo_cons, ahead_eq]
    by_cases hlt : p.1.toList < n.toList
    · have hne : p.1 ≠ n := fun e => by rw [e] at hlt; exact List.lt_irrefl _ hlt
      rw [if_neg hne]
      simp only [hlt, decide_true, Bool.not_true, Bool.and_false, Bool.false_eq_true, if_false, Bool.or_false, List.nil_append, List.singleton_append]
      obtain ⟨i1, i2⟩ := ih h2
      unfold upd
      rw [if_neg hne]
      refine ⟨List.pairwise_cons.2 ⟨fun q hq => ?_, i1⟩, i2.cons _⟩
      rcases laid_mem hq with e | e
      · rw [e]; exact hlt
      · exact h1 q e
    · simp only [hlt, decide_false, Bool.not_false, Bool.and_true, if_true, Bool.or_true]
      by_cases hp : p.1 = n
      · have hn : ∀ q ∈ L, q.1 ≠ n := fun q hq e => by have := h1 q hq; rw [hp, e] at this; exact List.lt_irrefl _ this
        rw [if_pos hp, laid_true hn]
        unfold upd
        rw [if_pos hp]
        refine ⟨List.pairwise_cons.2 ⟨fun q hq => ?_, h2⟩, List.Perm.refl _⟩
        have := h1 q hq; rw [hp] at this; exact this
      · have hgt : n.toList < p.1.toList := by
          by_cases h : n.toList < p.1.toList
          · exact h
          · exact absurd (toList_inj (List.le_antisymm (List.not_lt.1 h) (List.not_lt.1 hlt))) hp
        have hn : ∀ q ∈ p :: L, q.1 ≠ n := fun q hq e => by
          rcases List.mem_cons.1 hq with rfl | hq
          · exact hp e
          · have := h1 q hq; rw [e] at this; exact List.lt_irrefl _ (List.lt_trans this hgt)
        rw [if_neg hp, laid_true (fun q hq => hn q (List.mem_cons_of_mem _ hq))]
        refine ⟨List.pairwise_cons.2 ⟨fun q hq => ?_, h⟩, upd_new hn⟩
        rcases List.mem_cons.1 hq with rfl | hq
        · exact hgt
        · exact List.lt_trans hgt (h1 q hq)
theorem gone_all {L : Files} (h : Rises L) (n : ByteArray) : Rises (goneM L n) ∧ goneM L n = del L n := by
  have e := goneM_eq h.apart n
  refine ⟨?_, e⟩
  rw [e]
  exact h.sublist (del_sublist L n)
theorem refAct_all {L M : Files} (h : Rises L) (hp : L.Perm M) (t : Thing) : Rises (refAct t L) ∧ (refAct t L).Perm (act t.1 M t.2) := by
  obtain ⟨d, s⟩ := t
  have hb : ∀ x, byt L x = byt M x := fun x => byt_perm hp h.apart x
  cases d with
  | app n => obtain ⟨h1, h2⟩ := laid_all h n (byt L n ++ s); exact ⟨h1, by simp only [refAct, act] at *; rw [← hb n]; exact h2.trans (upd_perm hp h.apart ..)⟩
  | wr n => obtain ⟨h1, h2⟩ := laid_all h n s; exact ⟨h1, h2.trans (upd_perm hp h.apart ..)⟩
  | trunc n k => obtain ⟨h1, h2⟩ := laid_all h n ((byt L n).extract 0 k); exact ⟨h1, by simp only [refAct, act] at *; rw [← hb n]; exact h2.trans (upd_perm hp h.apart ..)⟩
  | ren a b =>
    obtain ⟨g1, g2⟩ := gone_all h a
    obtain ⟨h1, h2⟩ := laid_all g1 b (byt L a)
    refine ⟨h1, ?_⟩
    simp only [refAct, act]
    rw [← hb a]
    refine h2.trans ?_
    rw [g2]
    exact upd_perm (del_perm hp h.apart a) (del_apart h.apart a) ..
  | rem n =>
    obtain ⟨g1, g2⟩ := gone_all h n
    refine ⟨g1, ?_⟩
    simp only [refAct, act]
    rw [g2]
    exact del_perm hp h.apart n
theorem refActs_all {L M : Files} (h : Rises L) (hp : L.Perm M) (T : List Thing) : Rises (refActs L T) ∧ (refActs L T).Perm (acts M T) := by
  induction T generalizing L M with
  | nil => exact ⟨h, hp⟩
  | cons t T ih =>
    obtain ⟨h1, h2⟩ := refAct_all h hp t
    exact ih h1 h2
/-- The name that a thing lays. -/
def tname : Do → ByteArray
  | .app n => n
  | .wr n => n
  | .trunc n _ => n
  | .ren _ b => b
  | .rem n => n
/-- A thing that may have been done: its name is one; it bears bytes only if it can be torn. -/
def Good (t : Thing) : Prop := named (tname t.1) = true ∧ (tears t.1 = false → t.2.size = 0)
def Names (L : Files) : Prop := ∀ p ∈ L, named p.1 = true
theorem laid_names {L : Files} {n s : ByteArray} (h : Names L) (hn : named n = true) : Names (laidM L n s) := fun q hq => by
  rcases laid_mem hq with rfl | e
  · exact hn
  · exact h q e
theorem gone_names {L : Files} {n : ByteArray} (h : Names L) : Names (goneM L n) := by
  intro q hq
  induction L with
  | nil => cases hq
  | cons p L ih =>
    rw [goneM_cons, List.mem_append] at hq
    rcases hq with hq | hq
    · split at hq
      · cases hq
      · rw [List.mem_singleton] at hq; subst hq; exact h _ List.mem_cons_self
    · exact ih (fun q hq => h q (List.mem_cons_of_mem _ hq)) hq
theorem refAct_names {L : Files} (h : Names L) {d : Do} (hn : named (tname d) = true) (s : ByteArray) : Names (refAct (d, s) L) := by
  cases d with
  | app n => exact laid_names h hn
  | wr n => exact laid_names h hn
  | trunc n k => exact laid_names h hn
  | ren a b => exact laid_names (gone_names h) hn
  | rem n => exact gone_names h
theorem refActs_names {L : Files} (h : Names L) {T : List Thing} (hT : ∀ t ∈ T, Good t) : Names (refActs L T) := by
  induction T generalizing L with
  | nil => exact h
  | cons t T ih => exact ih (refAct_names h (hT t List.mem_cons_self).1 t.2) (fun u hu => hT u (List.mem_cons_of_mem _ hu))
theorem rcrash_names {K : Files} (h : Names K) {T : List Thing} (hT : ∀ t ∈ T, Good t) (k n : Nat) : Names (rcrash K T k n) := by
  unfold rcrash
  cases ht : T[k]? with
  | none => exact refActs_names h hT
  | some t =>
    have h1 := refActs_names h (fun u hu => hT u (List.mem_of_mem_take hu) : ∀ t ∈ T.take k, Good t)
    simp only
    unfold rtear
    split
    · exact refAct_names h1 (hT t (List.mem_of_getElem? ht)).1 _
    · exact h1
theorem rcrash_all {K M : Files} (h : Rises K) (hp : K.Perm M) {T : List Thing} (hT : ∀ t ∈ T, Good t) (k n : Nat) : Rises (rcrash K T k n) ∧ (rcrash K T k n).Perm (crash M T k n) := by
  unfold rcrash crash
  cases ht : T[k]? with
  | none => exact refActs_all h hp T
  | some t =>
    simp only
    obtain ⟨h1, h2⟩ := refActs_all h hp (T.take k)
    have hb : tears t.1 = false → t.2.size = 0 := (hT t (List.mem_of_getElem? ht)).2
    unfold rtear tear
    by_cases h0 : min n t.2.size = 0
    · rw [if_pos h0, if_neg (by rintro ⟨-, a, b⟩; omega)]; exact ⟨h1, h2⟩
    · have hs : t.2.size ≠ 0 := by omega
      have hn : n ≠ 0 := by omega
      have hte : tears t.1 = true := by cases e : tears t.1 with
        | true => rfl
        | false => exact absurd (hb e) hs
      rw [if_neg h0, if_pos ⟨hte, hs, hn⟩]
      exact refAct_all h1 h2 (t.1, _)
/-- Both are alike. -/
structure Like (d : DiskM) (r : RefM) : Prop where
  room : r.room = d.room
  n1 : Rises r.N
  n2 : r.N.Perm d.now
  k1 : Rises r.K
  k2 : r.K.Perm d.kept
  t : r.T = d.T
  good : ∀ t ∈ d.T, Good t
  nn : Names r.N
  kn : Names r.K
section
variable {d : DiskM} {r : RefM}
theorem like_new (room : Int) : Like (newM room) (rnewM room) := ⟨rfl, List.Pairwise.nil, List.Perm.refl _, List.Pairwise.nil, List.Perm.refl _, rfl, (fun t ht => by cases ht), (fun t ht => by cases ht), (fun t ht => by cases ht)⟩
theorem Like.lk (h : Like d r) (n : ByteArray) : Mk.lk r.N n = Mk.lk d.now n := lk_perm h.n2 h.n1.apart n
theorem Like.byt (h : Like d r) (n : ByteArray) : byt r.N n = byt d.now n := byt_perm h.n2 h.n1.apart n
theorem Like.tot (h : Like d r) : tot r.N = tot d.now := tot_perm h.n2
theorem Like.len (h : Like d r) : r.N.length = d.now.length := h.n2.length_eq
theorem Like.things (h : Like d r) : r.T.length = d.T.length := by rw [h.t]
theorem Like.put (h : Like d r) (t : Thing) (hb : Good t) : Like (putM d t) (rput r t) := by
  obtain ⟨h1, h2⟩ := refAct_all h.n1 h.n2 t
  refine ⟨h.room, h1, h2, h.k1, h.k2, ?_, ?_, refAct_names h.nn hb.1 t.2, h.kn⟩
  · simp only [putM, rput]; rw [h.t]
  · intro u hu
    simp only [putM, List.mem_append, List.mem_singleton] at hu
    rcases hu with hu | rfl
    · exact h.good u hu
    · exact hb
theorem like_append (h : Like d r) (n s : ByteArray) : Like (appendM d n s).1 (rappendM r n s).1 ∧ (appendM d n s).2 = (rappendM r n s).2 := by
  have e : rroomy r n s.size = fitsM d n ((byt d.now n).size + s.size) := by
    unfold rroomy fitsM
    rw [h.lk, h.len, h.tot, h.room]
    congr 1
    simp only [decide_eq_decide]
    omega
  unfold appendM rappendM
  rw [e]
  split
  · exact ⟨h, rfl⟩
  · rename_i hn
    split
    · exact ⟨h.put _ ⟨(show named n = true by simpa using hn), fun e => by cases e⟩, rfl⟩
    · exact ⟨h, rfl⟩
theorem like_write (h : Like d r) (n s : ByteArray) : Like (writeM d n s).1 (rwriteM r n s).1 ∧ (writeM d n s).2 = (rwriteM r n s).2 := by
  unfold writeM rwriteM fitsM
  rw [h.lk, h.len, h.tot, h.room, h.byt]
  split
  · exact ⟨h, rfl⟩
  · rename_i hn
    split
    · exact ⟨h.put _ ⟨(show named n = true by simpa using hn), fun e => by cases e⟩, rfl⟩
    · exact ⟨h, rfl⟩
theorem like_trunc (h : Like d r) (n : ByteArray) (k : Int) : Like (truncM d n k).1 (rtruncM r n k).1 ∧ (truncM d n k).2 = (rtruncM r n k).2 := by
  unfold truncM rtruncM
  rw [h.lk, h.byt]
  split
  · exact ⟨h, rfl⟩
  · rename_i hn
    split
    · split
      · exact ⟨h, rfl⟩
      · exact ⟨h.put _ ⟨(show named n = true by simpa using hn), fun _ => rfl⟩, rfl⟩
    · exact ⟨h, rfl⟩
theorem like_rename (h : Like d r) (n m : ByteArray) : Like (renameM d n m).1 (rrenameM r n m).1 ∧ (renameM d n m).2 = (rrenameM r n m).2 := by
  unfold renameM rrenameM
  rw [h.lk]
  split
  · exact ⟨h, rfl⟩
  · rename_i hn
    split
    · exact ⟨h.put _ ⟨by cases e : named m with
        | true => exact e
        | false => exact absurd (Or.inr e) hn, fun _ => rfl⟩, rfl⟩
    · exact ⟨h, rfl⟩
theorem like_remove (h : Like d r) (n : ByteArray) : Like (removeM d n).1 (rremoveM r n).1 ∧ (removeM d n).2 = (rremoveM r n).2 := by
  unfold removeM rremoveM
  rw [h.lk]
  split
  · exact ⟨h, rfl⟩
  · rename_i hn
    split
    · exact ⟨h.put _ ⟨(show named n = true by simpa using hn), fun _ => rfl⟩, rfl⟩
    · exact ⟨h, rfl⟩
theorem good_nil : ∀ t ∈ ([] : List Thing), Good t := fun t ht => by cases ht
theorem like_sync (h : Like d r) : Like (syncM d) (rsyncM r) := ⟨h.room, h.n1, h.n2, h.n1, h.n2, rfl, good_nil, h.nn, h.nn⟩
def rcrashM (r : RefM) (k t : Int) : RefM × Int := if k < 0 ∨ (r.T.length : Int) < k ∨ t < 0 then (r, 2) else (⟨r.room, rcrash r.K r.T k.toNat t.toNat, [], rcrash r.K r.T k.toNat t.toNat⟩, 0)
theorem like_crash (h : Like d r) (k t : Int) : Like (crashM d k t).1 (rcrashM r k t).1 ∧ (crashM d k t).2 = (rcrashM r k t).2 := by
  unfold crashM rcrashM
  rw [h.t]
  split
  · exact ⟨h, rfl⟩
  · obtain ⟨h1, h2⟩ := rcrash_all h.k1 h.k2 h.good k.toNat t.toNat
    have h3 : Names (rcrash r.K d.T k.toNat t.toNat) := rcrash_names h.kn h.good _ _
    exact ⟨⟨h.room, h1, h2, h1, h2, rfl, good_nil, h3, h3⟩, rfl⟩
theorem like_read (h : Like d r) (n : ByteArray) : readM d n = rreadM r n := by
  unfold readM rreadM ableM
  rw [h.lk]
  by_cases hn : named n = false
  · rw [if_pos hn, if_pos hn]; rfl
  · rw [if_neg hn, if_neg hn]
    cases hk : Mk.lk d.now n with
    | none => simp
    | some s => simp [byt, hk]
/-- The names of the program's disk are the document's. -/
theorem like_names (h : Like d r) : sortN (d.now.map (·.1)) = r.N.map (·.1) := sortN_eq (h.n2.map _) h.n1.names
theorem like_at (h : Like d r) {j : Nat} {n s : ByteArray} (hj : r.N[j]? = some (n, s)) : readM d n = (s, 0) := by
  have hm := List.mem_of_getElem? hj
  have hn := h.nn _ hm
  have hk : Mk.lk r.N n = some s := by
    have : ∀ {L : Files}, Apart L → (n, s) ∈ L → Mk.lk L n = some s := by
      intro L
      induction L with
      | nil => intro _ h; cases h
      | cons p L ih =>
        intro ha hm
        obtain ⟨h1, h2⟩ := List.pairwise_cons.1 ha
        unfold Mk.lk
        rcases List.mem_cons.1 hm with rfl | hm
        · rw [if_pos rfl]
        · rw [if_neg (h1 _ hm)]; exact ih h2 hm
    exact this h.n1.apart hm
  rw [like_read h]
  unfold rreadM
  rw [hk, if_neg (by rw [hn]; simp)]
end
end Go.Proofs.Ytjflkmihkfbgpaa
