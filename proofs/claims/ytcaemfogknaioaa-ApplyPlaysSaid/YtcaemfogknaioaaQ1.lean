/- The document's loop; plain: it stands as the other one. -/
import Derived.Test.YtcaemfogknaioaaP6
import Derived.Test.YtcaemfogknaioaaD2
namespace Go.Proofs.Ytcaemfogknaioaa
set_option linter.unusedVariables false
set_option linter.unusedSimpArgs false
open Mk

/-- How the document lays a client in, round by round. -/
def layF (c : Nat) (x : Last) : List (Nat × Last) → Bool → List (Nat × Last) → List (Nat × Last)
  | out, done, [] => if done then out else out ++ [(c, x)]
  | out, done, p :: L =>
    layF c x ((if !done && decide (c ≤ p.1) then out ++ [(c, x)] else out) ++ (if p.1 ≠ c then [p] else [])) (done || decide (c ≤ p.1)) L
def layC (c : Nat) (x : Last) : List (Nat × Last) → List (Nat × Last)
  | [] => [(c, x)]
  | p :: L => if p.1 < c then p :: layC c x L else if p.1 = c then (c, x) :: L else (c, x) :: p :: L
theorem layF_done (c : Nat) (x : Last) : ∀ (L out : List (Nat × Last)), (∀ p ∈ L, p.1 ≠ c) → layF c x out true L = out ++ L
  | [], out, h => by simp [layF]
  | p :: L, out, h => by
    have hp := h p (List.mem_cons_self ..)
    show layF c x ((if (!true && decide (c ≤ p.1)) = true then out ++ [(c, x)] else out) ++ (if p.1 ≠ c then [p] else [])) (true || decide (c ≤ p.1)) L = _
    rw [if_neg (by simp), if_pos hp, Bool.true_or, layF_done c x L _ (fun q hq => h q (List.mem_cons_of_mem _ hq))]
    simp
theorem layF_eq (c : Nat) (x : Last) : ∀ (L out : List (Nat × Last)) (b : Nat), risesR b L → layF c x out false L = out ++ layC c x L
  | [], out, b, h => by simp [layF, layC]
  | p :: L, out, b, h => by
    obtain ⟨h1, h2, h3, h4⟩ := h
    have hr := (rises_pair L p.1 h4).1
    show layF c x ((if (!false && decide (c ≤ p.1)) = true then out ++ [(c, x)] else out) ++ (if p.1 ≠ c then [p] else [])) (false || decide (c ≤ p.1)) L = _
    unfold layC
    by_cases e1 : p.1 < c
    · rw [if_neg (by simp; omega), if_pos (by omega), if_pos e1, show (false || decide (c ≤ p.1)) = false by simp; omega, layF_eq c x L _ p.1 h4]
      simp
    · rw [if_pos (by simp; omega), show (false || decide (c ≤ p.1)) = true by simp; omega, if_neg e1, layF_done c x L _ (fun q hq => by have := hr q hq; omega)]
      by_cases e2 : p.1 = c
      · rw [if_neg (by simp [e2]), if_pos e2]; simp
      · rw [if_pos e2, if_neg e2]; simp
theorem layC_lk (c : Nat) (x : Last) : ∀ (L : List (Nat × Last)) (b : Nat), risesR b L → ∀ k, lk (layC c x L) k = if k = c then some x else lk L k
  | [], b, h, k => by
    show (if c = k then some x else none) = _
    by_cases e : k = c
    · rw [if_pos e.symm, if_pos e]
    · rw [if_neg (fun h => e h.symm), if_neg e]; rfl
  | p :: L, b, h, k => by
    obtain ⟨h1, h2, h3, h4⟩ := h
    unfold layC
    have hu : lk (p :: L) k = if p.1 = k then some p.2 else lk L k := rfl
    by_cases e1 : p.1 < c
    · rw [if_pos e1]
      show (if p.1 = k then some p.2 else lk (layC c x L) k) = _
      rw [layC_lk c x L p.1 h4 k, hu]
      by_cases e : p.1 = k
      · rw [if_pos e, if_pos e, if_neg (by omega)]
      · rw [if_neg e, if_neg e]
    · rw [if_neg e1]
      by_cases e2 : p.1 = c
      · rw [if_pos e2, hu]
        show (if c = k then some x else lk L k) = _
        by_cases e : k = c
        · rw [if_pos e.symm, if_pos e]
        · rw [if_neg (fun h => e h.symm), if_neg e, if_neg (by omega)]
      · rw [if_neg e2, hu]
        show (if c = k then some x else if p.1 = k then some p.2 else lk L k) = _
        by_cases e : k = c
        · rw [if_pos e.symm, if_pos e]
        · rw [if_neg (fun h => e h.symm), if_neg e]
theorem layC_rises (c : Nat) (x : Last) (hx : x.1 < 18446744073709551616) : ∀ (L : List (Nat × Last)) (b : Nat), risesR b L → b < c → c < 18446744073709551616 → risesR b (layC c x L)
  | [], b, h, hb, hc => ⟨hb, hc, hx, trivial⟩
  | p :: L, b, h, hb, hc => by
    obtain ⟨h1, h2, h3, h4⟩ := h
    unfold layC
    by_cases e1 : p.1 < c
    · rw [if_pos e1]; exact ⟨h1, h2, h3, layC_rises c x hx L p.1 h4 e1 hc⟩
    · rw [if_neg e1]
      by_cases e2 : p.1 = c
      · rw [if_pos e2]; subst e2; exact ⟨hb, hc, hx, h4⟩
      · rw [if_neg e2]; exact ⟨hb, hc, hx, ⟨by omega, h2, h3, h4⟩⟩
theorem layC_len (c : Nat) (x : Last) : ∀ L : List (Nat × Last), (layC c x L).length ≤ L.length + 1
  | [] => by simp [layC]
  | p :: L => by
    unfold layC
    have := layC_len c x L
    split
    · simp; omega
    · split <;> simp

/-- What the document's Apply does. -/
def rdoM (m : LoopM) (c n : Nat) (d : ByteArray) : LoopM × ByteArray × Nat := (⟨m.state ++ d, m.index, layC c (n, (stepM m.state d).2) m.clients⟩, (stepM m.state d).2, 0)
def rcmdM (m : LoopM) (data : ByteArray) : LoopM × ByteArray × Nat := match Cod.rcmd data.data.toList with
  | none => (m, ⟨#[]⟩, 150)
  | some (c, n, d) => match lk m.clients c with
    | none => rdoM m c n (str d)
    | some (q, a) => if n < q then (m, ⟨#[]⟩, 151) else if n = q then (m, a, 0) else rdoM m c n (str d)
def rapplyM (m : LoopM) (idx kind : Nat) (data : ByteArray) : LoopM × ByteArray × Nat :=
  if idx ≠ (m.index + 1) % 18446744073709551616 then (m, ⟨#[]⟩, 2) else if kind ≠ 0 then (atM m idx, ⟨#[]⟩, 0) else rcmdM (atM m idx) data
/-- The two stand alike. -/
structure Like (A B : LoopM) : Prop where
  st : A.state = B.state
  ix : A.index = B.index
  lk : ∀ k, lk A.clients k = lk B.clients k
  ap : (A.clients.map (·.1)).Nodup
  ri : risesR 0 B.clients
theorem rcmd_pos {l : List UInt8} {c n : Nat} {d : List UInt8} (h : Cod.rcmd l = some (c, n, d)) : 0 < c := by
  unfold Cod.rcmd at h
  simp only at h
  split at h
  · rename_i h1
    simp only [Option.some.injEq, Prod.mk.injEq] at h
    obtain ⟨rfl, rfl, rfl⟩ := h
    omega
  · cases h
theorem lk_has {L : List (Nat × Last)} {k : Nat} : k ∈ L.map (·.1) ↔ ∃ v, Mk.lk L k = some v := by
  induction L with
  | nil => simp [Mk.lk]
  | cons p L ih =>
    have hu : Mk.lk (p :: L) k = if p.1 = k then some p.2 else Mk.lk L k := rfl
    rw [hu, List.map_cons, List.mem_cons]
    by_cases e : p.1 = k
    · rw [if_pos e]; exact ⟨fun _ => ⟨_, rfl⟩, fun _ => Or.inl e.symm⟩
    · rw [if_neg e, ← ih]; exact ⟨fun h => h.resolve_left (fun x => e x.symm), Or.inr⟩
theorem rises_nodup {C : List (Nat × Last)} {b : Nat} (h : risesR b C) : (C.map (·.1)).Nodup := (rises_pair C b h).2.imp (fun h => by omega)
theorem upd_nodup {L : List (Nat × Last)} (h : (L.map (·.1)).Nodup) (c : Nat) (x : Last) : ((upd L c x).map (·.1)).Nodup := by
  rw [keys_upd]
  split
  · exact h
  · rename_i hn
    exact List.nodup_append.2 ⟨h, by simp, fun a ha b hb => by rw [List.mem_singleton.1 hb]; rintro rfl; exact hn ha⟩
theorem Like.keys {A B : LoopM} (h : Like A B) : (A.clients.map (·.1)).Perm (B.clients.map (·.1)) :=
  (List.perm_ext_iff_of_nodup h.ap (rises_nodup h.ri)).2 (fun k => by rw [lk_has, lk_has, h.lk k])
theorem Like.at {A B : LoopM} (h : Like A B) (idx : Nat) : Like (atM A idx) (atM B idx) := ⟨h.st, rfl, h.lk, h.ap, h.ri⟩
theorem Like.doM {A B : LoopM} (h : Like A B) {c n : Nat} {d : ByteArray} (hc : 0 < c ∧ c < 18446744073709551616) (hn : n < 18446744073709551616) : (doM A c n d).2 = (rdoM B c n d).2 ∧ Like (Ytcaemfogknaioaa.doM A c n d).1 (rdoM B c n d).1 := by
  have hs := h.st
  refine ⟨?_, ?_, h.ix, fun k => ?_, upd_nodup h.ap _ _, layC_rises _ _ hn _ _ h.ri hc.1 hc.2⟩
  · show ((stepM A.state d).2, 0) = ((stepM B.state d).2, 0); rw [hs]
  · show A.state ++ d = B.state ++ d; rw [hs]
  · show Mk.lk (upd A.clients c (n, (stepM A.state d).2)) k = Mk.lk (layC c (n, (stepM B.state d).2) B.clients) k
    rw [lk_upd, layC_lk c _ _ _ h.ri, h.lk k, hs]
theorem Like.cmd {A B : LoopM} (h : Like A B) (data : ByteArray) : (cmdM A data).2 = (rcmdM B data).2 ∧ Like (cmdM A data).1 (rcmdM B data).1 := by
  unfold cmdM rcmdM
  cases hr : Cod.rcmd data.data.toList with
  | none => exact ⟨rfl, h⟩
  | some t =>
    obtain ⟨c, n, d⟩ := t
    simp only
    obtain ⟨b1, b2, -⟩ := rcmd_bounds hr
    have b0 := rcmd_pos hr
    rw [h.lk c]
    cases Mk.lk B.clients c with
    | none => exact h.doM ⟨b0, b1⟩ b2
    | some v =>
      obtain ⟨q, a⟩ := v
      simp only
      by_cases e1 : n < q
      · rw [if_pos e1, if_pos e1]; exact ⟨rfl, h⟩
      · rw [if_neg e1, if_neg e1]
        by_cases e2 : n = q
        · rw [if_pos e2, if_pos e2]; exact ⟨rfl, h⟩
        · rw [if_neg e2, if_neg e2]; exact h.doM ⟨b0, b1⟩ b2
theorem Like.apply {A B : LoopM} (h : Like A B) (idx kind : Nat) (data : ByteArray) : (applyM A idx kind data).2 = (rapplyM B idx kind data).2 ∧ Like (applyM A idx kind data).1 (rapplyM B idx kind data).1 := by
  unfold applyM rapplyM
  rw [h.ix]
  split
  · exact ⟨rfl, h⟩
  · split
    · exact ⟨rfl, h.at idx⟩
    · exact (h.at idx).cmd data
theorem Like.bytes {A B : LoopM} (h : Like A B) : loopS A = loopB B := by
  have hk := h.keys
  have hl : A.clients.length = B.clients.length := by have := hk.length_eq; simpa using this
  rw [← loopS_eq h.ri]
  unfold loopS preB sortC
  rw [h.st, h.ix, hl, sortI_perm hk]
  congr 3
  funext k
  unfold oneB atC
  rw [h.lk k]
theorem like_new (s : ByteArray) : Like ⟨s, 0, []⟩ ⟨s, 0, []⟩ := ⟨rfl, rfl, fun _ => rfl, by simp, trivial⟩
end Go.Proofs.Ytcaemfogknaioaa
