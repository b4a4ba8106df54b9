/- Loops as bytes; plain. -/
import Derived.Test.YtcaemfogknaioaaD2
namespace Go.Proofs.Ytcaemfogknaioaa
set_option linter.unusedVariables false
set_option linter.unusedSimpArgs false
namespace Cod
theorem big_back (l : List UInt8) (h : l.length ≤ 8) : beL l.length (big l) = l ∧ big l < 256 ^ l.length := by
  induction hn : l.length generalizing l with
  | zero => have := List.eq_nil_of_length_eq_zero hn; subst this; exact ⟨rfl, by decide⟩
  | succ n ih =>
    rcases List.eq_nil_or_concat l with rfl | ⟨l', c, rfl⟩
    · simp at hn
    · rw [List.concat_eq_append] at *
      have hn' : l'.length = n := by simp at hn; exact hn
      obtain ⟨h1, h2⟩ := ih l' (by omega) hn'
      have hc := c.toNat_lt
      have hb : big l' * 256 + c.toNat < 256 ^ (n + 1) := by rw [Nat.pow_succ]; omega
      have h8 : (256 : Nat) ^ (n + 1) ≤ 256 ^ 8 := Nat.pow_le_pow_right (by decide) (by omega)
      have h9 : (256 : Nat) ^ 8 = 18446744073709551616 := by decide
      rw [big_snoc, Nat.mod_eq_of_lt (by omega)]
      refine ⟨?_, hb⟩
      rw [beL, show (big l' * 256 + c.toNat) / 256 = big l' by omega, h1]
      congr 2
      apply UInt8.toNat_inj.1
      simp
theorem nlen_of (n x : Nat) (hn : n ≤ 8) (h1 : x < 256 ^ n) (h2 : 0 < n → 256 ^ (n - 1) ≤ x) : nlen x = n := by
  have hx : x < 256 ^ 8 := Nat.lt_of_lt_of_le h1 (Nat.pow_le_pow_right (by decide) hn)
  obtain ⟨a1, a2⟩ : x < 256 ^ nlen x ∧ (0 < x → 256 ^ (nlen x - 1) ≤ x) := nl_spec 8 x hx
  by_cases h0 : n = 0
  · subst h0; simp at h1; subst h1; rfl
  · have hp : 0 < x := Nat.lt_of_lt_of_le (Nat.pow_pos (by decide)) (h2 (by omega))
    have a3 := a2 hp
    have h3 := h2 (by omega)
    have u1 : 256 ^ (nlen x - 1) < 256 ^ n := Nat.lt_of_le_of_lt a3 h1
    have u2 : 256 ^ (n - 1) < 256 ^ nlen x := Nat.lt_of_le_of_lt h3 a1
    have v1 := (Nat.pow_lt_pow_iff_right (show 1 < 256 by decide)).1 u1
    have v2 := (Nat.pow_lt_pow_iff_right (show 1 < 256 by decide)).1 u2
    omega
theorem big_head (c : UInt8) (r : List UInt8) (h : c ≠ 0) (hl : r.length < 8) : 256 ^ r.length ≤ big (c :: r) := by
  have h1 := (big_back (c :: r) (by simp; omega))
  obtain ⟨h1, h2⟩ := h1
  have h3 : beL (r.length + 1) (big (c :: r)) = c :: r := h1
  rw [beL_front] at h3
  have h4 : UInt8.ofNat (big (c :: r) / 256 ^ r.length) = c := (List.cons.inj h3).1
  by_cases h5 : 256 ^ r.length ≤ big (c :: r)
  · exact h5
  · rw [Nat.div_eq_of_lt (by omega)] at h4
    exact absurd h4.symm h
theorem rnum_form1 (l : List UInt8) (h : (rnum l).2.2 = 0) : num (rnum l).1 ++ (rnum l).2.1 = l := by
  cases l with
  | nil => simp [rnum] at h
  | cons c r =>
    unfold rnum at h ⊢
    simp only at h ⊢
    by_cases h1 : 8 < c.toNat
    · simp [h1] at h
    · rw [if_neg h1] at h ⊢
      by_cases h2 : r.length < c.toNat
      · simp [h2] at h
      · rw [if_neg h2] at h ⊢
        by_cases h3 : 0 < c.toNat ∧ r.head? = some 0
        · simp [h3] at h
        · rw [if_neg h3]
          simp only
          have hl : (r.take c.toNat).length = c.toNat := by simp; omega
          obtain ⟨b1, b2⟩ := big_back (r.take c.toNat) (by omega)
          rw [hl] at b1 b2
          have hn : nlen (big (r.take c.toNat)) = c.toNat := by
            refine nlen_of _ _ (by omega) b2 (fun hp => ?_)
            cases r with
            | nil => simp at h2; omega
            | cons d r' =>
              have hd : d ≠ 0 := fun e => h3 ⟨hp, by simp [e]⟩
              obtain ⟨m, hm⟩ : ∃ m, c.toNat = m + 1 := ⟨c.toNat - 1, by omega⟩
              rw [hm, List.take_succ_cons]
              have hl2 : (r'.take m).length = m := by simp at h2 ⊢; omega
              have := big_head d (r'.take m) hd (by omega)
              rw [hl2] at this
              simpa using this
          unfold num
          rw [hn, b1, List.cons_append, List.take_append_drop]
          congr 1
          apply UInt8.toNat_inj.1
          simp
theorem rtext_form1 (l : List UInt8) (h : (rtext l).2.2 = 0) : text (rtext l).1 ++ (rtext l).2.1 = l := by
  unfold rtext at h ⊢
  by_cases h1 : (rnum l).2.2 ≠ 0
  · simp [h1] at h
  · rw [if_neg h1] at h ⊢
    by_cases h2 : (rnum l).2.1.length < (rnum l).1
    · simp [h2] at h
    · rw [if_neg h2]
      simp only
      unfold text
      have hl : ((rnum l).2.1.take (rnum l).1).length = (rnum l).1 := by simp; omega
      rw [hl, List.append_assoc, List.take_append_drop]
      exact rnum_form1 l (by simpa using h1)end Cod
open Mk

structure RdS where
  s : ByteArray
  bad : Bool
def numR (r : RdS) : Nat × RdS := ((Cod.rnum r.s.data.toList).1, ⟨str (Cod.rnum r.s.data.toList).2.1, r.bad || decide ((Cod.rnum r.s.data.toList).2.2 ≠ 0)⟩)
def textR (r : RdS) : ByteArray × RdS := (str (Cod.rtext r.s.data.toList).1, ⟨str (Cod.rtext r.s.data.toList).2.1, r.bad || decide ((Cod.rtext r.s.data.toList).2.2 ≠ 0)⟩)
theorem numR_le (r : RdS) : (numR r).2.s.size ≤ r.s.size ∧ (numR r).1 < 18446744073709551616 := by
  have h := rnum_le r.s.data.toList
  rw [len_list] at h
  exact ⟨h, rnum_lt _⟩
theorem rtext_len (l : List UInt8) : (Cod.rtext l).1.length ≤ l.length := by
  unfold Cod.rtext
  have := rnum_le l
  split
  · simp
  · split
    · simp
    · simp only [List.length_take]; omega
theorem textR_le (r : RdS) : (textR r).2.s.size ≤ r.s.size ∧ (textR r).1.size ≤ r.s.size := by
  have h := rtext_le r.s.data.toList
  have h2 := rtext_len r.s.data.toList
  rw [len_list] at h h2
  exact ⟨h, h2⟩

/-- What Read has at hand. -/
structure StR where
  r : RdS
  before : Nat
  cl : List (Nat × Last)
def roundR (t : StR) : StR :=
  ⟨⟨(textR (numR (numR t.r).2).2).2.s, (textR (numR (numR t.r).2).2).2.bad || decide ((numR t.r).1 ≤ t.before) || decide ((numR (numR t.r).2).1 = 0)⟩, (numR t.r).1, upd t.cl (numR t.r).1 ((numR (numR t.r).2).1, (textR (numR (numR t.r).2).2).1)⟩
def roundsR : Nat → StR → StR
  | 0, t => t
  | n + 1, t => if t.r.bad then t else roundsR n (roundR t)
theorem roundsR_bad {t : StR} (h : t.r.bad = true) (n : Nat) : roundsR n t = t := by
  cases n
  · rfl
  · unfold roundsR; rw [h]; rfl
theorem roundsR_next {t : StR} (h : t.r.bad = false) (n : Nat) : roundsR (n + 1) t = roundsR n (roundR t) := by
  show (if t.r.bad = true then t else roundsR n (roundR t)) = _
  rw [h]; rfl
/-- A state that is taken. -/
def okS (x : ByteArray) : Bool := if h : 0 < x.size then decide (x[0].toNat ≠ 33) else true
def endR (i : Nat) (t : StR) : Option LoopM := if (textR t.r).2.bad = false ∧ (textR t.r).2.s.size = 0 ∧ okS (textR t.r).1 = true then some ⟨(textR t.r).1, i, t.cl⟩ else none
def begR (s : ByteArray) : StR := roundsR (numR (numR ⟨s, false⟩).2).1 ⟨(numR (numR ⟨s, false⟩).2).2, 0, []⟩
def readL (s : ByteArray) : Option LoopM := endR (numR ⟨s, false⟩).1 (begR s)

/-- The clients at the front of bytes. -/
def cliR : Nat → List UInt8 → Nat → Option (List (Nat × Last) × List UInt8)
  | 0, l, _ => some ([], l)
  | n + 1, l, b =>
    if (Cod.rnum l).2.2 ≠ 0 ∨ (Cod.rnum l).1 ≤ b then none
    else if (Cod.rnum (Cod.rnum l).2.1).2.2 ≠ 0 ∨ (Cod.rnum (Cod.rnum l).2.1).1 = 0 then none
    else if (Cod.rtext (Cod.rnum (Cod.rnum l).2.1).2.1).2.2 ≠ 0 then none
    else (cliR n (Cod.rtext (Cod.rnum (Cod.rnum l).2.1).2.1).2.1 (Cod.rnum l).1).map fun p => (((Cod.rnum l).1, ((Cod.rnum (Cod.rnum l).2.1).1, str (Cod.rtext (Cod.rnum (Cod.rnum l).2.1).2.1).1)) :: p.1, p.2)
def endL (i : Nat) (C : List (Nat × Last)) (l : List UInt8) : Option LoopM := if (Cod.rtext l).2.2 = 0 ∧ (Cod.rtext l).2.1 = [] ∧ okS (str (Cod.rtext l).1) = true then some ⟨str (Cod.rtext l).1, i, C⟩ else none
def refL (s : ByteArray) : Option LoopM :=
  if (Cod.rnum s.data.toList).2.2 ≠ 0 then none
  else if (Cod.rnum (Cod.rnum s.data.toList).2.1).2.2 ≠ 0 then none
  else match cliR (Cod.rnum (Cod.rnum s.data.toList).2.1).1 (Cod.rnum (Cod.rnum s.data.toList).2.1).2.1 0 with
    | none => none
    | some p => endL (Cod.rnum s.data.toList).1 p.1 p.2

/-- The keys rise, above b. -/
def risesR : Nat → List (Nat × Last) → Prop
  | _, [] => True
  | b, p :: L => b < p.1 ∧ p.1 < 18446744073709551616 ∧ p.2.1 < 18446744073709551616 ∧ risesR p.1 L
def updAll : List (Nat × Last) → List (Nat × Last) → List (Nat × Last)
  | C, [] => C
  | C, p :: L => updAll (upd C p.1 p.2) L
theorem cliR_rises : ∀ (n : Nat) (l : List UInt8) (b : Nat) (C : List (Nat × Last)) (r : List UInt8), cliR n l b = some (C, r) → risesR b C ∧ C.length = n
  | 0, l, b, C, r, h => by
    simp only [cliR, Option.some.injEq, Prod.mk.injEq] at h
    obtain ⟨rfl, -⟩ := h
    exact ⟨trivial, rfl⟩
  | n + 1, l, b, C, r, h => by
    unfold cliR at h
    split at h
    · cases h
    · rename_i h1
      split at h
      · cases h
      · split at h
        · cases h
        · obtain ⟨⟨C', r'⟩, h4, h5⟩ := Option.map_eq_some_iff.1 h
          simp only [Prod.mk.injEq] at h5
          obtain ⟨rfl, rfl⟩ := h5
          obtain ⟨i1, i2⟩ := cliR_rises n _ _ _ _ h4
          exact ⟨⟨by omega, rnum_lt _, rnum_lt _, i1⟩, by simp [i2]⟩
def badB (l : List UInt8) (b : Nat) : Bool := ((((false || decide ((Cod.rnum l).2.2 ≠ 0)) || decide ((Cod.rnum (Cod.rnum l).2.1).2.2 ≠ 0)) || decide ((Cod.rtext (Cod.rnum (Cod.rnum l).2.1).2.1).2.2 ≠ 0)) || decide ((Cod.rnum l).1 ≤ b)) || decide ((Cod.rnum (Cod.rnum l).2.1).1 = 0)
/-- The walk's rounds are the document's. -/
theorem rounds_are (n : Nat) : ∀ (l : List UInt8) (b : Nat) (C : List (Nat × Last)),
    match cliR n l b with
    | none => (roundsR n ⟨⟨str l, false⟩, b, C⟩).r.bad = true
    | some p => ∃ b', roundsR n ⟨⟨str l, false⟩, b, C⟩ = ⟨⟨str p.2, false⟩, b', updAll C p.1⟩ := by
  induction n with
  | zero => intro l b C; exact ⟨b, rfl⟩
  | succ n ih =>
    intro l b C
    rw [roundsR_next rfl]
    have hl : (str l).data.toList = l := rfl
    have hu : roundR ⟨⟨str l, false⟩, b, C⟩ = ⟨⟨str (Cod.rtext (Cod.rnum (Cod.rnum l).2.1).2.1).2.1, badB l b⟩, (Cod.rnum l).1, upd C (Cod.rnum l).1 ((Cod.rnum (Cod.rnum l).2.1).1, str (Cod.rtext (Cod.rnum (Cod.rnum l).2.1).2.1).1)⟩ := rfl
    rw [hu]
    unfold cliR
    by_cases h1 : (Cod.rnum l).2.2 ≠ 0 ∨ (Cod.rnum l).1 ≤ b
    · rw [if_pos h1]
      simp only
      have hb : badB l b = true := by
        rcases h1 with h1 | h1 <;> simp [badB, h1]
      rw [hb, roundsR_bad rfl]
    · rw [if_neg h1]
      by_cases h2 : (Cod.rnum (Cod.rnum l).2.1).2.2 ≠ 0 ∨ (Cod.rnum (Cod.rnum l).2.1).1 = 0
      · rw [if_pos h2]
        simp only
        have hb : badB l b = true := by
          rcases h2 with h2 | h2 <;> simp [badB, h2]
        rw [hb, roundsR_bad rfl]
      · rw [if_neg h2]
        by_cases h3 : (Cod.rtext (Cod.rnum (Cod.rnum l).2.1).2.1).2.2 ≠ 0
        · rw [if_pos h3]
          simp only
          have hb : badB l b = true := by
            simp [badB, h3]
          rw [hb, roundsR_bad rfl]
        · rw [if_neg h3]
          have hb : badB l b = false := by
            have a1 : (Cod.rnum l).2.2 = 0 := by omega
            have a2 : ¬ (Cod.rnum l).1 ≤ b := by omega
            have a3 : (Cod.rnum (Cod.rnum l).2.1).2.2 = 0 := by omega
            have a4 : ¬ (Cod.rnum (Cod.rnum l).2.1).1 = 0 := by omega
            have a5 : (Cod.rtext (Cod.rnum (Cod.rnum l).2.1).2.1).2.2 = 0 := by omega
            simp [badB, a1, a2, a3, a4, a5]
          rw [hb]
          have := ih (Cod.rtext (Cod.rnum (Cod.rnum l).2.1).2.1).2.1 (Cod.rnum l).1 (upd C (Cod.rnum l).1 ((Cod.rnum (Cod.rnum l).2.1).1, str (Cod.rtext (Cod.rnum (Cod.rnum l).2.1).2.1).1))
          cases hc : cliR n (Cod.rtext (Cod.rnum (Cod.rnum l).2.1).2.1).2.1 (Cod.rnum l).1 with
          | none => rw [hc] at this; exact this
          | some p => rw [hc] at this; exact this
theorem updAll_app : ∀ (L C : List (Nat × Last)) (b : Nat), risesR b L → (∀ p ∈ C, p.1 ≤ b) → updAll C L = C ++ L
  | [], C, b, h, hC => by simp [updAll]
  | p :: L, C, b, h, hC => by
    obtain ⟨h1, -, -, h2⟩ := h
    have hn := (lk_none (L := C) (x := p.1) (fun q hq => by have := hC q hq; omega)).2.1 p.2
    show updAll (upd C p.1 p.2) L = _
    rw [hn, updAll_app L _ p.1 h2 (fun q hq => ?_)]
    · simp
    · rcases List.mem_append.1 hq with hq | hq
      · have := hC q hq; omega
      · rw [List.mem_singleton.1 hq]; exact Nat.le_refl _
theorem textR_bad {r : RdS} (h : r.bad = true) : (textR r).2.bad = true := by unfold textR; simp [h]
theorem str_nil {l : List UInt8} : (str l).size = 0 ↔ l = [] := by
  constructor
  · intro h; exact List.eq_nil_of_length_eq_zero h
  · rintro rfl; rfl
theorem readL_eq (s : ByteArray) : readL s = refL s := by
  unfold readL refL begR
  obtain ⟨l, hl⟩ : ∃ l, s.data.toList = l := ⟨_, rfl⟩
  have hn : numR ⟨s, false⟩ = ((Cod.rnum l).1, ⟨str (Cod.rnum l).2.1, decide ((Cod.rnum l).2.2 ≠ 0)⟩) := by unfold numR; rw [hl]; simp
  rw [hn, hl]
  have hn2 : numR ⟨str (Cod.rnum l).2.1, decide ((Cod.rnum l).2.2 ≠ 0)⟩ = ((Cod.rnum (Cod.rnum l).2.1).1, ⟨str (Cod.rnum (Cod.rnum l).2.1).2.1, decide ((Cod.rnum l).2.2 ≠ 0) || decide ((Cod.rnum (Cod.rnum l).2.1).2.2 ≠ 0)⟩) := rfl
  simp only
  rw [hn2]
  simp only
  by_cases h1 : (Cod.rnum l).2.2 ≠ 0
  · rw [if_pos h1, show (decide ((Cod.rnum l).2.2 ≠ 0) || decide ((Cod.rnum (Cod.rnum l).2.1).2.2 ≠ 0)) = true by simp [h1], roundsR_bad rfl]
    unfold endR
    rw [if_neg (fun h => by have := textR_bad (r := ⟨str (Cod.rnum (Cod.rnum l).2.1).2.1, true⟩) rfl; rw [this] at h; exact absurd h.1 (by decide))]
  · rw [if_neg h1]
    by_cases h2 : (Cod.rnum (Cod.rnum l).2.1).2.2 ≠ 0
    · rw [if_pos h2, show (decide ((Cod.rnum l).2.2 ≠ 0) || decide ((Cod.rnum (Cod.rnum l).2.1).2.2 ≠ 0)) = true by simp [h2], roundsR_bad rfl]
      unfold endR
      rw [if_neg (fun h => by have := textR_bad (r := ⟨str (Cod.rnum (Cod.rnum l).2.1).2.1, true⟩) rfl; rw [this] at h; exact absurd h.1 (by decide))]
    · rw [if_neg h2, show (decide ((Cod.rnum l).2.2 ≠ 0) || decide ((Cod.rnum (Cod.rnum l).2.1).2.2 ≠ 0)) = false by
        have a1 : (Cod.rnum l).2.2 = 0 := by omega
        have a2 : (Cod.rnum (Cod.rnum l).2.1).2.2 = 0 := by omega
        simp [a1, a2]]
      have hr := rounds_are (Cod.rnum (Cod.rnum l).2.1).1 (Cod.rnum (Cod.rnum l).2.1).2.1 0 []
      cases hc : cliR (Cod.rnum (Cod.rnum l).2.1).1 (Cod.rnum (Cod.rnum l).2.1).2.1 0 with
      | none =>
        rw [hc] at hr
        unfold endR
        rw [if_neg (fun h => by rw [textR_bad hr] at h; exact absurd h.1 (by decide))]
      | some p =>
        obtain ⟨C, r⟩ := p
        rw [hc] at hr
        obtain ⟨b', hr⟩ := hr
        rw [hr]
        obtain ⟨hi, -⟩ := cliR_rises _ _ _ _ _ hc
        rw [updAll_app C [] 0 hi (fun p hp => by simp at hp), List.nil_append]
        unfold endR endL
        have ht : textR ⟨str r, false⟩ = (str (Cod.rtext r).1, ⟨str (Cod.rtext r).2.1, decide ((Cod.rtext r).2.2 ≠ 0)⟩) := by unfold textR; simp
        simp only
        rw [ht]
        simp only
        by_cases e1 : (Cod.rtext r).2.2 = 0
        · by_cases e2 : (Cod.rtext r).2.1 = []
          · have e3 : (str (Cod.rtext r).2.1).size = 0 := str_nil.2 e2
            by_cases e4 : okS (str (Cod.rtext r).1) = true
            · rw [if_pos ⟨by simp [e1], e3, e4⟩, if_pos ⟨e1, e2, e4⟩]
            · rw [if_neg (fun h => e4 h.2.2), if_neg (fun h => e4 h.2.2)]
          · rw [if_neg (fun h => e2 (str_nil.1 h.2.1)), if_neg (fun h => e2 h.2.1)]
        · rw [if_neg (fun h => by have := h.1; simp [e1] at this), if_neg (fun h => e1 h.1)]

/-! ### The bytes of a loop -/
def cliB (C : List (Nat × Last)) : List UInt8 := C.flatMap fun p => Cod.num p.1 ++ Cod.num p.2.1 ++ Cod.text p.2.2.data.toList
/-- A loop's bytes, its clients rising. -/
def loopB (m : LoopM) : List UInt8 := Cod.num m.index ++ Cod.num m.clients.length ++ cliB m.clients ++ Cod.text m.state.data.toList
theorem cliR_back : ∀ (n : Nat) (l : List UInt8) (b : Nat) (C : List (Nat × Last)) (r : List UInt8), cliR n l b = some (C, r) → cliB C ++ r = l
  | 0, l, b, C, r, h => by
    simp only [cliR, Option.some.injEq, Prod.mk.injEq] at h
    obtain ⟨rfl, rfl⟩ := h
    rfl
  | n + 1, l, b, C, r, h => by
    unfold cliR at h
    split at h
    · cases h
    · rename_i h1
      split at h
      · cases h
      · rename_i h2
        split at h
        · cases h
        · rename_i h3
          obtain ⟨⟨C', r'⟩, h4, h5⟩ := Option.map_eq_some_iff.1 h
          simp only [Prod.mk.injEq] at h5
          obtain ⟨rfl, rfl⟩ := h5
          have i1 := cliR_back n _ _ _ _ h4
          have a1 := Cod.rnum_form1 l (by omega)
          have a2 := Cod.rnum_form1 (Cod.rnum l).2.1 (by omega)
          have a3 := Cod.rtext_form1 (Cod.rnum (Cod.rnum l).2.1).2.1 (by omega)
          show (Cod.num _ ++ Cod.num _ ++ Cod.text (str _).data.toList) ++ cliB C' ++ r' = l
          rw [List.append_assoc, i1]
          have : (str (Cod.rtext (Cod.rnum (Cod.rnum l).2.1).2.1).1).data.toList = (Cod.rtext (Cod.rnum (Cod.rnum l).2.1).2.1).1 := rfl
          rw [this, List.append_assoc, a3, List.append_assoc, a2, a1]
theorem refL_back {s : ByteArray} {m : LoopM} (h : refL s = some m) : str (loopB m) = s ∧ risesR 0 m.clients ∧ m.index < 18446744073709551616 := by
  unfold refL at h
  obtain ⟨l, hl⟩ : ∃ l, s.data.toList = l := ⟨_, rfl⟩
  have hs : s = str l := by rw [← hl]
  rw [hl] at h
  split at h
  · cases h
  · rename_i h1
    split at h
    · cases h
    · rename_i h2
      cases hc : cliR (Cod.rnum (Cod.rnum l).2.1).1 (Cod.rnum (Cod.rnum l).2.1).2.1 0 with
      | none => rw [hc] at h; cases h
      | some p =>
        obtain ⟨C, r⟩ := p
        rw [hc] at h
        unfold endL at h
        simp only at h
        split at h
        · rename_i h3
          obtain rfl := Option.some.inj h
          have a1 := Cod.rnum_form1 l (by omega)
          have a2 := Cod.rnum_form1 (Cod.rnum l).2.1 (by omega)
          have a3 := Cod.rtext_form1 r h3.1
          rw [h3.2.1, List.append_nil] at a3
          have a4 := cliR_back _ _ _ _ _ hc
          obtain ⟨i1, i2⟩ := cliR_rises _ _ _ _ _ hc
          refine ⟨?_, i1, rnum_lt _⟩
          rw [hs]
          unfold loopB
          simp only
          rw [i2]
          rw [a3, List.append_assoc, a4, List.append_assoc, a2, a1]
        · cases h
end Go.Proofs.Ytcaemfogknaioaa
