/- does: Part; any call. -/
import Derived.Test.YtpgioccbnkcjcaaQ6
namespace Go.Proofs.Ytpgioccbnkcjcaa
open Go.RowKit Mk
theorem Two.fin_ba' {w0 w1 w1' w2 : World} {b x : Nat} {Fa Fb : Nat → Prop} {n n' : NetM} (T : Two w0 b x Fa Fb n) (hB : RefIs w1 x (fun g => Fb g ∨ w0.heap.size ≤ g) n') (cB : Chg Fb w0 w1) (c1 : Chg (fun _ => False) w1 w1') (hA : NetIs w2 b Fa n') (cA : Chg Fa w1' w2) (lim : ∀ m ∈ n'.ms, m.draws < 18446744073709551616) : TwoP w0 b x Fa Fb w2 := by
  have hsz : w1.heap.size ≤ w1'.heap.size := c1.size
  refine ⟨⟨fun g => Fa g ∧ g < w0.heap.size, fun g => (Fb g ∨ w0.heap.size ≤ g) ∧ g < w1.heap.size, n', ⟨?_, ?_, ?_, ?_, lim⟩, fun g hg => Or.inl hg.1, fun g hg => hg.1⟩, ?_⟩
  · exact hA.wide (fun g hg => ⟨hg, T.lt g (Or.inl hg)⟩)
  · refine ((hB.tight).stay c1 (fun _ _ f => f)).stay cA (fun g hg f => ?_)
    rcases hg.1 with h | h
    · exact T.sep g f h
    · have := T.lt g (Or.inl f); omega
  · rintro g ⟨h1, h2⟩ ⟨h3, h4⟩
    rcases h3 with h3 | h3
    · exact T.sep g h1 h3
    · omega
  · rintro g (⟨_, h⟩ | ⟨_, h⟩)
    · have := cB.size; have := cA.size; omega
    · have := cA.size; omega
  · exact ((cB.mono (fun _ => Or.inr)).trans (c1.mono (fun _ f => f.elim))).trans (cA.mono (fun _ => Or.inl))
theorem ints_src {w : World} {so : Option Addr} {xs : List Int} {ls : Nat} (h : IntsAt w so xs) (hl : xs.length = ls) : 0 < ls → ∃ a, so = some a ∧ ∀ j u, (xs.map fun v => Value.int .i64 v)[j]? = some u → w.cell? (a.add j) = some u := by
  intro h0
  obtain ⟨g, o, e, _, _⟩ := h.cell 0 (by omega)
  refine ⟨_, e, fun j u hj => ?_⟩
  have hjl : j < xs.length := by have := (List.getElem?_eq_some_iff.1 hj).1; simpa using this
  rw [List.getElem?_map, List.getElem?_eq_getElem hjl] at hj
  cases hj
  obtain ⟨g2, o2, e2, _, hc⟩ := h.cell j hjl
  rw [e] at e2
  cases e2
  rw [Addr.add_mid]
  exact hc
theorem ints_one (xs : List Int) : ∀ u ∈ xs.map (fun v => Value.int .i64 v), u.oneCell' = true := by
  intro u hu
  obtain ⟨m, _, rfl⟩ := List.mem_map.1 hu
  rfl
theorem ints_of_sl {w : World} {lo : Option Addr} {ls lc : Nat} {xs : List Int} (h : sl w 3 1 (.slice lo ls lc) ls (xs.map fun v => Value.int .i64 v)) (hl : xs.length = ls) (hok : ∀ v ∈ xs, i64 v) (hlen : xs.length ≤ 9223372036854775807) : IntsAt w lo xs := by
  refine ⟨hok, hlen, fun i hi => ?_⟩
  obtain ⟨g, cap, e, hc⟩ := h.cell (i := i) (u := .int .i64 xs[i]) (by rw [List.getElem?_map, List.getElem?_eq_getElem hi]; rfl)
  simp only [Value.slice.injEq] at e
  refine ⟨g, 0, e.1, h.lt (g := g) (by rw [e.1]; rfl), ?_⟩
  rw [Nat.zero_add]
  exact hc
theorem nil_sl (w : World) : sl w 3 1 (.slice none 0 0) 0 [] := sl_nil w 3 1
section
variable {w : World} {b x : Nat} {Fa Fb : Nat → Prop} {n : NetM} {xa xb xn : Int} {xt : ByteArray} {so : Option Addr} {ls sc : Nat}
set_option maxRecDepth 100000 in
set_option maxHeartbeats 4000000 in
theorem does_5 (T : Two w b x Fa Fb n) (ha : i64 xa) (hb : i64 xb) (hn : i64 xn) {xs : List Int} (hl : xs.length = ls) (hI : IntsAt w so xs) (hz : so = none → sc = 0) (hby : ls * 8 ≤ reachBytes) (hsep : ∀ g o, so = some ⟨g, o, none⟩ → 0 < xs.length → ¬ Fa g ∧ ¬ Fb g) :
    Calls Try.prog 21 #[.pointer (some ⟨b, 0, none⟩), .pointer (some ⟨x, 0, none⟩), stepArg 5 xa xb xn xt so ls sc] w fun e w' => e = .returned (.bool true) ∧ TwoP w b x Fa Fb w' := by
  obtain ⟨W0, HW0⟩ : ∃ W0, Hid (w.alloc (.cells #[.int .i64 5, .int .i64 xa, .int .i64 xb, .int .i64 xn, .string xt, .slice so ls sc] 35) = W0) := ⟨_, Lib.hid rfl⟩
  obtain ⟨kb, HKB⟩ : ∃ kb, Hid (w.heap.size = kb) := ⟨_, Lib.hid rfl⟩
  have HC0 : Hid (Chg (fun _ => False) w W0) := by rw [← HW0.out]; exact Lib.hid ((Chg.refl _ _).alloc _)
  have T0 := Lib.hid (T.same HC0.out)
  have hkc : W0.heap[kb]? = some (.cells #[.int .i64 5, .int .i64 xa, .int .i64 xb, .int .i64 xn, .string xt, .slice so ls sc] 35) := by rw [← HW0.out, ← HKB.out]; exact Go.heap_alloc_new _ _
  have HKC := Lib.hid hkc
  have HKL := Lib.hid (Array.getElem?_eq_some_iff.1 hkc).1
  have HKA : Hid (¬ Fa kb) := Lib.hid (fun f => by have := T.lt kb (Or.inl f); have := HKB.out; omega)
  have HKF : Hid (¬ Fb kb) := Lib.hid (fun f => by have := T.lt kb (Or.inr f); have := HKB.out; omega)
  have k5 : W0.cell? ⟨kb, 5, none⟩ = some (.slice so ls sc) := cell_of hkc rfl
  clear hkc
  obtain ⟨ie, ze, hie, hze, hsze, hbye, hzse⟩ := info3b
  obtain ⟨n', hn'⟩ : ∃ n', (partM n xs).1 = n' := ⟨_, rfl⟩
  obtain ⟨c, hc⟩ : ∃ c, (partM n xs).2 = c := ⟨_, rfl⟩
  have AA := Lib.hid (fun (v : World) (cg : Chg Fb W0 v) (lo : Option Addr) (lc : Nat) (hI : IntsAt v lo xs) (hn : ∀ g o, lo = some ⟨g, o, none⟩ → 0 < xs.length → W0.heap.size ≤ g) => show Calls Try.prog 18 #[.pointer (some ⟨b, 0, none⟩), .slice lo ls lc] v _ from by
    obtain ⟨r, mb, L, hR⟩ := T0.out.a.stay cg (fun g f f' => T0.out.sep g f f')
    have := part_any hR (so := lo) (sc := lc) hI (fun g o e h0 f => by have := hn g o e h0; have := T0.out.lt g (Or.inl f); omega) (fun g f => Nat.lt_of_lt_of_le (T0.out.lt g (Or.inl f)) cg.size)
    rw [hl] at this
    exact this.mono (fun e w' h => show _ ∧ NetIs w' b Fa (partM n xs).1 ∧ Chg Fa v w' from ⟨h.1, ⟨r, mb, L, h.2.1⟩, h.2.2⟩))
  have IW : Hid (IntsAt W0 so xs) := Lib.hid (hI.keep (fun g o e h0 => HC0.out.block g (by obtain ⟨g2, o2, e2, h2, _⟩ := hI.cell 0 h0; rw [e] at e2; cases e2; exact h2) (fun f => f)) HC0.out.size)
  have IK := Lib.hid (fun (G : Nat → Prop) (v : World) (cg : Chg G W0 v) (hG : ∀ g, G g → Fa g ∨ Fb g) => show IntsAt v so xs from IW.out.keep (fun g o e h0 => cg.block g (by obtain ⟨g2, o2, e2, h2, _⟩ := IW.out.cell 0 h0; rw [e] at e2; cases e2; exact h2) (fun f => by have := hsep g o e h0; rcases hG g f with f | f; exact this.1 f; exact this.2 f)) cg.size)
  have BB := Lib.hid (fun (v : World) (cg : Chg Fa W0 v) => show Calls Try.prog 39 #[.pointer (some ⟨x, 0, none⟩), .slice so ls sc] v _ from by
    obtain ⟨R, hR⟩ := T0.out.r.stay cg (fun g f f' => T0.out.sep g f' f)
    have := rpart_any hR (so := so) (sc := sc) (IK.out Fa v cg (fun g => Or.inl)) (fun g o e h0 => (hsep g o e h0).2)
    rw [hl] at this
    exact this)
  simp only [hn', hc] at AA BB
  have HLM : Hid (∀ m ∈ n'.ms, m.draws < 18446744073709551616) := by rw [← hn']; exact Lib.hid (lim_part T.lim xs)
  have HLX : Hid ((xs.map fun v => Value.int .i64 v).length = ls * 1) := Lib.hid (by simp [hl])
  have HL := Lib.hid hl
  have HZ := Lib.hid hz
  have HOK := Lib.hid hI.ok
  have HLN := Lib.hid hI.len
  have hby2 : ls * 8 ≤ 140737488355328 := Nat.le_trans hby (by decide)
  have z1 := HKA.out
  have z2 := HKF.out
  clear T ha hb hn hn' hc hI hz hby hsep hl
  go_enter Try.func21, Try.ntmps21
  go_wp2_with fail
  rw [HW0.out, HKB.out]
  go_region_held3 (fun v => v.cell? ⟨kb, 5, none⟩ = some (.slice so ls sc)) (first | go_keep | assumption) (first | (refine step_append_sl (by rfl) _ _ 33 (by rfl) 3 ie ze 1 8 Try.underlying33 hie hze hsze hbye hzse (by decide) (.slice none 0 0) 0 [] (by rfl) (nil_sl _) so ls sc (xs.map fun v => Value.int .i64 v) (by rfl) HLX.out (ints_src (IK.out Fb w1 hcB (fun g => Or.inr)) HL.out) (fun _ => HZ.out) (ints_one xs) (by simp only [maxLen]; omega) (by omega) ?_; intro v' w2 hsl hgrow hat; rw [Nat.zero_add, List.nil_append] at hsl; obtain ⟨lo2, lc2, rfl, hz2⟩ := sl_shape hsl; have hP : Chg (fun _ => False) w1 w2 := (Chg.refl _ w1).grown hgrow (fun i hi => by simp [Value.ownBlock] at hi); have hI := Lib.hid (ints_of_sl hsl HL.out HOK.out HLN.out); have hNw : Hid (∀ g o, lo2 = some ⟨g, o, none⟩ → 0 < xs.length → W0.heap.size ≤ g) := Lib.hid (fun g o e h0 => by subst e; rcases hat with e' | e'; simp [Value.ownBlock] at e'; simp [Value.ownBlock] at e'; have := hcB.size; omega); have q5 := (World.cell?_of_block (a := ⟨kb, 5, none⟩) (hP.block kb (Nat.lt_of_lt_of_le HKL.out hcB.size) (fun f => f))).trans p5; clear hsl hgrow hat hz2) | (refine step_append_sl (by rfl) _ _ 33 (by rfl) 3 ie ze 1 8 Try.underlying33 hie hze hsze hbye hzse (by decide) (.slice none 0 0) 0 [] (by rfl) (nil_sl _) so ls sc (xs.map fun v => Value.int .i64 v) (by rfl) HLX.out (ints_src (IK.out (fun _ => False) W0.drew (Chg.refl _ W0).drew (fun g f => f.elim)) HL.out) (fun _ => HZ.out) (ints_one xs) (by simp only [maxLen]; omega) (by omega) ?_; intro v' w1 hsl hgrow hat; rw [Nat.zero_add, List.nil_append] at hsl; obtain ⟨lo2, lc2, rfl, hz2⟩ := sl_shape hsl; have hP : Chg (fun _ => False) W0 w1 := ((Chg.refl _ W0).drew).grown hgrow (fun i hi => by simp [Value.ownBlock] at hi); have hI := Lib.hid (ints_of_sl hsl HL.out HOK.out HLN.out); have hNw : Hid (∀ g o, lo2 = some ⟨g, o, none⟩ → 0 < xs.length → W0.heap.size ≤ g) := Lib.hid (fun g o e h0 => by subst e; rcases hat with e' | e'; simp [Value.ownBlock] at e'; simp [Value.ownBlock] at e'; omega); have p5 := (World.cell?_of_block (a := ⟨kb, 5, none⟩) (hP.block kb HKL.out (fun f => f))).trans k5; clear hsl hgrow hat hz2) | (go_at_call 39; with_reducible refine (BB.out _ ((hP.mono (fun _ f => f.elim)).trans hcA)).mono ?_; rintro e w3 ⟨rfl, hB, hcB⟩; have r5 := (World.cell?_of_block (a := ⟨kb, 5, none⟩) (hcB.block kb (Nat.lt_of_lt_of_le HKL.out (Nat.le_trans hP.size hcA.size)) z2)).trans q5) | (go_at_call 39; with_reducible refine (BB.out _ (hP.mono (fun _ f => f.elim))).mono ?_; rintro e w2 ⟨rfl, hB, hcB⟩; have hCG := (hP.mono (G := Fb) (fun _ f => f.elim)).trans hcB; have hI2 : Hid (IntsAt w2 lo2 xs) := Lib.hid (hI.out.keep (fun g o e h0 => hcB.block g (by obtain ⟨g2, o2, e2, h2, _⟩ := hI.out.cell 0 h0; rw [e] at e2; cases e2; exact h2) (fun f => by have := hNw.out g o e h0; have := T0.out.lt g (Or.inr f); omega)) hcB.size); have q5 := (World.cell?_of_block (a := ⟨kb, 5, none⟩) (hcB.block kb (Nat.lt_of_lt_of_le HKL.out hP.size) z2)).trans p5) | (go_at_call 39; with_reducible refine (BB.out _ (Chg.refl Fa W0).drew).mono ?_; rintro e w1 ⟨rfl, hB, hcB0⟩; have hcB := ((Chg.refl Fb W0).drew).trans hcB0; have p5 := (World.cell?_of_block (a := ⟨kb, 5, none⟩) (hcB.block kb HKL.out z2)).trans k5) | (go_at_call 18; with_reducible refine (AA.out _ hCG _ _ hI2.out hNw.out).mono ?_; rintro e w3 ⟨rfl, hA, hcA⟩; have r5 := (World.cell?_of_block (a := ⟨kb, 5, none⟩) (hcA.block kb (Nat.lt_of_lt_of_le HKL.out hCG.size) z1)).trans q5) | (go_at_call 18; with_reducible refine (AA.out _ (hcB.trans (hP.mono (fun _ f => f.elim))) _ _ hI.out hNw.out).mono ?_; rintro e w3 ⟨rfl, hA, hcA⟩; have r5 := (World.cell?_of_block (a := ⟨kb, 5, none⟩) (hcA.block kb (Nat.lt_of_lt_of_le HKL.out (Nat.le_trans hcB.size hP.size)) z1)).trans q5) | (go_at_call 18; with_reducible refine (AA.out _ (hP.mono (fun _ f => f.elim)) _ _ hI.out hNw.out).mono ?_; rintro e w2 ⟨rfl, hA, hcA⟩; have q5 := (World.cell?_of_block (a := ⟨kb, 5, none⟩) (hcA.block kb (Nat.lt_of_lt_of_le HKL.out hP.size) z1)).trans p5))
  all_goals
    have HF : Hid (TwoP W0 b x Fa Fb w3) := Lib.hid (by first | exact (T0.out.fin_ba' hB hcB hP hA hcA HLM.out) | exact ((T0.out.same hP).fin_ba' hB hcB (Chg.refl _ _) hA hcA HLM.out).pre hP | exact ((T0.out.same hP).fin_ab (hA.wide (fun _ => Or.inl)) hcA (Chg.refl _ _) hB hcB HLM.out).pre hP)
    clear hA hB hcA hcB hP
    go_wp2
    go_ret
    exact ⟨rfl, HF.out.pre HC0.out⟩
theorem does_any (T : Two w b x Fa Fb n) {xd : Int} (ha : i64 xa) (hb : i64 xb) (hn : i64 xn) {xs : List Int} (hl : xs.length = ls) (hI : IntsAt w so xs) (hz : so = none → sc = 0) (hby : ls * 8 ≤ reachBytes) (hsep : ∀ g o, so = some ⟨g, o, none⟩ → 0 < xs.length → ¬ Fa g ∧ ¬ Fb g) :
    Calls Try.prog 21 #[.pointer (some ⟨b, 0, none⟩), .pointer (some ⟨x, 0, none⟩), stepArg xd xa xb xn xt so ls sc] w fun e w' => e = .returned (.bool true) ∧ TwoP w b x Fa Fb w' := by
  by_cases h0 : xd = 0
  · subst h0; exact does_0 T ha hb hn
  by_cases h1 : xd = 1
  · subst h1; exact does_1 T ha hb hn
  by_cases h2 : xd = 2
  · subst h2; exact does_2 T ha hb hn
  by_cases h3 : xd = 3
  · subst h3; exact does_3 T ha hb hn
  by_cases h4 : xd = 4
  · subst h4; exact does_4 T ha hb hn
  by_cases h5 : xd = 5
  · subst h5; exact does_5 T ha hb hn hl hI hz hby hsep
  by_cases h6 : xd = 6
  · subst h6; exact does_6 T ha hb hn
  by_cases h7 : xd = 7
  · subst h7; exact does_7 T ha hb hn
  exact does_else T ha hb hn h0 h1 h2 h3 h4 h5 h6 h7
end
end Go.Proofs.Ytpgioccbnkcjcaa
