/- Walks: Len, Peek, Draw, Tick, New. -/
import Derived.Test.YtpgioccbnkcjcaaN1
namespace Go.Proofs.Ytpgioccbnkcjcaa
open Go.RowKit Mk

theorem NetRep.look {w : World} {b r : Nat} {mb : MB} {L : List (Lnk × Value)} {F : Nat → Prop} {n : NetM} (h : NetRep w b r mb L F n) {x : Lnk} (hx : lok x) :
    ∃ ao c, (Instr.lookup 64 (.map (some r)) (lkv x) false).run Try.prog w = .ok (.slice ao (q n.l x).length c) w ∧ sl w 9 1 (.slice ao (q n.l x).length c) (q n.l x).length ((q n.l x).map .string) ∧ (lk L x).getD (.slice none 0 0) = .slice ao (q n.l x).length c := by
  have hr := run_lookup lkeys Try.underlying64 (Try.zeroValue73 w) h.map hx false
  simp only [if_neg (show ¬ (false = true) by decide)] at hr
  cases hk : lk L x with
  | none =>
    have h0 := h.gone x hk
    rw [hk] at hr
    refine ⟨none, 0, ?_, ?_, ?_⟩
    · rw [h0]; simpa using hr
    · rw [h0]; exact sl_nil _ _ _
    · rw [h0]; simp
  | some v =>
    rw [hk] at hr
    have hs := h.rows _ (lk_mem hk)
    simp only at hs
    have hv : ∃ ao c, v = .slice ao (q n.l x).length c := by
      rcases hs.2 with ⟨e, e0⟩ | ⟨g, cap, cur, e, _⟩
      · exact ⟨none, 0, by rw [e, e0]⟩
      · exact ⟨_, _, e⟩
    obtain ⟨ao, c, rfl⟩ := hv
    exact ⟨ao, c, hr, hs, by simp⟩

theorem NetRep.cell0 {w : World} {b r : Nat} {mb : MB} {L : List (Lnk × Value)} {F : Nat → Prop} {n : NetM} (h : NetRep w b r mb L F n) : w.cell? ⟨b, 0, none⟩ = some (.map (some r)) := cell_of h.net (by simp)
theorem NetRep.cell2 {w : World} {b r : Nat} {mb : MB} {L : List (Lnk × Value)} {F : Nat → Prop} {n : NetM} (h : NetRep w b r mb L F n) : w.cell? ⟨b, 2, none⟩ = some (.int .i64 n.l.length) := cell_of h.net (by simp)
theorem lok_of {a b : Int} (ha : i64 a) (hb : i64 b) : lok (a, b) := ⟨i64_wf ha, i64_wf hb⟩

theorem len_any {w : World} {b r : Nat} {mb : MB} {L : List (Lnk × Value)} {F : Nat → Prop} {n : NetM} (h : NetRep w b r mb L F n) (i k : Int) (hi : i64 i) (hk : i64 k) :
    Calls Try.prog 25 #[.pointer (some ⟨b, 0, none⟩), .int .i64 i, .int .i64 k] w fun e w' => e = .returned (.int .i64 (q n.l (i, k)).length) ∧ w' = w := by
  obtain ⟨ao, c, hl, -, -⟩ := h.look (lok_of hi hk)
  have hc0 := h.cell0
  unfold lkv at hl
  simp only at hl
  generalize (q n.l (i, k)).length = m at *
  clear h hi hk
  go_enter Try.func25, Try.ntmps25
  go_wp2
  go_ret
  exact ⟨rfl, rfl⟩

/-- What Peek says of a link. -/
def peekM (n : NetM) (a b i : Int) : ByteArray × Int :=
  if may n.ms.length a && may n.ms.length b then (if i < 0 ∨ (q n.l (a, b)).length ≤ i then (⟨#[]⟩, 5) else ((q n.l (a, b)).getD i.toNat ⟨#[]⟩, 0)) else (⟨#[]⟩, 2)

set_option maxRecDepth 20000 in
theorem peek_any {w : World} {b r : Nat} {mb : MB} {L : List (Lnk × Value)} {F : Nat → Prop} {n : NetM} (h : NetRep w b r mb L F n) (i k j : Int) (hi : i64 i) (hk : i64 k) (hj : i64 j) :
    Calls Try.prog 15 #[.pointer (some ⟨b, 0, none⟩), .int .i64 i, .int .i64 k, .int .i64 j] w fun e w' => e = .returned (.tuple #[.string (peekM n i k j).1, .int .i64 (peekM n i k j).2]) ∧ w' = w := by
  obtain ⟨ao, c, hl, hs, -⟩ := h.look (lok_of hi hk)
  have hc0 := h.cell0
  have A := Lib.hid (between_any h.net i k hi hk)
  unfold lkv at hl
  simp only at hl
  obtain ⟨E, HE⟩ : ∃ E, Hid (E = (peekM n i k j).1) := ⟨_, Lib.hid rfl⟩
  obtain ⟨E2, HE2⟩ : ∃ E, Hid (E = (peekM n i k j).2) := ⟨_, Lib.hid rfl⟩
  rw [← HE.out, ← HE2.out]
  have HS := Lib.hid hs
  have hj1 := hj.1
  have hj2 := hj.2
  clear h hi hk hj hs
  go_enter Try.func15, Try.ntmps15
  go_wp2_with fail
  refine A.out.mono ?_
  rintro e w' ⟨rfl, rfl⟩
  cases hm : (may n.ms.length i && may n.ms.length k)
  · have K1 := Lib.hid (show E = ⟨#[]⟩ by rw [HE.out]; simp [peekM, hm])
    have K2 := Lib.hid (show E2 = 2 by rw [HE2.out]; simp [peekM, hm])
    clear hm
    go_wp2
    go_ret2
    exact ⟨by rw [K1.out, K2.out]; rfl, rfl⟩
  · by_cases h0 : j < 0
    · have K1 := Lib.hid (show E = ⟨#[]⟩ by rw [HE.out]; simp [peekM, hm, h0])
      have K2 := Lib.hid (show E2 = 5 by rw [HE2.out]; simp [peekM, hm, h0])
      have h0' : decide (j < 0) = true := by simpa using h0
      clear hm
      go_wp2
      go_ret2
      exact ⟨by rw [K1.out, K2.out]; rfl, rfl⟩
    · have h0' : decide (j < 0) = false := by simpa using h0
      obtain ⟨m, HM⟩ : ∃ m, Hid ((q n.l (i, k)).length = m) := ⟨_, Lib.hid rfl⟩
      by_cases h1 : (m : Int) ≤ j
      · have h1' : decide ((m : Int) ≤ j) = true := by simpa using h1
        have K1 := Lib.hid (show E = ⟨#[]⟩ by rw [HE.out]; simp [peekM, hm, h0, HM.out, h1])
        have K2 := Lib.hid (show E2 = 5 by rw [HE2.out]; simp [peekM, hm, h0, HM.out, h1])
        rw [HM.out] at hl
        clear hm
        go_wp2
        go_ret2
        exact ⟨by rw [K1.out, K2.out]; rfl, rfl⟩
      · have h1' : decide ((m : Int) ≤ j) = false := by simpa using h1
        obtain ⟨u, rfl⟩ : ∃ u : Nat, j = u := ⟨j.toNat, by omega⟩
        have hu : u < (q n.l (i, k)).length := by rw [HM.out]; omega
        have K1 := Lib.hid (show E = (q n.l (i, k))[u] by rw [HE.out]; unfold peekM; rw [if_pos hm, if_neg (by have := HM.out; omega)]; simp [List.getD, hu])
        have K2 := Lib.hid (show E2 = 0 by rw [HE2.out]; unfold peekM; rw [if_pos hm, if_neg (by have := HM.out; omega)])
        obtain ⟨g, cap, hv, hc⟩ := HS.out.cell (i := u) (u := .string (q n.l (i, k))[u]) (by simp [hu])
        rw [hv, HM.out] at hl
        generalize (q n.l (i, k))[u] = s at *
        have hb0 : (0 : Int) ≤ u := by omega
        have hb1 : (u : Int) < m := by omega
        clear hm hu hv h0 h1
        go_wp2
        go_ret2
        exact ⟨by rw [K1.out, K2.out]; rfl, rfl⟩

/-- A machine behind a tick, a draw. -/
def gold : Nat := 11400714819323198485
def u64 (x : Nat) : Nat := x % 18446744073709551616
end Go.Proofs.Ytpgioccbnkcjcaa
