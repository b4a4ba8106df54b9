/- Walks: Draw. -/
import Derived.Test.YtpgioccbnkcjcaaN3
namespace Go.Proofs.Ytpgioccbnkcjcaa
open Go.RowKit Mk

/-- The number that a state tells. -/
def mixI (t : Int) : Int :=
  bits .xor .u64 (IntKind.u64.wrap (bits .xor .u64 (IntKind.u64.wrap (bits .xor .u64 t (t / 1073741824) * 13787848793156543929)) (IntKind.u64.wrap (bits .xor .u64 t (t / 1073741824) * 13787848793156543929) / 134217728) * 10723151780598845931))
    (IntKind.u64.wrap (bits .xor .u64 (IntKind.u64.wrap (bits .xor .u64 t (t / 1073741824) * 13787848793156543929)) (IntKind.u64.wrap (bits .xor .u64 t (t / 1073741824) * 13787848793156543929) / 134217728) * 10723151780598845931) / 2147483648)
def toldM (t k : Int) : Int := wrap64 ((mixI t).tmod k)

def drawM (n : NetM) (i k : Int) : NetM × Int × Int := match may n.ms.length i, n.ms[(i - 1).toNat]? with
  | true, some m => if k < 1 then (n, 0, 2) else (setM n (i - 1).toNat { m with draws := u64 (m.draws + gold) }, toldM (u64 (m.draws + gold)) k, 0)
  | _, _ => (n, 0, 2)

theorem drawM_out {n : NetM} {i k : Int} (h : may n.ms.length i = false) : drawM n i k = (n, 0, 2) := by simp [drawM, h]
theorem drawM_in {n : NetM} {j : Nat} (hj : j < n.ms.length) (k : Int) : drawM n ((j : Int) + 1) k = if k < 1 then (n, 0, 2) else (setM n j { n.ms[j] with draws := u64 (n.ms[j].draws + gold) }, toldM (u64 (n.ms[j].draws + gold)) k, 0) := by
  have : may n.ms.length ((j : Int) + 1) = true := by simp [may]; omega
  simp [drawM, this, hj]

theorem draw_any {w : World} {b r : Nat} {mb : MB} {L : List (Lnk × Value)} {F : Nat → Prop} {n : NetM} (h : NetRep w b r mb L F n) (i k : Int) (hi : i64 i) (hk : i64 k) (hd : ∀ m ∈ n.ms, m.draws < 18446744073709551616) :
    Calls Try.prog 13 #[.pointer (some ⟨b, 0, none⟩), .int .i64 i, .int .i64 k] w fun e w' => e = .returned (.tuple #[.int .i64 (drawM n i k).2.1, .int .i64 (drawM n i k).2.2]) ∧ NetRep w' b r mb L F (drawM n i k).1 ∧ Chg F w w' := by
  have A := Lib.hid (between_any h.net i i hi hi)
  have B := Lib.hid (at_any h.net i hi)
  have H := Lib.hid h
  cases hm : may n.ms.length i
  · rw [drawM_out hm]
    rw [hm] at A
    clear hi hk h hd
    go_enter Try.func13, Try.ntmps13
    go_wp2_with fail
    refine A.out.mono ?_
    rintro e w' ⟨rfl, rfl⟩
    clear hm
    go_wp2
    go_ret2
    exact ⟨rfl, H.out, Chg.refl _ _⟩
  · obtain ⟨j, hj, rfl, _, ea⟩ := atv_in (mb := mb) hm
    rw [drawM_in hj]
    rw [hm] at A
    rw [ea] at B
    by_cases h1 : k < 1
    · rw [if_pos h1]
      have h1' : decide (k < 1) = true := by simpa using h1
      clear hi hk h hm ea hd h1
      go_enter Try.func13, Try.ntmps13
      go_wp2_with fail
      refine A.out.mono ?_
      rintro e w' ⟨rfl, rfl⟩
      go_wp2
      go_ret2
      exact ⟨rfl, H.out, Chg.refl _ _⟩
    · rw [if_neg h1]
      have h1' : decide (k < 1) = false := by simpa using h1
      obtain ⟨v, rfl⟩ : ∃ v : Nat, k = v := ⟨k.toNat, by omega⟩
      have hk2 := hk.2
      have hk1 : (1 : Int) ≤ v := by omega
      have c1 := (cell_mach h.mach hj).2.1
      have f1 : w.frozen? ⟨mb, 3 * j + 1, none⟩ = false := frozen_of h.mach
      obtain ⟨t, HT⟩ : ∃ t, Hid (n.ms[j].draws = t) := ⟨_, Lib.hid rfl⟩
      have ht := hd n.ms[j] (List.getElem_mem hj)
      rw [HT.out] at c1 ht ⊢
      obtain ⟨t2, HT2⟩ : ∃ t2, Hid (u64 (t + gold) = t2) := ⟨_, Lib.hid rfl⟩
      have HT3 : IntKind.u64.wrap ((t : Int) + 11400714819323198485) = t2 := by rw [← HT2.out]; simp [u64, gold, IntKind.wrap, IntKind.bits, IntKind.signed]
      rw [HT2.out]
      clear hi hk h hm ea hd h1
      go_enter Try.func13, Try.ntmps13
      go_wp2_with fail
      refine A.out.mono ?_
      rintro e w' ⟨rfl, rfl⟩
      go_wp2_with fail
      refine B.out.mono ?_
      rintro e w' ⟨rfl, rfl⟩
      go_wp2
      go_ret2
      refine ⟨rfl, H.out.setM ?_ (fun i hi => Below.heap_setCell _ _ _ _ hi), (Chg.refl _ _).setCell (Or.inl H.out.fmb) _⟩
      rw [Mk.heap_setCell_same H.out.mach]
      rw [List.setIfInBounds_toArray, List.set_append_left _ _ (by rw [mcells_len]; omega), mcells_draws _ _ hj]
end Go.Proofs.Ytpgioccbnkcjcaa
