/- Walks: not, named, able, Used, fits. -/
import Derived.Test.YtjflkmihkfbgpaaRep
import Derived.Lib.Hide
import Derived.BigQuiet
namespace Go.Proofs.Ytjflkmihkfbgpaa
open Go.RowKit Mk

theorem run_eql_map {P : Program} (w : World) (t k e : TypeId) (p : Option Nat) (h : P.underlying t = some (.map k e)) : (binOp .eql t (.map p) (.map none)).run P w = .ok (.bool p.isNone) w := by
  have h1 : ∀ d, (Op.equalIn (d + 1) t (.map p) (.map none)).run P w = .ok p.isNone w := fun d => by cases p <;> simp [Op.equalIn, run_underlying h]
  simp only [binOp]
  simp [show Op.equal t (.map p) (.map none) = Op.equalIn (9999 + 1) t (.map p) (.map none) from rfl, h1 9999]
theorem Mk.Chg.drewN (w : World) (m : Nat) : Chg (fun _ => False) w (w.drewN m) := ⟨rfl, rfl, rfl, Nat.le_refl _, fun _ _ _ => rfl⟩

section
variable {w : World} {b r1 r2 : Nat} {v : Value} {ts : List (Value × Thing)} {F : Nat → Prop} {S : Nat} {d : DiskM}

theorem not_any (h : DiskRep w b r1 r2 v ts F S d) : Calls Try.prog 32 #[.pointer (some ⟨b, 0, none⟩)] w fun e w' => e = .returned (.bool false) ∧ w' = w := by
  have c1 := h.cells.2.1
  have hq := run_eql_map (P := Try.prog) w 54 9 9 (some r1) Try.underlying54
  clear h
  go_enter Try.func32, Try.ntmps32
  go_wp2
  go_ret
  exact ⟨rfl, rfl⟩
theorem not_nil (w : World) : Calls Try.prog 32 #[.pointer none] w fun e w' => e = .returned (.bool true) ∧ w' = w := by
  go_enter Try.func32, Try.ntmps32
  go_wp2
  go_ret
  exact ⟨rfl, rfl⟩

/-- May a file be called this? -/
def named (s : ByteArray) : Bool := decide (1 ≤ s.size) && decide (s.size ≤ 128)
theorem named_any (s : ByteArray) (w : World) : Calls Try.prog 49 #[.string s] w fun e w' => e = .returned (.bool (named s)) ∧ w' = w := by
  have h1 : decide ((1 : Int) ≤ s.size) = decide (1 ≤ s.size) := by simp; omega
  have h2 : decide ((s.size : Int) ≤ 128) = decide (s.size ≤ 128) := by simp; omega
  unfold named
  cases e1 : decide (1 ≤ s.size) <;> cases e2 : decide (s.size ≤ 128) <;> rw [e1] at h1 <;> rw [e2] at h2 <;> clear e1 e2
  all_goals
    go_enter Try.func49, Try.ntmps49
    go_wp2
    go_ret
    exact ⟨rfl, rfl⟩
theorem named_ok {s : ByteArray} (h : named s = true) : okS s := by
  simp [named] at h; unfold okS maxLen; omega

/-- What able says. -/
def ableM (there : Bool) (n : ByteArray) (L : Files) : Int := if named n = false then 2 else if there && !(lk L n).isSome then 5 else 0
def ableM2 (a b : ByteArray) (L : Files) : Int := if named a = false ∨ named b = false then 2 else if (lk L a).isSome then 0 else 5

set_option maxRecDepth 100000 in
theorem able_any (h : DiskRep w b r1 r2 v ts F S d) (there : Bool) (g : Nat) (n : ByteArray) (c1 : w.cell? ⟨g, 0, none⟩ = some (.string n)) :
    Calls Try.prog 28 #[.pointer (some ⟨b, 0, none⟩), .bool there, .slice (some ⟨g, 0, none⟩) 1 1] w fun e w' => e = .returned (.int .i64 (ableM there n d.now)) ∧ Chg (fun _ => False) w w' := by
  have A := Lib.hid (not_any h)
  have c0 := h.cells.2.1
  have N := Lib.hid (named_any n)
  have hl : okS n → ∀ m, (Instr.lookup 54 (.map (some r1)) (.string n) true).run Try.prog (w.drewN m) = _ := fun hn m => (h.now.stay (w' := w.drewN m) rfl).lookup Try.underlying54 Try.underlying9 (Try.zeroValue9 _) hn true
  have HL := Lib.hid hl
  obtain ⟨E, HE⟩ : ∃ E, Hid (E = ableM there n d.now) := ⟨_, Lib.hid rfl⟩
  rw [← HE.out]
  clear hl h
  cases hn : named n
  · have HE2 : E = 2 := by rw [HE.out]; simp [ableM, hn]
    subst HE2
    rw [hn] at N
    clear HL hn
    go_enter Try.func28, Try.ntmps28
    go_wp2_with fail
    refine A.out.mono ?_
    rintro e w' ⟨rfl, rfl⟩
    go_wp2
    refine wp_loop_rounds 2 ?_
    rw [rounds_succ]
    go_wp2_with fail
    refine (N.out _).mono ?_
    rintro e w' ⟨rfl, rfl⟩
    go_wp2
    go_ret
    exact ⟨rfl, Chg.refl _ _⟩
  · have HB : ∃ x s, byt d.now n = s ∧ (lk d.now n).isSome = x ∧ Hid (E = if there && !x then 5 else 0) := ⟨_, _, rfl, rfl, Lib.hid (by rw [HE.out]; simp [ableM, hn])⟩
    obtain ⟨x, s, e1, e2, HE2⟩ := HB
    have hl := HL.out (named_ok hn)
    simp only [e1, e2, if_true] at hl
    rw [hn] at N
    clear HL hn e1 e2 HE
    cases there <;> cases x
    all_goals
      have HE3 := HE2.out
      simp at HE3
      subst HE3
      clear HE2
      go_enter Try.func28, Try.ntmps28
      go_wp2_with fail
      refine A.out.mono ?_
      rintro e w' ⟨rfl, rfl⟩
      go_wp2
      refine wp_loop_rounds 2 ?_
      rw [rounds_succ]
      go_wp2_with fail
      refine (N.out _).mono ?_
      rintro e w' ⟨rfl, rfl⟩
      go_wp2
      rw [rounds_succ]
      go_wp2
      go_quiet (fail)
      go_wp2
      go_ret
      exact ⟨rfl, Chg.drewN _ _⟩

theorem chg_of_below {w w' : World} (h : Below w.heap.size w w') : Chg (fun _ => False) w w' := ⟨h.os, h.tape, h.output, h.size, fun i hi _ => h.block i hi⟩
theorem below_of_chg {w w' : World} (h : Chg (fun _ => False) w w') : Below w.heap.size w w' := ⟨h.os, h.tape, h.output, h.size, fun i hi => h.block i hi (fun f => f)⟩

/-- Behind some rounds of Used. -/
structure UsedAt (w : World) (r1 : Nat) (N left : Files) (n : Nat) (wr : World) : Prop where
  over : filesOver wr w.heap.size r1 N left
  sum : n + tot left = tot N
  chg : Chg (fun _ => False) w wr

set_option maxRecDepth 100000 in
theorem used_any (h : DiskRep w b r1 r2 v ts F S d) : Calls Try.prog 16 #[.pointer (some ⟨b, 0, none⟩)] w fun e w' => e = .returned (.int .i64 (tot d.now)) ∧ Chg (fun _ => False) w w' := by
  have c1 := h.cells.2.1
  have hb : tot d.now ≤ 1099511627776 := Nat.le_trans h.size.1 h.size.2.2
  obtain ⟨it, left, hrg, hp, ho⟩ := h.now.range (P := Try.prog) Try.underlying54
  have HA := Lib.hid (show UsedAt w r1 d.now left 0 (w.alloc it) from ⟨ho, by rw [tot_perm hp]; omega, (Chg.refl _ _).alloc _⟩)
  generalize d.now = N at *
  clear ho hp h
  go_enter Try.func16, Try.ntmps16
  go_wp2
  go_loopw [3] (fun s wr => ∃ (n : Nat) (left : Files), s = .int .i64 n ∧ Hid (UsedAt w r1 N left n wr)) (fun _ wr => wr.rangeLeft r1 w.heap.size)
  case atStart => exact ⟨0, left, rfl, HA⟩
  case round =>
    obtain ⟨n, left, rfl, HU⟩ := hrel
    rcases HU.out.over.next (P := Try.prog) with ⟨h0, hn⟩ | ⟨a, x, s, bb, w1, h0, hx, hn, hc, hsz, ho, hen⟩
    · have hs : n = tot N := by have := HU.out.sum; rw [h0] at this; simpa [tot] using this
      subst hs
      go_wp2
      go_ret
      exact ⟨rfl, HU.out.chg⟩
    · have HC := Lib.hid hc
      have HO := Lib.hid ho
      have hen' := hen w1 rfl rfl
      have hs2 : n + s.size ≤ tot N := by have := HU.out.sum; rw [h0] at this; simp [tot] at this ⊢; omega
      have HS := Lib.hid (show n + s.size + tot (a ++ bb) = tot N by have := HU.out.sum; rw [h0] at this; simp [tot] at this ⊢; omega)
      have H0 := Lib.hid h0
      clear hen h0 hc ho hx hsz hrg HA
      go_wp2
      go_roundw
      case rel => exact ⟨n + s.size, a ++ bb, by simp, Lib.hid ⟨HO.out, HS.out, HU.out.chg.trans' HC.out (fun i hi => Or.inr (by omega))⟩⟩
      case measure => rw [HO.out.left_eq, HU.out.over.left_eq, H0.out]; simp
end
end Go.Proofs.Ytjflkmihkfbgpaa
