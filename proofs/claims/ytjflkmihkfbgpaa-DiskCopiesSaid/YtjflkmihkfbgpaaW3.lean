/- Walks: what is captured does its thing. -/
import Derived.Test.YtjflkmihkfbgpaaW2
import Derived.StillTailTactics
import Derived.Test.YtjflkmihkfbgpaaStep
namespace Go.Proofs.Ytjflkmihkfbgpaa
open Go.RowKit Mk Go.Sort

section
variable {w : World} {r : Nat} {L : Files}

theorem Mk.Chg.setB (w : World) (r : Nat) (o : Obj) : Chg (fun g => g = r) w (ChangeMaps.setBlock w r o) := Mk.Chg.setBlock (F := fun g => g = r) (Chg.refl _ w) (Or.inl rfl) o
theorem capS_cell {w : World} {c : Nat} {n : ByteArray} (h : capS w c n) : w.cell? ⟨c, 0, none⟩ = some (.string n) := cell_of h (by simp)
theorem capI_cell {w : World} {c k : Nat} (h : capI w c k) : w.cell? ⟨c, 0, none⟩ = some (.int .i64 k) := cell_of h (by simp)
theorem files.at_end {o : Obj} {M : Files} (h : files w r L) (hM : ∀ w' : World, w'.heap[r]? = some o → files w' r M) : files (ChangeMaps.setBlock w r o) r M := hM _ (heap_setBlock_eq h.lt)

theorem clo_wr (h : files w r L) {n : ByteArray} (hn : okS n) {c : Nat} (hc : capS w c n) (s : ByteArray) :
    Calls Try.prog 31 #[.map (some r), .string s, .pointer (some ⟨c, 0, none⟩)] w fun e w' => e = .returned (.tuple #[]) ∧ files w' r (act (.wr n) L s) ∧ Chg (fun g => g = r) w w' := by
  obtain ⟨o, hu, ho⟩ := h.update (P := Try.prog) Try.underlying54 Try.underlying9 hn s
  have hc0 := capS_cell hc
  have H := Lib.hid (h.at_end ho)
  clear h hc ho
  go_enter Try.func31, Try.ntmps31
  go_wp2
  go_end0
  exact ⟨rfl, H.out, Chg.setB _ _ _⟩
theorem clo_app (h : files w r L) {n : ByteArray} (hn : okS n) {c : Nat} (hc : capS w c n) (s : ByteArray) (hs : tot L + s.size ≤ 1099511627776) :
    Calls Try.prog 34 #[.map (some r), .string s, .pointer (some ⟨c, 0, none⟩)] w fun e w' => e = .returned (.tuple #[]) ∧ files w' r (act (.app n) L s) ∧ Chg (fun g => g = r) w w' := by
  have hl := h.lookup (P := Try.prog) Try.underlying54 Try.underlying9 (Try.zeroValue9 w) hn false
  obtain ⟨o, hu, ho⟩ := h.update (P := Try.prog) Try.underlying54 Try.underlying9 hn (byt L n ++ s)
  have hc0 := capS_cell hc
  have H := Lib.hid (h.at_end ho)
  have hb := byt_le L n
  have hs1 : (byt L n).size ≤ 1099511627776 := by omega
  have hs2 : s.size ≤ 1099511627776 := by omega
  simp only [Bool.false_eq_true, if_false] at hl
  obtain ⟨A, HA⟩ : ∃ A, Hid (byt L n ++ s = A) := ⟨_, Lib.hid rfl⟩
  have HE := Lib.hid (show act (.app n) L s = upd L n A by rw [← HA.out]; rfl)
  rw [HE.out]
  rw [HA.out] at hu H
  have HA2 := HA.out
  have hs3 : (byt L n).size + s.size ≤ 9223372036854775807 := by omega
  generalize byt L n = y at *
  clear h hc ho hb HE HA
  go_enter Try.func34, Try.ntmps34
  go_wp2
  go_end0
  exact ⟨rfl, H.out, Chg.setB _ _ _⟩
theorem clo_rem (h : files w r L) {n : ByteArray} (hn : okS n) {c : Nat} (hc : capS w c n) (s : ByteArray) :
    Calls Try.prog 46 #[.map (some r), .string s, .pointer (some ⟨c, 0, none⟩)] w fun e w' => e = .returned (.tuple #[]) ∧ files w' r (act (.rem n) L s) ∧ Chg (fun g => g = r) w w' := by
  have hd := fun ty => h.delete (P := Try.prog) Try.underlying54 Try.underlying9 hn ty
  obtain ⟨o, hu, ho⟩ := hd 0
  have hc0 := capS_cell hc
  have H := Lib.hid (h.at_end ho)
  clear h hc ho hd
  go_enter Try.func46, Try.ntmps46
  go_wp2
  go_end0
  exact ⟨rfl, H.out, Chg.setB _ _ _⟩
set_option maxRecDepth 100000 in
theorem clo_ren (h : files w r L) {a b : ByteArray} (ha : okS a) (hb : okS b) {c c' : Nat} (hc : capS w c a) (hc' : capS w c' b) (s : ByteArray) :
    Calls Try.prog 45 #[.map (some r), .string s, .pointer (some ⟨c, 0, none⟩), .pointer (some ⟨c', 0, none⟩)] w fun e w' => e = .returned (.tuple #[]) ∧ files w' r (act (.ren a b) L s) ∧ Chg (fun g => g = r) w w' := by
  have hl := h.lookup (P := Try.prog) Try.underlying54 Try.underlying9 (Try.zeroValue9 w) ha false
  obtain ⟨o, hd, ho⟩ := h.delete (P := Try.prog) Try.underlying54 Try.underlying9 ha 0
  have H1 := h.at_end ho
  obtain ⟨o2, hu, ho2⟩ := H1.update (P := Try.prog) Try.underlying54 Try.underlying9 hb (byt L a)
  have H := Lib.hid (H1.at_end ho2)
  have hn : c ≠ r := fun e => by subst e; obtain ⟨es, k, h'⟩ := h.obj; unfold capS at hc; rw [h'] at hc; simp at hc
  have hn' : c' ≠ r := fun e => by subst e; obtain ⟨es, k, h'⟩ := h.obj; unfold capS at hc'; rw [h'] at hc'; simp at hc'
  have hc0 := capS_cell hc
  have hc1 : (ChangeMaps.setBlock w r o).cell? ⟨c', 0, none⟩ = some (.string b) := by rw [cell_setBlock hn']; exact capS_cell hc'
  simp only [Bool.false_eq_true, if_false] at hl
  have HC := Lib.hid ((Chg.setB w r o).trans (Chg.setB (ChangeMaps.setBlock w r o) r o2))
  obtain ⟨A, HA⟩ : ∃ A, Hid (act (.ren a b) L s = A) := ⟨_, Lib.hid rfl⟩
  rw [HA.out]
  have H2 := Lib.hid (show files (ChangeMaps.setBlock (ChangeMaps.setBlock w r o) r o2) r A by rw [← HA.out]; exact H.out)
  clear h hc hc' ho ho2 H1 H HA
  go_enter Try.func45, Try.ntmps45
  go_wp2
  go_end0
  exact ⟨rfl, H2.out, HC.out⟩
set_option maxRecDepth 100000 in
theorem clo_trunc (h : files w r L) {n : ByteArray} (hn : okS n) {k : Nat} (hk : k ≤ (byt L n).size) (hb : tot L ≤ 1099511627776) {c c' : Nat} (hc : capS w c n) (hc' : capI w c' k) (s : ByteArray) :
    Calls Try.prog 44 #[.map (some r), .string s, .pointer (some ⟨c, 0, none⟩), .pointer (some ⟨c', 0, none⟩)] w fun e w' => e = .returned (.tuple #[]) ∧ files w' r (act (.trunc n k) L s) ∧ Chg (fun g => g = r) w w' := by
  have h' : ∀ m, files (w.drewN m) r L := fun m => h.stay rfl
  have hl := (h' 1).lookup (P := Try.prog) Try.underlying54 Try.underlying9 (Try.zeroValue9 _) hn false
  obtain ⟨o, hu, ho⟩ := (h' 1).update (P := Try.prog) Try.underlying54 Try.underlying9 hn ((byt L n).extract 0 k)
  have H := Lib.hid ((h' 1).at_end ho)
  have hc0 : (w.drewN 1).cell? ⟨c, 0, none⟩ = some (.string n) := capS_cell hc
  have hc1 : (w.drewN 1).cell? ⟨c', 0, none⟩ = some (.int .i64 k) := capI_cell hc'
  have hbs := byt_le L n
  simp only [Bool.false_eq_true, if_false] at hl
  have HC := Lib.hid (((Chg.drewN w 1).mono (fun _ h => h.elim)).trans (Chg.setB (w.drewN 1) r o))
  obtain ⟨A, HA⟩ : ∃ A, Hid (act (.trunc n k) L s = A) := ⟨_, Lib.hid rfl⟩
  rw [HA.out]
  have H2 := Lib.hid (show files (ChangeMaps.setBlock (w.drewN 1) r o) r A by rw [← HA.out]; exact H.out)
  have hs1 : (byt L n).size ≤ 1099511627776 := by omega
  generalize byt L n = y at *
  clear h hc hc' ho H HA hbs
  go_enter Try.func44, Try.ntmps44
  go_wp2_with fail
  refine wp_region_still_tail 7 (by kernel_rfl) (by kernel_rfl) ?_
  simp only [List.take_succ_cons, List.take_zero, List.drop_succ_cons, List.drop_zero]
  change wpStill _ _ (w.drewN 1) _ _ _
  repeat still_step
  refine wpStill_nil ?_
  change wpList _ _ _ _ _ (w.drewN 1)
  generalize w.drewN 1 = W at *
  go_wp2
  go_end0
  exact ⟨rfl, H2.out, HC.out⟩
end
end Go.Proofs.Ytjflkmihkfbgpaa
