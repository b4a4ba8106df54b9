/- Walks: Double, Take. -/
import Derived.Test.YtpgioccbnkcjcaaN6
namespace Go.Proofs.Ytpgioccbnkcjcaa
open Go.RowKit Mk

def doubleM (n : NetM) (a b i : Int) : NetM × Int := if (peekM n a b i).2 = 0 then sendM n a b (peekM n a b i).1 else (n, (peekM n a b i).2)

theorem NetRep.wide {w : World} {b r : Nat} {mb : MB} {L : List (Lnk × Value)} {F G : Nat → Prop} {n : NetM} (h : NetRep w b r mb L F n) (hG : ∀ g, F g → G g) : NetRep w b r mb L G n :=
  ⟨h.net, h.mach, h.map, h.rows, h.gone, h.apart, h.few, h.under, hG _ h.fb, hG _ h.fmb, hG _ h.fr, fun p hp g hg => hG _ (h.frow p hp g hg)⟩
theorem NetIs.wide {w : World} {b : Nat} {F G : Nat → Prop} {n : NetM} (h : NetIs w b F n) (hG : ∀ g, F g → G g) : NetIs w b G n := by
  obtain ⟨r, mb, L, h⟩ := h
  exact ⟨r, mb, L, h.wide hG⟩

theorem double_any {w : World} {b r : Nat} {mb : MB} {L : List (Lnk × Value)} {F : Nat → Prop} {n : NetM} (h : NetRep w b r mb L F n) (i k j : Int) (hi : i64 i) (hk : i64 k) (hj : i64 j) :
    Calls Try.prog 11 #[.pointer (some ⟨b, 0, none⟩), .int .i64 i, .int .i64 k, .int .i64 j] w fun e w' => e = .returned (.int .i64 (doubleM n i k j).2) ∧ NetIs w' b (fun g => F g ∨ w.heap.size ≤ g) (doubleM n i k j).1 ∧ Chg F w w' := by
  have A := Lib.hid (peek_any h i k j hi hk hj)
  have B := Lib.hid (send_any h i k (peekM n i k j).1 hi hk)
  have HM := Lib.hid (h.wide (G := fun g => F g ∨ w.heap.size ≤ g) (fun _ => Or.inl))
  by_cases h0 : (peekM n i k j).2 = 0
  · have e0 : doubleM n i k j = sendM n i k (peekM n i k j).1 := by unfold doubleM; rw [if_pos h0]
    rw [e0]
    rw [h0] at A
    generalize (peekM n i k j).1 = s at *
    obtain ⟨n', e', HS⟩ : ∃ n' e', Hid (sendM n i k s = (n', e')) := ⟨_, _, Lib.hid rfl⟩
    rw [HS.out] at B ⊢
    clear h0 e0 h hi hk hj
    go_enter Try.func11, Try.ntmps11
    go_wp2_with fail
    refine A.out.mono ?_
    rintro e w' ⟨rfl, rfl⟩
    go_wp2_with fail
    refine B.out.mono ?_
    rintro e w1 ⟨rfl, h1, h2⟩
    have h1 := Lib.hid h1
    have h2 := Lib.hid h2
    go_wp2
    go_ret
    exact ⟨rfl, h1.out, h2.out⟩
  · have e0 : doubleM n i k j = (n, (peekM n i k j).2) := by unfold doubleM; rw [if_neg h0]
    rw [e0]
    generalize (peekM n i k j).1 = s at *
    generalize (peekM n i k j).2 = e2 at *
    have hne : (e2 != 0) = true := by simpa using h0
    clear e0 h hi hk hj h0 B
    go_enter Try.func11, Try.ntmps11
    go_wp2_with fail
    refine A.out.mono ?_
    rintro e w' ⟨rfl, rfl⟩
    go_wp2
    go_ret
    exact ⟨rfl, ⟨_, _, _, HM.out⟩, Chg.refl _ _⟩

def pkt (a b : Int) (s : ByteArray) : Value := .agg #[.int .i64 a, .int .i64 b, .string s]
def takeM (n : NetM) (a b i : Int) : NetM × Value × Int :=
  if (peekM n a b i).2 = 0 then (if partedM n.ms a b then (n, pkt 0 0 ⟨#[]⟩, 3) else ((dropM n a b i).1, pkt a b (peekM n a b i).1, 0)) else (n, pkt 0 0 ⟨#[]⟩, (peekM n a b i).2)

theorem NetRep.tight {w : World} {b r : Nat} {mb : MB} {L : List (Lnk × Value)} {F : Nat → Prop} {n : NetM} (h : NetRep w b r mb L F n) : NetRep w b r mb L (fun g => F g ∧ g < w.heap.size) n :=
  ⟨h.net, h.mach, h.map, h.rows, h.gone, h.apart, h.few, h.under, ⟨h.fb, h.lt.1⟩, ⟨h.fmb, h.lt.2.1⟩, ⟨h.fr, h.lt.2.2⟩, fun p hp g hg => ⟨h.frow p hp g hg, (h.rows p hp).lt hg⟩⟩
theorem NetIs.tight {w : World} {b : Nat} {F : Nat → Prop} {n : NetM} (h : NetIs w b F n) : NetIs w b (fun g => F g ∧ g < w.heap.size) n := by
  obtain ⟨r, mb, L, h⟩ := h
  exact ⟨r, mb, L, h.tight⟩

theorem results_cell_row_tmp {P : Program} {fn : Func} {p u : Tmp} {ty : TypeId} (h : fn.results = #[.cell p ty, .tmp u]) (tmps : Array Value) (w : World) (g : Nat) (t : TypeId) (cs : Array Value) (fr : Nat × Nat) (d : TypeDesc)
    (hp : tmps.getD p undef = .pointer (some ⟨g, 0, none⟩)) (hg : w.heap[g]? = some (.cells cs t fr))
    (hu : P.underlying ty = some d) (hd : (match d with | .struct _ | .array _ _ => true | _ => false) = true) (hi : (P.info? ty).map (·.size) = some cs.size) :
    (results fn tmps).run P w = .ok (.tuple #[.agg cs, tmps.getD u undef]) w := by
  rw [results_cell_tmp h, hp]
  simp [asAddr, run_loadVar_row w g t ty cs fr d hg hu hd hi, Result.andThen]

theorem fin3 {w : World} {kb : Nat} {t : TypeId} {c0 c1 c2 : Value} (h : w.heap[kb]? = some (.cells #[c0, c1, c2] t)) (v0 v1 v2 : Value) :
    (((w.setCell ⟨kb, 0, none⟩ v0).setCell ⟨kb, 1, none⟩ v1).setCell ⟨kb, 2, none⟩ v2).heap[kb]? = some (.cells #[v0, v1, v2] t) ∧ Chg (fun g => g = kb) w (((w.setCell ⟨kb, 0, none⟩ v0).setCell ⟨kb, 1, none⟩ v1).setCell ⟨kb, 2, none⟩ v2) :=
  ⟨by rw [Mk.heap_setCell_same (Mk.heap_setCell_same (Mk.heap_setCell_same h v0) v1) v2]; rfl, (((Chg.refl (fun g => g = kb) w).setCell (a := ⟨kb, 0, none⟩) (Or.inl rfl) v0).setCell (a := ⟨kb, 1, none⟩) (Or.inl rfl) v1).setCell (a := ⟨kb, 2, none⟩) (Or.inl rfl) v2⟩

set_option maxRecDepth 100000 in
set_option maxHeartbeats 1000000 in
theorem take_any {w : World} {b r : Nat} {mb : MB} {L : List (Lnk × Value)} {F : Nat → Prop} {n : NetM} (h : NetRep w b r mb L F n) (i k j : Int) (hi : i64 i) (hk : i64 k) (hj : i64 j) :
    Calls Try.prog 16 #[.pointer (some ⟨b, 0, none⟩), .int .i64 i, .int .i64 k, .int .i64 j] w fun e w' => e = .returned (.tuple #[(takeM n i k j).2.1, .int .i64 (takeM n i k j).2.2]) ∧ NetIs w' b (fun g => F g ∨ w.heap.size ≤ g) (takeM n i k j).1 ∧ Chg F w w' := by
  obtain ⟨F', HF, hF, h⟩ : ∃ F' : Nat → Prop, Hid (∀ g, F' g → F g) ∧ (¬ F' w.heap.size) ∧ NetRep w b r mb L F' n := ⟨_, Lib.hid (fun g e => e.1), fun e => Nat.lt_irrefl _ e.2, h.tight⟩
  have HK := Lib.hid (show ∀ W, NetRep W b r mb L F' n → _ from fun W h => peek_any h i k j hi hk hj)
  have HD := Lib.hid (show ∀ W, NetRep W b r mb L F' n → _ from fun W h => drop_any h i k j hi hk hj)
  have HP := Lib.hid (show ∀ W, NetRep W b r mb L F' n → _ from fun W h => parted_any h i k hi hk)
  have H := Lib.hid h
  have HR := Lib.hid (H.out.stay (w' := w.alloc (.cells #[.int .i64 0, .int .i64 0, .string ⟨#[]⟩] 42)) (G := fun _ => False) ((Chg.refl _ _).alloc _) (fun _ _ h => h))
  have HC := Lib.hid (show Chg F' w (w.alloc (.cells #[.int .i64 0, .int .i64 0, .string ⟨#[]⟩] 42)) from (Chg.refl _ _).alloc _)
  have HB := Lib.hid (show (w.alloc (.cells #[.int .i64 0, .int .i64 0, .string ⟨#[]⟩] 42)).heap[w.heap.size]? = some (.cells #[.int .i64 0, .int .i64 0, .string ⟨#[]⟩] 42) from Go.heap_alloc_new _ _)
  have HSZ := Lib.hid (show w.heap.size < (w.alloc (.cells #[.int .i64 0, .int .i64 0, .string ⟨#[]⟩] 42)).heap.size by simp)
  by_cases h0 : (peekM n i k j).2 = 0
  · cases hp : partedM n.ms i k
    · have e0 : takeM n i k j = ((dropM n i k j).1, pkt i k (peekM n i k j).1, 0) := by unfold takeM; rw [if_pos h0, hp]; simp
      have e1 : (dropM n i k j).2 = 0 := by unfold dropM; rw [if_pos h0]
      rw [e0]
      rw [h0] at HK
      rw [e1] at HD
      rw [hp] at HP
      generalize (peekM n i k j).1 = s at *
      generalize (dropM n i k j).1 = n' at *
      unfold pkt
      clear h0 e0 e1 hp h hi hk hj H
      go_enter Try.func16, Try.ntmps16
      go_wp2_with fail
      generalize w.alloc (.cells #[.int .i64 0, .int .i64 0, .string ⟨#[]⟩] 42) = W at *
      generalize hkb : w.heap.size = kb at *
      refine (HK.out W HR.out).mono ?_
      rintro e w' ⟨rfl, rfl⟩
      go_wp2_with fail
      refine (HP.out _ HR.out).mono ?_
      rintro e w2 ⟨rfl, hc2⟩
      have HR2 := Lib.hid (HR.out.stay hc2 (fun _ _ h => h))
      have HC2 := Lib.hid (HC.out.trans (hc2.mono (G := F') (fun _ h => h.elim)))
      have HB2 := Lib.hid ((hc2.block kb HSZ.out (fun h => h)).trans HB.out)
      have HSZ2 := Lib.hid (Nat.lt_of_lt_of_le HSZ.out hc2.size)
      clear hc2 HR HC HB HSZ
      go_wp2_with fail
      refine (HD.out _ HR2.out).mono ?_
      rintro e w3 ⟨rfl, hn3, hc3⟩
      have HN3 := Lib.hid hn3
      have HB3 := (hc3.block kb HSZ2.out hF).trans HB2.out
      have HC3 := Lib.hid (HC2.out.trans hc3)
      have HB4 := Lib.hid HB3
      have q0 : w3.cell? ⟨kb, 0, none⟩ = some (.int .i64 0) := cell_of HB3 (by simp)
      have q1 : w3.cell? ⟨kb, 1, none⟩ = some (.int .i64 0) := cell_of HB3 (by simp)
      have q2 : w3.cell? ⟨kb, 2, none⟩ = some (.string ⟨#[]⟩) := cell_of HB3 (by simp)
      have r0 : w3.frozen? ⟨kb, 0, none⟩ = false := frozen_of HB3
      have r1 : w3.frozen? ⟨kb, 1, none⟩ = false := frozen_of HB3
      have r2 : w3.frozen? ⟨kb, 2, none⟩ = false := frozen_of HB3
      clear hn3 hc3 HB3
      go_wp2
      obtain ⟨hh, hc⟩ := fin3 HB4.out (.int .i64 i) (.int .i64 k) (.string s)
      have hz2 := HSZ2.out
      refine bodyPost_ret (results_cell_row_tmp (p := 8) (u := 9) (ty := 42) rfl _ _ kb 42 _ (0, 0) _ rfl hh Try.underlying42 rfl (by kernel_rfl)) rfl ⟨rfl, ?_, ?_⟩
      · exact (HN3.out.stay hc (fun g hg e => by subst e; rcases hg with a | a; exact hF a; omega)).wide (fun g hg => hg.imp (HF.out g) (fun a => by omega))
      · exact (HC3.out.trans' hc (fun g e => Or.inr (by omega))).mono HF.out
    · have e0 : takeM n i k j = (n, pkt 0 0 ⟨#[]⟩, 3) := by unfold takeM; rw [if_pos h0, hp]; simp
      rw [e0]
      rw [h0] at HK
      rw [hp] at HP
      generalize (peekM n i k j).1 = s at *
      unfold pkt
      clear h0 e0 hp h hi hk hj H HD
      go_enter Try.func16, Try.ntmps16
      go_wp2_with fail
      generalize w.alloc (.cells #[.int .i64 0, .int .i64 0, .string ⟨#[]⟩] 42) = W at *
      generalize hkb : w.heap.size = kb at *
      refine (HK.out W HR.out).mono ?_
      rintro e w' ⟨rfl, rfl⟩
      go_wp2_with fail
      refine (HP.out _ HR.out).mono ?_
      rintro e w3 ⟨rfl, hc2⟩
      have HR2 := Lib.hid (HR.out.stay hc2 (fun _ _ h => h))
      have HC3 := Lib.hid (HC.out.trans (hc2.mono (G := F') (fun _ h => h.elim)))
      have HB3 := (hc2.block kb HSZ.out (fun h => h)).trans HB.out
      have HB4 := Lib.hid HB3
      have q0 : w3.cell? ⟨kb, 0, none⟩ = some (.int .i64 0) := cell_of HB3 (by simp)
      have q1 : w3.cell? ⟨kb, 1, none⟩ = some (.int .i64 0) := cell_of HB3 (by simp)
      have q2 : w3.cell? ⟨kb, 2, none⟩ = some (.string ⟨#[]⟩) := cell_of HB3 (by simp)
      have r0 : w3.frozen? ⟨kb, 0, none⟩ = false := frozen_of HB3
      have r1 : w3.frozen? ⟨kb, 1, none⟩ = false := frozen_of HB3
      have r2 : w3.frozen? ⟨kb, 2, none⟩ = false := frozen_of HB3
      clear hc2 HB3 HB HC HR HSZ
      go_wp2
      obtain ⟨hh, hc⟩ := fin3 HB4.out (.int .i64 0) (.int .i64 0) (.string ⟨#[]⟩)
      refine bodyPost_ret (results_cell_row_tmp (p := 8) (u := 9) (ty := 42) rfl _ _ kb 42 _ (0, 0) _ rfl hh Try.underlying42 rfl (by kernel_rfl)) rfl ⟨rfl, ?_, ?_⟩
      · exact ⟨r, mb, L, (HR2.out.stay hc (fun g hg e => by subst e; exact hF hg)).wide (fun g hg => Or.inl (HF.out g hg))⟩
      · exact (HC3.out.trans' hc (fun g e => Or.inr (by omega))).mono HF.out
  · have e0 : takeM n i k j = (n, pkt 0 0 ⟨#[]⟩, (peekM n i k j).2) := by unfold takeM; rw [if_neg h0]
    rw [e0]
    generalize (peekM n i k j).1 = s at *
    generalize (peekM n i k j).2 = e2 at *
    have hne : (e2 != 0) = true := by simpa using h0
    unfold pkt
    clear h0 e0 h hi hk hj H HD HP
    go_enter Try.func16, Try.ntmps16
    go_wp2_with fail
    generalize w.alloc (.cells #[.int .i64 0, .int .i64 0, .string ⟨#[]⟩] 42) = W at *
    generalize hkb : w.heap.size = kb at *
    refine (HK.out W HR.out).mono ?_
    rintro e w3 ⟨rfl, rfl⟩
    have HB3 := HB.out
    have q0 : w3.cell? ⟨kb, 0, none⟩ = some (.int .i64 0) := cell_of HB3 (by simp)
    have q1 : w3.cell? ⟨kb, 1, none⟩ = some (.int .i64 0) := cell_of HB3 (by simp)
    have q2 : w3.cell? ⟨kb, 2, none⟩ = some (.string ⟨#[]⟩) := cell_of HB3 (by simp)
    have r0 : w3.frozen? ⟨kb, 0, none⟩ = false := frozen_of HB3
    have r1 : w3.frozen? ⟨kb, 1, none⟩ = false := frozen_of HB3
    have r2 : w3.frozen? ⟨kb, 2, none⟩ = false := frozen_of HB3
    clear HB3
    go_wp2
    obtain ⟨hh, hc⟩ := fin3 HB.out (.int .i64 0) (.int .i64 0) (.string ⟨#[]⟩)
    refine bodyPost_ret (results_cell_row_tmp (p := 8) (u := 9) (ty := 42) rfl _ _ kb 42 _ (0, 0) _ rfl hh Try.underlying42 rfl (by kernel_rfl)) rfl ⟨rfl, ?_, ?_⟩
    · exact ⟨r, mb, L, (HR.out.stay hc (fun g hg e => by subst e; exact hF hg)).wide (fun g hg => Or.inl (HF.out g hg))⟩
    · exact (HC.out.trans' hc (fun g e => Or.inr (by omega))).mono HF.out
end Go.Proofs.Ytpgioccbnkcjcaa
