/- The document's net: Tick, Draw. -/
import Derived.Test.YtpgioccbnkcjcaaP4
import Derived.Deep.RegionHeld3
namespace Go.Proofs.Ytpgioccbnkcjcaa
open Go.RowKit Mk
theorem tcells_set (ms : List Mach) {j : Nat} (hj : j < ms.length) (t : Int) : (tcells ms).set (j + 1) (.int .i64 t) = tcells (ms.set j { ms[j] with ticks := t }) := by simp [tcells, List.map_set]
theorem dcells_set (ms : List Mach) {j : Nat} (hj : j < ms.length) (t : Nat) : (dcells ms).set (j + 1) (.int .u64 t) = dcells (ms.set j { ms[j] with draws := t }) := by simp [dcells, List.map_set]
theorem scells_set (ms : List Mach) {j : Nat} (hj : j < ms.length) (b : Bool) : (scells ms).set (j + 1) (.bool b) = scells (ms.set j { ms[j] with side := b }) := by simp [scells, List.map_set]
theorem map_same {α : Type} (f : Mach → α) (ms : List Mach) {j : Nat} (hj : j < ms.length) (m : Mach) (h : f m = f ms[j]) : (ms.set j m).map f = ms.map f := by
  rw [List.map_set, h]
  apply List.ext_getElem
  · simp
  · intro i h1 h2
    rw [List.getElem_set]
    split
    · rename_i e; subst e; simp
    · rfl
section
variable {w : World} {x : Nat} {R : Lay} {F : Nat → Prop} {n : NetM}
theorem RefRep.setT (h : RefRep w x R F n) {j : Nat} (hj : j < n.ms.length) (t : Int) : RefRep (w.setCell ⟨R.tb, j + 1, none⟩ (.int .i64 t)) x R F (setM n j { n.ms[j] with ticks := t }) := by
  obtain ⟨e1, e2, e3, e4, e5, e6⟩ := h.x_ne
  have hk : ∀ g, g ≠ R.tb → (w.setCell ⟨R.tb, j + 1, none⟩ (.int .i64 t)).heap[g]? = w.heap[g]? := fun g hg => Below.heap_setCell w ⟨R.tb, j + 1, none⟩ _ g hg
  have hlen : (setM n j { n.ms[j] with ticks := t }).ms.length = n.ms.length := by simp [setM]
  refine ⟨?_, ?_, ?_, ?_, ?_, by rw [hlen]; exact h.few, h.under, h.fx, h.fl, h.fs, h.ft, h.fd⟩
  · rw [hk x e2, hlen]; exact h.box
  · exact h.l.stay (fun g hg => hk g (h.row_ne (own_row R n.l.length R.lc h hg)).2.2.1)
  · rw [hlen, show scells (setM n j { n.ms[j] with ticks := t }).ms = scells n.ms by unfold scells setM; simp only; exact congrArg (List.cons _) (map_same _ _ hj _ rfl)]
    exact h.s.stay (fun g hg => by simp [Value.ownBlock] at hg; subst hg; exact hk _ e4)
  · rw [hlen, show tcells (setM n j { n.ms[j] with ticks := t }).ms = (tcells n.ms).set (j + 1) (.int .i64 t) from (tcells_set n.ms hj t).symm]
    exact h.t.set1 (by omega) _
  · rw [hlen, show dcells (setM n j { n.ms[j] with ticks := t }).ms = dcells n.ms by unfold dcells setM; simp only; exact congrArg (List.cons _) (map_same _ _ hj _ rfl)]
    exact h.d.stay (fun g hg => by simp [Value.ownBlock] at hg; subst hg; exact hk _ e6.symm)
theorem RefRep.setD (h : RefRep w x R F n) {j : Nat} (hj : j < n.ms.length) (t : Nat) : RefRep (w.setCell ⟨R.db, j + 1, none⟩ (.int .u64 t)) x R F (setM n j { n.ms[j] with draws := t }) := by
  obtain ⟨e1, e2, e3, e4, e5, e6⟩ := h.x_ne
  have hk : ∀ g, g ≠ R.db → (w.setCell ⟨R.db, j + 1, none⟩ (.int .u64 t)).heap[g]? = w.heap[g]? := fun g hg => Below.heap_setCell w ⟨R.db, j + 1, none⟩ _ g hg
  have hlen : (setM n j { n.ms[j] with draws := t }).ms.length = n.ms.length := by simp [setM]
  refine ⟨?_, ?_, ?_, ?_, ?_, by rw [hlen]; exact h.few, h.under, h.fx, h.fl, h.fs, h.ft, h.fd⟩
  · rw [hk x e3, hlen]; exact h.box
  · exact h.l.stay (fun g hg => hk g (h.row_ne (own_row R n.l.length R.lc h hg)).2.2.2)
  · rw [hlen, show scells (setM n j { n.ms[j] with draws := t }).ms = scells n.ms by unfold scells setM; simp only; exact congrArg (List.cons _) (map_same _ _ hj _ rfl)]
    exact h.s.stay (fun g hg => by simp [Value.ownBlock] at hg; subst hg; exact hk _ e5)
  · rw [hlen, show tcells (setM n j { n.ms[j] with draws := t }).ms = tcells n.ms by unfold tcells setM; simp only; exact congrArg (List.cons _) (map_same _ _ hj _ rfl)]
    exact h.t.stay (fun g hg => by simp [Value.ownBlock] at hg; subst hg; exact hk _ e6)
  · rw [hlen, show dcells (setM n j { n.ms[j] with draws := t }).ms = (dcells n.ms).set (j + 1) (.int .u64 t) from (dcells_set n.ms hj t).symm]
    exact h.d.set1 (by omega) _
theorem RefRep.setS (h : RefRep w x R F n) {j : Nat} (hj : j < n.ms.length) (b : Bool) : RefRep (w.setCell ⟨R.sb, j + 1, none⟩ (.bool b)) x R F (setM n j { n.ms[j] with side := b }) := by
  obtain ⟨e1, e2, e3, e4, e5, e6⟩ := h.x_ne
  have hk : ∀ g, g ≠ R.sb → (w.setCell ⟨R.sb, j + 1, none⟩ (.bool b)).heap[g]? = w.heap[g]? := fun g hg => Below.heap_setCell w ⟨R.sb, j + 1, none⟩ _ g hg
  have hlen : (setM n j { n.ms[j] with side := b }).ms.length = n.ms.length := by simp [setM]
  refine ⟨?_, ?_, ?_, ?_, ?_, by rw [hlen]; exact h.few, h.under, h.fx, h.fl, h.fs, h.ft, h.fd⟩
  · rw [hk x e1, hlen]; exact h.box
  · exact h.l.stay (fun g hg => hk g (h.row_ne (own_row R n.l.length R.lc h hg)).2.1)
  · rw [hlen, show scells (setM n j { n.ms[j] with side := b }).ms = (scells n.ms).set (j + 1) (.bool b) from (scells_set n.ms hj b).symm]
    exact h.s.set1 (by omega) _
  · rw [hlen, show tcells (setM n j { n.ms[j] with side := b }).ms = tcells n.ms by unfold tcells setM; simp only; exact congrArg (List.cons _) (map_same _ _ hj _ rfl)]
    exact h.t.stay (fun g hg => by simp [Value.ownBlock] at hg; subst hg; exact hk _ e4.symm)
  · rw [hlen, show dcells (setM n j { n.ms[j] with side := b }).ms = dcells n.ms by unfold dcells setM; simp only; exact congrArg (List.cons _) (map_same _ _ hj _ rfl)]
    exact h.d.stay (fun g hg => by simp [Value.ownBlock] at hg; subst hg; exact hk _ e5.symm)

set_option maxRecDepth 100000 in
theorem rtick_any (h : RefRep w x R F n) (i : Int) :
    Calls Try.prog 40 #[.pointer (some ⟨x, 0, none⟩), .int .i64 i] w fun e w' => e = .returned (.tuple #[.int .i64 (tickM n i).2.1, .int .i64 (tickM n i).2.2]) ∧ RefRep w' x R F (tickM n i).1 ∧ Chg F w w' := by
  have MI := Lib.hid (rmay_any h i)
  have H := Lib.hid h
  have c3 := h.c3
  cases hm : may n.ms.length i
  · rw [tickM_out hm]
    rw [hm] at MI
    clear h hm
    go_enter Try.func40, Try.ntmps40
    go_wp2_with fail
    refine MI.out.mono ?_
    rintro e w' ⟨rfl, rfl⟩
    go_wp2
    go_ret2
    exact ⟨rfl, H.out, Chg.refl _ _⟩
  · obtain ⟨j, hj, rfl, _⟩ := may_in hm
    rw [tickM_in hj]
    rw [hm] at MI
    have t1 := tcell h hj
    have f1 := h.t.frozen (j + 1)
    obtain ⟨t, HT⟩ : ∃ t, Hid (n.ms[j].ticks = t) := ⟨_, Lib.hid rfl⟩
    rw [HT.out] at t1 ⊢
    obtain ⟨t2, HT2⟩ : ∃ t2, Hid (wrap64M (t + 1) = t2) := ⟨_, Lib.hid rfl⟩
    have HT3 : IntKind.i64.wrap (t + 1) = t2 := HT2.out
    rw [HT2.out]
    have l1 : (j : Int) + 1 < ((n.ms.length + 1 : Nat) : Int) := by omega
    have l3 : (0 : Int) ≤ (j : Int) + 1 := by omega
    have l5 : ((j : Int) + 1).toNat = j + 1 := by omega
    have hxt := h.x_ne.2.1
    have s1 := cell_of (i := j + 1) (v := .int .i64 t2) (Mk.heap_setCell_same (i := j + 1) (v := .int .i64 t2) h.t.type.choose_spec) (by
      have := (Array.getElem?_eq_some_iff.1 (show h.t.type.choose[j + 1]? = some (.int .i64 t) by
        have e := t1
        unfold World.cell? at e
        rw [h.t.type.choose_spec] at e
        simpa using e)).1
      simp [this])
    have s3 : (w.setCell ⟨R.tb, j + 1, none⟩ (.int .i64 t2)).cell? ⟨x, 3, none⟩ = some (.slice (some ⟨R.tb, 0, none⟩) (n.ms.length + 1 : Nat) R.tc) := (World.cell?_of_block (a := ⟨x, 3, none⟩) (Below.heap_setCell w ⟨R.tb, j + 1, none⟩ _ x hxt)).trans c3
    have HR := Lib.hid (h.setT hj t2)
    have HC := Lib.hid (show Chg F w (w.setCell ⟨R.tb, j + 1, none⟩ (.int .i64 t2)) from (Chg.refl _ _).setCell (Or.inl h.ft) _)
    generalize R.tb = tbk at *
    generalize R.tc = tck at *
    generalize n.ms.length + 1 = M at *
    clear h hm
    go_enter Try.func40, Try.ntmps40
    go_wp2_with fail
    refine MI.out.mono ?_
    rintro e w' ⟨rfl, rfl⟩
    go_wp2
    go_ret2
    exact ⟨rfl, HR.out, HC.out⟩
set_option maxRecDepth 100000 in
set_option maxHeartbeats 1000000 in
theorem rdraw_any (h : RefRep w x R F n) (i k : Int) (hk : i64 k) (hd : ∀ m ∈ n.ms, m.draws < 18446744073709551616) :
    Calls Try.prog 41 #[.pointer (some ⟨x, 0, none⟩), .int .i64 i, .int .i64 k] w fun e w' => e = .returned (.tuple #[.int .i64 (drawM n i k).2.1, .int .i64 (drawM n i k).2.2]) ∧ RefRep w' x R F (drawM n i k).1 ∧ Chg F w w' := by
  have MI := Lib.hid (rmay_any h i)
  have H := Lib.hid h
  have c4 := h.c4
  cases hm : may n.ms.length i
  · rw [drawM_out hm]
    rw [hm] at MI
    clear h hm hk
    go_enter Try.func41, Try.ntmps41
    go_wp2_with fail
    refine MI.out.mono ?_
    rintro e w' ⟨rfl, rfl⟩
    go_wp2
    go_ret2
    exact ⟨rfl, H.out, Chg.refl _ _⟩
  · obtain ⟨j, hj, rfl, _⟩ := may_in hm
    rw [drawM_in hj]
    rw [hm] at MI
    by_cases h1 : k < 1
    · rw [if_pos h1]
      have h1' : decide (k < 1) = true := by simpa using h1
      clear h hm hk h1
      go_enter Try.func41, Try.ntmps41
      go_wp2_with fail
      refine MI.out.mono ?_
      rintro e w' ⟨rfl, rfl⟩
      go_wp2
      go_ret2
      exact ⟨rfl, H.out, Chg.refl _ _⟩
    · rw [if_neg h1]
      have h1' : decide (k < 1) = false := by simpa using h1
      obtain ⟨v, rfl⟩ : ∃ v : Nat, k = v := ⟨k.toNat, by omega⟩
      have hk2 := hk.2
      have hk1 : (1 : Int) ≤ v := by omega
      have t1 := dcell h hj
      have f1 := h.d.frozen (j + 1)
      obtain ⟨t, HT⟩ : ∃ t, Hid (n.ms[j].draws = t) := ⟨_, Lib.hid rfl⟩
      have ht := hd n.ms[j] (List.getElem_mem hj)
      rw [HT.out] at t1 ht ⊢
      obtain ⟨t2, HT2⟩ : ∃ t2, Hid (u64 (t + gold) = t2) := ⟨_, Lib.hid rfl⟩
      have HT3 : IntKind.u64.wrap ((t : Int) + 11400714819323198485) = t2 := by rw [← HT2.out]; simp [u64, gold, IntKind.wrap, IntKind.bits, IntKind.signed]
      rw [HT2.out]
      have l1 : (j : Int) + 1 < ((n.ms.length + 1 : Nat) : Int) := by omega
      have l3 : (0 : Int) ≤ (j : Int) + 1 := by omega
      have l5 : ((j : Int) + 1).toNat = j + 1 := by omega
      have hxt := h.x_ne.2.2.1
      have s1 := cell_of (i := j + 1) (v := .int .u64 t2) (Mk.heap_setCell_same (i := j + 1) (v := .int .u64 t2) h.d.type.choose_spec) (by
        have := (Array.getElem?_eq_some_iff.1 (show h.d.type.choose[j + 1]? = some (.int .u64 t) by
          have e := t1
          unfold World.cell? at e
          rw [h.d.type.choose_spec] at e
          simpa using e)).1
        simp [this])
      have s3 : (w.setCell ⟨R.db, j + 1, none⟩ (.int .u64 t2)).cell? ⟨x, 4, none⟩ = some (.slice (some ⟨R.db, 0, none⟩) (n.ms.length + 1 : Nat) R.dc) := (World.cell?_of_block (a := ⟨x, 4, none⟩) (Below.heap_setCell w ⟨R.db, j + 1, none⟩ _ x hxt)).trans c4
      have HR := Lib.hid (h.setD hj t2)
      have HC := Lib.hid (show Chg F w (w.setCell ⟨R.db, j + 1, none⟩ (.int .u64 t2)) from (Chg.refl _ _).setCell (Or.inl h.fd) _)
      have dx : w.drew.cell? ⟨R.db, j + 1, none⟩ = some (.int .u64 t) := t1
      have df : w.drew.frozen? ⟨R.db, j + 1, none⟩ = false := f1
      have ds1 : (w.setCell ⟨R.db, j + 1, none⟩ (.int .u64 t2)).drew.cell? ⟨R.db, j + 1, none⟩ = some (.int .u64 t2) := s1
      have ds3 : (w.setCell ⟨R.db, j + 1, none⟩ (.int .u64 t2)).drew.cell? ⟨x, 4, none⟩ = some (.slice (some ⟨R.db, 0, none⟩) (n.ms.length + 1 : Nat) R.dc) := s3
      have dR : Hid (RefRep (w.setCell ⟨R.db, j + 1, none⟩ (.int .u64 t2)).drew x R F (setM n j { n.ms[j] with draws := t2 })) := Lib.hid (HR.out.stay (G := fun _ => False) ((Chg.refl _ _).drew) (fun _ _ f => f))
      have dC : Hid (Chg F w (w.setCell ⟨R.db, j + 1, none⟩ (.int .u64 t2)).drew) := Lib.hid (HC.out.drew)
      generalize R.db = dbk at *
      generalize R.dc = dck at *
      generalize n.ms.length + 1 = M at *
      clear h hm hk hd h1
      go_enter Try.func41, Try.ntmps41
      go_wp2_with fail
      refine MI.out.mono ?_
      rintro e w' ⟨rfl, rfl⟩
      go_wp2
      go_region
      go_wp2
      go_ret2
      exact ⟨rfl, dR.out, dC.out⟩
end
end Go.Proofs.Ytpgioccbnkcjcaa
