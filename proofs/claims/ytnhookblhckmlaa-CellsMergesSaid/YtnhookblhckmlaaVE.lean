/- Walks: Clone of the lists; Merge. -/
import Derived.Test.YtnhookblhckmlaaVC
namespace Go.Proofs.Ytnhookblhckmlaa
set_option linter.unusedVariables false
set_option linter.unusedSimpArgs false
open Go.RowKit Mk Go.Sort

theorem info46 : ∃ (i : TypeInfo) (z : Value), Try.prog.info? 46 = some i ∧ i.zero = some z ∧ i.size = 1 ∧ i.bytes = 8 ∧ z.cells.size = 1 := by
  have h : ((Try.prog.info? 46).map fun i => (i.size, i.bytes, i.zero.map (·.cells.size))) = some (1, 8, some 1) := by kernel_rfl
  cases hi : Try.prog.info? 46 with
  | none => rw [hi] at h; cases h
  | some i =>
    rw [hi] at h
    simp only [Option.map_some, Option.some.injEq, Prod.mk.injEq] at h
    obtain ⟨h1, h2, h3⟩ := h
    cases hz : i.zero with
    | none => rw [hz] at h3; cases h3
    | some z => rw [hz] at h3; exact ⟨i, z, rfl, hz, h1, h2, by simpa using h3⟩
theorem itV_one (its : List (Option ItM)) : ∀ u ∈ its.map itV, u.oneCell' = true := fun u hu => by
  obtain ⟨x, _, rfl⟩ := List.mem_map.1 hu
  cases x <;> rfl
/-- The slice of the lists. -/
def SQ (w : World) (v : Value) (its : List (Option ItM)) : Prop := sl w 46 1 v its.length (its.map itV)
set_option maxRecDepth 100000 in
set_option maxHeartbeats 1000000 in
theorem cloneseq_any {w : World} {lv : Value} {L : List (Option ItM)} (h : SQ w lv L) (hL : L.length ≤ 1048576) :
    Calls Try.prog 48 #[lv] w fun e w' => ∃ o c, e = .returned (.slice o L.length c) ∧ SQ w' (.slice o L.length c) L ∧ RowKit.Below w.heap.size w w' ∧ ∀ g, (Value.slice o L.length c).ownBlock = some g → w.heap.size ≤ g := by
  obtain ⟨i6, z6, hi6, hz6, hsz6, hby6, hzs6⟩ := info46
  rcases h.2 with ⟨rfl, e0⟩ | ⟨g, cap, cur, rfl, hg, hnc, hcm, hcs, ht⟩
  · obtain rfl := List.eq_nil_of_length_eq_zero e0
    have q := fun (w : World) => Lib.run_eql_slice_nil (P := Try.prog) w 82 46 none 0 0 0 0 Try.underlying82
    go_enter Try.func48, Try.ntmps48
    go_wp2
    go_ret
    exact ⟨_, _, rfl, h, Below.refl _ _, fun g e => by simp [Value.ownBlock] at e⟩
  · have hB : RowKit.Below w.heap.size w (w.alloc (.cells #[] 46)) := (Below.refl _ w).alloc (Nat.le_refl _) _
    have hS : SQ (w.alloc (.cells #[] 46)) _ L := sl.stay h (fun g hg => hB.block g (sl.lt h hg))
    have hE : sl (w.alloc (.cells #[] 46)) 46 1 (.slice (some ⟨w.heap.size, 0, none⟩) 0 0) 0 [] := ⟨rfl, Or.inr ⟨w.heap.size, 0, #[], rfl, Go.heap_alloc_new _ _, Nat.le_refl _, Nat.zero_le _, by simp, rfl⟩⟩
    have hN : ∀ j u, (L.map itV)[j]? = some u → (w.alloc (.cells #[] 46)).cell? ((⟨g, 0, none⟩ : Addr).add j) = some u := fun j u hj => by
      obtain ⟨g', cap', e, hc⟩ := sl.cell hS hj
      cases e
      rw [Addr.add_lit, Nat.zero_add]
      exact hc
    have hone := itV_one L
    have hlen : (L.map itV).length = L.length * 1 := h.1
    have HN := Lib.hid hN
    have HE := Lib.hid hE
    have HO := Lib.hid hone
    have HL := Lib.hid hlen
    have HB := Lib.hid hB
    have HX := Lib.hid (fun (v' : Value) (w2 : World) (hs : sl w2 46 1 v' (0 + L.length) ([] ++ L.map itV)) => (show SQ w2 v' L by unfold SQ; simpa using hs))
    clear hN hE hone hlen hB hS h hg hcs ht
    have l1 : L.length ≤ maxLen := by simp only [maxLen]; omega
    have q := fun (w : World) => Lib.run_eql_slice_nil (P := Try.prog) w 82 46 (some ⟨g, 0, none⟩) L.length cap 0 0 Try.underlying82
    go_enter Try.func48, Try.ntmps48
    go_wp2_with (refine wpList_append_sl (by rfl) _ _ 82 (by rfl) 46 i6 z6 1 8 Try.underlying82 hi6 hz6 hsz6 hby6 hzs6 (by decide) (.slice (some ⟨w.heap.size, 0, none⟩) 0 0) 0 [] (by rfl) HE.out (some ⟨g, 0, none⟩) L.length cap (L.map itV) (by rfl) HL.out (fun _ => ⟨_, rfl, HN.out⟩) (fun _ h => by cases h) HO.out (by omega) (by omega) ?_; intro v' w2 hsl hgrow hat)
    go_ret
    have hq := HX.out _ _ hsl
    have hB2 : RowKit.Below w.heap.size w w2 := by
      refine HB.out.trans ⟨hgrow.os, hgrow.tape, hgrow.output, hgrow.size, fun i hi => hgrow.block i (by simp; omega) (fun e => ?_)⟩
      simp [Value.ownBlock] at e
      omega
    have hsh : ∃ o c, v' = .slice o L.length c := by
      rcases hq.2 with ⟨rfl, e⟩ | ⟨g, cap, cur, rfl, _⟩
      · exact ⟨_, _, by rw [e]⟩
      · exact ⟨_, _, rfl⟩
    obtain ⟨o, c, rfl⟩ := hsh
    refine ⟨o, c, rfl, hq, hB2, fun i e => ?_⟩
    rcases hat with e2 | e2
    · rw [e2] at e; simp [Value.ownBlock] at e; omega
    · rw [e2] at e; simp at e; omega
set_option maxRecDepth 100000 in
set_option maxHeartbeats 1000000 in
theorem merge_any {w : World} {v : Value} {its : List (Option ItM)} (h : SQ w v its) (hn : its.length ≤ 1048576) (hits : ∀ x, some x ∈ its → ItOk w x) (hM : (mergeM (its.map itL)).length ≤ 1099511627776) :
    Calls Try.prog 42 #[v] w fun e w' => ∃ lb, e = .returned (.func (.func 49) #[] lb) ∧ Tells w' 49 lb (mergeM (its.map itL)) ∧ RowKit.Below w.heap.size w w' := by
  have hsh : ∃ o c, v = .slice o its.length c := by
    rcases h.2 with ⟨rfl, e⟩ | ⟨g, cap, cur, rfl, _⟩
    · exact ⟨_, _, by rw [e]⟩
    · exact ⟨_, _, rfl⟩
  obtain ⟨o, c, rfl⟩ := hsh
  have hB1 : RowKit.Below w.heap.size w (w.alloc (.cells #[.slice o its.length c] 82)) := (Below.refl _ w).alloc (Nat.le_refl _) _
  have C := cloneseq_any (w := w.alloc (.cells #[.slice o its.length c] 82)) (sl.stay h (fun g hg => hB1.block g (sl.lt h hg))) hn
  have HB1 := Lib.hid hB1
  have HI := Lib.hid hits
  have hap : w.heap.size < (w.alloc (.cells #[.slice o its.length c] 82)).heap.size := by simp
  have hblk := Go.heap_alloc_new w (.cells #[.slice o its.length c] 82)
  have HK := Lib.hid (And.intro hap hblk)
  have HM := Lib.hid hM
  clear hB1 h hits hap hblk
  go_enter Try.func42, Try.ntmps42
  go_wp2_with fail
  refine C.mono ?_
  rintro e w2 ⟨o2, c2, rfl, h1, h2, h3⟩
  have hk := (h2.block _ HK.out.1).trans HK.out.2
  have e2 : w2.cell? ⟨w.heap.size, 0, none⟩ = some (.slice o its.length c) := cell_of hk rfl
  have f2 : w2.frozen? ⟨w.heap.size, 0, none⟩ = false := frozen_of hk
  have H1 := Lib.hid h1
  have H2 := Lib.hid h2
  have HK2 := Lib.hid hk
  have H3 := Lib.hid h3
  clear C h1 h2 h3 hk
  go_wp2
  go_ret
  have hB12 : RowKit.Below w.heap.size w w2 := HB1.out.trans (H2.out.mono HB1.out.size)
  have hc : Chg (fun g => g = w.heap.size) w2 (w2.setCell ⟨w.heap.size, 0, none⟩ (.slice o2 its.length c2)) := (Chg.refl (fun g => g = w.heap.size) w2).setCell (.inl rfl) _
  have hB13 : RowKit.Below w.heap.size w (w2.setCell ⟨w.heap.size, 0, none⟩ (.slice o2 its.length c2)) := hB12.trans (hc.below (B := w.heap.size) (fun i f => by omega) hB12.size)
  have hbox : (w2.setCell ⟨w.heap.size, 0, none⟩ (.slice o2 its.length c2)).heap[w.heap.size]? = some (.cells #[.slice o2 its.length c2] 82) := by
    rw [Mk.heap_setCell_same HK2.out]; rfl
  have hs3 : SQ (w2.setCell ⟨w.heap.size, 0, none⟩ (.slice o2 its.length c2)) (.slice o2 its.length c2) its := sl.stay H1.out (fun g hg => hc.block g (sl.lt H1.out hg) (fun e => by have := H3.out g hg; have := HK.out.1; omega))
  exact ⟨_, rfl, ⟨HM.out, _, merge_seq hbox hs3 (fun x hx => (HI.out x hx).move hB13.size (fun i hi => hB13.block i hi)) hn, fun g hg => hg⟩, hB13⟩
end Go.Proofs.Ytnhookblhckmlaa
