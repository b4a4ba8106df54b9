/- Walks: a list of things: Clone, Clip. -/
import Derived.Test.YtjflkmihkfbgpaaX5
import Derived.Lib.SliceRun
namespace Go.Proofs.Ytjflkmihkfbgpaa
open Go.RowKit Mk Go.Sort
set_option linter.unusedVariables false
set_option linter.unusedSimpArgs false

section
variable {w : World} {v : Value} {n : Nat} {xs : List Value}
set_option maxRecDepth 100000 in
set_option maxHeartbeats 1000000 in
theorem tclone_any (h : sl w 64 2 v n xs) (hone : ∀ u ∈ xs, u.oneCell' = true) (hL : n ≤ 1099511627776) :
    Calls Try.prog 41 #[v] w fun e w' => ∃ o c, e = .returned (.slice o n c) ∧ sl w' 64 2 (.slice o n c) n xs ∧ Below w.heap.size w w' ∧ (∀ g, (Value.slice o n c).ownBlock = some g → w.heap.size ≤ g) := by
  obtain ⟨i6, z6, hi6, hz6, hsz6, hby6, hzs6⟩ := info64
  have hlen := h.1
  rcases h.2 with ⟨rfl, rfl⟩ | ⟨g, cap, cur, rfl, hg, hnc, hcm, hcs, ht⟩
  · have q := fun (w : World) => Lib.run_eql_slice_nil (P := Try.prog) w 55 64 none 0 0 0 0 Try.underlying55
    go_enter Try.func41, Try.ntmps41
    go_wp2
    go_ret
    exact ⟨_, _, rfl, h, Below.refl _ _, fun g e => by simp [Value.ownBlock] at e⟩
  · have hB : Below w.heap.size w (w.alloc (.cells #[] 64)) := (Below.refl _ w).alloc (Nat.le_refl _) _
    have hS : sl (w.alloc (.cells #[] 64)) 64 2 (.slice (some ⟨g, 0, none⟩) n cap) n xs := sl.stay h (fun g' hg' => hB.block g' (sl.lt h hg'))
    have hE : sl (w.alloc (.cells #[] 64)) 64 2 (.slice (some ⟨w.heap.size, 0, none⟩) 0 0) 0 [] := ⟨rfl, Or.inr ⟨w.heap.size, 0, #[], rfl, Go.heap_alloc_new _ _, Nat.le_refl _, Nat.zero_le _, by simp, rfl⟩⟩
    have hN : ∀ j u, xs[j]? = some u → (w.alloc (.cells #[] 64)).cell? ((⟨g, 0, none⟩ : Addr).add j) = some u := fun j u hj => by
      obtain ⟨g', cap', e, hc⟩ := sl.cell hS hj
      cases e
      rw [Addr.add_lit, Nat.zero_add]
      exact hc
    have HN := Lib.hid hN
    have HE := Lib.hid hE
    have HO := Lib.hid hone
    have HL := Lib.hid hlen
    have HB := Lib.hid hB
    clear hN hE hone hlen hB hS h hg hcs ht
    have l1 : n ≤ maxLen := by simp only [maxLen]; omega
    have q := fun (w : World) => Lib.run_eql_slice_nil (P := Try.prog) w 55 64 (some ⟨g, 0, none⟩) n cap 0 0 Try.underlying55
    go_enter Try.func41, Try.ntmps41
    go_wp2_with (refine wpList_append_sl (by rfl) _ _ 55 (by rfl) 64 i6 z6 2 24 Try.underlying55 hi6 hz6 hsz6 hby6 hzs6 (by decide) (.slice (some ⟨w.heap.size, 0, none⟩) 0 0) 0 [] (by rfl) HE.out (some ⟨g, 0, none⟩) n cap xs (by rfl) HL.out (fun _ => ⟨_, rfl, HN.out⟩) (fun _ h => by cases h) HO.out (by omega) (by omega) ?_; intro v' w2 hsl hgrow hat)
    go_ret
    have hsl' : sl w2 64 2 v' n xs := by simpa using hsl
    obtain ⟨o', c', rfl⟩ := sl_shape hsl'
    refine ⟨o', c', rfl, hsl', ?_, fun i e => ?_⟩
    · refine HB.out.trans ⟨hgrow.os, hgrow.tape, hgrow.output, hgrow.size, fun i hi => hgrow.block i (by simp; omega) (fun e => ?_)⟩
      simp [Value.ownBlock] at e
      omega
    · rcases hat with e2 | e2
      · rw [e2] at e; simp [Value.ownBlock] at e; omega
      · rw [e2] at e; simp at e; omega
theorem tclip_any (h : sl w 64 2 v n xs) :
    Calls Try.prog 40 #[v] w fun e w' => ∃ o c, e = .returned (.slice o n c) ∧ sl w' 64 2 (.slice o n c) n xs ∧ w' = w ∧ (Value.slice o n c).ownBlock = v.ownBlock := by
  have H := Lib.hid h
  have hlen := h.1
  rcases h.2 with ⟨rfl, rfl⟩ | ⟨g, cap, cur, rfl, hg, hnc, hcm, hcs, ht⟩
  · clear h
    go_enter Try.func40, Try.ntmps40
    go_wp2
    go_ret
    exact ⟨_, _, rfl, H.out, rfl, rfl⟩
  · have HC := Lib.hid (show sl w 64 2 (.slice (some ⟨g, 0, none⟩) n n) n xs from by
      have := sl.cut h (Nat.le_refl n)
      rwa [List.take_of_length_le (by omega)] at this)
    have l0 : (0 : Int) ≤ n := by omega
    have l1 : (n : Int) ≤ cap := by omega
    have l2 : n ≤ cap := hnc
    clear h hg hcm hcs ht hlen
    go_enter Try.func40, Try.ntmps40
    go_wp2
    go_ret
    exact ⟨_, _, rfl, HC.out, rfl, rfl⟩
end
end Go.Proofs.Ytjflkmihkfbgpaa
