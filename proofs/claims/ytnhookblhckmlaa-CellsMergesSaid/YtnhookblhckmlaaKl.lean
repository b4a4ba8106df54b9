/- Walks: what All hands over; took. -/
import Derived.Test.YtnhookblhckmlaaKk
import Derived.Test.YtnhookblhckmlaaRF
import Derived.Shelf.Abstract
import Derived.Shelf.RegionOpen
import Derived.OwnWalkIn
import Derived.TacticsInMore
import Derived.LoopNIn
import Derived.LoopIn
namespace Go.Proofs.Ytnhookblhckmlaa
set_option linter.unusedVariables false
set_option linter.unusedSimpArgs false
open Go.RowKit Mk Go.Shelf
attribute [local go_sem] Oper.semAt_some

/-- The iterator, k cells handed over: the copy that it goes over; the caller's word. -/
structure AllAt (L : List CellM) (J : List CellM → (Nat → Prop) → World → Prop) (n0 : Nat) (cv : Value) (k : Nat) (F : Nat → Prop) (wr : World) : Prop where
  has : Has wr cv L
  own : ∀ g, cv.ownBlock = some g → n0 ≤ g ∧ ¬ F g
  say : J (L.take k) F wr
  size : n0 ≤ wr.heap.size

set_option maxRecDepth 100000 in
set_option maxHeartbeats 2000000 in
theorem all_seq {w : World} {b box : Nat} {lv : Value} {L : List CellM} (h : CR w b lv L) (hL : L.length ≤ 1099511627776) (hbox : w.heap[box]? = some (.cells #[.pointer (some ⟨b, 0, none⟩)] 29)) :
    SeqF Try.prog 41 #[.pointer (some ⟨box, 0, none⟩)] (fun x : CellM => #[cellV x]) (fun pre => pre <+: L) (fun xs => xs = L) (fun g => g = box ∨ g = b ∨ lv.ownBlock = some g) w := by
  intro l J Jx W F0 hsz hR hF0 hJ hJx hY h0
  have hcr : CR W b lv L := ⟨(hR b (by simp)).trans h.blk, sl.stay h.has (fun g hg => hR g (by simp [hg])), h.apart⟩
  have hb := (hR box (by simp)).trans hbox
  have q0 : W.cell? ⟨box, 0, none⟩ = some (.pointer (some ⟨b, 0, none⟩)) := cell_of hb rfl
  have d0 : W.cell? ⟨b, 0, none⟩ = some lv := cell_of hcr.blk rfl
  have N := Lib.hid (not_some hcr.blk)
  have C := Lib.hid (clone_any hcr.has hL)
  have HJ := Lib.hid hJ
  have HJx := Lib.hid hJx
  have HY := Lib.hid hY
  have H0 := Lib.hid h0
  have HF0 := Lib.hid hF0
  obtain ⟨lo, lc, rfl⟩ := h.has.shape
  clear h hbox hR hF0 hJ hJx hY h0 hcr hb hsz
  show CallsIn Fence.wide 2 Try.prog 41 #[.func (.yield l) #[] #[], .pointer (some ⟨box, 0, none⟩)] W _
  refine callsIn_of_wp Try.func41 rfl trivial ?_ rfl
  simp only [Try.ntmps41, List.size_toArray, List.length_cons, List.length_nil, Nat.reduceAdd, Nat.reduceSub, Array.replicate_succ, Array.replicate_zero, List.push_toArray, List.append_toArray, List.nil_append, List.cons_append]
  gi_wp2_with (first | (refine ⟨trivial, ?_⟩; gi_at_call 30; refine (callsIn_wide.2 N.out).mono ?_; rintro e w' ⟨rfl, rfl⟩) | (refine ⟨trivial, ?_⟩; gi_at_call 35; refine (callsIn_wide.2 C.out).mono ?_; rintro e w2 ⟨v', rfl, h1, h2, h3⟩; obtain ⟨o1, c1, rfl⟩ := h1.shape))
  have HB := Lib.hid (show AllAt L J w'.heap.size (.slice o1 L.length c1) 0 F0 w2 from
    ⟨h1, fun g hg => ⟨h3 g hg, fun f => by have := HF0.out g f; have := h3 g hg; omega⟩, by simpa using HJ.out _ _ _ _ H0.out (⟨h2.os, h2.tape, h2.output, h2.size, fun i hi _ => h2.block i hi⟩), h2.size⟩)
  clear h1 h2 h3 q0 d0 N C H0
  gi_loopw [13] (fun i wr => ∃ (k : Nat) (F : Nat → Prop), k ≤ L.length ∧ i = .int .i64 k ∧ Hid (AllAt L J w'.heap.size (.slice o1 L.length c1) k F wr)) (fun i _ => L.length - (intOf i).toNat)
  case atStart => exact ⟨0, F0, by omega, rfl, HB⟩
  case round =>
    obtain ⟨k, F, hk, rfl, HI⟩ := hrel
    clear HB
    have l0 : (0 : Int) ≤ k := by omega
    by_cases hlt : k < L.length
    · obtain ⟨x, hx⟩ : ∃ x, L[k]? = some x := ⟨L[k]'hlt, List.getElem?_eq_getElem hlt⟩
      have hkt : L.take (k + 1) = L.take k ++ [x] := by rw [List.take_add_one, hx]; rfl
      have hpre : L.take k ++ [x] <+: L := by rw [← hkt]; exact List.take_prefix _ _
      obtain ⟨g, cap, e, h0, h1, h2, h3⟩ := HI.out.has.cells hx
      cases e
      have hB : RowKit.Below wr.heap.size wr (wr.alloc (.cells (cellL x).toArray 24)) := (Below.refl _ wr).alloc (Nat.le_refl _) _
      have hJ1 := HJ.out _ _ _ _ HI.out.say ((chg_of_below hB).mono (fun _ f => f.elim) : Chg (fun g => w'.heap.size ≤ g ∧ ¬ F g) wr _)
      obtain ⟨fn, tmps, assign, body, hy, hR⟩ := HY.out (L.take k) x F _ hJ1 hpre
      have hgo : ∀ (W' : World) (F' : Nat → Prop), Wider F F' (wr.alloc (.cells (cellL x).toArray 24)) → Chg F (wr.alloc (.cells (cellL x).toArray 24)) W' → J (L.take k ++ [x]) F' W' → AllAt L J w'.heap.size (.slice (some ⟨g, 0, none⟩) L.length c1) (k + 1) F' W' := fun W' F' hw hc hj => by
        have hh := HI.out.has.stay hB
        refine ⟨sl.stay hh (fun g' hg' => hc.block g' (sl.lt hh hg') (HI.out.own g' hg').2), fun g' hg' => ⟨(HI.out.own g' hg').1, fun f => ?_⟩, by rw [hkt]; exact hj, ?_⟩
        · rcases hw g' f with f | f
          · exact (HI.out.own g' hg').2 f
          · have := sl.lt HI.out.has hg'
            simp at f
            omega
        · have := HI.out.size
          have := hB.size
          have := hc.size
          omega
      have HGO := Lib.hid hgo
      have HKT := Lib.hid hkt
      have HPRE := Lib.hid hpre
      obtain ⟨xk, xt, xd, xv⟩ := x
      simp only [cellV, cellL] at hy h0 h1 h2 h3
      have l1 : (k : Int) < L.length := by omega
      have q : decide (k < L.length) = true := by simpa using hlt
      clear hkt hpre hx hB hJ1 hgo
      gi_wp2
      refine hR.mono ?_
      rintro e W' ⟨F', hw, hc, -, (⟨rfl, hj⟩ | ⟨rfl, hj⟩)⟩
      · have HG := Lib.hid (HGO.out W' F' hw hc hj)
        clear hw hc hj
        gi_wp2
        go_roundw
        case rel => exact ⟨k + 1, F', by omega, by go_num, HG⟩
        case measure => simp [intOf]; omega
      · have HG := Lib.hid hj
        clear hw hc hj
        gi_wp2
        refine bodyPost_ret (results_none rfl _ _ _) rfl ?_
        exact ⟨⟨_, rfl⟩, .inr ⟨_, F', HPRE.out, HG.out⟩⟩
    · obtain rfl : k = L.length := by omega
      have q : decide (L.length < L.length) = false := by simp
      gi_wp2
      go_end0
      have hj := HI.out.say
      rw [List.take_length] at hj
      exact ⟨⟨_, rfl⟩, .inl ⟨_, F, rfl, hj⟩⟩
end Go.Proofs.Ytnhookblhckmlaa
