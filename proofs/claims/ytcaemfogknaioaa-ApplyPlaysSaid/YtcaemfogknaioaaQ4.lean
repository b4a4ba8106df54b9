/- Walks: a loop's Copy. -/
import Derived.Test.YtcaemfogknaioaaD3
import Derived.Test.YtcaemfogknaioaaRange
import Derived.Test.YtcaemfogknaioaaP1
import Derived.Deep.CutBlock
namespace Go.Proofs.Ytcaemfogknaioaa
set_option linter.unusedVariables false
set_option linter.unusedSimpArgs false
open Go.RowKit Mk Go.Sort

/-- Behind some rounds of Copy. -/
structure CopyAt (w : World) (r kb r2 it S : Nat) (m : LoopM) (left : List (Nat × Value)) (D : List (Nat × Last)) (wr : World) : Prop where
  over : rangeAt okU kvU wr it r (clv m.clients) left
  new : LoopRep wr kb r2 (fun g => g = kb ∨ g = r2) S ⟨m.state, m.index, D⟩
  chg : Chg (fun _ => False) w wr
  lk : w.heap.size ≤ kb
  lr : w.heap.size ≤ r2
  li : w.heap.size ≤ it
  n1 : it ≠ kb
  n2 : it ≠ r2
  rl : r < w.heap.size
section
variable {w w' wr w1 : World} {b r kb r2 it : Nat} {F : Nat → Prop} {S : Nat} {m : LoopM} {left : List (Nat × Value)} {D : List (Nat × Last)}
theorem CopyAt.ranged (h : CopyAt w r kb r2 it S m left D wr) {l2 : List (Nat × Value)} (hc : Chg (fun i => i = it) wr w1) (ho : rangeAt okU kvU w1 it r (clv m.clients) l2) : CopyAt w r kb r2 it S m l2 D w1 :=
  ⟨ho, h.new.stay hc (fun g hg e => by have := h.n1; have := h.n2; rcases hg with rfl | rfl <;> omega), h.chg.trans' hc (fun g e => Or.inr (by have := h.li; omega)), h.lk, h.lr, h.li, h.n1, h.n2, h.rl⟩
theorem CopyAt.same (h : CopyAt w r kb r2 it S m left D wr) (hc : Chg (fun _ => False) wr w1) : CopyAt w r kb r2 it S m left D w1 :=
  ⟨h.over.stay (hc.block _ h.over.lt.1 (fun f => f)) (hc.block _ h.over.lt.2.1 (fun f => f)), h.new.stay hc (fun _ _ f => f), h.chg.trans hc, h.lk, h.lr, h.li, h.n1, h.n2, h.rl⟩
theorem CopyAt.store (h : CopyAt w r kb r2 it S m left D wr) {c : Nat} (hc : okU c) (x : Last) :
    ∃ o, (Instr.mapUpdate 77 (.map (some r2)) (.int .u64 c) (lastV x)).run Try.prog wr = .ok () (ChangeMaps.setBlock wr r2 o) ∧ CopyAt w r kb r2 it S m left (upd D c x) (ChangeMaps.setBlock wr r2 o) := by
  obtain ⟨o, hu, h1, c1⟩ := h.new.store hc x
  have hb := h.lr
  have hr := h.rl
  have hn := h.n2
  refine ⟨o, hu, h.over.stay (heap_setBlock_ne (by omega)) (heap_setBlock_ne hn), h1, h.chg.trans' c1 (fun g e => Or.inr (by have := h.lk; rcases e with e | e <;> omega)), h.lk, h.lr, h.li, h.n1, h.n2, h.rl⟩
set_option maxRecDepth 100000 in
set_option maxHeartbeats 8000000 in
theorem copy_any (h : LoopRep w b r F S m) : Calls Try.prog 26 #[.pointer (some ⟨b, 0, none⟩)] w fun e w' => ∃ kb D, e = .returned (.pointer (some ⟨kb, 0, none⟩)) ∧ LoopIs w' kb (fun g => w.heap.size ≤ g) S ⟨m.state, m.index, D⟩ ∧ Chg (fun _ => False) w w' := by
  have NA := Lib.hid (not_any h)
  have hmm : ∀ v : World, (Instr.makeMap 77 none).run Try.prog v = .ok (.map (some v.heap.size)) (v.alloc (.map #[] 0)) := fun v => run_makeMap 77 v
  obtain ⟨c0, c1, c2, c3⟩ := h.cells
  have hbl := (Array.getElem?_eq_some_iff.1 h.loop).1
  have hrl := h.map.lt
  have z1 : (w.alloc (.cells #[.string m.state, .func (.func 14) #[] #[], .int .u64 (m.index : Nat), .map (some (w.heap.size + 1))] 79)).heap.size = w.heap.size + 1 := by simp
  have z2 : ((w.alloc (.cells #[.string m.state, .func (.func 14) #[] #[], .int .u64 (m.index : Nat), .map (some (w.heap.size + 1))] 79)).alloc (.map #[] 0)).heap.size = w.heap.size + 1 + 1 := by simp
  have ch : Chg (fun _ => False) w ((w.alloc (.cells #[.string m.state, .func (.func 14) #[] #[], .int .u64 (m.index : Nat), .map (some (w.heap.size + 1))] 79)).alloc (.map #[] 0)) := ((Chg.refl _ _).alloc _).alloc _
  have h1 := h.stay ch (fun _ _ f => f)
  have hnew : LoopRep ((w.alloc (.cells #[.string m.state, .func (.func 14) #[] #[], .int .u64 (m.index : Nat), .map (some (w.heap.size + 1))] 79)).alloc (.map #[] 0)) w.heap.size (w.heap.size + 1) (fun g => g = w.heap.size ∨ g = w.heap.size + 1) S ⟨m.state, m.index, []⟩ := by
    refine ⟨(Below.heap_alloc _ _ _ (by simp)).trans (Go.heap_alloc_new _ _), ?_, h.idx, h.size, Or.inl rfl, Or.inr rfl⟩
    have := mapAt_made (ok := okU) (kv := kvU) (w.alloc (.cells #[.string m.state, .func (.func 14) #[] #[], .int .u64 (m.index : Nat), .map (some (w.heap.size + 1))] 79))
    rw [z1] at this
    exact this
  obtain ⟨it, hrg, ho⟩ := h1.map.range (P := Try.prog) Try.underlying77
  rw [z2] at hrg ho
  have HA := Lib.hid (show CopyAt w r w.heap.size (w.heap.size + 1) (w.heap.size + 1 + 1) S m (clv m.clients) [] _ from ⟨ho, hnew.stay ((Chg.refl _ _).alloc it) (fun _ _ f => f), ch.alloc it, Nat.le_refl _, by omega, by omega, by omega, by omega, hrl⟩)
  have c31 := h1.cells.2.2.2
  clear h h1 hnew ho z1 z2 ch
  obtain ⟨kb, HKB⟩ : ∃ k, Hid (w.heap.size = k) := ⟨_, Lib.hid rfl⟩
  obtain ⟨r2, HR2⟩ : ∃ k, Hid (w.heap.size + 1 = k) := ⟨_, Lib.hid rfl⟩
  obtain ⟨ib, HIB⟩ : ∃ k, Hid (w.heap.size + 1 + 1 = k) := ⟨_, Lib.hid rfl⟩
  obtain ⟨W1, HW1⟩ : ∃ W, Hid ((w.alloc (.cells #[.string m.state, .func (.func 14) #[] #[], .int .u64 (m.index : Nat), .map (some (w.heap.size + 1))] 79)).alloc (.map #[] 0) = W) := ⟨_, Lib.hid rfl⟩
  rw [HW1.out, HIB.out] at hrg HA
  rw [HR2.out, HKB.out] at HA
  rw [HW1.out] at c31
  go_enter Try.func26, Try.ntmps26
  go_wp2_with fail
  refine NA.out.mono ?_
  rintro e w' ⟨rfl, rfl⟩
  clear NA
  go_upto_region 5 with fail
  rw [HW1.out, HR2.out, HKB.out]
  clear HW1 c0 c1 c2 c3
  go_wp2_with fail
  go_loopw [] (fun wr => ∃ left D, Hid (CopyAt w' r kb r2 ib S m left D wr)) (fun wr => wr.rangeLeft r ib)
  case atStart => exact ⟨_, _, HA⟩
  case round =>
    obtain ⟨left, D, HU⟩ := hrel
    clear HA
    rcases HU.out.over.next (P := Try.prog) with ⟨h0, hn⟩ | ⟨a, p, bb, w1, h0, hn, hc, hsz, ho, hen⟩
    · clear h0 hrg
      go_wp2_with fail
      go_ret
      exact ⟨kb, D, rfl, ⟨r2, HU.out.new.foot (fun g e => by have := HU.out.lk; have := HU.out.lr; rcases e with e | e <;> omega)⟩, HU.out.chg⟩
    · have hen' := hen w1 rfl rfl
      have hpm : p ∈ clv m.clients := HU.out.over.sub.subset (by rw [h0]; simp)
      obtain ⟨⟨k, q, y⟩, hq, rfl⟩ := List.mem_map.1 hpm
      have hk : okU k := by
        obtain ⟨es, cc, hm, -⟩ := HU.out.over.map
        obtain ⟨es', cc', -, E⟩ := HU.out.over.map
        exact E.ok (k, lastV (q, y)) hpm
      unfold kvU lastV at hn hen'
      simp only at hn hen'
      have h2 := HU.out.ranged hc ho
      have H0 := Lib.hid h0
      have HX := Lib.hid (Go.heap_alloc_new w1 (.cells #[.int .u64 (q : Nat), .string y] 82))
      have h3 := h2.same ((Chg.refl _ w1).alloc (.cells #[.int .u64 (q : Nat), .string y] 82))
      have y3 := h3.new.cells.2.2.2
      have y4 : w1.cell? ⟨kb, 3, none⟩ = some (.map (some r2)) := h2.new.cells.2.2.2
      have x0 : (w1.alloc (.cells #[.int .u64 (q : Nat), .string y] 82)).cell? ⟨w1.heap.size, 0, none⟩ = some (.int .u64 (q : Nat)) := cell_of HX.out rfl
      have x1 : (w1.alloc (.cells #[.int .u64 (q : Nat), .string y] 82)).cell? ⟨w1.heap.size, 1, none⟩ = some (.string y) := cell_of HX.out rfl
      obtain ⟨o, hu, h4⟩ := h3.store hk (q, y)
      unfold lastV at hu
      simp only at hu
      have H4 := Lib.hid h4
      clear h0 hc hsz ho hen hpm hq hk h2 h3 h4 hrg HX
      go_wp2_with fail
      go_roundw
      case rel => exact ⟨_, _, H4⟩
      case measure => rw [H4.out.over.left_eq, HU.out.over.left_eq, H0.out]; simp
end
end Go.Proofs.Ytcaemfogknaioaa
