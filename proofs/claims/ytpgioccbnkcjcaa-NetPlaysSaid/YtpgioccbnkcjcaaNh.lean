/- Walks: Part. -/
import Derived.Test.YtpgioccbnkcjcaaNg
import Derived.Deep.RegionHeld3
namespace Go.Proofs.Ytpgioccbnkcjcaa
open Go.RowKit Mk

/-- The machines, the first k of them set on their sides. -/
def sided (xs : List Int) (k : Nat) (ms : List Mach) : List Mach := ms.mapIdx fun j m => if j < k then { m with side := decide (((j : Int) + 1) ∈ xs) } else m
theorem sided_len (xs : List Int) (k : Nat) (ms : List Mach) : (sided xs k ms).length = ms.length := by simp [sided]
theorem sided_get (xs : List Int) (k : Nat) (ms : List Mach) (j : Nat) (h : j < (sided xs k ms).length) : (sided xs k ms)[j] = if j < k then { ms[j]'(by rwa [sided_len] at h) with side := decide (((j : Int) + 1) ∈ xs) } else ms[j]'(by rwa [sided_len] at h) := by simp [sided]
theorem sided_zero (xs : List Int) (ms : List Mach) : sided xs 0 ms = ms := by
  apply List.ext_getElem (sided_len _ _ _)
  intro j h1 h2
  rw [sided_get]
  simp
theorem sided_step (xs : List Int) (k : Nat) (ms : List Mach) (h : k < (sided xs k ms).length) : (sided xs k ms).set k { (sided xs k ms)[k] with side := decide (((k : Int) + 1) ∈ xs) } = sided xs (k + 1) ms := by
  apply List.ext_getElem (by simp [sided_len])
  intro j h1 h2
  rw [List.getElem_set, sided_get xs (k + 1)]
  by_cases e : k = j
  · subst e
    simp [sided_get]
  · rw [if_neg e, sided_get]
    by_cases g : j < k
    · rw [if_pos g, if_pos (by omega)]
    · rw [if_neg g, if_neg (by omega)]
def partM (n : NetM) (xs : List Int) : NetM × Int := if xs.any fun x => !may n.ms.length x then (n, 2) else (⟨sided xs n.ms.length n.ms, n.l⟩, 0)

theorem step_store_bool {ops : Array Oper} {o : Oper} {a : Act} {w : World} {K : Act → World → Prop} {Q : Exit → Act → World → Prop} {E : Prop}
    (hg : o.guard = none) (x y : Operand) (hop : o.op = Op.store 4 x y) (ad : Addr) (hx : a.eval x = .pointer (some ad)) (p : Bool) (hy : a.eval y = .bool p) (x0 : Bool)
    (hc : w.cell? ad = some (.bool x0)) (hf : w.frozen? ad = false) (hK : K (a.put o.dst undef) (w.setCell ad (.bool p))) :
    if Region.wanted o (yielded ops a.tmps) = true then Oper.wp Try.prog o a w K Q else E := by
  have hw : Region.wanted o (yielded ops a.tmps) = true := by simp [Region.wanted, hg]
  rw [if_pos hw]
  have hrun : (Instr.storeAt 4 (.pointer (some ad)) (.bool p)).run Try.prog w = .ok () (w.setCell ad (.bool p)) := by
    simp [Instr.storeAt, Instr.sureAddr, storeVar, Value.cells, storeCells, run_store Try.prog w ad (.bool p) .plain rfl, hc, hf, go_sem]
  unfold Oper.wp execOp
  simp only [hop, hx, hy, hrun, Sem.run_bind, Sem.run_pure, Result.andThen_ok]
  exact hK

theorem IntsAt.keep {w w' : World} {so : Option Addr} {xs : List Int} (h : IntsAt w so xs) (hs : ∀ g o, so = some ⟨g, o, none⟩ → 0 < xs.length → w'.heap[g]? = w.heap[g]?) (hz : w.heap.size ≤ w'.heap.size) : IntsAt w' so xs where
  ok := h.ok
  len := h.len
  cell i hi := by
    obtain ⟨g, o, e, hg, hc⟩ := h.cell i hi
    exact ⟨g, o, e, by omega, (World.cell?_of_block (a := ⟨g, o + i, none⟩) (hs g o e (Nat.lt_of_le_of_lt (Nat.zero_le _) hi))).trans hc⟩
/-- Part's loop. -/
structure PartAt (w1 : World) (b r : Nat) (mb : MB) (L : List (Lnk × Value)) (F : Nat → Prop) (n : NetM) (xs : List Int) (so : Option Addr) (k : Nat) (wr : World) : Prop where
  rep : NetRep wr b r mb L F ⟨sided xs k n.ms, n.l⟩
  box : wr.cell? ⟨w1.heap.size - 1, 0, none⟩ = some (.pointer (some ⟨b, 0, none⟩))
  ints : IntsAt wr so xs
  chg : Chg F w1 wr

set_option maxRecDepth 100000 in
set_option maxHeartbeats 2000000 in
theorem part_any {w : World} {b r : Nat} {mb : MB} {L : List (Lnk × Value)} {F : Nat → Prop} {n : NetM} (h : NetRep w b r mb L F n) {so : Option Addr} {sc : Nat} {xs : List Int} (hi : IntsAt w so xs) (hsep : ∀ g o, so = some ⟨g, o, none⟩ → 0 < xs.length → ¬ F g) (hF : ∀ g, F g → g < w.heap.size) :
    Calls Try.prog 18 #[.pointer (some ⟨b, 0, none⟩), .slice so xs.length sc] w fun e w' => e = .returned (.int .i64 (partM n xs).2) ∧ NetRep w' b r mb L F (partM n xs).1 ∧ Chg F w w' := by
  have c1w : w.cell? ⟨b, 1, none⟩ = some (.slice (some ⟨mb, 0, none⟩) n.ms.length mb.c) := cell_of h.net (by simp)
  have n1 := World.new_ne w _ c1w
  simp only at n1
  have c1a : (w.alloc (.cells #[.pointer (some ⟨b, 0, none⟩)] 22)).cell? ⟨b, 1, none⟩ = some (.slice (some ⟨mb, 0, none⟩) n.ms.length mb.c) := (World.cell?_of_block (a := ⟨b, 1, none⟩) (Below.heap_alloc _ _ _ h.lt.1)).trans c1w
  have hc0 : Chg F w (w.alloc (.cells #[.pointer (some ⟨b, 0, none⟩)] 22)) := (Chg.refl _ _).alloc _
  have h1 : NetRep (w.alloc (.cells #[.pointer (some ⟨b, 0, none⟩)] 22)) b r mb L F n := h.stay (G := fun _ => False) ((Chg.refl _ _).alloc _) (fun _ _ h => h)
  have hb1 : (w.alloc (.cells #[.pointer (some ⟨b, 0, none⟩)] 22)).cell? ⟨w.heap.size, 0, none⟩ = some (.pointer (some ⟨b, 0, none⟩)) := cell_of (Go.heap_alloc_new w _) (by simp)
  have hi1 : IntsAt (w.alloc (.cells #[.pointer (some ⟨b, 0, none⟩)] 22)) so xs := hi.stay (fun g hg => Below.heap_alloc _ _ _ hg) (by simp)
  have hz1 : (w.alloc (.cells #[.pointer (some ⟨b, 0, none⟩)] 22)).heap.size = w.heap.size + 1 := by simp
  have HF := Lib.hid hF
  have HSEP := Lib.hid hsep
  clear h hi hF hsep
  obtain ⟨w1, hw1⟩ : ∃ W, w.alloc (.cells #[.pointer (some ⟨b, 0, none⟩)] 22) = W := ⟨_, rfl⟩
  rw [hw1] at hc0 h1 hb1 hi1 hz1
  have HW1 := Lib.hid hw1
  have HC0 := Lib.hid hc0
  have H1 := Lib.hid h1
  have HI1 := Lib.hid hi1
  have CF := Lib.hid (containsFunc_any (sc := sc) hi1 h1.net hb1)
  have c1 : w1.cell? ⟨b, 1, none⟩ = some (.slice (some ⟨mb, 0, none⟩) n.ms.length mb.c) := cell_of h1.net (by simp)
  have nn := not_nil mb n.ms.length mb.c
  have hlen := h1.few.1
  obtain ⟨N, hN⟩ : ∃ N, n.ms.length = N := ⟨_, rfl⟩
  obtain ⟨m, hm⟩ : ∃ m, xs.length = m := ⟨_, rfl⟩
  have HN := Lib.hid hN
  have HM := Lib.hid hm
  cases ha : (xs.any fun x => !may n.ms.length x)
  · have hp : partM n xs = (⟨sided xs N n.ms, n.l⟩, 0) := by unfold partM; rw [ha, ← hN]; simp
    rw [ha] at CF
    rw [hp, hm]
    rw [hN] at c1 nn hlen c1w c1a
    rw [hm] at CF
    clear hp h1 hi1 hc0 hw1 ha hN hm
    go_enter Try.func18, Try.ntmps18
    go_wp2_with fail
    rw [HW1.out]
    refine CF.out.mono ?_
    rintro e w' ⟨rfl, rfl⟩
    go_wp2
    go_loopw [23] (fun i wr => ∃ k : Nat, k ≤ N ∧ i = .int .i64 k ∧ Hid (PartAt w' b r mb L F n xs so k wr)) (fun i _ => N - (intOf i).toNat)
    case atStart =>
      refine ⟨0, by omega, rfl, Lib.hid ⟨?_, ?_, HI1.out, Chg.refl _ _⟩⟩
      · rw [sided_zero]; exact H1.out
      · rw [hz1]; exact hb1
    case round =>
      obtain ⟨k, hk, rfl, HS⟩ := hrel
      by_cases hlt : k < N
      · have hd : decide (k < N) = true := by simpa using hlt
        have hkl : k < (sided xs k n.ms).length := by rw [sided_len, HN.out]; exact hlt
        have CT := contains_any (sc := sc) (HS.out.ints.stay (w' := wr.drew) (fun _ _ => rfl) (Nat.le_refl _)) ((k : Int) + 1)
        rw [HM.out] at CT
        replace CT := Lib.hid CT
        have d1 : wr.cell? ⟨b, 1, none⟩ = some (.slice (some ⟨mb, 0, none⟩) N mb.c) := by
          have := cell_of (i := 1) (v := .slice (some ⟨mb, 0, none⟩) (sided xs k n.ms).length mb.c) HS.out.rep.net rfl
          rw [sided_len, HN.out] at this
          exact this
        have bx : wr.cell? ⟨w.heap.size, 0, none⟩ = some (.pointer (some ⟨b, 0, none⟩)) := by have := HS.out.box; rwa [hz1] at this
        have e0 : ∃ x0, wr.cell? ⟨mb, k * 3 + 2, none⟩ = some (.bool x0) := ⟨_, by rw [Nat.mul_comm]; exact (cell_mach HS.out.rep.mach hkl).2.2⟩
        have f0 : wr.frozen? ⟨mb, k * 3 + 2, none⟩ = false := frozen_of HS.out.rep.mach
        have hwk : IntKind.i64.wrap ((k : Int) + 1) = (k : Int) + 1 := by simp only [IntKind.wrap, IntKind.bits, IntKind.signed]; simp; omega
        have l0 : (0 : Int) ≤ k := by omega
        have l1 : (k : Int) < N := by omega
        have hw0 : wr.drew.cell? ⟨b, 1, none⟩ = wr.cell? ⟨b, 1, none⟩ := rfl
        have hbm := HS.out.rep.ne.1
        have hbw : w.heap.size ≠ mb := fun e => by have := HF.out mb H1.out.fmb; omega
        obtain ⟨p, hp⟩ : ∃ p, decide (((k : Int) + 1) ∈ xs) = p := ⟨_, rfl⟩
        rw [hp] at CT
        have HP := Lib.hid hp
        clear hp
        obtain ⟨x0, e0⟩ := e0
        have s1 : (wr.setCell ⟨mb, k * 3 + 2, none⟩ (.bool p)).drew.cell? ⟨b, 1, none⟩ = some (.slice (some ⟨mb, 0, none⟩) N mb.c) := (World.cell?_of_block (a := ⟨b, 1, none⟩) (Below.heap_setCell wr ⟨mb, k * 3 + 2, none⟩ _ b hbm)).trans d1
        have s2 : (wr.setCell ⟨mb, k * 3 + 2, none⟩ (.bool p)).drew.cell? ⟨w.heap.size, 0, none⟩ = some (.pointer (some ⟨b, 0, none⟩)) := (World.cell?_of_block (a := ⟨w.heap.size, 0, none⟩) (Below.heap_setCell wr ⟨mb, k * 3 + 2, none⟩ _ w.heap.size hbw)).trans bx
        go_wp2
        go_region_held3 (fun v => v.cell? ⟨b, 1, none⟩ = some (.slice (some ⟨mb, 0, none⟩) N mb.c) ∧ v.cell? ⟨w.heap.size, 0, none⟩ = some (.pointer (some ⟨b, 0, none⟩))) (first | go_keep | (refine ⟨?_, ?_⟩ <;> assumption)) (first | (go_at_call 32; refine CT.out.mono ?_; rintro e w' ⟨rfl, rfl⟩))
        have hm1 : (wr.setCell ⟨mb, k * 3 + 2, none⟩ (.bool p)).heap[mb.b]? = some (.cells (mcells ((sided xs k n.ms).set k { (sided xs k n.ms)[k] with side := p }) ++ mb.rest).toArray 69) := by
          rw [Mk.heap_setCell_same HS.out.rep.mach, List.setIfInBounds_toArray, show k * 3 + 2 = 3 * k + 2 by omega, List.set_append_left _ _ (by rw [mcells_len]; exact Nat.lt_of_lt_of_le (show 3 * k + 2 < 3 * (sided xs k n.ms).length by omega) (Nat.le_refl _)), mcells_side _ _ hkl]
        have hr1 := (HS.out.rep.setM (j := k) hm1 (fun i hi => Below.heap_setCell _ _ _ _ hi)).stay (w' := (wr.setCell ⟨mb, k * 3 + 2, none⟩ (.bool p)).drew) (G := fun _ => False) ((Chg.refl _ _).drew) (fun _ _ h => h)
        have hP2 : PartAt w' b r mb L F n xs so (k + 1) (wr.setCell ⟨mb, k * 3 + 2, none⟩ (.bool p)).drew := by
          refine ⟨?_, ?_, ?_, (HS.out.chg.setCell (a := ⟨mb, k * 3 + 2, none⟩) (Or.inl H1.out.fmb) _).drew⟩
          · have e := sided_step xs k n.ms hkl
            rw [HP.out] at e
            unfold setM at hr1
            simp only at hr1
            rw [e] at hr1
            exact hr1
          · rw [hz1]; exact s2
          · refine HS.out.ints.keep (fun g o e h0 => Below.heap_setCell wr ⟨mb, k * 3 + 2, none⟩ _ g (fun e2 => HSEP.out g o e h0 (by rw [e2]; exact H1.out.fmb))) (by simp [World.setCell, World.drew])
        have HP2 := Lib.hid hP2
        clear hP2 hr1 hm1
        go_wp2
        go_round
        case rel => exact ⟨k + 1, by omega, by go_num, HP2⟩
        case measure => simp [intOf]; omega
      · have hd : decide (k < N) = false := by simpa using hlt
        have hkN : k = N := by omega
        subst hkN
        go_wp2
        go_ret
        exact ⟨rfl, HS.out.rep, HC0.out.trans HS.out.chg⟩
  · have hp : partM n xs = (n, 2) := by unfold partM; rw [ha]; simp
    rw [ha] at CF
    rw [hp, hm]
    rw [hN] at c1 nn hlen c1w c1a
    rw [hm] at CF
    clear hp h1 hi1 hc0 hw1 ha hN hm
    go_enter Try.func18, Try.ntmps18
    go_wp2_with fail
    rw [HW1.out]
    refine CF.out.mono ?_
    rintro e w' ⟨rfl, rfl⟩
    go_wp2
    go_ret
    exact ⟨rfl, H1.out, HC0.out⟩
end Go.Proofs.Ytpgioccbnkcjcaa
