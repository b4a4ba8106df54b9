/- The document's net: Part, Waiting. -/
import Derived.Test.YtpgioccbnkcjcaaP5
namespace Go.Proofs.Ytpgioccbnkcjcaa
open Go.RowKit Mk
/-- The machines on their sides: those of the numbers. -/
def msS (ys : List Int) (ms : List Mach) : List Mach := ms.mapIdx fun j m => { m with side := decide (((j : Int) + 1) ∈ ys) }
theorem msS_len (ys : List Int) (ms : List Mach) : (msS ys ms).length = ms.length := by simp [msS]
theorem msS_get (ys : List Int) (ms : List Mach) (j : Nat) (h : j < (msS ys ms).length) : (msS ys ms)[j] = { ms[j]'(by rwa [msS_len] at h) with side := decide (((j : Int) + 1) ∈ ys) } := by simp [msS]
theorem msS_map {α : Type} (f : Mach → α) (ys : List Int) (ms : List Mach) (h : ∀ m b, f { m with side := b } = f m) : (msS ys ms).map f = ms.map f := by
  apply List.ext_getElem (by simp [msS_len])
  intro i h1 h2
  simp [msS_get, h]
theorem sided_all (xs : List Int) (ms : List Mach) : sided xs ms.length ms = msS xs ms := by
  apply List.ext_getElem (by simp [sided_len, msS_len])
  intro j h1 h2
  rw [sided_get, msS_get, if_pos (by rwa [sided_len] at h1)]
theorem msS_step (ys : List Int) (ms : List Mach) (j : Nat) (h : j < (msS ys ms).length) : (msS ys ms).set j { (msS ys ms)[j] with side := true } = msS (ys ++ [(j : Int) + 1]) ms := by
  apply List.ext_getElem (by simp [msS_len])
  intro i h1 h2
  rw [List.getElem_set, msS_get (ys ++ [(j : Int) + 1])]
  by_cases e : j = i
  · subst e
    simp [msS_get]
  · rw [if_neg e, msS_get]
    congr 1
    have : ((i : Int) + 1 ∈ ys ++ [(j : Int) + 1]) ↔ ((i : Int) + 1 ∈ ys) := by
      rw [List.mem_append, List.mem_singleton]
      constructor
      · rintro (h | h)
        · exact h
        · omega
      · exact Or.inl
    simp only [this]
theorem info4 : (Try.prog.info? 4).map (fun i => (i.zero, i.size, i.bytes)) = some (some (.bool false), 1, 1) := by kernel_rfl
theorem scells_none (ms : List Mach) : madeCells #[Value.bool false] (ms.length + 1) = (scells (msS [] ms)).toArray := by
  have : (msS [] ms).map (fun m => Value.bool m.side) = List.replicate ms.length (.bool false) := by
    apply List.ext_getElem
    · simp [msS_len]
    · intro i h1 h2; simp [msS_get]
  unfold scells
  rw [this, ← List.replicate_succ]
  apply Array.ext
  · simp [madeCells]
  · intro i h1 h2
    simp [madeCells, Nat.mod_one]
theorem make_sides (ms : List Mach) (hN : ms.length ≤ 64) (v : World) : (Instr.makeSlice 81 (.int .i64 ((ms.length : Int) + 1)) (.int .i64 ((ms.length : Int) + 1))).run Try.prog v = .ok (.slice (some ⟨v.heap.size, 0, none⟩) (ms.length + 1) (ms.length + 1)) (v.alloc (.cells (scells (msS [] ms)).toArray 4)) := by
  obtain ⟨i, hi, hzz⟩ := Option.map_eq_some_iff.1 info4
  simp only [Prod.mk.injEq] at hzz
  obtain ⟨hz, hs, hb⟩ := hzz
  have e : ((ms.length : Int) + 1).toNat = ms.length + 1 := by omega
  rw [run_make v 81 4 i _ Try.underlying81 hi hz .i64 .i64 _ _ (by omega) (by omega) (by rw [hb]; omega) (by omega), hs, e]
  rw [show (Value.bool false).cells = #[Value.bool false] from rfl, Nat.mul_one, scells_none]

section
variable {w : World} {x : Nat} {R : Lay} {F : Nat → Prop} {n : NetM}
theorem RefRep.newS (h : RefRep w x R F n) {ms : List Mach} (hl : ms.length = n.ms.length) (ht : tcells ms = tcells n.ms) (hd : dcells ms = dcells n.ms) :
    RefRep ((w.alloc (.cells (scells ms).toArray 4)).setCell ⟨x, 2, none⟩ (.slice (some ⟨w.heap.size, 0, none⟩) (n.ms.length + 1 : Nat) (n.ms.length + 1))) x { R with sb := w.heap.size, sc := n.ms.length + 1 } (fun g => F g ∨ w.heap.size ≤ g) ⟨ms, n.l⟩ ∧
    Chg F w ((w.alloc (.cells (scells ms).toArray 4)).setCell ⟨x, 2, none⟩ (.slice (some ⟨w.heap.size, 0, none⟩) (n.ms.length + 1 : Nat) (n.ms.length + 1))) := by
  obtain ⟨e1, e2, e3, e4, e5, e6⟩ := h.x_ne
  obtain ⟨l1, l2, l3, l4⟩ := h.lts
  have hk : ∀ g, g < w.heap.size → g ≠ x → ((w.alloc (.cells (scells ms).toArray 4)).setCell ⟨x, 2, none⟩ (.slice (some ⟨w.heap.size, 0, none⟩) (n.ms.length + 1 : Nat) (n.ms.length + 1))).heap[g]? = w.heap[g]? := fun g hl hg => (Below.heap_setCell _ ⟨x, 2, none⟩ _ g hg).trans (Below.heap_alloc _ _ _ hl)
  refine ⟨⟨?_, ?_, ?_, ?_, ?_, by simp only [hl]; exact h.few, h.under, Or.inl h.fx, fun g o e => Or.inl (h.fl g o e), Or.inr (Nat.le_refl _), Or.inl h.ft, Or.inl h.fd⟩, ((Chg.refl _ _).alloc _).setCell (a := ⟨x, 2, none⟩) (Or.inl h.fx) _⟩
  · rw [Mk.heap_setCell_same ((Below.heap_alloc _ _ _ l1).trans h.box)]; simp [hl]
  · exact h.l.stay (fun g hg => hk g (h.l.lt hg) (h.row_ne (own_row R n.l.length R.lc h hg)).1)
  · refine ⟨by simp [scells, hl], Or.inr ⟨w.heap.size, n.ms.length + 1, (scells ms).toArray, by simp [hl], ?_, by simp [hl], ?_, by simp [scells, hl], by rw [List.take_of_length_le (by simp [scells, hl])]⟩⟩
    · rw [Below.heap_setCell _ ⟨x, 2, none⟩ _ _ (by simp only; omega)]; exact Go.heap_alloc_new _ _
    · have := h.few.1; simp only [maxLen]; omega
  · simp only [hl, ht]; exact h.t.stay (fun g hg => by simp [Value.ownBlock] at hg; subst hg; exact hk _ l3 e2.symm)
  · simp only [hl, hd]; exact h.d.stay (fun g hg => by simp [Value.ownBlock] at hg; subst hg; exact hk _ l4 e3.symm)

set_option maxRecDepth 100000 in
set_option maxHeartbeats 2000000 in
theorem rpart_any (h : RefRep w x R F n) {so : Option Addr} {sc : Nat} {xs : List Int} (hi : IntsAt w so xs) (hsep : ∀ g o, so = some ⟨g, o, none⟩ → 0 < xs.length → ¬ F g) :
    Calls Try.prog 39 #[.pointer (some ⟨x, 0, none⟩), .slice so xs.length sc] w fun e w' => e = .returned (.int .i64 (partM n xs).2) ∧ RefIs w' x (fun g => F g ∨ w.heap.size ≤ g) (partM n xs).1 ∧ Chg F w w' := by
  have HM := Lib.hid (show RefIs w x (fun g => F g ∨ w.heap.size ≤ g) n from ⟨R, h.wide (fun _ => Or.inl)⟩)
  have MY := Lib.hid (fun i => rmay_any h i)
  have hmk := fun v => make_sides n.ms h.few.1 v
  have c0 := h.c0
  obtain ⟨hnew, hcn⟩ := h.newS (msS_len [] n.ms) (congrArg (List.cons _) (msS_map _ _ _ (fun _ _ => rfl))) (congrArg (List.cons _) (msS_map _ _ _ (fun _ _ => rfl)))
  have fx : (w.alloc (.cells (scells (msS [] n.ms)).toArray 4)).frozen? ⟨x, 2, none⟩ = false := frozen_of ((Below.heap_alloc _ _ _ h.lts.1).trans h.box)
  have cx : (w.alloc (.cells (scells (msS [] n.ms)).toArray 4)).cell? ⟨x, 2, none⟩ = some (.slice (some ⟨R.sb, 0, none⟩) (n.ms.length + 1 : Nat) R.sc) := (World.cell?_of_block (a := ⟨x, 2, none⟩) (Below.heap_alloc _ _ _ h.lts.1)).trans h.c2
  have H := Lib.hid h
  have HI := Lib.hid hi
  have HSEP := Lib.hid hsep
  have HNEW := Lib.hid hnew
  have HCN := Lib.hid hcn
  obtain ⟨N, hN⟩ : ∃ N, n.ms.length = N := ⟨_, rfl⟩
  obtain ⟨m, hm⟩ : ∃ m, xs.length = m := ⟨_, rfl⟩
  have hfew := h.few.1
  have HN := Lib.hid hN
  have HMM := Lib.hid hm
  have hml := hi.len
  have hwr : IntKind.i64.wrap ((N : Int) + 1) = (N : Int) + 1 := by simp only [IntKind.wrap, IntKind.bits, IntKind.signed]; simp; omega
  have HPA := Lib.hid (show (∃ y ∈ xs, may N y = false) → partM n xs = (n, 2) from fun ⟨y, hy, hyf⟩ => by
    unfold partM
    rw [if_pos (by rw [List.any_eq_true]; exact ⟨y, hy, by rw [hN, hyf]; rfl⟩)])
  have HPB := Lib.hid (show (∀ y ∈ xs, may N y = true) → partM n xs = (⟨msS xs n.ms, n.l⟩, 0) from fun hall => by
    unfold partM
    rw [if_neg (by rw [List.any_eq_true]; rintro ⟨y, hy, hyf⟩; rw [hN, hall y hy] at hyf; cases hyf), sided_all])
  rw [hN] at c0 hfew hmk cx HNEW HCN
  rw [hm] at hml ⊢
  simp only [hN] at MY
  clear h hi hsep hnew hcn hN hm
  go_enter Try.func39, Try.ntmps39
  go_wp2
  go_loop [5] (fun i => ∃ k : Nat, k ≤ m ∧ i = .int .i64 k ∧ Hid (∀ y ∈ xs.take k, may N y = true)) (fun i => m - (intOf i).toNat)
  case atStart => exact ⟨0, by omega, rfl, Lib.hid (by simp)⟩
  case round =>
    obtain ⟨k, hk, rfl, HK⟩ := hrel
    by_cases hlt : k < m
    · have hd : decide ((k : Int) < m) = true := by simp; omega
      have hkl : k < xs.length := by rw [HMM.out]; exact hlt
      obtain ⟨g, o, rfl, hgl, hc⟩ := HI.out.cell k hkl
      obtain ⟨y, hy⟩ : ∃ y, xs[k] = y := ⟨_, rfl⟩
      rw [hy] at hc
      have q0 : (0 : Int) ≤ k := by omega
      have q1 : (k : Int) < m := by omega
      have MY2 := Lib.hid (MY.out y)
      have HYM := Lib.hid (show y ∈ xs from hy ▸ List.getElem_mem hkl)
      cases hmy : may N y
      · rw [hmy] at MY2
        have HP := Lib.hid (HPA.out ⟨y, HYM.out, hmy⟩)
        clear hy hmy
        go_wp2_with fail
        refine MY2.out.mono ?_
        rintro e w' ⟨rfl, rfl⟩
        go_wp2
        go_ret
        rw [HP.out]
        exact ⟨rfl, HM.out, Chg.refl _ _⟩
      · rw [hmy] at MY2
        have HK2 := Lib.hid (show ∀ y ∈ xs.take (k + 1), may N y = true from fun z hz => by
          rw [List.take_succ_eq_append_getElem hkl, List.mem_append, List.mem_singleton] at hz
          rcases hz with hz | rfl
          · exact HK.out z hz
          · rw [hy]; exact hmy)
        clear hy hmy
        go_wp2_with fail
        refine MY2.out.mono ?_
        rintro e w' ⟨rfl, rfl⟩
        go_wp2
        go_round
        case rel => exact ⟨k + 1, by omega, by go_num, HK2⟩
        case measure => simp [intOf]; omega
    · have hd : decide ((k : Int) < m) = false := by simp; omega
      have HALL := Lib.hid (show ∀ y ∈ xs, may N y = true from fun y hy => HK.out y (by rw [List.take_of_length_le (by rw [HMM.out]; omega)]; exact hy))
      have HP := Lib.hid (HPB.out HALL.out)
      clear HPA HPB MY HM
      go_wp2_with fail
      go_loopw [6] (fun i wr => ∃ k : Nat, k ≤ m ∧ i = .int .i64 k ∧ Hid (RefRep wr x { R with sb := w.heap.size, sc := N + 1 } (fun g => F g ∨ w.heap.size ≤ g) ⟨msS (xs.take k) n.ms, n.l⟩) ∧ Hid (Chg F w wr)) (fun i _ => m - (intOf i).toNat)
      case atStart => exact ⟨0, by omega, rfl, by simpa using HNEW, HCN⟩
      case round =>
        obtain ⟨k, hk, rfl, HR, HC⟩ := hrel
        by_cases hlt : k < m
        · have hd : decide ((k : Int) < m) = true := by simp; omega
          have hkl : k < xs.length := by rw [HMM.out]; exact hlt
          have hpos : 0 < xs.length := by omega
          obtain ⟨g, o, rfl, hgl, hc⟩ := HI.out.cell k hkl
          obtain ⟨j, hjN, hy, -⟩ := may_in (HALL.out _ (List.getElem_mem hkl))
          have hc2 : wr.cell? ⟨g, o + k, none⟩ = some (.int .i64 ((j : Int) + 1)) := by rw [← hy]; exact (World.cell?_of_block (a := ⟨g, o + k, none⟩) (HC.out.block g hgl (HSEP.out g o rfl hpos))).trans hc
          have d2 := HR.out.c2
          have hjl : j < (msS (xs.take k) n.ms).length := by rw [msS_len, HN.out]; exact hjN
          have sj := scell HR.out hjl
          have fj := HR.out.s.frozen (j + 1)
          simp only at d2 sj fj
          rw [msS_len, HN.out] at d2
          have q0 : (0 : Int) ≤ k := by omega
          have q1 : (k : Int) < m := by omega
          have q2 : (0 : Int) ≤ (j : Int) + 1 := by omega
          have q3 : (j : Int) + 1 < ((N + 1 : Nat) : Int) := by omega
          have q4 : ((j : Int) + 1).toNat = j + 1 := by omega
          have hs2 := HR.out.setS (j := j) hjl true
          unfold setM at hs2
          simp only at hs2
          rw [msS_step, ← hy, ← List.take_succ_eq_append_getElem hkl] at hs2
          have HR2 := Lib.hid (hs2.stay (w' := (wr.setCell ⟨w.heap.size, j + 1, none⟩ (.bool true)).drew) (G := fun _ => False) ((Chg.refl _ _).drew) (fun _ _ f => f))
          have HC2 := Lib.hid (show Chg F w (wr.setCell ⟨w.heap.size, j + 1, none⟩ (.bool true)).drew from (HC.out.setCell (a := ⟨w.heap.size, j + 1, none⟩) (Or.inr (Nat.le_refl _)) _).drew)
          generalize (msS (xs.take k) n.ms)[j].side = old at *
          clear hs2 hc hy hjl
          go_wp2
          go_region
          go_wp2
          go_round
          case rel => exact ⟨k + 1, by omega, by go_num, HR2, HC2⟩
          case measure => simp [intOf]; omega
        · have hd : decide ((k : Int) < m) = false := by simp; omega
          have HE := Lib.hid (show RefIs wr x (fun g => F g ∨ w.heap.size ≤ g) ⟨msS xs n.ms, n.l⟩ from ⟨_, by have := HR.out; rw [List.take_of_length_le (by rw [HMM.out]; omega)] at this; exact this⟩)
          clear HR
          go_wp2
          go_ret
          rw [HP.out]
          exact ⟨rfl, HE.out, HC.out⟩

theorem lk_take (l : List Msg) (y : Lnk) {k : Nat} (h : k < l.length) : lkL (l.take (k + 1)) y = lkL (l.take k) y ++ if l[k].frm = y.1 ∧ l[k].to = y.2 then [(y.1, y.2, l[k].txt)] else [] := by
  rw [List.take_succ_eq_append_getElem h]
  unfold lkL q
  rw [List.filter_append, List.map_append, List.map_append]
  congr 1
  by_cases hm : l[k].frm = y.1 ∧ l[k].to = y.2
  · simp [hm]
  · rw [if_neg hm]
    simp only [List.map_eq_nil_iff, List.filter_eq_nil_iff, List.mem_singleton]
    rintro a rfl
    simpa using hm

set_option maxRecDepth 100000 in
set_option maxHeartbeats 4000000 in
theorem rwaiting_any (h : RefRep w x R F n) :
    Calls Try.prog 44 #[.pointer (some ⟨x, 0, none⟩)] w fun e w' => ∃ v, e = .returned v ∧ PkS w (outL n.l n.ms.length n.ms.length) v w' := by
  obtain ⟨i42, z42, hi42, hz42, hsz42, hby42, hzs42⟩ := info42b
  have H := Lib.hid (show ∀ wr, Below w.heap.size w wr → RefRep wr x R F n from fun wr hb => h.stay (chg_below hb) (fun _ _ f => f))
  have hfew := h.few.1
  have hund := h.under
  obtain ⟨N, hN⟩ : ∃ N, n.ms.length = N := ⟨_, rfl⟩
  obtain ⟨M, hM⟩ : ∃ M, n.l.length = M := ⟨_, rfl⟩
  rw [hN] at hfew ⊢
  have HN := Lib.hid hN
  have HMM := Lib.hid hM
  clear h hN hM
  go_enter Try.func44, Try.ntmps44
  go_wp2
  go_loopw [3, 4] (fun o i wr => ∃ (a : Nat) (ao : Option Addr) (c cap : Nat), a ≤ N ∧ i = .int .i64 ((a : Int) + 1) ∧ o = .slice ao c cap ∧ Hid (PkS w (outL n.l N a) (.slice ao c cap) wr)) (fun _ i _ => N + 1 - (intOf i).toNat)
  case atStart => exact ⟨0, none, 0, 0, by omega, rfl, rfl, Lib.hid (PkS.nil _ _ (Below.refl _ _))⟩
  case round =>
    obtain ⟨a, ao, c, cap, ha, rfl, rfl, HS⟩ := hrel
    have c0 := (H.out _ HS.out.below).c0
    rw [HN.out] at c0
    by_cases hlt : a < N
    · have hd : decide ((a : Int) + 1 ≤ N) = true := by simp; omega
      go_wp2
      go_loopw [3, 5] (fun o i wr => ∃ (b : Nat) (ao : Option Addr) (c cap : Nat), b ≤ N ∧ i = .int .i64 ((b : Int) + 1) ∧ o = .slice ao c cap ∧ Hid (PkS w (outL n.l N a ++ midL n.l a b) (.slice ao c cap) wr)) (fun _ i _ => N + 1 - (intOf i).toNat)
      case atStart => exact ⟨0, ao, c, cap, by omega, rfl, rfl, Lib.hid (by simpa [midL] using HS.out)⟩
      case round =>
        obtain ⟨b, ao, c, cap, hb, rfl, rfl, HS⟩ := hrel
        clear c0
        have c0 := (H.out _ HS.out.below).c0
        rw [HN.out] at c0
        by_cases hltb : b < N
        · have hdb : decide ((b : Int) + 1 ≤ N) = true := by simp; omega
          go_wp2
          go_loopw [3, 6] (fun o i wr => ∃ (j : Nat) (ao : Option Addr) (c cap : Nat), j ≤ M ∧ i = .int .i64 j ∧ o = .slice ao c cap ∧ Hid (PkS w (outL n.l N a ++ midL n.l a b ++ lkL (n.l.take j) ((a : Int) + 1, (b : Int) + 1)) (.slice ao c cap) wr)) (fun _ i _ => M - (intOf i).toNat)
          case atStart => exact ⟨0, ao, c, cap, by omega, rfl, rfl, Lib.hid (by simpa [lkL, q] using HS.out)⟩
          case round =>
            obtain ⟨j, ao, c, cap, hj, rfl, rfl, H1⟩ := hrel
            clear c0
            have c1 := (H.out _ H1.out.below).c1
            rw [HMM.out] at c1
            by_cases hltj : j < M
            · have hdj : decide ((j : Int) < M) = true := by simp; omega
              have hjl : j < n.l.length := by rw [HMM.out]; exact hltj
              obtain ⟨g, hlo, a0, a1, a2⟩ := (H.out _ H1.out.below).msg hjl
              rw [hlo] at c1
              have hnx := lk_take n.l ((a : Int) + 1, (b : Int) + 1) hjl
              obtain ⟨⟨mf, mt, t⟩, hmm⟩ : ∃ mm, n.l[j] = mm := ⟨_, rfl⟩
              rw [hmm] at a0 a1 a2 hnx
              simp only at a0 a1 a2 hnx
              have q0 : (0 : Int) ≤ j := by omega
              have q1 : (j : Int) < M := by omega
              have sk : ∀ LL, lkL (n.l.take (j + 1)) ((a : Int) + 1, (b : Int) + 1) = lkL (n.l.take j) ((a : Int) + 1, (b : Int) + 1) ++ LL → PkS w (outL n.l N a ++ midL n.l a b ++ lkL (n.l.take j) ((a : Int) + 1, (b : Int) + 1) ++ LL) (.slice ao c cap) wr → PkS w (outL n.l N a ++ midL n.l a b ++ lkL (n.l.take (j + 1)) ((a : Int) + 1, (b : Int) + 1)) (.slice ao c cap) wr := fun LL e h => by rw [e, ← List.append_assoc]; exact h
              by_cases hf : mf = (a : Int) + 1
              · have hdf : decide (mf = (a : Int) + 1) = true := by simpa using hf
                by_cases ht : mt = (b : Int) + 1
                · subst hf ht
                  rw [if_pos ⟨rfl, rfl⟩] at hnx
                  obtain ⟨LL, hLL⟩ : ∃ LL, outL n.l N a ++ midL n.l a b ++ lkL (n.l.take j) ((a : Int) + 1, (b : Int) + 1) = LL := ⟨_, rfl⟩
                  have hn1 : LL ++ [((a : Int) + 1, (b : Int) + 1, t)] = outL n.l N a ++ midL n.l a b ++ lkL (n.l.take (j + 1)) ((a : Int) + 1, (b : Int) + 1) := by
                    rw [← hLL, hnx, List.append_assoc]
                  have hlen : LL.length ≤ 100000000 := by
                    rw [← hLL]
                    have e1 := outL_len n.l N a
                    have e2 := midL_len n.l a b
                    have e3 : N * n.l.length ≤ 64 * 16384 := Nat.mul_le_mul hfew hund
                    have e4 : a * (N * n.l.length) ≤ 64 * (64 * 16384) := Nat.mul_le_mul (by omega) e3
                    have e5 : b * n.l.length ≤ 64 * 16384 := Nat.mul_le_mul (by omega) hund
                    have e6 := lkL_len (n.l.take j) ((a : Int) + 1, (b : Int) + 1)
                    rw [List.length_take] at e6
                    simp only [List.length_append]
                    omega
                  rw [hLL] at H1
                  have HN1 := Lib.hid hn1
                  clear hn1 hLL hnx hmm hlo sk hdf
                  go_wp2_with (refine wpList_append_sl (by rfl) _ _ 49 (by rfl) 42 i42 z42 3 32 Try.underlying49 hi42 hz42 hsz42 hby42 hzs42 (by decide) (.slice ao c cap) LL.length (LL.flatMap pkc) (by rfl) (H1.out.alloc _).sl (some ⟨wr.heap.size, 0, none⟩) 1 1 [.int .i64 ((a : Int) + 1), .int .i64 ((b : Int) + 1), .string t] (by rfl) (by rfl) (fun _ => ⟨_, rfl, cell_new_three (Go.heap_alloc_new _ _)⟩) (fun h => absurd h (by decide)) (by simp [Value.oneCell']) (by simp only [maxLen]; omega) (by omega) ?_; intro v' w2 hsl hgrow hat; have H2 := (H1.out.alloc _).grown (x := ((a : Int) + 1, (b : Int) + 1, t)) hsl hgrow hat; obtain ⟨ao2, n2, cap2, rfl⟩ := H2.shape; have H5 := Lib.hid H2; clear hsl hgrow hat H1 H2)
                  go_wp2
                  go_round
                  case rel => exact ⟨j + 1, ao2, n2, cap2, by omega, by go_num, rfl, Lib.hid (by rw [← HN1.out]; exact H5.out)⟩
                  case measure => simp [intOf]; omega
                · have hdt : decide (mt = (b : Int) + 1) = false := by simpa using ht
                  rw [if_neg (fun h => ht h.2)] at hnx
                  have HE := Lib.hid (sk _ hnx (by simpa using H1.out))
                  clear hnx sk H1 hlo hmm
                  go_wp2
                  go_round
                  case rel => exact ⟨j + 1, ao, c, cap, by omega, by go_num, rfl, HE⟩
                  case measure => simp [intOf]; omega
              · have hdf : decide (mf = (a : Int) + 1) = false := by simpa using hf
                rw [if_neg (fun h => hf h.1)] at hnx
                have HE := Lib.hid (sk _ hnx (by simpa using H1.out))
                clear hnx sk H1 hlo hmm
                go_wp2
                go_round
                case rel => exact ⟨j + 1, ao, c, cap, by omega, by go_num, rfl, HE⟩
                case measure => simp [intOf]; omega
            · have hdj : decide ((j : Int) < M) = false := by simp; omega
              have HE : Hid (PkS w (outL n.l N a ++ midL n.l a (b + 1)) (.slice ao c cap) wr) := Lib.hid (by have h := H1.out; rw [List.take_of_length_le (by rw [HMM.out]; omega), List.append_assoc, ← midL_succ] at h; exact h)
              clear H1
              go_wp2
              go_round
              case rel => exact ⟨b + 1, ao, c, cap, by omega, by go_num, rfl, HE⟩
              case measure => simp [intOf]; omega
        · have hdb : decide ((b : Int) + 1 ≤ N) = false := by simp; omega
          have hbm : b = N := by omega
          subst hbm
          have HE : Hid (PkS w (outL n.l b (a + 1)) (.slice ao c cap) wr) := Lib.hid (by have h := HS.out; rw [← outL_succ] at h; exact h)
          clear HS
          go_wp2
          go_round
          case rel => exact ⟨a + 1, ao, c, cap, by omega, by go_num, rfl, HE⟩
          case measure => simp [intOf]; omega
    · have hd : decide ((a : Int) + 1 ≤ N) = false := by simp; omega
      have hbm : a = N := by omega
      subst hbm
      go_wp2
      go_ret
      exact ⟨_, rfl, HS.out⟩
end
end Go.Proofs.Ytpgioccbnkcjcaa
