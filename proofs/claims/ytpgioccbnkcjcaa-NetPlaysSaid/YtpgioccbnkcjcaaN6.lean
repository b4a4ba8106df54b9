/- Walks: Drop. -/
import Derived.Test.YtpgioccbnkcjcaaN5
namespace Go.Proofs.Ytpgioccbnkcjcaa
open Go.RowKit Mk

def dropL : List Msg → Lnk → Nat → List Msg
  | [], _, _ => []
  | m :: l, x, u => if m.frm = x.1 ∧ m.to = x.2 then (match u with | 0 => l | u + 1 => m :: dropL l x u) else m :: dropL l x u

theorem q_drop_same (l : List Msg) (x : Lnk) (u : Nat) : q (dropL l x u) x = (q l x).eraseIdx u := by
  induction l generalizing u with
  | nil => simp [dropL, q]
  | cons m l ih =>
    unfold dropL
    by_cases h : m.frm = x.1 ∧ m.to = x.2
    · rw [if_pos h]
      cases u with
      | zero => simp [q, h]
      | succ u =>
        have := ih u
        simp only [q] at this ⊢
        rw [List.filter_cons_of_pos (by simpa using h), List.filter_cons_of_pos (by simpa using h), List.map_cons, List.map_cons, this, List.eraseIdx_cons_succ]
    · rw [if_neg h]
      have := ih u
      simp only [q] at this ⊢
      rw [List.filter_cons_of_neg (by simpa using h), List.filter_cons_of_neg (by simpa using h), this]
theorem q_drop_other (l : List Msg) (x y : Lnk) (u : Nat) (hy : y ≠ x) : q (dropL l x u) y = q l y := by
  induction l generalizing u with
  | nil => simp [dropL]
  | cons m l ih =>
    unfold dropL
    by_cases h : m.frm = x.1 ∧ m.to = x.2
    · rw [if_pos h]
      have hn : ¬ (m.frm = y.1 ∧ m.to = y.2) := fun e => hy (Prod.ext (e.1.symm.trans h.1) (e.2.symm.trans h.2))
      cases u with
      | zero => simp only [q]; rw [List.filter_cons_of_neg (by simpa using hn)]
      | succ u =>
        have := ih u
        simp only [q] at this ⊢
        rw [List.filter_cons_of_neg (by simpa using hn), List.filter_cons_of_neg (by simpa using hn), this]
    · rw [if_neg h]
      have := ih u
      simp only [q] at this ⊢
      by_cases hn : m.frm = y.1 ∧ m.to = y.2
      · rw [List.filter_cons_of_pos (by simpa using hn), List.filter_cons_of_pos (by simpa using hn), List.map_cons, List.map_cons, this]
      · rw [List.filter_cons_of_neg (by simpa using hn), List.filter_cons_of_neg (by simpa using hn), this]
theorem drop_len (l : List Msg) (x : Lnk) (u : Nat) (h : u < (q l x).length) : (dropL l x u).length + 1 = l.length := by
  induction l generalizing u with
  | nil => simp [q] at h
  | cons m l ih =>
    unfold dropL
    by_cases hm : m.frm = x.1 ∧ m.to = x.2
    · rw [if_pos hm]
      cases u with
      | zero => simp
      | succ u =>
        have := ih u (by simp only [q] at h ⊢; rw [List.filter_cons_of_pos (by simpa using hm)] at h; simpa using h)
        simp [this]
    · rw [if_neg hm]
      have := ih u (by simp only [q] at h ⊢; rw [List.filter_cons_of_neg (by simpa using hm)] at h; simpa using h)
      simp [this]

/-- Behind a store at a link of what was appended to a row of its own. -/
theorem NetRep.stored {W WA w1 : World} {b r : Nat} {mb : MB} {L : List (Lnk × Value)} {F : Nat → Prop} {n : NetM} (h : NetRep W b r mb L F n) {x : Lnk} {v0 v' : Value} {es2 : Array MapEntry} {c2 : Nat} {l' : List Msg}
    (hv0 : ∀ g, v0.ownBlock = some g → ∃ p ∈ L, p.1 = x ∧ p.2.ownBlock = some g) (hA : ∀ g, g < W.heap.size → g ≠ r → WA.heap[g]? = W.heap[g]?) (hAs : W.heap.size ≤ WA.heap.size) (hAo : WA.os = W.os ∧ WA.tape = W.tape ∧ WA.output = W.output)
    (hsl : sl w1 9 1 v' (q l' x).length ((q l' x).map .string)) (hgrow : WA.grownBy w1 v0.ownBlock)
    (hat : v'.ownBlock = v0.ownBlock ∨ v'.ownBlock = some WA.heap.size) (E2 : Ent lok lkv es2 c2 (upd L x v')) (hoth : ∀ y, y ≠ x → q l' y = q n.l y) (hlen : l'.length ≤ 16384) :
    NetRep ((ChangeMaps.setBlock w1 r (.map es2 c2)).setCell ⟨b, 2, none⟩ (.int .i64 l'.length)) b r mb (upd L x v') (fun g => F g ∨ W.heap.size ≤ g) ⟨n.ms, l'⟩ ∧
    Chg F W ((ChangeMaps.setBlock w1 r (.map es2 c2)).setCell ⟨b, 2, none⟩ (.int .i64 l'.length)) := by
  obtain ⟨hb, hmb, hr⟩ := h.lt
  obtain ⟨n1, n2, n3⟩ := h.ne
  have own_ne : ∀ g, v0.ownBlock = some g → g ≠ b ∧ g ≠ mb ∧ g ≠ r ∧ g < W.heap.size ∧ F g := fun g hg => by
    obtain ⟨p, hm, _, hg⟩ := hv0 g hg
    obtain ⟨a1, a2, a3⟩ := h.row_ne hm hg
    exact ⟨a1, a2, a3, (h.rows _ hm).lt hg, h.frow _ hm g hg⟩
  have old : ∀ g, g < W.heap.size → g ≠ r → v0.ownBlock ≠ some g → w1.heap[g]? = W.heap[g]? := fun g hg hne ho => by
    rw [hgrow.block g (by omega) (fun e => ho e.symm), hA g hg hne]
  have hw1 : WA.heap.size ≤ w1.heap.size := hgrow.size
  have fin : ∀ g, g ≠ r → g ≠ b → ((ChangeMaps.setBlock w1 r (.map es2 c2)).setCell ⟨b, 2, none⟩ (.int .i64 l'.length)).heap[g]? = w1.heap[g]? := fun g h1 h2 => by
    rw [Below.heap_setCell _ _ _ _ h2, heap_setBlock_ne h1]
  have hd := h.map.apart
  have hpx : ∀ p ∈ L, p.1 ≠ x → ∀ g, p.2.ownBlock = some g → v0.ownBlock ≠ some g := fun p hp hne g hg e => by
    obtain ⟨p', hm, hx, hg'⟩ := hv0 g e
    rcases h.apart p hp _ hm (fun e => hne (e.trans hx)) with a | a
    · rw [a] at hg; cases hg
    · exact a (by rw [hg, hg'])
  have c1 : Chg F W w1 := by
    refine ⟨hgrow.os.trans hAo.1, hgrow.tape.trans hAo.2.1, hgrow.output.trans hAo.2.2, by omega, fun g hg hF => old g hg (fun e => hF (e ▸ h.fr)) (fun e => hF (own_ne g e).2.2.2.2)⟩
  refine ⟨⟨?_, ?_, ?_, ?_, ?_, ?_, h.few, hlen, Or.inl h.fb, Or.inl h.fmb, Or.inl h.fr, ?_⟩, (c1.setBlock (Or.inl h.fr) _).setCell (Or.inl h.fb) _⟩
  · have hb1 : (ChangeMaps.setBlock w1 r (.map es2 c2)).heap[b]? = some (.cells #[.map (some r), .slice (some ⟨mb, 0, none⟩) n.ms.length mb.c, .int .i64 n.l.length] 67) := by
      rw [heap_setBlock_ne n2, old b hb n2 (fun e => (own_ne b e).1 rfl), h.net]
    rw [Mk.heap_setCell_same hb1]
    simp
  · rw [fin mb n3 n1.symm, old mb hmb n3 (fun e => (own_ne mb e).2.1 rfl), h.mach]
  · refine ⟨es2, c2, ?_, E2⟩
    rw [Below.heap_setCell _ _ _ _ n2.symm, heap_setBlock_eq (by omega)]
  · intro p hp
    rcases mem_upd' hd hp with rfl | ⟨hp, hne⟩
    · refine hsl.stay (fun g hg => fin g ?_ ?_)
      · rcases hat with a | a
        · exact (own_ne g (a ▸ hg)).2.2.1
        · rw [a] at hg; simp at hg; omega
      · rcases hat with a | a
        · exact (own_ne g (a ▸ hg)).1
        · rw [a] at hg; simp at hg; omega
    · simp only
      rw [hoth _ hne]
      refine (h.rows p hp).stay (fun g hg => ?_)
      have hn := h.row_ne hp hg
      rw [fin g hn.2.2 hn.1, old g ((h.rows p hp).lt hg) hn.2.2 (hpx p hp hne g hg)]
  · intro y hy
    rw [lk_upd] at hy
    split at hy
    · cases hy
    · rename_i hne
      simp only
      rw [hoth _ hne]
      exact h.gone y hy
  · intro p hp p' hp' hne
    rcases mem_upd' hd hp with rfl | ⟨hp, hpn⟩ <;> rcases mem_upd' hd hp' with rfl | ⟨hp', hpn'⟩
    · exact absurd rfl hne
    · rcases hat with a | a
      · simp only [a]
        cases ho : v0.ownBlock with
        | none => exact Or.inl rfl
        | some g => exact Or.inr (fun e => hpx p' hp' hpn' g e.symm ho)
      · refine Or.inr (fun e => ?_)
        simp only [a] at e
        have := (h.rows p' hp').lt e.symm
        omega
    · cases ho : p.2.ownBlock with
      | none => exact Or.inl rfl
      | some g =>
        refine Or.inr (fun e => ?_)
        have hlt := (h.rows p hp).lt ho
        rcases hat with a | a
        · simp only [a] at e
          exact hpx p hp hpn g ho e.symm
        · simp only [a] at e
          simp at e
          omega
    · exact h.apart p hp p' hp' hne
  · intro p hp g hg
    rcases mem_upd' hd hp with rfl | ⟨hp, hpn⟩
    · rcases hat with a | a
      · exact Or.inl (own_ne g (a ▸ hg)).2.2.2.2
      · right
        simp only [a] at hg
        simp at hg
        omega
    · exact Or.inl (h.frow p hp g hg)

def dropM (n : NetM) (a b i : Int) : NetM × Int := if (peekM n a b i).2 = 0 then (⟨n.ms, dropL n.l (a, b) i.toNat⟩, 0) else (n, (peekM n a b i).2)

set_option maxRecDepth 100000 in
set_option maxHeartbeats 1000000 in
theorem drop_any {w : World} {b r : Nat} {mb : MB} {L : List (Lnk × Value)} {F : Nat → Prop} {n : NetM} (h : NetRep w b r mb L F n) (i k j : Int) (hi : i64 i) (hk : i64 k) (hj : i64 j) :
    Calls Try.prog 12 #[.pointer (some ⟨b, 0, none⟩), .int .i64 i, .int .i64 k, .int .i64 j] w fun e w' => e = .returned (.int .i64 (dropM n i k j).2) ∧ NetIs w' b (fun g => F g ∨ w.heap.size ≤ g) (dropM n i k j).1 ∧ Chg F w w' := by
  have A := Lib.hid (peek_any h i k j hi hk hj)
  have H := Lib.hid h
  have hI := Lib.hid hi
  have hK := Lib.hid hk
  have hJ1 := hj.1
  have hJ2 := hj.2
  obtain ⟨len, HL⟩ : ∃ x, Hid (n.l.length = x) := ⟨_, Lib.hid rfl⟩
  have hmono : NetRep w b r mb L (fun g => F g ∨ w.heap.size ≤ g) n := ⟨h.net, h.mach, h.map, h.rows, h.gone, h.apart, h.few, h.under, Or.inl h.fb, Or.inl h.fmb, Or.inl h.fr, fun p hp g hg => Or.inl (h.frow p hp g hg)⟩
  have HM := Lib.hid hmono
  by_cases h0 : (peekM n i k j).2 = 0
  · have hjb : 0 ≤ j ∧ j < (q n.l (i, k)).length := by
      unfold peekM at h0
      split at h0
      · split at h0
        · simp at h0
        · omega
      · simp at h0
    obtain ⟨u, rfl⟩ : ∃ u : Nat, j = u := ⟨j.toNat, by omega⟩
    have hu : u < (q n.l (i, k)).length := by omega
    have e0 : dropM n i k u = (⟨n.ms, dropL n.l (i, k) u⟩, 0) := by unfold dropM; rw [if_pos h0]; simp
    rw [e0]
    rw [h0] at A
    obtain ⟨ps, HP⟩ : ∃ ps, Hid ((peekM n i k u).1 = ps) := ⟨_, Lib.hid rfl⟩
    rw [HP.out] at A
    have HU := Lib.hid hu
    clear hi hk hj h h0 e0 hmono hjb hu
    go_enter Try.func12, Try.ntmps12
    go_wp2_with fail
    refine A.out.mono ?_
    rintro e w' ⟨rfl, rfl⟩
    go_wp2
    have HR := Lib.hid (H.out.stay (w' := w'.alloc (.cells #[.int .i64 i, .int .i64 k] 72)) (G := fun _ => False) ((Chg.refl _ _).alloc _) (fun _ _ h => h))
    have HC := Lib.hid (show Chg F w' (w'.alloc (.cells #[.int .i64 i, .int .i64 k] 72)) from (Chg.refl _ _).alloc _)
    have hk0 : (w'.alloc (.cells #[.int .i64 i, .int .i64 k] 72)).cell? ⟨w'.heap.size, 0, none⟩ = some (.int .i64 i) := cell_of (Go.heap_alloc_new _ _) (by simp)
    have hk1 : (w'.alloc (.cells #[.int .i64 i, .int .i64 k] 72)).cell? ⟨w'.heap.size, 1, none⟩ = some (.int .i64 k) := cell_of (Go.heap_alloc_new _ _) (by simp)
    have hkne : w'.heap.size ≠ r := by have := H.out.lt.2.2; omega
    have HSZ := Lib.hid (show w'.heap.size < (w'.alloc (.cells #[.int .i64 i, .int .i64 k] 72)).heap.size by simp)
    have c0' := HR.out.cell0
    have c2' : (w'.alloc (.cells #[.int .i64 i, .int .i64 k] 72)).cell? ⟨b, 2, none⟩ = some (.int .i64 len) := by rw [HR.out.cell2, HL.out]
    have f2' : (w'.alloc (.cells #[.int .i64 i, .int .i64 k] 72)).frozen? ⟨b, 2, none⟩ = false := frozen_of HR.out.net
    have HKF := Lib.hid (show ∀ p ∈ L, p.2.ownBlock ≠ some w'.heap.size from fun p hp e => by have := (H.out.rows p hp).lt e; omega)
    clear A H HM
    generalize hkb : w'.heap.size = kb at *
    generalize w'.alloc (.cells #[.int .i64 i, .int .i64 k] 72) = W at *
    have hbr : b ≠ r := HR.out.ne.2.1
    obtain ⟨ao, cp, hlk, hs, hv0⟩ := HR.out.look (lok_of hI.out hK.out)
    obtain ⟨g0, rfl⟩ : ∃ g0, ao = some ⟨g0, 0, none⟩ := by
      rcases hs.2 with ⟨_, e⟩ | ⟨g, cap, cur, e, _⟩
      · have := HU.out; omega
      · simp only [Value.slice.injEq] at e; exact ⟨g, e.1⟩
    have hcap : (q n.l (i, k)).length ≤ cp ∧ cp ≤ maxLen := by
      rcases hs.2 with ⟨_, e⟩ | ⟨g, cap, cur, e, _, h1, h2, _⟩
      · have := HU.out; omega
      · simp only [Value.slice.injEq] at e; obtain ⟨_, _, rfl⟩ := e; exact ⟨h1, h2⟩
    have hql : (q n.l (i, k)).length ≤ len := by
      rw [← HL.out]; simp only [q, List.length_map]; exact List.length_filter_le _ _
    have hlen : len ≤ 16384 := by rw [← HL.out]; exact HR.out.under
    have hrlt := HR.out.lt.2.2
    have hblt := HR.out.lt.1
    have hklt := HSZ.out
    have HS := Lib.hid hs
    have HP := Lib.hid (HR.out.own_in (g := g0) hv0 rfl)
    have HG := Lib.hid (HR.out.row_ne HP.out (g := g0) rfl)
    have HD := Lib.hid HR.out.map
    have HW := Lib.hid (show ∀ w1 : World, W.drew.grownBy w1 (some g0) → ∀ v', ∃ es2 c2, (Instr.mapUpdate 64 (.map (some r)) (.agg #[.int .i64 i, .int .i64 k]) v').run Try.prog w1 = .ok () (ChangeMaps.setBlock w1 r (.map es2 c2)) ∧ Ent lok lkv es2 c2 (upd L (i, k) v') from fun w1 hg v' =>
      run_update lkeys Try.underlying64 (HD.out.stay (hg.block r hrlt (fun e => by cases e; exact HG.out.2.2 rfl))) (lok_of hI.out hK.out) v')
    have HB := Lib.hid (show ∀ w1 : World, W.drew.grownBy w1 (some g0) → ∀ g, g < W.heap.size → (g = b ∨ g = kb) → w1.heap[g]? = W.heap[g]? from fun w1 hg g hlt hor => by
      refine hg.block g hlt (fun e => ?_)
      cases e
      rcases hor with rfl | rfl
      · exact HG.out.1 rfl
      · exact HKF.out _ HP.out rfl)
    obtain ⟨m, HM⟩ : ∃ m, Hid ((q n.l (i, k)).length = m) := ⟨_, Lib.hid rfl⟩
    have hlk' : (Instr.lookup 64 (.map (some r)) (.agg #[.int .i64 i, .int .i64 k]) false).run Try.prog W.drew = .ok (.slice (some ⟨g0, 0, none⟩) m cp) W.drew := by
      rw [← HM.out]
      have := run_lookup lkeys Try.underlying64 (Try.zeroValue73 W.drew) (HD.out.stay (w' := W.drew) rfl) (lok_of hI.out hK.out) false
      rw [hv0] at this
      exact this
    have HU2 := Lib.hid (show u < m by rw [← HM.out]; exact HU.out)
    have hum := HU2.out
    have hcm : m ≤ cp := by rw [← HM.out]; exact hcap.1
    have hcx : cp ≤ 9223372036854775807 := by have := hcap.2; simp only [maxLen] at this; omega
    have hml : m ≤ 16384 := by rw [← HM.out]; omega
    have hsl1 : ∀ v, (Instr.slice 73 (.slice (some ⟨g0, 0, none⟩) m cp) none (some (.int .i64 u)) (some (.int .i64 u))).run Try.prog v = .ok (.slice (some ⟨g0, 0, none⟩) u u) v := by
      intro v
      rw [run_slice_hm v 73 _ m cp Try.underlying73 .i64 .i64 _ _ (by omega) (by omega) (by omega), show Try.prog.elem 73 = 9 from by kernel_rfl, Try.sizeOf9]
      simp [sliced, Addr.add]
    obtain ⟨x9, hx9, hsl2⟩ : ∃ x9 : Option Addr, (0 < m - (u + 1) → x9 = some ⟨g0, u + 1, none⟩) ∧ ∀ v, (Instr.slice 73 (.slice (some ⟨g0, 0, none⟩) m cp) (some (.int .i64 ((u : Int) + 1))) none none).run Try.prog v = .ok (.slice x9 (m - (u + 1)) (cp - (u + 1))) v := by
      refine ⟨if cp = u + 1 then some ⟨g0, 0, none⟩ else some ⟨g0, u + 1, none⟩, fun hp => by rw [if_neg (by omega)], fun v => ?_⟩
      rw [run_slice_l v 73 _ m cp Try.underlying73 .i64 _ (by omega) (by omega), show Try.prog.elem 73 = 9 from by kernel_rfl, Try.sizeOf9]
      have e1 : ((u : Int) + 1).toNat = u + 1 := by omega
      simp [sliced, Addr.add, e1]
    have hwr : IntKind.i64.wrap ((u : Int) + 1) = (u : Int) + 1 := by simp only [IntKind.wrap, IntKind.bits, IntKind.signed, IntKind.min, IntKind.max, Int.bmod]; simp; omega
    have HX := Lib.hid hx9
    have HA := Lib.hid (show sl W.drew 9 1 (.slice (some ⟨g0, 0, none⟩) u u) u (((q n.l (i, k)).map .string).take (u * 1)) from (HS.out.stay (w' := W.drew) (fun _ _ => rfl)).cut (by rw [HM.out]; omega))
    have HN := Lib.hid (show 0 < m - (u + 1) → ∃ a, x9 = some a ∧ ∀ j v, (((q n.l (i, k)).map Value.string).drop (u + 1))[j]? = some v → W.drew.cell? (a.add j) = some v from fun hp => ⟨_, HX.out hp, fun j v hj => by
      rw [List.getElem?_drop] at hj
      obtain ⟨g, cap, e, hc⟩ := HS.out.cell hj
      cases e
      have : (⟨g0, u + 1, none⟩ : Addr).add j = ⟨g0, u + 1 + j, none⟩ := by unfold Addr.add; split <;> simp_all
      rw [this]
      exact hc⟩)
    obtain ⟨i9, z9, hi9, hz9, hsz9, hby9, hzs9⟩ := info9
    have HX0 := Lib.hid (show m - (u + 1) = 0 → x9 = none → cp - (u + 1) = 0 from fun _ e => by
      have := hsl2 W
      rw [e, run_slice_l W 73 _ m cp Try.underlying73 .i64 _ (by omega) (by omega), show Try.prog.elem 73 = 9 from by kernel_rfl, Try.sizeOf9] at this
      have e1 : ((u : Int) + 1).toNat = u + 1 := by omega
      simp [sliced, Addr.add, e1] at this
      split at this <;> simp at this)
    have HO1 := Lib.hid (show ∀ v ∈ ((q n.l (i, k)).map Value.string).drop (u + 1), v.oneCell' = true from fun v hv => by
      obtain ⟨x, _, rfl⟩ := List.mem_map.1 (List.mem_of_mem_drop hv)
      rfl)
    clear hs hv0 hql hlk hcap hx9
    go_region_held3 (fun v => v.cell? ⟨b, 0, none⟩ = some (.map (some r)) ∧ v.cell? ⟨kb, 0, none⟩ = some (.int .i64 i) ∧ v.cell? ⟨kb, 1, none⟩ = some (.int .i64 k))
      (first | go_keep | (go_split_ands; refine ⟨?_, ?_, ?_⟩ <;> (rw [cell_setBlock (by assumption)]; first | assumption | go_keep)) | (go_split_ands; refine ⟨?_, ?_, ?_⟩ <;> assumption))
      ((refine step_append_sl (by rfl) _ _ 73 (by rfl) 9 i9 z9 1 16 Try.underlying73 hi9 hz9 hsz9 hby9 hzs9 (by decide) (.slice (some ⟨g0, 0, none⟩) u u) u (((q n.l (i, k)).map .string).take (u * 1)) (by rfl) HA.out x9 (m - (u + 1)) (cp - (u + 1)) (((q n.l (i, k)).map .string).drop (u + 1)) (by rfl) (by rw [List.length_drop, List.length_map, HM.out]; omega) HN.out HX0.out HO1.out (by simp only [maxLen]; omega) (by omega) ?_; intro v' w1 hsl hgrow hat; have hB := HB.out w1 hgrow; obtain ⟨es2, c2, hE3, E2⟩ := HW.out w1 hgrow v'; have hq0 := (World.cell?_of_block (a := ⟨b, 0, none⟩) (hB b hblt (Or.inl rfl))).trans c0'; have hq1 := (World.cell?_of_block (a := ⟨kb, 0, none⟩) (hB kb hklt (Or.inr rfl))).trans hk0; have hq2 := (World.cell?_of_block (a := ⟨kb, 1, none⟩) (hB kb hklt (Or.inr rfl))).trans hk1))
    all_goals
      have hb2 : (ChangeMaps.setBlock w1 r (.map es2 c2)).heap[b]? = W.heap[b]? := (heap_setBlock_ne hbr).trans (hB b hblt (Or.inl rfl))
      have cF := (World.cell?_of_block (a := ⟨b, 2, none⟩) hb2).trans c2'
      have fF := (World.frozen?_of_block (a := ⟨b, 2, none⟩) hb2).trans f2'
      have hl9 := drop_len n.l (i, k) u HU.out
      have hl8 : ((dropL n.l (i, k) u).length : Int) = (len : Int) - 1 := by have := HL.out; omega
      have hl7 : 1 ≤ len := by have := HL.out; omega
      have e5 : (q (dropL n.l (i, k) u) (i, k)).map Value.string = ((q n.l (i, k)).map .string).take (u * 1) ++ ((q n.l (i, k)).map .string).drop (u + 1) := by
        rw [q_drop_same, Nat.mul_one, ← List.map_take, ← List.map_drop, ← List.map_append, List.eraseIdx_eq_take_drop_succ]
      have e6 : u + (m - (u + 1)) = (q (dropL n.l (i, k) u) (i, k)).length := by
        rw [q_drop_same, List.length_eraseIdx_of_lt HU.out, HM.out]; omega
      rw [e6, ← e5] at hsl
      have HF := HR.out.stored (x := (i, k)) (v0 := .slice (some ⟨g0, 0, none⟩) u u) (WA := W.drew) (l' := dropL n.l (i, k) u) (fun g hg => ⟨_, HP.out, rfl, hg⟩) (fun _ _ _ => rfl) (Nat.le_refl _) ⟨rfl, rfl, rfl⟩ hsl hgrow hat E2 (fun y hy => q_drop_other _ _ _ _ hy) (by have := HL.out; omega)
      rw [hl8] at HF
      have HF' := Lib.hid HF
      clear HF hb2 hq0 hq1 hq2 hE3 E2 hB hat hgrow hsl HB hzs9 hby9 hsz9 hz9 hi9 HN HA HX hsl1 hsl2 hlk' hml hcm hum HU2 HW HD HG HP HS c0' c2' f2' hk0 hk1 e5 e6 hl8 hl9 hwr HX0 HO1
      generalize ChangeMaps.setBlock w1 r (.map es2 c2) = W2 at *
      go_wp2
      go_ret
      have hk9 := HSZ.out
      refine ⟨rfl, ⟨r, mb, upd L (i, k) v', ?_⟩, HC.out.trans HF'.out.2⟩
      have h9 := HF'.out.1
      exact ⟨h9.net, h9.mach, h9.map, h9.rows, h9.gone, h9.apart, h9.few, h9.under, Or.inl HR.out.fb, Or.inl HR.out.fmb, Or.inl HR.out.fr, fun p hp g hg => (h9.frow p hp g hg).imp id (fun e => by omega)⟩
  · have e0 : dropM n i k j = (n, (peekM n i k j).2) := by unfold dropM; rw [if_neg h0]
    rw [e0]
    obtain ⟨ps, HP⟩ : ∃ ps, Hid ((peekM n i k j).1 = ps) := ⟨_, Lib.hid rfl⟩
    rw [HP.out] at A
    generalize (peekM n i k j).2 = e2 at *
    have hne : (e2 != 0) = true := by simpa using h0
    clear hi hk hj h h0 e0 hmono
    go_enter Try.func12, Try.ntmps12
    go_wp2_with fail
    refine A.out.mono ?_
    rintro e w' ⟨rfl, rfl⟩
    go_wp2
    go_ret
    exact ⟨rfl, ⟨_, _, _, HM.out⟩, Chg.refl _ _⟩
end Go.Proofs.Ytpgioccbnkcjcaa
