/- Walks: Send. -/
import Derived.Test.YtpgioccbnkcjcaaN4
import Derived.Test.YtpgioccbnkcjcaaStep
namespace Go.Proofs.Ytpgioccbnkcjcaa
open Go.RowKit Mk

def sendM (n : NetM) (a b : Int) (s : ByteArray) : NetM × Int :=
  if (may n.ms.length a && may n.ms.length b) = false then (n, 2) else if 4194304 < s.size then (n, 4) else if 16384 ≤ n.l.length then (n, 6) else (⟨n.ms, n.l ++ [⟨a, b, s⟩]⟩, 0)

theorem mem_upd' {K V : Type} [DecidableEq K] {L : List (K × V)} (hd : L.Pairwise (fun p q => p.1 ≠ q.1)) {x : K} {v : V} {p : K × V} (h : p ∈ upd L x v) : p = (x, v) ∨ p ∈ L ∧ p.1 ≠ x := by
  induction L with
  | nil => simp [upd] at h; exact Or.inl h
  | cons q L ih =>
    obtain ⟨h1, h2⟩ := List.pairwise_cons.1 hd
    unfold upd at h
    split at h
    · rename_i e
      rcases List.mem_cons.1 h with h | h
      · exact Or.inl h
      · exact Or.inr ⟨by simp [h], by rw [← e]; exact (h1 p h).symm⟩
    · rename_i e
      rcases List.mem_cons.1 h with h | h
      · exact Or.inr ⟨by simp [h], by rw [h]; exact e⟩
      · rcases ih h2 h with h | h
        · exact Or.inl h
        · exact Or.inr ⟨by simp [h.1], h.2⟩

theorem q_send (l : List Msg) (a b : Int) (s : ByteArray) (x : Lnk) : q (l ++ [⟨a, b, s⟩]) x = if x = (a, b) then q l x ++ [s] else q l x := by
  obtain ⟨x1, x2⟩ := x
  by_cases h : (x1, x2) = (a, b)
  · rw [if_pos h]
    simp only [Prod.mk.injEq] at h
    obtain ⟨rfl, rfl⟩ := h
    simp [q]
  · rw [if_neg h]
    simp only [Prod.mk.injEq] at h
    have : ¬ (a = x1 ∧ b = x2) := fun e => h ⟨e.1.symm, e.2.symm⟩
    simp [q, this]

theorem info9 : ∃ (i : TypeInfo) (z : Value), Try.prog.info? 9 = some i ∧ i.zero = some z ∧ i.size = 1 ∧ i.bytes = 16 ∧ z.cells.size = 1 := by
  have h : ((Try.prog.info? 9).map fun i => (i.size, i.bytes, i.zero.map (·.cells.size))) = some (1, 16, some 1) := by kernel_rfl
  cases hi : Try.prog.info? 9 with
  | none => rw [hi] at h; cases h
  | some i =>
    rw [hi] at h
    simp only [Option.map_some, Option.some.injEq, Prod.mk.injEq] at h
    obtain ⟨h1, h2, h3⟩ := h
    cases hz : i.zero with
    | none => rw [hz] at h3; cases h3
    | some z => rw [hz] at h3; exact ⟨i, z, rfl, hz, h1, h2, by simpa using h3⟩

theorem NetRep.own_in {w : World} {b r : Nat} {mb : MB} {L : List (Lnk × Value)} {F : Nat → Prop} {n : NetM} (h : NetRep w b r mb L F n) {x : Lnk} {v0 : Value} (hv : (lk L x).getD (.slice none 0 0) = v0) {g : Nat} (hg : v0.ownBlock = some g) : (x, v0) ∈ L := by
  cases hk : lk L x with
  | none => rw [hk] at hv; simp at hv; rw [← hv] at hg; simp [Value.ownBlock] at hg
  | some v => rw [hk] at hv; simp at hv; subst hv; exact lk_mem hk

theorem NetRep.sent {W w1 : World} {b r : Nat} {mb : MB} {L : List (Lnk × Value)} {F : Nat → Prop} {n : NetM} (h : NetRep W b r mb L F n) {x : Lnk} {s : ByteArray} {v0 v' : Value} {o1 : Obj} {row : Obj} {es2 : Array MapEntry} {c2 : Nat}
    (hv0 : (lk L x).getD (.slice none 0 0) = v0) (hl : n.l.length < 16384)
    (hsl : sl w1 9 1 v' ((q n.l x).length + 1) ((q n.l x).map .string ++ [.string s])) (hgrow : (ChangeMaps.setBlock (W.alloc row).drew r o1).grownBy w1 v0.ownBlock)
    (hat : v'.ownBlock = v0.ownBlock ∨ v'.ownBlock = some (ChangeMaps.setBlock (W.alloc row).drew r o1).heap.size) (E2 : Ent lok lkv es2 c2 (upd L x v')) :
    NetRep ((ChangeMaps.setBlock w1 r (.map es2 c2)).setCell ⟨b, 2, none⟩ (.int .i64 ((n.l.length : Int) + 1))) b r mb (upd L x v') (fun g => F g ∨ W.heap.size ≤ g) ⟨n.ms, n.l ++ [⟨x.1, x.2, s⟩]⟩ ∧
    Chg F W ((ChangeMaps.setBlock w1 r (.map es2 c2)).setCell ⟨b, 2, none⟩ (.int .i64 ((n.l.length : Int) + 1))) := by
  obtain ⟨hb, hmb, hr⟩ := h.lt
  obtain ⟨n1, n2, n3⟩ := h.ne
  have hsz : (ChangeMaps.setBlock (W.alloc row).drew r o1).heap.size = W.heap.size + 1 := by rw [size_setBlock]; exact Array.size_push ..
  have own_ne : ∀ g, v0.ownBlock = some g → g ≠ b ∧ g ≠ mb ∧ g ≠ r ∧ g < W.heap.size ∧ F g := fun g hg => by
    have hm := h.own_in hv0 hg
    obtain ⟨a1, a2, a3⟩ := h.row_ne hm hg
    exact ⟨a1, a2, a3, (h.rows _ hm).lt hg, h.frow _ hm g hg⟩
  have old : ∀ g, g < W.heap.size → g ≠ r → v0.ownBlock ≠ some g → w1.heap[g]? = W.heap[g]? := fun g hg hne ho => by
    rw [hgrow.block g (by rw [hsz]; omega) (fun e => ho e.symm), heap_setBlock_ne hne, show (W.alloc row).drew.heap[g]? = (W.alloc row).heap[g]? from rfl, Below.heap_alloc _ _ _ hg]
  have hw1 : W.heap.size + 1 ≤ w1.heap.size := by rw [← hsz]; exact hgrow.size
  have fin : ∀ g, g ≠ r → g ≠ b → ((ChangeMaps.setBlock w1 r (.map es2 c2)).setCell ⟨b, 2, none⟩ (.int .i64 ((n.l.length : Int) + 1))).heap[g]? = w1.heap[g]? := fun g h1 h2 => by
    rw [Below.heap_setCell _ _ _ _ h2, heap_setBlock_ne h1]
  have hd := h.map.apart
  have hpx : ∀ p ∈ L, p.1 ≠ x → ∀ g, p.2.ownBlock = some g → v0.ownBlock ≠ some g := fun p hp hne g hg e => by
    have hm := h.own_in hv0 e
    rcases h.apart p hp _ hm hne with a | a
    · rw [a] at hg; cases hg
    · exact a (by rw [hg, e])
  have c1 : Chg F W w1 := by
    refine ⟨hgrow.os, hgrow.tape, hgrow.output, by omega, fun g hg hF => old g hg (fun e => hF (e ▸ h.fr)) (fun e => hF (own_ne g e).2.2.2.2)⟩
  refine ⟨⟨?_, ?_, ?_, ?_, ?_, ?_, h.few, by simp; omega, Or.inl h.fb, Or.inl h.fmb, Or.inl h.fr, ?_⟩, (c1.setBlock (Or.inl h.fr) _).setCell (Or.inl h.fb) _⟩
  · have hb1 : (ChangeMaps.setBlock w1 r (.map es2 c2)).heap[b]? = some (.cells #[.map (some r), .slice (some ⟨mb, 0, none⟩) n.ms.length mb.c, .int .i64 n.l.length] 67) := by
      rw [heap_setBlock_ne n2, old b hb n2 (fun e => (own_ne b e).1 rfl), h.net]
    rw [Mk.heap_setCell_same hb1]
    simp
  · rw [fin mb n3 n1.symm, old mb hmb n3 (fun e => (own_ne mb e).2.1 rfl), h.mach]
  · refine ⟨es2, c2, ?_, E2⟩
    rw [Below.heap_setCell _ _ _ _ n2.symm, heap_setBlock_eq (by omega)]
  · intro p hp
    rcases mem_upd' hd hp with rfl | ⟨hp, hne⟩
    · simp only [q_send, if_true]
      have : ((q n.l x ++ [s]).map Value.string) = (q n.l x).map .string ++ [.string s] := by simp
      rw [this]
      simp only [List.length_append, List.length_cons, List.length_nil]
      refine hsl.stay (fun g hg => fin g ?_ ?_)
      · rcases hat with a | a
        · exact (own_ne g (a ▸ hg)).2.2.1
        · rw [a, hsz] at hg; simp at hg; omega
      · rcases hat with a | a
        · exact (own_ne g (a ▸ hg)).1
        · rw [a, hsz] at hg; simp at hg; omega
    · simp only [q_send]
      rw [if_neg hne]
      refine (h.rows p hp).stay (fun g hg => ?_)
      have hn := h.row_ne hp hg
      rw [fin g hn.2.2 hn.1, old g ((h.rows p hp).lt hg) hn.2.2 (hpx p hp hne g hg)]
  · intro y hy
    rw [lk_upd] at hy
    split at hy
    · cases hy
    · rename_i hne
      simp only [q_send]
      rw [if_neg hne]
      exact h.gone y hy
  · intro p hp p' hp' hne
    rcases mem_upd' hd hp with rfl | ⟨hp, hpn⟩ <;> rcases mem_upd' hd hp' with rfl | ⟨hp', hpn'⟩
    · exact absurd rfl hne
    · rcases hat with a | a
      · simp only [a]
        cases ho : v0.ownBlock with
        | none => exact Or.inl rfl
        | some g => exact Or.inr (fun e => hpx p' hp' hpn' g e.symm ho)
      · refine Or.inr (fun e => ?_)
        simp only [a, hsz] at e
        have := (h.rows p' hp').lt e.symm
        omega
    · cases ho : p.2.ownBlock with
      | none => exact Or.inl rfl
      | some g =>
        refine Or.inr (fun e => ?_)
        have hlt := (h.rows p hp).lt ho
        rcases hat with a | a
        · simp only [a] at e
          exact hpx p hp hpn g ho e.symm
        · simp only [a, hsz] at e
          simp at e
          omega
    · exact h.apart p hp p' hp' hne
  · intro p hp g hg
    rcases mem_upd' hd hp with rfl | ⟨hp, hpn⟩
    · rcases hat with a | a
      · exact Or.inl (own_ne g (a ▸ hg)).2.2.2.2
      · right
        simp only [a, hsz] at hg
        simp at hg
        omega
    · exact Or.inl (h.frow p hp g hg)

set_option maxRecDepth 100000 in
set_option maxHeartbeats 1000000 in
theorem send_any {w : World} {b r : Nat} {mb : MB} {L : List (Lnk × Value)} {F : Nat → Prop} {n : NetM} (h : NetRep w b r mb L F n) (i k : Int) (s : ByteArray) (hi : i64 i) (hk : i64 k) :
    Calls Try.prog 9 #[.pointer (some ⟨b, 0, none⟩), .int .i64 i, .int .i64 k, .string s] w fun e w' => e = .returned (.int .i64 (sendM n i k s).2) ∧ NetIs w' b (fun g => F g ∨ w.heap.size ≤ g) (sendM n i k s).1 ∧ Chg F w w' := by
  have A := Lib.hid (between_any h.net i k hi hk)
  have H := Lib.hid h
  have c2 := h.cell2
  have c0 := h.cell0
  have hI := Lib.hid hi
  have hK := Lib.hid hk
  obtain ⟨len, HL⟩ : ∃ x, Hid (n.l.length = x) := ⟨_, Lib.hid rfl⟩
  have hlen : len ≤ 16384 := by rw [← HL.out]; exact h.under
  rw [HL.out] at c2
  have hmono : NetRep w b r mb L (fun g => F g ∨ w.heap.size ≤ g) n := ⟨h.net, h.mach, h.map, h.rows, h.gone, h.apart, h.few, h.under, Or.inl h.fb, Or.inl h.fmb, Or.inl h.fr, fun p hp g hg => Or.inl (h.frow p hp g hg)⟩
  have HM := Lib.hid hmono
  cases hm : (may n.ms.length i && may n.ms.length k)
  · have e0 : sendM n i k s = (n, 2) := by unfold sendM; rw [if_pos hm]
    rw [e0]
    rw [hm] at A
    clear hi hk h hm e0 hmono
    go_enter Try.func9, Try.ntmps9
    go_wp2_with fail
    refine A.out.mono ?_
    rintro e w' ⟨rfl, rfl⟩
    go_wp2
    go_ret
    exact ⟨rfl, ⟨_, _, _, HM.out⟩, Chg.refl _ _⟩
  · by_cases h4 : 4194304 < s.size
    · have e0 : sendM n i k s = (n, 4) := by unfold sendM; rw [hm, if_neg (by decide), if_pos h4]
      rw [e0]
      rw [hm] at A
      clear hi hk h hm e0 hmono
      have h4' : decide ((4194304 : Int) < s.size) = true := by simp; omega
      go_enter Try.func9, Try.ntmps9
      go_wp2_with fail
      refine A.out.mono ?_
      rintro e w' ⟨rfl, rfl⟩
      go_wp2
      go_ret
      exact ⟨rfl, ⟨_, _, _, HM.out⟩, Chg.refl _ _⟩
    · have h4' : decide ((4194304 : Int) < s.size) = false := by simp; omega
      by_cases h6 : 16384 ≤ len
      · have e0 : sendM n i k s = (n, 6) := by unfold sendM; rw [hm, if_neg (by decide), if_neg h4, if_pos (by rw [HL.out]; exact h6)]
        rw [e0]
        rw [hm] at A
        clear hi hk h hm e0 hmono h4
        have h6' : decide ((16384 : Int) ≤ len) = true := by simp; omega
        go_enter Try.func9, Try.ntmps9
        go_wp2_with fail
        refine A.out.mono ?_
        rintro e w' ⟨rfl, rfl⟩
        go_wp2
        go_ret
        exact ⟨rfl, ⟨_, _, _, HM.out⟩, Chg.refl _ _⟩
      · have e0 : sendM n i k s = (⟨n.ms, n.l ++ [⟨i, k, s⟩]⟩, 0) := by unfold sendM; rw [hm, if_neg (by decide), if_neg h4, if_neg (by rw [HL.out]; exact h6)]
        rw [e0]
        rw [hm] at A
        clear hi hk h hm e0 hmono h4
        have h6' : decide ((16384 : Int) ≤ len) = false := by simp; omega
        go_enter Try.func9, Try.ntmps9
        go_wp2_with fail
        refine A.out.mono ?_
        rintro e w' ⟨rfl, rfl⟩
        go_wp2
        have HR := Lib.hid (H.out.stay (w' := w'.alloc (.cells #[.int .i64 i, .int .i64 k] 72)) (G := fun _ => False) ((Chg.refl _ _).alloc _) (fun _ _ h => h))
        have HC := Lib.hid (show Chg F w' (w'.alloc (.cells #[.int .i64 i, .int .i64 k] 72)) from (Chg.refl _ _).alloc _)
        have hk0 : (w'.alloc (.cells #[.int .i64 i, .int .i64 k] 72)).cell? ⟨w'.heap.size, 0, none⟩ = some (.int .i64 i) := cell_of (Go.heap_alloc_new _ _) (by simp)
        have hk1 : (w'.alloc (.cells #[.int .i64 i, .int .i64 k] 72)).cell? ⟨w'.heap.size, 1, none⟩ = some (.int .i64 k) := cell_of (Go.heap_alloc_new _ _) (by simp)
        have hkne : w'.heap.size ≠ r := by have := H.out.lt.2.2; omega
        have HSZ := Lib.hid (show w'.heap.size < (w'.alloc (.cells #[.int .i64 i, .int .i64 k] 72)).heap.size by simp)
        have c0' := HR.out.cell0
        have c2' : (w'.alloc (.cells #[.int .i64 i, .int .i64 k] 72)).cell? ⟨b, 2, none⟩ = some (.int .i64 len) := by rw [HR.out.cell2, HL.out]
        have f2' : (w'.alloc (.cells #[.int .i64 i, .int .i64 k] 72)).frozen? ⟨b, 2, none⟩ = false := frozen_of HR.out.net
        have HKF := Lib.hid (show ∀ p ∈ L, p.2.ownBlock ≠ some w'.heap.size from fun p hp e => by have := (H.out.rows p hp).lt e; omega)
        clear c0 c2 A H HM
        generalize hkb : w'.heap.size = kb at *
        generalize w'.alloc (.cells #[.int .i64 i, .int .i64 k] 72) = W at *
        have hbr : b ≠ r := HR.out.ne.2.1
        obtain ⟨es, clock, hes, E⟩ := HR.out.map
        obtain ⟨st, es1, clock1, hrun1, hrun2⟩ := run_entry (r := r) lkeys Try.underlying64 Try.zeroValue73 E (lok_of hI.out hK.out)
        obtain ⟨ao, cp, -, hs, hv0⟩ := HR.out.look (lok_of hI.out hK.out)
        have hql : (q n.l (i, k)).length ≤ len := by
          rw [← HL.out]; simp only [q, List.length_map]; exact List.length_filter_le _ _
        have HS := Lib.hid hs
        have HV := Lib.hid hv0
        have HE := Lib.hid E
        have HR1 := Lib.hid hrun1
        have HR2 := Lib.hid hrun2
        have HES := Lib.hid hes
        have hrlt := HR.out.lt.2.2
        have hm1 : (Instr.mapEntry 64 (.map (some r)) (.agg #[.int .i64 i, .int .i64 k])).run Try.prog (W.alloc (.cells #[.string s] 9)).drew = .ok (.tuple #[.slice ao (q n.l (i, k)).length cp, .int .i64 st]) (ChangeMaps.setBlock (W.alloc (.cells #[.string s] 9)).drew r (.map es1 clock1)) := by
          rw [← HV.out]
          exact HR1.out _ (by rw [show (W.alloc (.cells #[.string s] 9)).drew.heap[r]? = (W.alloc (.cells #[.string s] 9)).heap[r]? from rfl, Below.heap_alloc _ _ _ hrlt]; exact HES.out)
        have HA := Lib.hid (show sl (ChangeMaps.setBlock (W.alloc (.cells #[.string s] 9)).drew r (.map es1 clock1)) 9 1 (.slice ao (q n.l (i, k)).length cp) (q n.l (i, k)).length ((q n.l (i, k)).map .string) from HS.out.stay (fun g hg => by
          rw [heap_setBlock_ne (HR.out.row_ne (HR.out.own_in HV.out hg) hg).2.2, show (W.alloc (.cells #[.string s] 9)).drew.heap[g]? = (W.alloc (.cells #[.string s] 9)).heap[g]? from rfl, Below.heap_alloc _ _ _ (HS.out.lt hg)]))
        have HN := Lib.hid (show (ChangeMaps.setBlock (W.alloc (.cells #[.string s] 9)).drew r (.map es1 clock1)).heap[W.heap.size]? = some (.cells #[.string s] 9) by
          rw [heap_setBlock_ne (by omega)]; exact Go.heap_alloc_new W _)
        obtain ⟨m, HM⟩ : ∃ m, Hid ((q n.l (i, k)).length = m) := ⟨_, Lib.hid rfl⟩
        have hml : m ≤ 16384 := by rw [← HM.out]; omega
        have hblt := HR.out.lt.1
        have hklt := HSZ.out
        have HO := Lib.hid (show ∀ w1 : World, (ChangeMaps.setBlock (W.alloc (.cells #[.string s] 9)).drew r (.map es1 clock1)).grownBy w1 (Value.slice ao (q n.l (i, k)).length cp).ownBlock → w1.heap[r]? = some (.map es1 clock1) from fun w1 hg => by
          have hsz : (ChangeMaps.setBlock (W.alloc (.cells #[.string s] 9)).drew r (.map es1 clock1)).heap.size = W.heap.size + 1 := by rw [size_setBlock]; exact Array.size_push ..
          rw [hg.block r (by omega) (fun e => (HR.out.row_ne (HR.out.own_in HV.out e.symm) e.symm).2.2 rfl), heap_setBlock_eq (by rw [show (W.alloc (.cells #[.string s] 9)).drew.heap.size = W.heap.size + 1 from Array.size_push ..]; omega)])
        obtain ⟨i9, z9, hi9, hz9, hsz9, hby9, hzs9⟩ := info9
        have n1 := World.new_ne W _ c0'
        have n2 := World.new_ne W _ hk0
        simp only at n1 n2
        clear hs hv0 E hrun1 hrun2 hes hql
        have HB := Lib.hid (show ∀ w1 : World, (ChangeMaps.setBlock (W.alloc (.cells #[.string s] 9)).drew r (.map es1 clock1)).grownBy w1 (Value.slice ao (q n.l (i, k)).length cp).ownBlock → ∀ g, g < W.heap.size → g ≠ r → (g = b ∨ g = kb) → w1.heap[g]? = W.heap[g]? from fun w1 hg g hlt hne hor => by
          have hsz : (ChangeMaps.setBlock (W.alloc (.cells #[.string s] 9)).drew r (.map es1 clock1)).heap.size = W.heap.size + 1 := by rw [size_setBlock]; exact Array.size_push ..
          rw [hg.block g (by omega) (fun e => ?_), heap_setBlock_ne hne, show (W.alloc (.cells #[.string s] 9)).drew.heap[g]? = (W.alloc (.cells #[.string s] 9)).heap[g]? from rfl, Below.heap_alloc _ _ _ hlt]
          have hm := HR.out.own_in HV.out e.symm
          rcases hor with rfl | rfl
          · exact (HR.out.row_ne hm e.symm).1 rfl
          · exact HKF.out _ hm e.symm)
        go_region_held3 (fun v => v.cell? ⟨b, 0, none⟩ = some (.map (some r)) ∧ v.cell? ⟨kb, 0, none⟩ = some (.int .i64 i) ∧ v.cell? ⟨kb, 1, none⟩ = some (.int .i64 k))
          (first | go_keep | (go_split_ands; refine ⟨?_, ?_, ?_⟩ <;> (rw [cell_setBlock (by assumption)]; first | assumption | go_keep)) | (go_split_ands; refine ⟨?_, ?_, ?_⟩ <;> assumption))
          ((refine step_append_sl (by rfl) _ _ 73 (by rfl) 9 i9 z9 1 16 Try.underlying73 hi9 hz9 hsz9 hby9 hzs9 (by decide) (.slice ao (q n.l (i, k)).length cp) (q n.l (i, k)).length ((q n.l (i, k)).map .string) (by rfl) HA.out (some ⟨W.heap.size, 0, none⟩) 1 1 [.string s] (by rfl) (by rfl) (fun _ => ⟨_, rfl, cell_new_one HN.out⟩) (fun h => absurd h (by decide)) (by simp [Value.oneCell']) (by have := HM.out; simp only [maxLen]; omega) (by have := HM.out; omega) ?_; intro v' w1 hsl hgrow hat; have hB := HB.out w1 hgrow; obtain ⟨es2, c2, hr2, E2⟩ := HR2.out v'; have hE3 := hr2 w1 (HO.out w1 hgrow); have hq0 := (World.cell?_of_block (a := ⟨b, 0, none⟩) (hB b hblt hbr (Or.inl rfl))).trans c0'; have hq1 := (World.cell?_of_block (a := ⟨kb, 0, none⟩) (hB kb hklt hkne (Or.inr rfl))).trans hk0; have hq2 := (World.cell?_of_block (a := ⟨kb, 1, none⟩) (hB kb hklt hkne (Or.inr rfl))).trans hk1))
        have hb2 : (ChangeMaps.setBlock w1 r (.map es2 c2)).heap[b]? = W.heap[b]? := (heap_setBlock_ne hbr).trans (hB b hblt hbr (Or.inl rfl))
        have cF := (World.cell?_of_block (a := ⟨b, 2, none⟩) hb2).trans c2'
        have fF := (World.frozen?_of_block (a := ⟨b, 2, none⟩) hb2).trans f2'
        have HF := HR.out.sent (x := (i, k)) HV.out (by rw [HL.out]; omega) hsl hgrow hat E2
        rw [HL.out] at HF
        have HF' := Lib.hid HF
        have hl6 : len < 16384 := by omega
        clear HF hb2 hq0 hq1 hq2 hE3 E2 hr2 hB hat hgrow hsl HB n1 n2 hzs9 hby9 hsz9 hz9 hi9 HO hml HM HN HA hm1 hrlt HES HR2 HR1 HE HV HS c0' c2' f2' hk0 hk1 h6' h6 h4'
        generalize ChangeMaps.setBlock w1 r (.map es2 c2) = W2 at *
        go_wp2
        go_ret
        have hk9 := HSZ.out
        refine ⟨rfl, ⟨r, mb, upd L (i, k) v', ?_⟩, HC.out.trans HF'.out.2⟩
        have h9 := HF'.out.1
        exact ⟨h9.net, h9.mach, h9.map, h9.rows, h9.gone, h9.apart, h9.few, h9.under, Or.inl HR.out.fb, Or.inl HR.out.fmb, Or.inl HR.out.fr, fun p hp g hg => (h9.frow p hp g hg).imp id (fun e => by omega)⟩
end Go.Proofs.Ytpgioccbnkcjcaa
