/- Copy of the net. -/
import Derived.Test.YtpgioccbnkcjcaaP8
import Derived.Deep.RegionHeld3
namespace Go.Proofs.Ytpgioccbnkcjcaa
open Go.RowKit Mk

theorem mcells_one (ms : List Mach) : ∀ u ∈ mcells ms, u.oneCell' = true := by
  intro u hu
  obtain ⟨m, _, hm⟩ := List.mem_flatMap.1 hu
  simp at hm
  rcases hm with rfl | rfl | rfl <;> rfl
theorem str_one (l : List ByteArray) : ∀ u ∈ l.map Value.string, u.oneCell' = true := by
  intro u hu
  obtain ⟨m, _, rfl⟩ := List.mem_map.1 hu
  rfl
set_option maxRecDepth 100000 in
theorem clone_machs' {w : World} {g m sc : Nat} {xs rest : List Value} (hb : w.heap[g]? = some (.cells (xs ++ rest).toArray 69)) (hx : xs.length = m * 3) (hm : m ≤ 16384) (h1 : ∀ u ∈ xs, u.oneCell' = true) :
    Calls Try.prog 42 #[.slice (some ⟨g, 0, none⟩) m sc] w fun e w' => ∃ g2 lc, e = .returned (.slice (some ⟨g2, 0, none⟩) m lc) ∧ sl w' 69 3 (.slice (some ⟨g2, 0, none⟩) m lc) m xs ∧ w.heap.size ≤ g2 ∧ Chg (fun _ => False) w w' := by
  obtain ⟨ie, ze, hie, hze, hsze, hbye, hzse⟩ := info69b
  have hnn := nil65 g m sc
  have HN := Lib.hid (show sl (w.alloc (.cells #[] 69)) 69 3 (.slice (some ⟨w.heap.size, 0, none⟩) 0 0) 0 [] from ⟨by simp, Or.inr ⟨w.heap.size, 0, #[], rfl, Go.heap_alloc_new _ _, Nat.le_refl _, by simp, by simp, by simp⟩⟩)
  have HC := Lib.hid (show 0 < m → ∃ a, (some ⟨g, 0, none⟩ : Option Addr) = some a ∧ ∀ j v, xs[j]? = some v → (w.alloc (.cells #[] 69)).cell? (a.add j) = some v from fun _ => ⟨_, rfl, fun j v hj => by
    rw [addr_add, Nat.zero_add]
    refine (World.cell?_of_block (a := ⟨g, j, none⟩) (Below.heap_alloc _ _ _ (Array.getElem?_eq_some_iff.1 hb).1)).trans (cell_of hb ?_)
    simp only [List.getElem?_toArray]
    rw [List.getElem?_append_left (List.getElem?_eq_some_iff.1 hj).1]
    exact hj⟩)
  have HL := Lib.hid hx
  have H1 := Lib.hid h1
  clear hb hx h1
  go_enter Try.func42, Try.ntmps42
  go_wp2_with (refine wpList_append_sl (by rfl) _ _ 65 (by rfl) 69 ie ze 3 24 Try.underlying65 hie hze hsze hbye hzse (by decide) (.slice (some ⟨w.heap.size, 0, none⟩) 0 0) 0 [] (by rfl) HN.out (some ⟨g, 0, none⟩) m sc xs (by rfl) HL.out HC.out (fun _ e => by cases e) H1.out (by simp only [maxLen]; omega) (by omega) ?_; intro v' w2 hsl hgrow hat; rw [Nat.zero_add, List.nil_append] at hsl; obtain ⟨lo2, lc2, rfl, hz2⟩ := sl_shape hsl; have HSL := Lib.hid hsl; have HAT := Lib.hid hat; have HGR := Lib.hid hgrow; clear hsl hgrow hat; have HZ2 := Lib.hid hz2; clear hz2)
  go_ret
  rcases lo2 with _ | ad
  · rcases HAT.out with e' | e'
    · simp [Value.ownBlock] at e'
    · simp [Value.ownBlock] at e'
  · obtain ⟨g2, rfl⟩ := HZ2.out ad rfl
    refine ⟨g2, lc2, rfl, HSL.out, ?_, ((Chg.refl _ _).alloc _).grown HGR.out (fun i hi => by simp [Value.ownBlock] at hi; exact Or.inr (by omega))⟩
    rcases HAT.out with e | e
    · simp [Value.ownBlock] at e; omega
    · simp [Value.ownBlock] at e; omega

/-- The copy while its rows are laid. -/
structure CpAt (w : World) (n : NetM) (cb r2 g2 lc : Nat) (L' : List (Lnk × Value)) (wr : World) : Prop where
  net : wr.heap[cb]? = some (.cells #[.map (some r2), .slice (some ⟨g2, 0, none⟩) n.ms.length lc, .int .i64 n.l.length] 67)
  mach : sl wr 69 3 (.slice (some ⟨g2, 0, none⟩) n.ms.length lc) n.ms.length (mcells n.ms)
  map : mapAt lok lkv wr r2 L'
  rows : ∀ p ∈ L', sl wr 9 1 p.2 (q n.l p.1).length ((q n.l p.1).map .string)
  apart : ∀ p ∈ L', ∀ p' ∈ L', p.1 ≠ p'.1 → p.2.ownBlock = none ∨ p.2.ownBlock ≠ p'.2.ownBlock
  frow : ∀ p ∈ L', ∀ g, p.2.ownBlock = some g → w.heap.size ≤ g
  ge : w.heap.size ≤ cb ∧ w.heap.size ≤ r2 ∧ w.heap.size ≤ g2
  chg : Chg (fun _ => False) w wr
section
variable {w wr wr' : World} {n : NetM} {cb r2 g2 lc : Nat} {L' : List (Lnk × Value)} {G : Nat → Prop}
theorem sl_cells {w : World} {e : TypeId} {size n : Nat} {v : Value} {xs : List Value} (h : sl w e size v n xs) {g : Nat} (hg : v.ownBlock = some g) : ∃ cur, w.heap[g]? = some (.cells cur e) := by
  rcases h.2 with ⟨e', _⟩ | ⟨g', cap, cur, e', hh, _⟩
  · rw [e'] at hg; simp [Value.ownBlock] at hg
  · rw [e'] at hg; simp [Value.ownBlock] at hg; subst hg; exact ⟨_, hh⟩
theorem CpAt.stay (h : CpAt w n cb r2 g2 lc L' wr) (c : Chg G wr wr') (hc : Chg (fun _ => False) w wr') (hG : ∀ g, G g → wr.heap.size ≤ g ∨ ∃ a s d c, wr.heap[g]? = some (.mapIter a s d c)) : CpAt w n cb r2 g2 lc L' wr' := by
  have hk : ∀ g (o : Obj), wr.heap[g]? = some o → (∀ a s d c, o ≠ Obj.mapIter a s d c) → wr'.heap[g]? = wr.heap[g]? := fun g o ho hn => c.block g (Array.getElem?_eq_some_iff.1 ho).1 (fun hg => by
    rcases hG g hg with h1 | ⟨a, s, d, c, h1⟩
    · have := (Array.getElem?_eq_some_iff.1 ho).1; omega
    · rw [ho] at h1; cases h1; exact hn _ _ _ _ rfl)
  have hs : ∀ (e : TypeId) (size n : Nat) (v : Value) (xs : List Value), sl wr e size v n xs → sl wr' e size v n xs := fun e size n v xs hs => hs.stay (fun g hg => by
    obtain ⟨cur, hh⟩ := sl_cells hs hg
    exact hk g _ hh (fun _ _ _ _ e => by cases e))
  obtain ⟨es, ck, hm1, hm2⟩ := h.map
  exact ⟨(hk _ _ h.net (fun _ _ _ _ e => by cases e)).trans h.net, hs _ _ _ _ _ h.mach, h.map.stay (hk _ _ hm1 (fun _ _ _ _ e => by cases e)), fun p hp => hs _ _ _ _ _ (h.rows p hp), h.apart, h.frow, h.ge, hc⟩
theorem CpAt.put (h : CpAt w n cb r2 g2 lc L' wr) (c : Chg (fun _ => False) wr wr') {x : Lnk} {v : Value} {es : Array MapEntry} {ck : Nat} (hv : sl wr' 9 1 v (q n.l x).length ((q n.l x).map .string)) (hn : ∀ g, v.ownBlock = some g → wr.heap.size ≤ g) (hE : Ent lok lkv es ck (upd L' x v)) :
    CpAt w n cb r2 g2 lc (upd L' x v) (ChangeMaps.setBlock wr' r2 (.map es ck)) := by
  have hr := h.stay c (h.chg.trans c) (fun _ f => f.elim)
  obtain ⟨es0, ck0, hm1, hm2⟩ := hr.map
  have hne : ∀ g (cur : Array Value) (e : TypeId), wr'.heap[g]? = some (Obj.cells cur e) → g ≠ r2 := fun g cur e hg h' => by subst h'; rw [hm1] at hg; cases hg
  have hk : ∀ g (cur : Array Value) (e : TypeId), wr'.heap[g]? = some (Obj.cells cur e) → (ChangeMaps.setBlock wr' r2 (.map es ck)).heap[g]? = some (Obj.cells cur e) := fun g cur e hg => by
    rw [heap_setBlock_ne (hne g cur e hg)]; exact hg
  have hs : ∀ (e : TypeId) (size n : Nat) (v : Value) (xs : List Value), sl wr' e size v n xs → sl (ChangeMaps.setBlock wr' r2 (.map es ck)) e size v n xs := fun e size n v xs hs => hs.stay (fun g hg => by
    obtain ⟨cur, hh⟩ := sl_cells hs hg
    rw [hk _ _ _ hh, hh])
  have hmem : ∀ p ∈ upd L' x v, p = (x, v) ∨ p ∈ L' := fun p hp => by
    rcases mem_upd hp with h | h | h
    · exact Or.inl h
    · exact Or.inr h.1
    · exact Or.inr h
  have hold : ∀ p ∈ L', ∀ g, p.2.ownBlock = some g → g < wr.heap.size := fun p hp g hg => (h.rows p hp).lt hg
  refine ⟨hk _ _ _ hr.net, hs _ _ _ _ _ hr.mach, ⟨es, ck, ?_, hE⟩, ?_, ?_, ?_, h.ge, (h.chg.trans c).setBlock (Or.inr h.ge.2.1) _⟩
  · show (wr'.heap.setIfInBounds r2 _)[r2]? = _
    rw [Array.getElem?_setIfInBounds_self_of_lt (Array.getElem?_eq_some_iff.1 hm1).1]
  · intro p hp
    rcases hmem p hp with rfl | hp
    · exact hs _ _ _ _ _ hv
    · exact hs _ _ _ _ _ (hr.rows p hp)
  · intro p hp p' hp' hne'
    have hkey : ∀ p2 ∈ L', v.ownBlock = none ∨ v.ownBlock ≠ p2.2.ownBlock := fun p2 hp2 => by
      rcases hb : v.ownBlock with _ | g
      · exact Or.inl rfl
      · refine Or.inr (fun e => ?_)
        have := hold p2 hp2 g e.symm
        have := hn g hb
        omega
    rcases hmem p hp with rfl | hp
    · rcases hmem p' hp' with rfl | hp'
      · exact absurd rfl hne'
      · exact hkey p' hp'
    · rcases hmem p' hp' with rfl | hp'
      · rcases hkey p hp with e | e
        · rcases hc : p.2.ownBlock with _ | g
          · exact Or.inl rfl
          · exact Or.inr (fun e' => by have e2 : some g = v.ownBlock := e'; rw [e] at e2; cases e2)
        · exact Or.inr (fun e' => e e'.symm)
      · exact h.apart p hp p' hp' hne'
  · intro p hp g hg
    rcases hmem p hp with rfl | hp
    · exact Nat.le_trans h.chg.size (hn g hg)
    · exact h.frow p hp g hg
theorem CpAt.done (h : CpAt w n cb r2 g2 lc L' wr) (hg : ∀ x, lk L' x = none → q n.l x = []) (hf : n.ms.length ≤ 64 ∧ 0 < n.ms.length) (hu : n.l.length ≤ 16384) : NetIs wr cb (fun g => w.heap.size ≤ g) n := by
  rcases h.mach.2 with ⟨e', _⟩ | ⟨g', cap, cur, e', hh, h1, h2, h3, h4⟩
  · cases e'
  · simp only [Value.slice.injEq, Option.some.injEq, Addr.mk.injEq, and_true, true_and] at e'
    obtain ⟨rfl, rfl⟩ := e'
    refine ⟨r2, ⟨g2, lc, cur.toList.drop (n.ms.length * 3)⟩, L', h.net, ?_, h.map, h.rows, hg, h.apart, hf, hu, h.ge.1, h.ge.2.2, h.ge.2.1, h.frow⟩
    rw [← h4, List.take_append_drop]
    exact hh
end

section
variable {w : World} {b r : Nat} {mb : MB} {L : List (Lnk × Value)} {F : Nat → Prop} {n : NetM}
theorem CpAt.first_a {w' : World} {g2 lc : Nat} (hcg : Chg (fun _ => False) (w.alloc (.map #[] 0)).drew w') (hsl : sl w' 69 3 (.slice (some ⟨g2, 0, none⟩) n.ms.length lc) n.ms.length (mcells n.ms)) (hg : (w.alloc (.map #[] 0)).drew.heap.size ≤ g2) :
    CpAt w n w'.heap.size w.heap.size g2 lc [] (w'.alloc (.cells #[.map (some w.heap.size), .slice (some ⟨g2, 0, none⟩) n.ms.length lc, .int .i64 n.l.length] 67)) := by
  have hc1 : Chg (fun _ => False) w w' := (((Chg.refl _ w).alloc (.map #[] 0)).drew).trans hcg
  have hm : mapAt lok lkv w' w.heap.size [] := (mapAt_made w).stay (hcg.block w.heap.size (by simp) (fun f => f))
  have hsz : w.heap.size ≤ g2 := Nat.le_trans (by simp) hg
  refine ⟨Go.heap_alloc_new _ _, hsl.stay (fun g hg => Below.heap_alloc _ _ _ (hsl.lt hg)), hm.stay (Below.heap_alloc _ _ _ hm.lt), by simp, by simp, by simp, ⟨hc1.size, Nat.le_refl _, hsz⟩, hc1.alloc _⟩
theorem CpAt.first_b {w' : World} {g2 lc : Nat} (hcg : Chg (fun _ => False) w.drew w') (hsl : sl w' 69 3 (.slice (some ⟨g2, 0, none⟩) n.ms.length lc) n.ms.length (mcells n.ms)) (hg : w.drew.heap.size ≤ g2) :
    CpAt w n (w'.heap.size + 1) w'.heap.size g2 lc [] ((w'.alloc (.map #[] 0)).alloc (.cells #[.map (some w'.heap.size), .slice (some ⟨g2, 0, none⟩) n.ms.length lc, .int .i64 n.l.length] 67)) := by
  have hc1 : Chg (fun _ => False) w w' := ((Chg.refl _ w).drew).trans hcg
  have hm : mapAt lok lkv (w'.alloc (.map #[] 0)) w'.heap.size [] := mapAt_made w'
  have hs2 : sl (w'.alloc (.map #[] 0)) 69 3 (.slice (some ⟨g2, 0, none⟩) n.ms.length lc) n.ms.length (mcells n.ms) := hsl.stay (fun g hg => Below.heap_alloc _ _ _ (hsl.lt hg))
  refine ⟨?_, hs2.stay (fun g hg => Below.heap_alloc _ _ _ (hs2.lt hg)), hm.stay (Below.heap_alloc _ _ _ hm.lt), by simp, by simp, by simp, ⟨Nat.le_trans hc1.size (Nat.le_succ _), hc1.size, hg⟩, (hc1.alloc _).alloc _⟩
  have := Go.heap_alloc_new (w'.alloc (.map #[] 0)) (.cells #[.map (some w'.heap.size), .slice (some ⟨g2, 0, none⟩) n.ms.length lc, .int .i64 n.l.length] 67)
  simpa using this
set_option maxRecDepth 100000 in
set_option maxHeartbeats 4000000 in
theorem ncopy_any (h : NetRep w b r mb L F n) :
    Calls Try.prog 22 #[.pointer (some ⟨b, 0, none⟩)] w fun e w' => ∃ c, e = .returned (.pointer (some ⟨c, 0, none⟩)) ∧ NetIs w' c (fun g => w.heap.size ≤ g) n ∧ Chg (fun _ => False) w w' := by
  have H := Lib.hid h
  have c0 : w.cell? ⟨b, 0, none⟩ = some (.map (some r)) := cell_of h.net rfl
  have c1 : w.cell? ⟨b, 1, none⟩ = some (.slice (some ⟨mb.b, 0, none⟩) n.ms.length mb.c) := cell_of h.net rfl
  have c2 : w.cell? ⟨b, 2, none⟩ = some (.int .i64 n.l.length) := cell_of h.net rfl
  have hnil := nil65 mb.b n.ms.length mb.c
  have hblt := h.lt.1
  have hms := h.few.1
  have HM := Lib.hid h.mach
  have HMl := Lib.hid (show (mcells n.ms).length = n.ms.length * 3 by rw [mcells_len]; omega)
  have H1 := Lib.hid (mcells_one n.ms)
  have hmk : ∀ v : World, (Instr.makeMap 64 none).run Try.prog v = .ok (.map (some v.heap.size)) (v.alloc (.map #[] 0)) := fun v => run_makeMap 64 v
  generalize hM : mb.b = M at *
  generalize hC : mb.c = C at *
  generalize hN : n.ms.length = N at *
  generalize hNl : n.l.length = NL at *
  have CL := Lib.hid (fun (v : World) (hv : v.heap[M]? = w.heap[M]?) => clone_machs' (w := v) (g := M) (m := N) (sc := C) (hv.trans HM.out) HMl.out (by omega) H1.out)
  clear h
  go_enter Try.func22, Try.ntmps22
  go_wp2_with fail
  go_region_held3 (fun v => v.cell? ⟨b, 1, none⟩ = some (.slice (some ⟨M, 0, none⟩) N C) ∧ v.cell? ⟨b, 2, none⟩ = some (.int .i64 NL)) (go_keep)
    ((go_at_call 42; refine (CL.out _ ?_).mono ?_; (first | rfl | exact Below.heap_alloc _ _ _ (Array.getElem?_eq_some_iff.1 HM.out).1); rintro e w' ⟨g2, lc, rfl, hsl, hnew, hcg⟩; have g1 : w'.cell? ⟨b, 1, none⟩ = some (.slice (some ⟨M, 0, none⟩) N C) := (World.cell?_of_block (a := ⟨b, 1, none⟩) (hcg.block b (by first | exact hblt | (simp; omega)) (fun f => f))).trans (by first | exact c1 | (refine (World.cell?_of_block (a := ⟨b, 1, none⟩) (Below.heap_alloc _ _ _ hblt)).trans c1)); have g3 : w'.cell? ⟨b, 2, none⟩ = some (.int .i64 NL) := (World.cell?_of_block (a := ⟨b, 2, none⟩) (hcg.block b (by first | exact hblt | (simp; omega)) (fun f => f))).trans (by first | exact c2 | (refine (World.cell?_of_block (a := ⟨b, 2, none⟩) (Below.heap_alloc _ _ _ hblt)).trans c2))))
  · have hcp : CpAt w n w'.heap.size w.heap.size g2 lc [] (w'.alloc (Obj.cells #[Value.map (some w.heap.size), Value.slice (some ⟨g2, 0, none⟩) N lc, Value.int IntKind.i64 ↑NL] 67)) := by subst hN hNl; exact CpAt.first_a hcg hsl hnew
    obtain ⟨W, HW⟩ : ∃ W, Hid ((w'.alloc (Obj.cells #[Value.map (some w.heap.size), Value.slice (some ⟨g2, 0, none⟩) N lc, Value.int IntKind.i64 ↑NL] 67)) = W) := ⟨_, Lib.hid rfl⟩
    rw [HW.out] at hcp ⊢
    obtain ⟨cb, HCB⟩ : ∃ c, Hid (w'.heap.size = c) := ⟨_, Lib.hid rfl⟩
    obtain ⟨r2, HR2⟩ : ∃ c, Hid (w.heap.size = c) := ⟨_, Lib.hid rfl⟩
    rw [HCB.out, HR2.out] at hcp ⊢
    have HP := Lib.hid hcp
    have hc0 : W.cell? ⟨b, 0, none⟩ = some (.map (some r)) := (World.cell?_of_block (a := ⟨b, 0, none⟩) (hcp.chg.block b hblt (fun f => f))).trans c0
    obtain ⟨it, hrg, hra⟩ := (H.out.stay hcp.chg (fun _ _ f => f)).map.range (P := Try.prog) Try.underlying64
    obtain ⟨I, hI⟩ : ∃ I, W.heap.size = I := ⟨_, rfl⟩
    rw [hI] at hrg hra
    have hIw : w.heap.size ≤ I := by rw [← hI]; exact hcp.chg.size
    have HP5 := Lib.hid (hcp.stay ((Chg.refl (fun _ => False) W).alloc it) (hcp.chg.alloc it) (fun _ f => f.elim))
    have HU := Lib.hid hra
    clear hra hcp hcg hsl hnew g1 g3 hnil CL HW HCB HR2 hmk c0 c1 c2 HP hI
    go_wp2
    go_loopw [] (fun wq => ∃ left L', Hid (CpAt w n cb r2 g2 lc L' wq) ∧ Hid (rangeAt lok lkv wq I r L left) ∧ Hid (∀ p ∈ L, p ∉ left → lk L' p.1 ≠ none)) (fun wq => wq.rangeLeft r I)
    case atStart => exact ⟨L, [], HP5, HU, Lib.hid (fun p hp h => absurd hp h)⟩
    case round =>
      obtain ⟨left, L', HQ, HU6, HD⟩ := hrel
      clear HP5 HU hrg hc0
      rcases HU6.out.next (P := Try.prog) with ⟨h0, hnx⟩ | ⟨a, p, bb2, w9, h0, hnx, hcg9, hsz, ho, hen⟩
      · subst h0
        have HF : Hid (NetIs wr cb (fun g => w.heap.size ≤ g) n) := Lib.hid (HQ.out.done (fun x hx => by
          cases hL : lk L x with
          | none => exact H.out.gone x hL
          | some v => exact absurd hx (HD.out (x, v) (lk_mem hL) (by simp))) H.out.few H.out.under)
        have HG := Lib.hid HQ.out.chg
        clear HU6 HQ
        go_wp2
        go_ret
        exact ⟨cb, rfl, HF.out, HG.out⟩
      · have hpm : p ∈ L := HU6.out.sub.subset (by rw [h0]; simp)
        have hen' := hen w9 rfl rfl
        have hpl := H.out.map
        obtain ⟨es0, ck0, hIi, hE0⟩ := hpl
        have hok := hE0.ok p hpm
        have hlen : (q n.l p.1).length ≤ 16384 := Nat.le_trans (by unfold q; rw [List.length_map]; exact List.length_filter_le _ _) H.out.under
        have H9 : Hid (CpAt w n cb r2 g2 lc L' w9) := Lib.hid (HQ.out.stay hcg9 (HQ.out.chg.trans' hcg9 (fun g e => Or.inr (by omega))) (fun g e => Or.inr (by obtain ⟨es, c, s, sn, c0, _, _, h3, _⟩ := HU6.out; subst e; exact ⟨_, _, _, _, h3⟩)))
        obtain ⟨so, sc, hsv, hzz⟩ := sl_shape (H.out.rows p hpm)
        obtain ⟨⟨px, py⟩, pv⟩ := p
        simp only at hsv
        subst hsv
        obtain ⟨m, hm⟩ : ∃ m, (q n.l (px, py)).length = m := ⟨_, rfl⟩
        simp only [hm] at hnx hen' hlen ⊢
        unfold lkv at hnx hen'
        simp only at hnx hen'
        have HO2 := Lib.hid ho
        have H0 := Lib.hid h0
        clear hcg9 hsz ho hen h0 hIi hE0
        obtain ⟨W6, HW6⟩ : ∃ W6, Hid (w9.alloc (.cells #[.int .i64 px, .int .i64 py] 72) = W6) := ⟨_, Lib.hid rfl⟩
        obtain ⟨kb, HKB⟩ : ∃ kb, Hid (w9.heap.size = kb) := ⟨_, Lib.hid rfl⟩
        have HC6 : Hid (Chg (fun _ => False) w9 W6) := by rw [← HW6.out]; exact Lib.hid ((Chg.refl _ _).alloc _)
        have H6 : Hid (CpAt w n cb r2 g2 lc L' W6) := Lib.hid (H9.out.stay HC6.out (H9.out.chg.trans HC6.out) (fun _ f => f.elim))
        have hkc : W6.heap[kb]? = some (.cells #[.int .i64 px, .int .i64 py] 72) := by rw [← HW6.out, ← HKB.out]; exact Go.heap_alloc_new _ _
        have k0 : W6.cell? ⟨kb, 0, none⟩ = some (.int .i64 px) := cell_of hkc rfl
        have k1 : W6.cell? ⟨kb, 1, none⟩ = some (.int .i64 py) := cell_of hkc rfl
        have n0 : W6.cell? ⟨cb, 0, none⟩ = some (.map (some r2)) := cell_of H6.out.net rfl
        have hcbl := (Array.getElem?_eq_some_iff.1 H6.out.net).1
        have hkbl := (Array.getElem?_eq_some_iff.1 hkc).1
        have HSL : Hid (sl W6 9 1 (.slice so m sc) m ((q n.l (px, py)).map .string)) := by
          have := (H.out.stay H6.out.chg (fun _ _ f => f)).rows _ hpm
          simp only [hm] at this
          exact Lib.hid this
        have CS := Lib.hid (clone_strs (w := W6.drew) (HSL.out.stay (fun g hg => rfl)) hlen (str_one _))
        have HPM := Lib.hid hpm
        have HOK := Lib.hid hok
        have HMM := Lib.hid hm
        have hcr2 : cb ≠ r2 := fun e => by obtain ⟨es, ck, h1, _⟩ := H6.out.map; have h2 := H6.out.net; rw [e, h1] at h2; cases h2
        have hkr2 : kb ≠ r2 := fun e => by obtain ⟨es, ck, h1, _⟩ := H6.out.map; rw [e, h1] at hkc; cases hkc
        clear hpm hok hm hkc
        go_wp2_with fail
        rw [HW6.out, HKB.out]
        go_region_held3 (fun v => v.cell? ⟨cb, 0, none⟩ = some (.map (some r2)) ∧ v.cell? ⟨kb, 0, none⟩ = some (.int .i64 px) ∧ v.cell? ⟨kb, 1, none⟩ = some (.int .i64 py)) (first | go_keep | (go_split_ands; refine ⟨?_, ?_, ?_⟩ <;> (rw [cell_setBlock (by assumption)]; first | assumption | go_keep)) | (go_split_ands; refine ⟨?_, ?_, ?_⟩ <;> assumption))
          ((go_at_call 43; refine CS.out.mono ?_; rintro e w5 ⟨lo5, lc5, rfl, hsl5, hnew5, hcg5, -⟩; have p0 := (World.cell?_of_block (a := ⟨cb, 0, none⟩) (hcg5.block cb hcbl (fun f => f))).trans n0; have p1 := (World.cell?_of_block (a := ⟨kb, 0, none⟩) (hcg5.block kb hkbl (fun f => f))).trans k0; have p2 := (World.cell?_of_block (a := ⟨kb, 1, none⟩) (hcg5.block kb hkbl (fun f => f))).trans k1; have hcg5' := ((Chg.refl (fun _ => False) W6).drew).trans hcg5; obtain ⟨es5, ck5, hup, hE5⟩ := run_update lkeys Try.underlying64 (H6.out.stay hcg5' (H6.out.chg.trans hcg5') (fun _ f => f.elim)).map HOK.out (.slice lo5 m lc5); unfold lkv at hup; simp only at hup))
        have HP7 := Lib.hid (H6.out.put hcg5' (x := (px, py)) (by rw [HMM.out]; exact hsl5) hnew5 hE5)
        have hrr : r ≠ r2 := fun e => by have := H.out.map.lt; have := H9.out.ge.2.1; omega
        have hir : I ≠ r2 := fun e => by
          obtain ⟨es, ck, h1, _⟩ := H9.out.map
          obtain ⟨es, c, s, sn, c0, _, _, h3, _⟩ := HO2.out
          rw [e, h1] at h3
          cases h3
        have hst : ∀ g, g ≠ r2 → g < w9.heap.size → (ChangeMaps.setBlock w5 r2 (Obj.map es5 ck5)).heap[g]? = w9.heap[g]? := fun g h1 h2 => (heap_setBlock_ne h1).trans ((hcg5'.block g (Nat.lt_of_lt_of_le h2 HC6.out.size) (fun f => f)).trans (HC6.out.block g h2 (fun f => f)))
        have HRA := Lib.hid (HO2.out.stay (hst r hrr HO2.out.lt.1) (hst I hir HO2.out.lt.2.1))
        have HD7 : Hid (∀ p ∈ L, p ∉ a ++ bb2 → lk (upd L' (px, py) (Value.slice lo5 m lc5)) p.1 ≠ none) := Lib.hid (fun p hp hn => by
          rw [lk_upd]
          by_cases e : p.1 = (px, py)
          · rw [if_pos e]; simp
          · rw [if_neg e]
            refine HD.out p hp (fun hl => hn ?_)
            rw [H0.out] at hl
            rcases List.mem_append.1 hl with hl | hl
            · exact List.mem_append_left _ hl
            · rcases List.mem_cons.1 hl with hl | hl
              · rw [hl] at e; exact absurd rfl e
              · exact List.mem_append_right _ hl)
        clear hst hup hE5 hsl5 hnew5 hcg5 hcg5' p0 p1 p2 CS k0 k1 n0 hnx hen'
        go_wp2
        go_round
        case rel => exact ⟨_, _, HP7, HRA, HD7⟩
        case measure => rw [HRA.out.left_eq, HU6.out.left_eq, H0.out]; simp
  · have hcp : CpAt w n (w'.heap.size + 1) w'.heap.size g2 lc [] ((w'.alloc (Obj.map #[] 0)).alloc (Obj.cells #[Value.map (some w'.heap.size), Value.slice (some ⟨g2, 0, none⟩) N lc, Value.int IntKind.i64 ↑NL] 67)) := by subst hN hNl; exact CpAt.first_b hcg hsl hnew
    obtain ⟨W, HW⟩ : ∃ W, Hid (((w'.alloc (Obj.map #[] 0)).alloc (Obj.cells #[Value.map (some w'.heap.size), Value.slice (some ⟨g2, 0, none⟩) N lc, Value.int IntKind.i64 ↑NL] 67)) = W) := ⟨_, Lib.hid rfl⟩
    rw [HW.out] at hcp ⊢
    obtain ⟨cb, HCB⟩ : ∃ c, Hid ((w'.heap.size + 1) = c) := ⟨_, Lib.hid rfl⟩
    obtain ⟨r2, HR2⟩ : ∃ c, Hid (w'.heap.size = c) := ⟨_, Lib.hid rfl⟩
    rw [HCB.out, HR2.out] at hcp ⊢
    have HP := Lib.hid hcp
    have hc0 : W.cell? ⟨b, 0, none⟩ = some (.map (some r)) := (World.cell?_of_block (a := ⟨b, 0, none⟩) (hcp.chg.block b hblt (fun f => f))).trans c0
    obtain ⟨it, hrg, hra⟩ := (H.out.stay hcp.chg (fun _ _ f => f)).map.range (P := Try.prog) Try.underlying64
    obtain ⟨I, hI⟩ : ∃ I, W.heap.size = I := ⟨_, rfl⟩
    rw [hI] at hrg hra
    have hIw : w.heap.size ≤ I := by rw [← hI]; exact hcp.chg.size
    have HP5 := Lib.hid (hcp.stay ((Chg.refl (fun _ => False) W).alloc it) (hcp.chg.alloc it) (fun _ f => f.elim))
    have HU := Lib.hid hra
    clear hra hcp hcg hsl hnew g1 g3 hnil CL HW HCB HR2 hmk c0 c1 c2 HP hI
    go_wp2
    go_loopw [] (fun wq => ∃ left L', Hid (CpAt w n cb r2 g2 lc L' wq) ∧ Hid (rangeAt lok lkv wq I r L left) ∧ Hid (∀ p ∈ L, p ∉ left → lk L' p.1 ≠ none)) (fun wq => wq.rangeLeft r I)
    case atStart => exact ⟨L, [], HP5, HU, Lib.hid (fun p hp h => absurd hp h)⟩
    case round =>
      obtain ⟨left, L', HQ, HU6, HD⟩ := hrel
      clear HP5 HU hrg hc0
      rcases HU6.out.next (P := Try.prog) with ⟨h0, hnx⟩ | ⟨a, p, bb2, w9, h0, hnx, hcg9, hsz, ho, hen⟩
      · subst h0
        have HF : Hid (NetIs wr cb (fun g => w.heap.size ≤ g) n) := Lib.hid (HQ.out.done (fun x hx => by
          cases hL : lk L x with
          | none => exact H.out.gone x hL
          | some v => exact absurd hx (HD.out (x, v) (lk_mem hL) (by simp))) H.out.few H.out.under)
        have HG := Lib.hid HQ.out.chg
        clear HU6 HQ
        go_wp2
        go_ret
        exact ⟨cb, rfl, HF.out, HG.out⟩
      · have hpm : p ∈ L := HU6.out.sub.subset (by rw [h0]; simp)
        have hen' := hen w9 rfl rfl
        have hpl := H.out.map
        obtain ⟨es0, ck0, hIi, hE0⟩ := hpl
        have hok := hE0.ok p hpm
        have hlen : (q n.l p.1).length ≤ 16384 := Nat.le_trans (by unfold q; rw [List.length_map]; exact List.length_filter_le _ _) H.out.under
        have H9 : Hid (CpAt w n cb r2 g2 lc L' w9) := Lib.hid (HQ.out.stay hcg9 (HQ.out.chg.trans' hcg9 (fun g e => Or.inr (by omega))) (fun g e => Or.inr (by obtain ⟨es, c, s, sn, c0, _, _, h3, _⟩ := HU6.out; subst e; exact ⟨_, _, _, _, h3⟩)))
        obtain ⟨so, sc, hsv, hzz⟩ := sl_shape (H.out.rows p hpm)
        obtain ⟨⟨px, py⟩, pv⟩ := p
        simp only at hsv
        subst hsv
        obtain ⟨m, hm⟩ : ∃ m, (q n.l (px, py)).length = m := ⟨_, rfl⟩
        simp only [hm] at hnx hen' hlen ⊢
        unfold lkv at hnx hen'
        simp only at hnx hen'
        have HO2 := Lib.hid ho
        have H0 := Lib.hid h0
        clear hcg9 hsz ho hen h0 hIi hE0
        obtain ⟨W6, HW6⟩ : ∃ W6, Hid (w9.alloc (.cells #[.int .i64 px, .int .i64 py] 72) = W6) := ⟨_, Lib.hid rfl⟩
        obtain ⟨kb, HKB⟩ : ∃ kb, Hid (w9.heap.size = kb) := ⟨_, Lib.hid rfl⟩
        have HC6 : Hid (Chg (fun _ => False) w9 W6) := by rw [← HW6.out]; exact Lib.hid ((Chg.refl _ _).alloc _)
        have H6 : Hid (CpAt w n cb r2 g2 lc L' W6) := Lib.hid (H9.out.stay HC6.out (H9.out.chg.trans HC6.out) (fun _ f => f.elim))
        have hkc : W6.heap[kb]? = some (.cells #[.int .i64 px, .int .i64 py] 72) := by rw [← HW6.out, ← HKB.out]; exact Go.heap_alloc_new _ _
        have k0 : W6.cell? ⟨kb, 0, none⟩ = some (.int .i64 px) := cell_of hkc rfl
        have k1 : W6.cell? ⟨kb, 1, none⟩ = some (.int .i64 py) := cell_of hkc rfl
        have n0 : W6.cell? ⟨cb, 0, none⟩ = some (.map (some r2)) := cell_of H6.out.net rfl
        have hcbl := (Array.getElem?_eq_some_iff.1 H6.out.net).1
        have hkbl := (Array.getElem?_eq_some_iff.1 hkc).1
        have HSL : Hid (sl W6 9 1 (.slice so m sc) m ((q n.l (px, py)).map .string)) := by
          have := (H.out.stay H6.out.chg (fun _ _ f => f)).rows _ hpm
          simp only [hm] at this
          exact Lib.hid this
        have CS := Lib.hid (clone_strs (w := W6.drew) (HSL.out.stay (fun g hg => rfl)) hlen (str_one _))
        have HPM := Lib.hid hpm
        have HOK := Lib.hid hok
        have HMM := Lib.hid hm
        have hcr2 : cb ≠ r2 := fun e => by obtain ⟨es, ck, h1, _⟩ := H6.out.map; have h2 := H6.out.net; rw [e, h1] at h2; cases h2
        have hkr2 : kb ≠ r2 := fun e => by obtain ⟨es, ck, h1, _⟩ := H6.out.map; rw [e, h1] at hkc; cases hkc
        clear hpm hok hm hkc
        go_wp2_with fail
        rw [HW6.out, HKB.out]
        go_region_held3 (fun v => v.cell? ⟨cb, 0, none⟩ = some (.map (some r2)) ∧ v.cell? ⟨kb, 0, none⟩ = some (.int .i64 px) ∧ v.cell? ⟨kb, 1, none⟩ = some (.int .i64 py)) (first | go_keep | (go_split_ands; refine ⟨?_, ?_, ?_⟩ <;> (rw [cell_setBlock (by assumption)]; first | assumption | go_keep)) | (go_split_ands; refine ⟨?_, ?_, ?_⟩ <;> assumption))
          ((go_at_call 43; refine CS.out.mono ?_; rintro e w5 ⟨lo5, lc5, rfl, hsl5, hnew5, hcg5, -⟩; have p0 := (World.cell?_of_block (a := ⟨cb, 0, none⟩) (hcg5.block cb hcbl (fun f => f))).trans n0; have p1 := (World.cell?_of_block (a := ⟨kb, 0, none⟩) (hcg5.block kb hkbl (fun f => f))).trans k0; have p2 := (World.cell?_of_block (a := ⟨kb, 1, none⟩) (hcg5.block kb hkbl (fun f => f))).trans k1; have hcg5' := ((Chg.refl (fun _ => False) W6).drew).trans hcg5; obtain ⟨es5, ck5, hup, hE5⟩ := run_update lkeys Try.underlying64 (H6.out.stay hcg5' (H6.out.chg.trans hcg5') (fun _ f => f.elim)).map HOK.out (.slice lo5 m lc5); unfold lkv at hup; simp only at hup))
        have HP7 := Lib.hid (H6.out.put hcg5' (x := (px, py)) (by rw [HMM.out]; exact hsl5) hnew5 hE5)
        have hrr : r ≠ r2 := fun e => by have := H.out.map.lt; have := H9.out.ge.2.1; omega
        have hir : I ≠ r2 := fun e => by
          obtain ⟨es, ck, h1, _⟩ := H9.out.map
          obtain ⟨es, c, s, sn, c0, _, _, h3, _⟩ := HO2.out
          rw [e, h1] at h3
          cases h3
        have hst : ∀ g, g ≠ r2 → g < w9.heap.size → (ChangeMaps.setBlock w5 r2 (Obj.map es5 ck5)).heap[g]? = w9.heap[g]? := fun g h1 h2 => (heap_setBlock_ne h1).trans ((hcg5'.block g (Nat.lt_of_lt_of_le h2 HC6.out.size) (fun f => f)).trans (HC6.out.block g h2 (fun f => f)))
        have HRA := Lib.hid (HO2.out.stay (hst r hrr HO2.out.lt.1) (hst I hir HO2.out.lt.2.1))
        have HD7 : Hid (∀ p ∈ L, p ∉ a ++ bb2 → lk (upd L' (px, py) (Value.slice lo5 m lc5)) p.1 ≠ none) := Lib.hid (fun p hp hn => by
          rw [lk_upd]
          by_cases e : p.1 = (px, py)
          · rw [if_pos e]; simp
          · rw [if_neg e]
            refine HD.out p hp (fun hl => hn ?_)
            rw [H0.out] at hl
            rcases List.mem_append.1 hl with hl | hl
            · exact List.mem_append_left _ hl
            · rcases List.mem_cons.1 hl with hl | hl
              · rw [hl] at e; exact absurd rfl e
              · exact List.mem_append_right _ hl)
        clear hst hup hE5 hsl5 hnew5 hcg5 hcg5' p0 p1 p2 CS k0 k1 n0 hnx hen'
        go_wp2
        go_round
        case rel => exact ⟨_, _, HP7, HRA, HD7⟩
        case measure => rw [HRA.out.left_eq, HU6.out.left_eq, H0.out]; simp
end
end Go.Proofs.Ytpgioccbnkcjcaa
