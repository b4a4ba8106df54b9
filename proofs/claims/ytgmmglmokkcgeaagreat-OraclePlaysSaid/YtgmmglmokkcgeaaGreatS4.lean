/- Walks: the oracle's Copy. -/
import Derived.Test.YtgmmglmokkcgeaaGreatS2
import Derived.Test.YtgmmglmokkcgeaaGreatAd
import Derived.Deep.RegionHeld3
import Derived.Deep.Cut
import Derived.Deep.RegionWith
import Derived.Deep.CutRange
namespace Go.Proofs.YtgmmglmokkcgeaaGreat
set_option linter.unusedVariables false
set_option linter.unusedSimpArgs false
set_option linter.unusedSectionVars false
open Go.RowKit Mk Go.Sort

theorem mstay {K : Type} [DecidableEq K] {ok : K → Prop} {kv : K → Value} {w u : World} {k : Nat} {L : List (K × Value)} (h : mapAt ok kv w k L) (c : Chg (fun _ => False) w u) : mapAt ok kv u k L := h.stay (c.block _ h.lt (fun f => f))
theorem chg_cb {w u : World} {cb i : Nat} {v : Value} (c : Chg (fun g => g = cb) w u) : Chg (fun g => g = cb) w (u.setCell ⟨cb, i, none⟩ v) := c.setCell (a := ⟨cb, i, none⟩) (Or.inl rfl) v
theorem chg_none {w u : World} {F : Nat → Prop} (c : Chg (fun _ => False) w u) : Chg F w u := c.mono (fun _ f => f.elim)
theorem OrRep.limbs {w u : World} {b cb : Nat} {R : Loc} {F : Nat → Prop} {n : OM} (h : OrRep w b R F n) (hne : b ≠ cb) (c : Chg (fun g => g = cb) w u) : u.cell? ⟨b, 4, none⟩ = some (.map (some R.d)) ∧ u.cell? ⟨b, 5, none⟩ = some (.map (some R.l)) ∧ u.cell? ⟨b, 6, none⟩ = some (.map (some R.t)) :=
  ⟨(World.cell?_of_block (a := ⟨b, 4, none⟩) (c.block b h.lt hne)).trans h.c4, (World.cell?_of_block (a := ⟨b, 5, none⟩) (c.block b h.lt hne)).trans h.c5, (World.cell?_of_block (a := ⟨b, 6, none⟩) (c.block b h.lt hne)).trans h.c6⟩
theorem cellk {u : World} {b cb i j : Nat} {v : Value} (h : b ≠ cb) : (u.setCell ⟨cb, i, none⟩ v).cell? ⟨b, j, none⟩ = u.cell? ⟨b, j, none⟩ := World.cell?_of_block (a := ⟨b, j, none⟩) (Below.heap_setCell _ _ _ _ h)
theorem drew_size (w : World) : w.drew.heap.size = w.heap.size := rfl
/-- The copy's box, its maps set: no commits yet. -/
theorem copy_box {w u : World} {cb kd kl kt kc : Nat} {n : OM} {R : Loc} (hb : u.heap[cb]? = some (.cells (stC n R) 36)) (md : mapAt okU kvU u kd (nv n.dec)) (ml : mapAt okS kvS u kl (nv n.las)) (mt : mapAt okS kvS u kt (tv n.tab)) (mc : mapAt okS kvS u kc [])
    (hn : w.heap.size ≤ cb ∧ w.heap.size ≤ kd ∧ w.heap.size ≤ kl ∧ w.heap.size ≤ kt ∧ w.heap.size ≤ kc) (hne : kd ≠ kl ∧ kd ≠ kt ∧ kd ≠ kc ∧ kl ≠ kt ∧ kl ≠ kc ∧ kt ≠ kc) :
    OrRep ((((u.setCell ⟨cb, 4, none⟩ (.map (some kd))).setCell ⟨cb, 5, none⟩ (.map (some kl))).setCell ⟨cb, 6, none⟩ (.map (some kt))).setCell ⟨cb, 7, none⟩ (.map (some kc))) cb ⟨kd, kl, kt, kc, []⟩ (fun g => w.heap.size ≤ g) { n with com := fun _ => [] } := by
  have hk : ∀ g, g ≠ cb → ((((u.setCell ⟨cb, 4, none⟩ (.map (some kd))).setCell ⟨cb, 5, none⟩ (.map (some kl))).setCell ⟨cb, 6, none⟩ (.map (some kt))).setCell ⟨cb, 7, none⟩ (.map (some kc))).heap[g]? = u.heap[g]? := fun g hg => by
    have e : ∀ (u : World) (i : Nat) (v : Value), (u.setCell ⟨cb, i, none⟩ v).heap[g]? = u.heap[g]? := fun u i v => Below.heap_setCell _ _ _ _ hg
    rw [e, e, e, e]
  have hm : ∀ {es : Array MapEntry} {c k : Nat}, u.heap[k]? = some (.map es c) → k ≠ cb := fun h e => by rw [e, hb] at h; cases h
  have nd : kd ≠ cb := by obtain ⟨_, _, h, _⟩ := md; exact hm h
  have nl : kl ≠ cb := by obtain ⟨_, _, h, _⟩ := ml; exact hm h
  have nt : kt ≠ cb := by obtain ⟨_, _, h, _⟩ := mt; exact hm h
  have nc : kc ≠ cb := by obtain ⟨_, _, h, _⟩ := mc; exact hm h
  exact ⟨Mk.heap_setCell_same (i := 7) (Mk.heap_setCell_same (i := 6) (Mk.heap_setCell_same (i := 5) (Mk.heap_setCell_same (i := 4) hb _) _) _) _, md.stay (hk _ nd), ml.stay (hk _ nl), mt.stay (hk _ nt), mc.stay (hk _ nc), by simp, fun _ _ => rfl, by simp, by simp, hne, hn.1, hn.2.1, hn.2.2.1, hn.2.2.2.1, hn.2.2.2.2, by simp⟩
theorem set4_chg {w u : World} {cb : Nat} {v0 v1 v2 v3 : Value} (c : Chg (fun _ => False) w u) (h : w.heap.size ≤ cb) : Chg (fun _ => False) w ((((u.setCell ⟨cb, 4, none⟩ v0).setCell ⟨cb, 5, none⟩ v1).setCell ⟨cb, 6, none⟩ v2).setCell ⟨cb, 7, none⟩ v3) :=
  (((c.setCell (a := ⟨cb, 4, none⟩) (Or.inr h) _).setCell (a := ⟨cb, 5, none⟩) (Or.inr h) _).setCell (a := ⟨cb, 6, none⟩) (Or.inr h) _).setCell (a := ⟨cb, 7, none⟩) (Or.inr h) _
/-- The copy at the region's end, its maps set. -/
theorem copy_fin {w W1 u : World} {cb kd kl kt kc : Nat} {n : OM} {R : Loc} (hc1 : Chg (fun _ => False) w W1) (hcb : w.heap.size = cb) (hb : W1.heap[cb]? = some (.cells (stC n R) 36)) (c : Chg (fun _ => False) W1 u)
    (md : mapAt okU kvU u kd (nv n.dec)) (ml : mapAt okS kvS u kl (nv n.las)) (mt : mapAt okS kvS u kt (tv n.tab)) (mc : mapAt okS kvS u kc [])
    (hn : w.heap.size ≤ kd ∧ w.heap.size ≤ kl ∧ w.heap.size ≤ kt ∧ w.heap.size ≤ kc) (hne : kd ≠ kl ∧ kd ≠ kt ∧ kd ≠ kc ∧ kl ≠ kt ∧ kl ≠ kc ∧ kt ≠ kc) :
    Hid (Chg (fun _ => False) w ((((u.setCell ⟨cb, 4, none⟩ (.map (some kd))).setCell ⟨cb, 5, none⟩ (.map (some kl))).setCell ⟨cb, 6, none⟩ (.map (some kt))).setCell ⟨cb, 7, none⟩ (.map (some kc)))) ∧
    Hid (∃ R2 : Loc, R2.rows = [] ∧ OrRep ((((u.setCell ⟨cb, 4, none⟩ (.map (some kd))).setCell ⟨cb, 5, none⟩ (.map (some kl))).setCell ⟨cb, 6, none⟩ (.map (some kt))).setCell ⟨cb, 7, none⟩ (.map (some kc))) cb R2 (fun g => w.heap.size ≤ g) { n with com := fun _ => [] }) :=
  ⟨Lib.hid (set4_chg (hc1.trans c) (by omega)), Lib.hid ⟨⟨kd, kl, kt, kc, []⟩, rfl, copy_box ((c.block cb (Array.getElem?_eq_some_iff.1 hb).1 (fun f => f)).trans hb) md ml mt mc ⟨by omega, hn⟩ hne⟩⟩
theorem alloc_set4 {u : World} {cb : Nat} {v0 v1 v2 v3 : Value} {o : Obj} (h : cb < u.heap.size) : ((((u.setCell ⟨cb, 4, none⟩ v0).setCell ⟨cb, 5, none⟩ v1).setCell ⟨cb, 6, none⟩ v2).setCell ⟨cb, 7, none⟩ v3).alloc o = ((((u.alloc o).setCell ⟨cb, 4, none⟩ v0).setCell ⟨cb, 5, none⟩ v1).setCell ⟨cb, 6, none⟩ v2).setCell ⟨cb, 7, none⟩ v3 := by
  have e : ∀ (u : World) (i : Nat) (v : Value), (u.setCell ⟨cb, i, none⟩ v).heap.size = u.heap.size := fun u i v => by simp [World.setCell]
  rw [World.setCell_alloc_past _ _ _ _ h, World.setCell_alloc_past _ _ _ _ (by rw [e]; exact h), World.setCell_alloc_past _ _ _ _ (by rw [e, e]; exact h), World.setCell_alloc_past _ _ _ _ (by rw [e, e, e]; exact h)]
/-- What the copy is, some commits laid. -/
structure CpAt (w : World) (R : Loc) (n : OM) (cb it : Nat) (left : List (ByteArray × Value)) (wr : World) : Prop where
  over : rangeAt okS kvS wr it R.c R.rows left
  li : w.heap.size ≤ it
  new : ∃ (R2 : Loc) (F2 : Nat → Prop), OrRep wr cb R2 F2 { n with com := fun x => if (lk R2.rows x).isSome = true then n.com x else [] } ∧ (∀ g, F2 g → w.heap.size ≤ g ∧ g ≠ it) ∧ (∀ p ∈ left, lk R2.rows p.1 = none) ∧ ∀ p ∈ R.rows, p ∈ left ∨ (lk R2.rows p.1).isSome = true
  chg : Chg (fun _ => False) w wr
theorem CpAt.done {w wr : World} {b : Nat} {F : Nat → Prop} {R : Loc} {n : OM} {cb it : Nat} {left : List (ByteArray × Value)} (h : CpAt w R n cb it left wr) (h0 : OrRep w b R F n) (hl : left = []) : OrIs wr cb (fun g => w.heap.size ≤ g) n := by
  obtain ⟨R2, F2, hr2, hf2, hl2, hcv⟩ := h.new
  have e : ({ n with com := fun x => if (lk R2.rows x).isSome = true then n.com x else [] } : OM) = n := by
    have : (fun x => if (lk R2.rows x).isSome = true then n.com x else []) = n.com := by
      funext x
      by_cases hx : (lk R2.rows x).isSome = true
      · rw [if_pos hx]
      · rw [if_neg hx]
        refine (h0.gone x ?_).symm
        cases hk : lk R.rows x with
        | none => rfl
        | some v =>
          rcases hcv _ (lk_mem hk) with hm | hm
          · rw [hl] at hm; cases hm
          · exact absurd hm hx
    rw [this]
  rw [e] at hr2
  exact ⟨R2, hr2.wide (fun g hg => (hf2 g hg).1)⟩
theorem CpAt.put {w wr w1 w3 : World} {b : Nat} {F : Nat → Prop} {R : Loc} {n : OM} {cb it : Nat} {left a bb : List (ByteArray × Value)} {x : ByteArray} {v v' : Value} (h : CpAt w R n cb it left wr) (hl : left = a ++ (x, v) :: bb) {R2 : Loc} {F2 : Nat → Prop}
    (hr2 : OrRep wr cb R2 F2 { n with com := fun x => if (lk R2.rows x).isSome = true then n.com x else [] }) (hf2 : ∀ g, F2 g → w.heap.size ≤ g ∧ g ≠ it) (hl2 : ∀ p ∈ left, lk R2.rows p.1 = none) (hcv : ∀ p ∈ R.rows, p ∈ left ∨ (lk R2.rows p.1).isSome = true)
    (c1 : Chg (fun i => i = it) wr w1) (hsz : w1.heap.size = wr.heap.size) (ho : rangeAt okS kvS w1 it R.c R.rows (a ++ bb)) (h0 : OrRep w b R F n) (hx : okS x) (c2 : Chg (fun _ => False) w1 w3) (hv : sl w3 24 1 v' (n.com x).length (timesV (n.com x))) (hn : ∀ g, v'.ownBlock = some g → w1.heap.size ≤ g) :
    ∃ es ck, (Instr.mapUpdate 34 (.map (some R2.c)) (kvS x) v').run Tryz.prog w3 = .ok () (ChangeMaps.setBlock w3 R2.c (.map es ck)) ∧ CpAt w R n cb it (a ++ bb) (ChangeMaps.setBlock w3 R2.c (.map es ck)) := by
  have hr1 := hr2.stay c1 (fun g hg e => (hf2 g hg).2 e)
  obtain ⟨es, ck, hu, hE⟩ := run_update keysS Tryz.underlying34 (hr1.same c2).com hx v'
  refine ⟨es, ck, hu, ?_⟩
  have hP := hr1.putRow (x := x) (L := n.com x) (w' := w3) (c2.mono (fun _ f => f.elim)) hv (fun g hg => Or.inr (hn g hg)) hE (h0.full (x, v) (h.over.sub.subset (by rw [hl]; simp)))
  have hc2 := hf2 _ hr2.fc
  have hap := h.over.map.apart
  have hsub := h.over.sub
  have hitl := ho.lt
  have ne1 : R.c ≠ R2.c := fun e => by have := h0.com.lt; omega
  have hcx : (x, v) ∈ left := by rw [hl]; simp
  refine ⟨ho.stay ?_ ?_, h.li, ⟨{ R2 with rows := upd R2.rows x v' }, (fun g => F2 g ∨ w1.heap.size ≤ g), ?_, ?_, ?_, ?_⟩, ?_⟩
  · rw [heap_setBlock_ne ne1]; exact c2.block _ hitl.1 (fun f => f)
  · rw [heap_setBlock_ne (fun e => hc2.2 e.symm)]; exact c2.block _ hitl.2.1 (fun f => f)
  · have e : (fun y => if (lk (upd R2.rows x v') y).isSome = true then n.com y else []) = (fun p => if p = x then n.com x else (if (lk R2.rows p).isSome = true then n.com p else [])) := by
      funext y
      rw [lk_upd]
      by_cases e : y = x
      · rw [if_pos e, if_pos e, e]; rfl
      · rw [if_neg e, if_neg e]
    show OrRep _ cb { R2 with rows := upd R2.rows x v' } _ { n with com := fun y => if (lk (upd R2.rows x v') y).isSome = true then n.com y else [] }
    rw [e]
    exact hP
  · rintro g (hg | hg)
    · exact hf2 g hg
    · have := h.chg.size
      refine ⟨by omega, fun e => ?_⟩
      have := h.over.lt.2.1
      omega
  · intro p hp
    show lk (upd R2.rows x v') p.1 = none
    have hpl : p ∈ left := by rw [hl]; rcases List.mem_append.1 hp with hp | hp; exact List.mem_append_left _ hp; exact List.mem_append_right _ (List.mem_cons_of_mem _ hp)
    have hne : p.1 ≠ x := by
      have h1 : (a ++ (x, v) :: bb).Pairwise (fun p q => p.1 ≠ q.1) := by rw [← hl]; exact hap.sublist hsub
      have h2 := (List.pairwise_append.1 h1)
      rcases List.mem_append.1 hp with hp | hp
      · exact h2.2.2 p hp (x, v) (List.mem_cons_self ..)
      · exact ((List.pairwise_cons.1 h2.2.1).1 p hp).symm
    rw [lk_upd_other _ _ hne]
    exact hl2 p hpl
  · intro p hp
    show p ∈ a ++ bb ∨ (lk (upd R2.rows x v') p.1).isSome = true
    rcases hcv p hp with hm | hm
    · rw [hl] at hm
      rcases List.mem_append.1 hm with hm | hm
      · exact Or.inl (List.mem_append_left _ hm)
      · rcases List.mem_cons.1 hm with rfl | hm
        · exact Or.inr (by rw [lk_upd_same]; rfl)
        · exact Or.inl (List.mem_append_right _ hm)
    · refine Or.inr ?_
      rw [lk_upd]
      split
      · rfl
      · exact hm
  · exact ((h.chg.trans' c1 (fun i hi => Or.inr (by rw [hi]; exact h.li))).trans c2).setBlock (Or.inr hc2.1) _
section
variable {w w' : World} {b : Nat} {R : Loc} {F G : Nat → Prop} {n : OM}
theorem OrRep.m33 (h : OrRep w b R F n) : ∀ (u : World) (c : Chg (fun _ => False) w u), Calls Tryz.prog 33 #[.map (some R.d)] u fun e w' => ∃ k, e = .returned (.map (some k)) ∧ mapAt okU kvU w' k (nv n.dec) ∧ Chg (fun _ => False) u w' ∧ u.heap.size ≤ k := fun u c =>
  (cloneD (h.same c).dec).mono fun e w' ⟨a, b, c, d⟩ => ⟨_, a, b, c, Nat.le_refl _⟩
theorem OrRep.m34 (h : OrRep w b R F n) : ∀ (u : World) (c : Chg (fun _ => False) w u), Calls Tryz.prog 34 #[.map (some R.l)] u fun e w' => ∃ k, e = .returned (.map (some k)) ∧ mapAt okS kvS w' k (nv n.las) ∧ Chg (fun _ => False) u w' ∧ u.heap.size ≤ k := fun u c =>
  (cloneL (h.same c).las).mono fun e w' ⟨a, b, c, d⟩ => ⟨_, a, b, c, Nat.le_refl _⟩
theorem OrRep.m35 (h : OrRep w b R F n) : ∀ (u : World) (c : Chg (fun _ => False) w u), Calls Tryz.prog 35 #[.map (some R.t)] u fun e w' => ∃ k, e = .returned (.map (some k)) ∧ mapAt okS kvS w' k (tv n.tab) ∧ Chg (fun _ => False) u w' ∧ u.heap.size ≤ k := fun u c =>
  (cloneT (h.same c).tab).mono fun e w' ⟨a, b, c, d⟩ => ⟨_, a, b, c, Nat.le_refl _⟩
end
end Go.Proofs.YtgmmglmokkcgeaaGreat
/- Walks: the oracle's Copy: the walk. -/
namespace Go.Proofs.YtgmmglmokkcgeaaGreat
set_option linter.unusedVariables false
set_option linter.unusedSimpArgs false
set_option linter.unusedSectionVars false
open Go.RowKit Mk Go.Sort

section
variable {w w' : World} {b : Nat} {R : Loc} {F G : Nat → Prop} {n : OM}
set_option maxRecDepth 100000 in
set_option maxHeartbeats 8000000 in
theorem copy_any (h : OrRep w b R F n) (hlen : ∀ x, (n.com x).length ≤ 1099511627776) :
    Calls Tryz.prog 15 #[.pointer (some ⟨b, 0, none⟩)] w fun e w' => ∃ cb, e = .returned (.pointer (some ⟨cb, 0, none⟩)) ∧ OrIs w' cb (fun g => w.heap.size ≤ g) n ∧ Chg (fun _ => False) w w' := by
  have NN := Lib.hid (none_any h)
  have c0 := h.c0
  have c1 := h.c1
  have c2 := h.c2
  have c3 := h.c3
  have c4 := h.c4
  have c5 := h.c5
  have c6 := h.c6
  have c7 := h.c7
  obtain ⟨W1, HW1⟩ : ∃ W, Hid (w.alloc (.cells (stC n R) 36) = W) := ⟨_, Lib.hid rfl⟩
  obtain ⟨cb, HCB⟩ : ∃ k, Hid (w.heap.size = k) := ⟨_, Lib.hid rfl⟩
  have HC1 := Lib.hid (show Chg (fun _ => False) w W1 by rw [← HW1.out]; exact (Chg.refl _ _).alloc _)
  have HCBX := Lib.hid (show W1.heap[cb]? = some (.cells (stC n R) 36) by rw [← HW1.out, ← HCB.out]; exact Go.heap_alloc_new _ _)
  have HH1 := Lib.hid (h.same HC1.out)
  have HS1 := Lib.hid (show W1.heap.size = cb + 1 by rw [← HW1.out, ← HCB.out]; simp)
  have h0 := Lib.hid h
  have h0len := Lib.hid hlen
  have HBC := Lib.hid (show b ≠ cb from fun e => by have := h.lt; have := HCB.out; omega)
  have M33 := Lib.hid HH1.out.m33
  have M34 := Lib.hid HH1.out.m34
  have M35 := Lib.hid HH1.out.m35
  have hmm : ∀ v : World, (Instr.makeMap 34 none).run Tryz.prog v = .ok (.map (some v.heap.size)) (v.alloc (.map #[] 0)) := fun v => run_makeMap 34 v
  clear h hlen
  go_enter Tryz.func15, Tryz.ntmps15
  go_wp2_with fail
  refine NN.out.mono ?_
  rintro e w1 ⟨rfl, hw⟩
  obtain rfl : w = w1 := hw.symm
  go_upto_region 4 with fail
  rw [HW1.out, HCB.out]
  clear c0 c1 c2 c3 c4 c5 c6 c7
  have d4 := HH1.out.c4
  have d5 := HH1.out.c5
  have d6 := HH1.out.c6
  have HC := Lib.hid (show Chg (fun _ => False) W1 W1.drew from (Chg.refl _ _).drew)
  go_cut [] from 11 to 30 (fun wx => Hid (Chg (fun _ => False) w wx) ∧ Hid (∃ R2 : Loc, R2.rows = [] ∧ OrRep wx cb R2 (fun g => w.heap.size ≤ g) { n with com := fun _ => [] }))
  case first => as_aux_lemma =>
    go_region_held3 (fun v => v.cell? ⟨b, 4, none⟩ = some (.map (some R.d)) ∧ v.cell? ⟨b, 5, none⟩ = some (.map (some R.l)) ∧ v.cell? ⟨b, 6, none⟩ = some (.map (some R.t)))
      (first | go_keep | (refine HH1.out.limbs HBC.out ?_; repeat (first | (with_reducible exact chg_none HC.out) | (with_reducible refine chg_cb ?_) | (with_reducible refine Chg.alloc ?_ _) | (with_reducible refine Chg.drew ?_))))
      (first
        | (go_at_call 33; refine (M33.out _ (by first | exact HC.out | exact HC.out.alloc _)).mono ?_; rintro e w33 ⟨kd, rfl, md, cd, sd⟩; have HC0 := HC; clear HC; have HC := Lib.hid ((show Chg (fun _ => False) W1 _ by first | exact HC0.out | exact HC0.out.alloc _).trans cd); have MD := Lib.hid md; have CD := Lib.hid cd; have SD := Lib.hid sd; clear md cd sd; have r4 := (HH1.out.same HC.out).c4; have r5 := (HH1.out.same HC.out).c5; have r6 := (HH1.out.same HC.out).c6; have bx := (HC.out.block cb (by rw [HS1.out]; omega) (fun f => f)).trans HCBX.out; have bl := (Array.getElem?_eq_some_iff.1 bx).1; have b4 := cell_of (i := 4) (v := .map (some R.d)) bx rfl; have b5 := cell_of (i := 5) (v := .map (some R.l)) bx rfl; have b6 := cell_of (i := 6) (v := .map (some R.t)) bx rfl; have b7 := cell_of (i := 7) (v := .map (some R.c)) bx rfl; have bf4 := frozen_of (i := 4) bx; have bf5 := frozen_of (i := 5) bx; have bf6 := frozen_of (i := 6) bx; have bf7 := frozen_of (i := 7) bx; clear bx)
        | (go_at_call 34; refine (M34.out _ (by first | exact HC.out | exact HC.out.alloc _)).mono ?_; rintro e w34 ⟨kl, rfl, md, cd, sd⟩; have HC0 := HC; clear HC; have HC := Lib.hid ((show Chg (fun _ => False) W1 _ by first | exact HC0.out | exact HC0.out.alloc _).trans cd); have ML := Lib.hid md; have CL := Lib.hid cd; have SL := Lib.hid sd; clear md cd sd; have r4 := (HH1.out.same HC.out).c4; have r5 := (HH1.out.same HC.out).c5; have r6 := (HH1.out.same HC.out).c6; have bx := (HC.out.block cb (by rw [HS1.out]; omega) (fun f => f)).trans HCBX.out; have bl := (Array.getElem?_eq_some_iff.1 bx).1; have b4 := cell_of (i := 4) (v := .map (some R.d)) bx rfl; have b5 := cell_of (i := 5) (v := .map (some R.l)) bx rfl; have b6 := cell_of (i := 6) (v := .map (some R.t)) bx rfl; have b7 := cell_of (i := 7) (v := .map (some R.c)) bx rfl; have bf4 := frozen_of (i := 4) bx; have bf5 := frozen_of (i := 5) bx; have bf6 := frozen_of (i := 6) bx; have bf7 := frozen_of (i := 7) bx; clear bx)
        | (go_at_call 35; refine (M35.out _ (by first | exact HC.out | exact HC.out.alloc _)).mono ?_; rintro e w35 ⟨kt, rfl, md, cd, sd⟩; have HC0 := HC; clear HC; have HC := Lib.hid ((show Chg (fun _ => False) W1 _ by first | exact HC0.out | exact HC0.out.alloc _).trans cd); have MT := Lib.hid md; have CT := Lib.hid cd; have ST := Lib.hid sd; clear md cd sd; have r4 := (HH1.out.same HC.out).c4; have r5 := (HH1.out.same HC.out).c5; have r6 := (HH1.out.same HC.out).c6; have bx := (HC.out.block cb (by rw [HS1.out]; omega) (fun f => f)).trans HCBX.out; have bl := (Array.getElem?_eq_some_iff.1 bx).1; have b4 := cell_of (i := 4) (v := .map (some R.d)) bx rfl; have b5 := cell_of (i := 5) (v := .map (some R.l)) bx rfl; have b6 := cell_of (i := 6) (v := .map (some R.t)) bx rfl; have b7 := cell_of (i := 7) (v := .map (some R.c)) bx rfl; have bf4 := frozen_of (i := 4) bx; have bf5 := frozen_of (i := 5) bx; have bf6 := frozen_of (i := 6) bx; have bf7 := frozen_of (i := 7) bx; clear bx))
    all_goals
      go_wp2_with fail
      go_meet
      case rel =>
        have a1 := SD.out
        have a2 := MD.out.lt
        have a3 := CD.out.size
        have a4 := SL.out
        have a5 := ML.out.lt
        have a6 := CL.out.size
        have a7 := ST.out
        have a8 := MT.out.lt
        have a9 := CT.out.size
        have a10 := HS1.out
        have a11 := HCB.out
        simp only [World.size_alloc, drew_size] at a1 a2 a3 a4 a5 a6 a7 a8 a9
        first
          | refine copy_fin HC1.out HCB.out HCBX.out ?ch ?md ?ml ?mt ?mc ?hn ?hne
          | (rw [alloc_set4 bl]; refine copy_fin HC1.out HCB.out HCBX.out ?ch ?md ?ml ?mt ?mc ?hn ?hne)
        case ch => first | exact HC.out | exact HC.out.alloc _
        case hn => (try simp only [World.size_alloc, drew_size]); omega
        case hne => (try simp only [World.size_alloc, drew_size]); omega
        case md => refine mstay MD.out ?_; repeat (first | (with_reducible exact Chg.refl _ _) | (with_reducible refine Chg.alloc ?_ _) | (with_reducible refine Chg.drew ?_) | (with_reducible refine Chg.trans ?_ CD.out) | (with_reducible refine Chg.trans ?_ CL.out) | (with_reducible refine Chg.trans ?_ CT.out))
        case ml => refine mstay ML.out ?_; repeat (first | (with_reducible exact Chg.refl _ _) | (with_reducible refine Chg.alloc ?_ _) | (with_reducible refine Chg.drew ?_) | (with_reducible refine Chg.trans ?_ CD.out) | (with_reducible refine Chg.trans ?_ CL.out) | (with_reducible refine Chg.trans ?_ CT.out))
        case mt => refine mstay MT.out ?_; repeat (first | (with_reducible exact Chg.refl _ _) | (with_reducible refine Chg.alloc ?_ _) | (with_reducible refine Chg.drew ?_) | (with_reducible refine Chg.trans ?_ CD.out) | (with_reducible refine Chg.trans ?_ CL.out) | (with_reducible refine Chg.trans ?_ CT.out))
        case mc => refine mstay (mapAt_made _) ?_; repeat (first | (with_reducible exact Chg.refl _ _) | (with_reducible refine Chg.alloc ?_ _) | (with_reducible refine Chg.drew ?_) | (with_reducible refine Chg.trans ?_ CD.out) | (with_reducible refine Chg.trans ?_ CL.out) | (with_reducible refine Chg.trans ?_ CT.out))
  case rest =>
    obtain ⟨K1, K2⟩ := hcut
    generalize wc = W5 at *
    obtain ⟨R2, hr0, hR2⟩ := K2.out
    have hs5 := h0.out.same K1.out
    obtain ⟨it, hrg, hov⟩ := hs5.com.range (P := Tryz.prog) Tryz.underlying34
    have HU0 := Lib.hid (show CpAt w R n cb W5.heap.size R.rows (W5.alloc it) from ⟨hov, K1.out.size, ⟨R2, (fun g => w.heap.size ≤ g ∧ g < W5.heap.size), by
      have e : ({ n with com := fun x => if (lk R2.rows x).isSome = true then n.com x else [] } : OM) = { n with com := fun _ => [] } := by rw [hr0]; rfl
      rw [e]
      exact (hR2.tight).same ((Chg.refl _ W5).alloc _), fun g hg => ⟨hg.1, by have := hg.2; omega⟩, fun p hp => by rw [hr0]; rfl, fun p hp => Or.inl hp⟩, K1.out.alloc _⟩)
    have d7 := hs5.c7
    have HITL := Lib.hid (show W5.heap.size = W5.heap.size from rfl)
    obtain ⟨ir, HIR⟩ : ∃ k, Hid (W5.heap.size = k) := ⟨_, Lib.hid rfl⟩
    rw [HIR.out] at HU0 hrg
    clear hov hs5 hR2 hr0 K2 d4 d5 d6 HC HITL
    go_wp2_with fail
    go_loopw [] (fun wr => ∃ left : List (ByteArray × Value), Hid (CpAt w R n cb ir left wr)) (fun wr => wr.rangeLeft R.c ir)
    case atStart => exact ⟨R.rows, HU0⟩
    case round =>
      clear HU0 hrg d7
      obtain ⟨left, HU⟩ := hrel
      rcases HU.out.over.next (P := Tryz.prog) with ⟨hl0, hn⟩ | ⟨a, p, bb, w1, hl0, hn, hc, hsz, ho, hen⟩
      · have HE := Lib.hid (HU.out.done h0.out hl0)
        clear hl0
        go_wp2_with fail
        go_ret
        exact ⟨cb, rfl, HE.out, HU.out.chg⟩
      · obtain ⟨x, v⟩ := p
        obtain ⟨R2, F2, hr2, hf2, hl2, hcv⟩ := HU.out.new
        have hen' := hen w1 rfl rfl
        have hpm : (x, v) ∈ R.rows := HU.out.over.sub.subset (by rw [hl0]; simp)
        have hokx : okS x := by obtain ⟨_, _, _, E⟩ := h0.out.com; exact E.ok _ hpm
        have C01 := HU.out.chg.trans' hc (fun i hi => Or.inr (by rw [hi]; exact HU.out.li))
        have hv1 := (h0.out.same C01).rows _ hpm
        obtain ⟨io, ic, hiv⟩ := sl_shape hv1
        simp only at hiv
        subst hiv
        have hr1 := hr2.stay hc (fun g hg e => (hf2 g hg).2 e)
        have SC := Lib.hid (sclone_any (sl.stay hv1 (w' := w1.drew) (fun _ _ => rfl)) (by unfold timesV; simp [nV, Value.oneCell']) (h0len.out x))
        have c7 := hr1.c7
        have HL0 := Lib.hid hl0
        have HCB1 := Lib.hid hr1.lt
        have HC7 := Lib.hid c7
        have HUP := Lib.hid (fun (w3 : World) (v' : Value) (c2 : Chg (fun _ => False) w1 w3) (hv' : sl w3 24 1 v' (n.com x).length (timesV (n.com x))) (hn' : ∀ g, v'.ownBlock = some g → w1.heap.size ≤ g) => CpAt.put HU.out hl0 (hr2 := hr2) hf2 hl2 hcv hc hsz ho h0.out hokx c2 hv' hn')
        clear hen hl0 hc ho hpm hokx hv1 hr1 hr2 hf2 hl2 hcv C01
        go_wp2_with fail
        go_region_with (go_at_call 36; refine SC.out.mono ?_; rintro e w3 ⟨o', c', rfl, hs', cc, hown⟩; obtain ⟨es, ck, hup, hnx⟩ := HUP.out w3 _ ((Chg.refl (fun _ => False) w1).drew.trans cc) hs' hown; have HNX := Lib.hid hnx; have c7' := (World.cell?_of_block (a := ⟨cb, 7, none⟩) (((Chg.refl (fun _ => False) w1).drew.trans cc).block cb HCB1.out (fun f => f))).trans HC7.out; clear hnx hs' cc hown)
        all_goals
          go_wp2_with fail
          go_roundw
          case rel => exact ⟨a ++ bb, HNX⟩
          case measure => rw [HNX.out.over.left_eq, HU.out.over.left_eq, HL0.out]; simp
end
end Go.Proofs.YtgmmglmokkcgeaaGreat
