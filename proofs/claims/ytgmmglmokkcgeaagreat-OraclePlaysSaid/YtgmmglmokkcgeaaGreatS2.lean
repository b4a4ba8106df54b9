/- Walks: maps.Clone, slices.Clone. Printed by genS2.py. -/
import Derived.Test.YtgmmglmokkcgeaaGreatA8
import Derived.Test.YtgmmglmokkcgeaaGreatR3
import Derived.Lib.SliceRun
import Derived.WalkSpells
namespace Go.Proofs.YtgmmglmokkcgeaaGreat
set_option linter.unusedVariables false
set_option linter.unusedSimpArgs false
set_option linter.unusedSectionVars false
open Go.RowKit Mk Go.Sort

section
variable {w w' : World} {b : Nat} {R : Loc} {F G : Nat → Prop} {n : OM}
/-- A predicate's times are laid anew, all of them. -/
theorem OrRep.putRow (h : OrRep w b R F n) {x : ByteArray} {L : List Nat} {v : Value} {es : Array MapEntry} {ck : Nat} (c : Chg (fun g => ∃ u, lk R.rows x = some u ∧ u.ownBlock = some g) w w') (hv : sl w' 24 1 v L.length (timesV L))
    (hn : ∀ g, v.ownBlock = some g → (∃ u, lk R.rows x = some u ∧ u.ownBlock = some g) ∨ w.heap.size ≤ g) (E : Ent okS kvS es ck (upd R.rows x v)) (hL : L ≠ []) :
    OrRep (ChangeMaps.setBlock w' R.c (.map es ck)) b { R with rows := upd R.rows x v } (fun g => F g ∨ w.heap.size ≤ g) { n with com := fun p => if p = x then L else n.com p } := by
  obtain ⟨e1, e2, e3, e4, e5, e6⟩ := h.ne
  obtain ⟨b1, b2, b3, b4⟩ := h.b_ne
  have hown : ∀ u g, lk R.rows x = some u → u.ownBlock = some g → g ≠ b ∧ g ≠ R.d ∧ g ≠ R.l ∧ g ≠ R.t ∧ g ≠ R.c := fun u g hu hg => h.row_ne (lk_mem hu) hg
  have hlt := h.com.lt
  have hk : ∀ g, g < w.heap.size → g ≠ R.c → (∀ u, lk R.rows x = some u → u.ownBlock ≠ some g) → (ChangeMaps.setBlock w' R.c (.map es ck)).heap[g]? = w.heap[g]? := fun g hg hc hr => (heap_setBlock_ne hc).trans (c.block g hg (fun ⟨u, hu, hg⟩ => hr u hu hg))
  have hapart := h.com.apart
  have hold : ∀ p ∈ upd R.rows x v, p.1 ≠ x → p ∈ R.rows := fun p hp hne => by
    rcases mem_upd2 hp with rfl | hp
    · exact absurd rfl hne
    · exact hp
  have hnew : ∀ p ∈ upd R.rows x v, p.1 = x → p.2 = v := fun p hp he => by
    have hd := upd_apart hapart x v
    have h1 : lk (upd R.rows x v) x = some v := lk_upd_same _ _ _
    have h2 : (x, v) ∈ upd R.rows x v := lk_mem h1
    obtain ⟨i, hi, e⟩ := List.getElem_of_mem hp
    have := (lk_some hd (j := i) (x := p.1) (v := p.2) (by rw [List.getElem?_eq_getElem hi, e])).1
    rw [he, h1] at this
    exact (Option.some.inj this).symm
  have hvc : ∀ g, v.ownBlock = some g → g ≠ R.c := fun g hg => by
    rcases hn g hg with ⟨u, hu, hg⟩ | h1
    · exact (hown u g hu hg).2.2.2.2
    · omega
  have hother : ∀ p ∈ R.rows, p.1 ≠ x → ∀ g, p.2.ownBlock = some g → ∀ u, lk R.rows x = some u → u.ownBlock ≠ some g := fun p hp hne g hg u hu hug => by
    rcases h.apart p hp (x, u) (lk_mem hu) hne with h1 | h1
    · rw [h1] at hg; cases hg
    · exact h1 (by rw [hg]; exact hug.symm)
  refine ⟨?_, ?_, ?_, ?_, ⟨es, ck, setBlock_same (Nat.lt_of_lt_of_le hlt c.size), E⟩, ?_, ?_, ?_, ?_, h.ne, Or.inl h.fb, Or.inl h.fd, Or.inl h.fl, Or.inl h.ft, Or.inl h.fc, ?_⟩
  · exact (hk b h.lt b4 (fun u hu hg => (hown u b hu hg).1 rfl)).trans h.box
  · exact h.dec.stay (hk _ h.dec.lt e3 (fun u hu hg => (hown u _ hu hg).2.1 rfl))
  · exact h.las.stay (hk _ h.las.lt e5 (fun u hu hg => (hown u _ hu hg).2.2.1 rfl))
  · exact h.tab.stay (hk _ h.tab.lt e6 (fun u hu hg => (hown u _ hu hg).2.2.2.1 rfl))
  · intro p hp
    by_cases e : p.1 = x
    · rw [hnew p hp e]
      simp only [if_pos e]
      have : sl w' 24 1 v L.length (timesV L) := hv
      exact this.stay (fun g hg => heap_setBlock_ne (hvc g hg))
    · have hp' := hold p hp e
      simp only [if_neg e]
      exact (h.rows p hp').stay (fun g hg => hk g ((h.rows p hp').lt hg) (h.row_ne hp' hg).2.2.2.2 (hother p hp' e g hg))
  · intro y hy
    rw [lk_upd] at hy
    simp only
    by_cases e : y = x
    · rw [if_pos e] at hy; cases hy
    · rw [if_neg e] at hy
      rw [if_neg e]
      exact h.gone y hy
  · intro p hp
    simp only
    by_cases e : p.1 = x
    · rw [if_pos e]; exact hL
    · rw [if_neg e]; exact h.full p (hold p hp e)
  · have key : ∀ p ∈ upd R.rows x v, p.1 ≠ x → v.ownBlock = none ∨ v.ownBlock ≠ p.2.ownBlock := fun p hp hne => by
      have hp' := hold p hp hne
      cases hvo : v.ownBlock with
      | none => exact Or.inl rfl
      | some g =>
        refine Or.inr (fun e => ?_)
        rcases hn g hvo with ⟨u, hu, hug⟩ | h1
        · exact hother p hp' hne g e.symm u hu hug
        · have := (h.rows p hp').lt e.symm; omega
    intro p hp p' hp' hne
    by_cases e : p.1 = x
    · rw [hnew p hp e]
      exact key p' hp' (fun e' => hne (e.trans e'.symm))
    · by_cases e' : p'.1 = x
      · rw [hnew p' hp' e']
        rcases key p hp e with h1 | h1
        · cases hpo : p.2.ownBlock with
          | none => exact Or.inl rfl
          | some g => exact Or.inr (by rw [h1]; simp)
        · exact Or.inr (fun h2 => h1 h2.symm)
      · exact h.apart p (hold p hp e) p' (hold p' hp' e') hne
  · intro p hp g hg
    by_cases e : p.1 = x
    · rw [hnew p hp e] at hg
      rcases hn g hg with ⟨u, hu, hug⟩ | h1
      · exact Or.inl (h.frow (x, u) (lk_mem hu) g hug)
      · exact Or.inr h1
    · exact Or.inl (h.frow p (hold p hp e) g hg)
end
theorem run_eql_map {P : Program} (w : World) (t k e : TypeId) (p : Option Nat) (h : P.underlying t = some (.map k e)) : (binOp .eql t (.map p) (.map none)).run P w = .ok (.bool p.isNone) w := by
  have h1 : ∀ d, (Op.equalIn (d + 1) t (.map p) (.map none)).run P w = .ok p.isNone w := fun d => by cases p <;> simp [Op.equalIn, run_underlying h]
  simp only [binOp]
  simp [show Op.equal t (.map p) (.map none) = Op.equalIn (9999 + 1) t (.map p) (.map none) from rfl, h1 9999]
theorem run_typeAssert_map {P : Program} (w : World) (t xT k e : TypeId) (v : Value) (h : P.underlying t = some (.map k e)) : (Instr.typeAssert (.iface t v) xT t false).run P w = .ok v w := by
  simp [Instr.typeAssert, run_underlying h, go_sem, Result.andThen]
theorem run_maps_clone {P : Program} (w : World) {r : Nat} {es : Array MapEntry} {clock : Nat} (t : TypeId) (hb : w.heap[r]? = some (.map es clock)) :
    (Extern.MapsClone.clone #[.iface t (.map (some r))]).run P w = .ok (.iface t (.map (some w.heap.size))) (w.alloc (.map es clock)) := by
  have e : Extern.MapsClone.clone #[.iface t (.map (some r))] = (getObj r >>= fun o => match o with
      | .map entries clock => (newObj (.map entries clock) >>= fun n => pure (.iface t (.map (some n))))
      | _ => stuck "maps.clone: a map expected") := rfl
  rw [e]
  simp [MapKept.run_getObj_map hb, Result.andThen, go_sem]
set_option maxRecDepth 100000 in
theorem cloneD {w : World} {r : Nat} {L : List (Nat × Value)} (h : mapAt okU kvU w r L) : Calls Tryz.prog 33 #[.map (some r)] w fun e w' => e = .returned (.map (some w.heap.size)) ∧ mapAt okU kvU w' w.heap.size L ∧ Chg (fun _ => False) w w' ∧ w'.heap.size = w.heap.size + 1 := by
  obtain ⟨es, c, hb, hL⟩ := h
  have HL := Lib.hid hL
  have hq := run_eql_map (P := Tryz.prog) w 31 24 24 (some r) Tryz.underlying31
  clear hL
  go_enter Tryz.func33, Tryz.ntmps33
  go_wp2
  rw [run_callFunc_extern Tryz.func82 (by kernel_rfl) (by kernel_rfl) (by kernel_rfl) (e := Extern.MapsClone.clone) (by kernel_rfl), run_maps_clone w 31 hb]
  simp only [Result.andThen]
  rw [Oper.upon_value]
  go_wp2
  rw [run_typeAssert_map _ 31 20 _ _ _ Tryz.underlying31]
  simp only [Result.andThen]
  rw [Oper.upon_value]
  go_wp2
  go_ret
  exact ⟨rfl, ⟨es, c, Go.heap_alloc_new _ _, HL.out⟩, (Chg.refl _ _).alloc _, by simp⟩
set_option maxRecDepth 100000 in
theorem cloneL {w : World} {r : Nat} {L : List (ByteArray × Value)} (h : mapAt okS kvS w r L) : Calls Tryz.prog 34 #[.map (some r)] w fun e w' => e = .returned (.map (some w.heap.size)) ∧ mapAt okS kvS w' w.heap.size L ∧ Chg (fun _ => False) w w' ∧ w'.heap.size = w.heap.size + 1 := by
  obtain ⟨es, c, hb, hL⟩ := h
  have HL := Lib.hid hL
  have hq := run_eql_map (P := Tryz.prog) w 32 9 24 (some r) Tryz.underlying32
  clear hL
  go_enter Tryz.func34, Tryz.ntmps34
  go_wp2
  rw [run_callFunc_extern Tryz.func82 (by kernel_rfl) (by kernel_rfl) (by kernel_rfl) (e := Extern.MapsClone.clone) (by kernel_rfl), run_maps_clone w 32 hb]
  simp only [Result.andThen]
  rw [Oper.upon_value]
  go_wp2
  rw [run_typeAssert_map _ 32 20 _ _ _ Tryz.underlying32]
  simp only [Result.andThen]
  rw [Oper.upon_value]
  go_wp2
  go_ret
  exact ⟨rfl, ⟨es, c, Go.heap_alloc_new _ _, HL.out⟩, (Chg.refl _ _).alloc _, by simp⟩
set_option maxRecDepth 100000 in
theorem cloneT {w : World} {r : Nat} {L : List (ByteArray × Value)} (h : mapAt okS kvS w r L) : Calls Tryz.prog 35 #[.map (some r)] w fun e w' => e = .returned (.map (some w.heap.size)) ∧ mapAt okS kvS w' w.heap.size L ∧ Chg (fun _ => False) w w' ∧ w'.heap.size = w.heap.size + 1 := by
  obtain ⟨es, c, hb, hL⟩ := h
  have HL := Lib.hid hL
  have hq := run_eql_map (P := Tryz.prog) w 33 9 41 (some r) Tryz.underlying33
  clear hL
  go_enter Tryz.func35, Tryz.ntmps35
  go_wp2
  rw [run_callFunc_extern Tryz.func82 (by kernel_rfl) (by kernel_rfl) (by kernel_rfl) (e := Extern.MapsClone.clone) (by kernel_rfl), run_maps_clone w 33 hb]
  simp only [Result.andThen]
  rw [Oper.upon_value]
  go_wp2
  rw [run_typeAssert_map _ 33 20 _ _ _ Tryz.underlying33]
  simp only [Result.andThen]
  rw [Oper.upon_value]
  go_wp2
  go_ret
  exact ⟨rfl, ⟨es, c, Go.heap_alloc_new _ _, HL.out⟩, (Chg.refl _ _).alloc _, by simp⟩
section
variable {w : World} {v : Value} {n : Nat} {xs : List Value}
set_option maxRecDepth 100000 in
set_option maxHeartbeats 1000000 in
theorem sclone_any (h : sl w 24 1 v n xs) (hone : ∀ u ∈ xs, u.oneCell' = true) (hL : n ≤ 1099511627776) :
    Calls Tryz.prog 36 #[v] w fun e w' => ∃ o c, e = .returned (.slice o n c) ∧ sl w' 24 1 (.slice o n c) n xs ∧ Chg (fun _ => False) w w' ∧ (∀ g, (Value.slice o n c).ownBlock = some g → w.heap.size ≤ g) := by
  obtain ⟨i6, z6, hi6, hz6, hsz6, hby6, hzs6⟩ := el24.has
  have hlen := h.1
  rcases h.2 with ⟨rfl, rfl⟩ | ⟨g, cap, cur, rfl, hg, hnc, hcm, hcs, ht⟩
  · have q := fun (w : World) => Lib.run_eql_slice_nil (P := Tryz.prog) w 82 24 none 0 0 0 0 Tryz.underlying82
    go_enter Tryz.func36, Tryz.ntmps36
    go_wp2
    go_ret
    exact ⟨_, _, rfl, h, Chg.refl _ _, fun g e => by simp [Value.ownBlock] at e⟩
  · have hB : Chg (fun _ => False) w (w.alloc (.cells #[] 24)) := (Chg.refl _ w).alloc _
    have hS : sl (w.alloc (.cells #[] 24)) 24 1 (.slice (some ⟨g, 0, none⟩) n cap) n xs := sl.stay h (fun g' hg' => hB.block g' (sl.lt h hg') (fun f => f))
    have hE : sl (w.alloc (.cells #[] 24)) 24 1 (.slice (some ⟨w.heap.size, 0, none⟩) 0 0) 0 [] := ⟨rfl, Or.inr ⟨w.heap.size, 0, #[], rfl, Go.heap_alloc_new _ _, Nat.le_refl _, Nat.zero_le _, by simp, rfl⟩⟩
    have hN : ∀ j u, xs[j]? = some u → (w.alloc (.cells #[] 24)).cell? ((⟨g, 0, none⟩ : Addr).add j) = some u := fun j u hj => by
      obtain ⟨g', cap', e, hc⟩ := sl.cell hS hj
      cases e
      rw [Addr.add_mid, Nat.zero_add]
      exact hc
    have HN := Lib.hid hN
    have HE := Lib.hid hE
    have HO := Lib.hid hone
    have HL := Lib.hid hlen
    have HB := Lib.hid hB
    clear hN hE hone hlen hB hS h hg hcs ht
    have l1 : n ≤ maxLen := by simp only [maxLen]; omega
    have q := fun (w : World) => Lib.run_eql_slice_nil (P := Tryz.prog) w 82 24 (some ⟨g, 0, none⟩) n cap 0 0 Tryz.underlying82
    go_enter Tryz.func36, Tryz.ntmps36
    go_wp2_with (refine wpList_append_sl (by rfl) _ _ 82 (by rfl) 24 i6 z6 1 8 Tryz.underlying82 hi6 hz6 hsz6 hby6 hzs6 (by decide) (.slice (some ⟨w.heap.size, 0, none⟩) 0 0) 0 [] (by rfl) HE.out (some ⟨g, 0, none⟩) n cap xs (by rfl) HL.out (fun _ => ⟨_, rfl, HN.out⟩) (fun _ e => by cases e) HO.out (by omega) (by omega) ?_; intro v' w2 hsl hgrow hat)
    go_ret
    have hsl' : sl w2 24 1 v' n xs := by simpa using hsl
    obtain ⟨o', c', rfl⟩ := sl_shape hsl'
    refine ⟨o', c', rfl, hsl', ?_, fun i e => ?_⟩
    · exact HB.out.grown hgrow (fun i hi => by simp [Value.ownBlock] at hi; exact Or.inr (by omega))
    · rcases hat with e2 | e2
      · rw [e2] at e; simp [Value.ownBlock] at e; omega
      · rw [e2] at e; simp at e; omega
end
end Go.Proofs.YtgmmglmokkcgeaaGreat
