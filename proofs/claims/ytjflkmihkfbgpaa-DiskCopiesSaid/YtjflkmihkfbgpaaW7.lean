/- Walks: maps.Copy, maps.Clone, Sync. -/
import Derived.Test.YtjflkmihkfbgpaaW6
import Derived.Laws.Externs
namespace Go.Proofs.Ytjflkmihkfbgpaa
open Go.RowKit Mk Go.Sort

section
variable {w : World} {b : Nat} {F : Nat → Prop} {S : Nat} {d : DiskM}

/-- Behind some rounds of Copy: D has been copied. -/
structure CopyAt (w : World) (r bm : Nat) (N D left : Files) (wr : World) : Prop where
  over : filesOver wr w.heap.size bm N left
  dst : files wr r D
  perm : (D ++ left).Perm N
  chg : Chg (fun g => g = r) w wr

theorem CopyAt.step {w wr w1 : World} {r bm : Nat} {N D a bb : Files} {x s : ByteArray} (h : CopyAt w r bm N D (a ++ (x, s) :: bb) wr) (hr : r < w.heap.size) (hne : r ≠ bm) (hbm : bm < w.heap.size)
    (hc : Chg (fun i => i = w.heap.size) wr w1) (ho : filesOver w1 w.heap.size bm N (a ++ bb)) :
    ∃ o, (Instr.mapUpdate 54 (.map (some r)) (.string x) (.string s)).run Try.prog w1 = .ok () (ChangeMaps.setBlock w1 r o) ∧ CopyAt w r bm N (D ++ [(x, s)]) (a ++ bb) (ChangeMaps.setBlock w1 r o) := by
  have hlt := h.chg.size
  have d1 : files w1 r D := h.dst.stay (hc.block r (by omega) (by omega))
  have hmem : (x, s) ∈ N := h.perm.mem_iff.1 (by simp)
  have hap : Apart (D ++ (a ++ (x, s) :: bb)) := h.over.files.apart.perm h.perm.symm
  have hnx : ∀ p ∈ D, p.1 ≠ x := fun p hp => (List.pairwise_append.1 hap).2.2 p hp (x, s) (by simp)
  obtain ⟨o, hu, hM⟩ := d1.update (P := Try.prog) Try.underlying54 Try.underlying9 (h.over.files.ok _ hmem) s
  refine ⟨o, hu, ?_, ?_, ?_, ?_⟩
  · exact ho.stay (heap_setBlock_ne (Ne.symm hne)) (heap_setBlock_ne (by omega))
  · have := d1.at_end hM
    rwa [(lk_none hnx).2.1] at this
  · refine List.Perm.trans ?_ h.perm
    rw [List.append_assoc]
    exact (List.perm_middle (a := (x, s)) (l₁ := a) (l₂ := bb)).symm.append_left D
  · exact (h.chg.trans' hc (fun i hi => Or.inr (by omega))).trans (Chg.setB w1 r o)

set_option maxRecDepth 100000 in
theorem copy_any {r bm : Nat} {N : Files} (h : files w bm N) (hr : files w r []) (hne : r ≠ bm) :
    Calls Try.prog 33 #[.map (some r), .map (some bm)] w fun e w' => e = .returned (.tuple #[]) ∧ files w' r N ∧ Chg (fun g => g = r) w w' := by
  obtain ⟨it, left, hrg, hp, ho⟩ := h.range (P := Try.prog) Try.underlying54
  have HA := Lib.hid (show CopyAt w r bm N [] left (w.alloc it) from ⟨ho, hr.stay (Below.heap_alloc _ _ _ hr.lt), by simpa using hp, (Chg.refl _ _).alloc _⟩)
  have l1 := hr.lt
  have l2 := h.lt
  clear ho hp h hr
  go_enter Try.func33, Try.ntmps33
  go_wp2
  go_loopw [] (fun wr => ∃ (D left : Files), Hid (CopyAt w r bm N D left wr)) (fun wr => wr.rangeLeft bm w.heap.size)
  case atStart => exact ⟨[], left, HA⟩
  case round =>
    obtain ⟨D, left, HU⟩ := hrel
    rcases HU.out.over.next (P := Try.prog) with ⟨h0, hn⟩ | ⟨a, x, s, bb, w1, h0, hx, hn, hc, hsz, ho, hen⟩
    · have hf : files wr r N := HU.out.dst.perm (by have := HU.out.perm; rw [h0] at this; simpa using this)
      go_wp2
      go_end0
      exact ⟨rfl, hf, HU.out.chg⟩
    · have hen' := hen w1 rfl rfl
      have HU' := HU.out
      rw [h0] at HU'
      obtain ⟨o, hu, hN⟩ := HU'.step l1 hne l2 hc ho
      have HN := Lib.hid hN
      have H0 := Lib.hid h0
      clear hen h0 hc ho hx hsz hrg HA hN HU'
      go_wp2
      go_roundw
      case rel => exact ⟨_, _, HN⟩
      case measure => rw [HN.out.over.left_eq, HU.out.over.left_eq, H0.out]; simp

/-- Behind Sync. -/
def syncM (d : DiskM) : DiskM := ⟨d.room, d.now, d.now, []⟩

/-- What Sync asks of the disk. -/
structure Half (w : World) (b r1 r2 : Nat) (v : Value) (F : Nat → Prop) (S : Nat) (room : Nat) (N K : Files) : Prop where
  disk : w.heap[b]? = some (.cells #[.int .i64 room, .map (some r1), .map (some r2), v] 57)
  now : files w r1 N
  kept : files w r2 K
  ne : r1 ≠ r2
  row : ∀ g, v.ownBlock = some g → ∃ cur, w.heap[g]? = some (.cells cur 64)
  size : tot N ≤ S ∧ S ≤ 1099511627776
  room : room ≤ 9223372036854775807
  fb : F b
  f1 : F r1
  f2 : F r2

section
variable {r1 r2 room : Nat} {v : Value} {N K : Files}
theorem Half.nes (h : Half w b r1 r2 v F S room N K) : b ≠ r1 ∧ b ≠ r2 ∧ ∀ g, v.ownBlock = some g → g ≠ b ∧ g ≠ r1 ∧ g ≠ r2 := by
  obtain ⟨es, c, hr1⟩ := h.now.obj
  obtain ⟨es', c', hr2⟩ := h.kept.obj
  refine ⟨fun e => ?_, fun e => ?_, fun g hg => ?_⟩
  · have := h.disk; rw [e, hr1] at this; simp at this
  · have := h.disk; rw [e, hr2] at this; simp at this
  · obtain ⟨cur, hh⟩ := h.row g hg
    refine ⟨fun e => ?_, fun e => ?_, fun e => ?_⟩
    · rw [e, h.disk] at hh; simp at hh
    · rw [e, hr1] at hh; simp at hh
    · rw [e, hr2] at hh; simp at hh
theorem Half.keeps (h : Half w b r1 r2 v F S room N K) {w' : World} (c : Chg (own b r1 r2 v) w w') : Keep w w' := Keep.of_chg c (fun g hg _ => by
  obtain ⟨es, c, hr1⟩ := h.now.obj
  obtain ⟨es', c', hr2⟩ := h.kept.obj
  unfold capS capI
  rcases hg with rfl | rfl | rfl | hg
  · rw [h.disk]; simp
  · rw [hr1]; simp
  · rw [hr2]; simp
  · obtain ⟨cur, hh⟩ := h.row g hg
    rw [hh]
    refine ⟨fun n e => ?_, fun n e => ?_⟩ <;> simp at e)
theorem Half.cells (h : Half w b r1 r2 v F S room N K) : w.cell? ⟨b, 0, none⟩ = some (.int .i64 room) ∧ w.cell? ⟨b, 1, none⟩ = some (.map (some r1)) ∧ w.cell? ⟨b, 2, none⟩ = some (.map (some r2)) ∧ w.cell? ⟨b, 3, none⟩ = some v :=
  ⟨cell_of h.disk (by simp), cell_of h.disk (by simp), cell_of h.disk (by simp), cell_of h.disk (by simp)⟩
theorem Half.lt (h : Half w b r1 r2 v F S room N K) : b < w.heap.size ∧ r1 < w.heap.size ∧ r2 < w.heap.size :=
  ⟨(Array.getElem?_eq_some_iff.1 h.disk).1, h.now.lt, h.kept.lt⟩
theorem DiskRep.half {ts : List (Value × Thing)} (h : DiskRep w b r1 r2 v ts F S d) : Half w b r1 r2 v F S d.room d.now d.kept :=
  ⟨h.disk, h.now, h.kept, h.ne, fun _ hg => h.row hg, ⟨h.size.1, h.size.2.2⟩, h.room, h.fb, h.f1, h.f2⟩

theorem not_of (w : World) (b r1 : Nat) (c1 : w.cell? ⟨b, 1, none⟩ = some (.map (some r1))) : Calls Try.prog 32 #[.pointer (some ⟨b, 0, none⟩)] w fun e w' => e = .returned (.bool false) ∧ w' = w := by
  have hq := run_eql_map (P := Try.prog) w 54 9 9 (some r1) Try.underlying54
  go_enter Try.func32, Try.ntmps32
  go_wp2
  go_ret
  exact ⟨rfl, rfl⟩

theorem half_sync (h : Half w b r1 r2 v F S room N K) {w2 : World} (hf : files w2 r2 N) (c : Chg (fun g => g = r2) w w2) :
    (DiskIs (w2.setCell ⟨b, 3, none⟩ (.slice none 0 0)) b F S ⟨room, N, N, []⟩ ∧ Chg (fun g => g = b ∨ g = r2) w (w2.setCell ⟨b, 3, none⟩ (.slice none 0 0)) ∧ Keep w (w2.setCell ⟨b, 3, none⟩ (.slice none 0 0))) ∧ w2.frozen? ⟨b, 3, none⟩ = false ∧ w2.cell? ⟨b, 3, none⟩ = some v := by
  obtain ⟨n1, n2, n3⟩ := h.nes
  obtain ⟨l0, l1, l2⟩ := h.lt
  have hb2 : w2.heap[b]? = some (.cells #[.int .i64 room, .map (some r1), .map (some r2), v] 57) := (c.block b l0 n2).trans h.disk
  have cB : Chg (fun g => g = b ∨ g = r2) w w2 := c.mono (fun g hg => Or.inr hg)
  have cE : Chg (fun g => g = b ∨ g = r2) w (w2.setCell ⟨b, 3, none⟩ (.slice none 0 0)) := cB.setCell (Or.inl (Or.inl rfl)) _
  have hK := h.keeps (cE.mono (fun g hg => hg.elim Or.inl (fun e => Or.inr (Or.inr (Or.inl e)))))
  refine ⟨⟨⟨r1, r2, .slice none 0 0, [], ?_⟩, cE, hK⟩, frozen_of hb2, cell_of hb2 (by simp)⟩
  refine ⟨?_, ?_, ?_, h.ne, rfl, sl_nil _ _ _, by simp, trivial, List.Perm.refl _, ?_, by simp, h.room, h.fb, h.f1, h.f2, fun g hg => by simp [Value.ownBlock] at hg⟩
  · rw [Mk.heap_setCell_same hb2]
    simp
  · refine h.now.stay ?_
    rw [Below.heap_setCell _ _ _ _ n1.symm, c.block r1 l1 h.ne]
  · refine hf.stay ?_
    rw [Below.heap_setCell _ _ _ _ n2.symm]
  · have := h.size
    simp only [bulk, List.map_nil, List.sum_nil]
    omega

set_option maxRecDepth 100000 in
theorem sync_half (h : Half w b r1 r2 v F S room N K) : Calls Try.prog 10 #[.pointer (some ⟨b, 0, none⟩)] w fun e w' => e = .returned (.int .i64 0) ∧ DiskIs w' b F S ⟨room, N, N, []⟩ ∧ Chg (fun g => g = b ∨ g = r2) w w' ∧ Keep w w' := by
  have c2 := h.cells.2.2.1
  have A := Lib.hid (not_of w b r1 h.cells.2.1)
  obtain ⟨o, hcl, ho⟩ := h.kept.clear (P := Try.prog) Try.underlying54 0
  obtain ⟨n1, n2, n3⟩ := h.nes
  have k1 := Chg.setB w r2 o
  have e0 := h.kept.at_end ho
  obtain ⟨W, HW⟩ : ∃ W, Hid (ChangeMaps.setBlock w r2 o = W) := ⟨_, Lib.hid rfl⟩
  rw [HW.out] at k1 e0
  have b1 : W.cell? ⟨b, 1, none⟩ = some (.map (some r1)) := by rw [World.cell?_of_block (k1.block b h.lt.1 n2)]; exact h.cells.2.1
  have b2 : W.cell? ⟨b, 2, none⟩ = some (.map (some r2)) := by rw [World.cell?_of_block (k1.block b h.lt.1 n2)]; exact c2
  have g1 : (W.drewN 1).cell? ⟨b, 1, none⟩ = some (.map (some r1)) := b1
  have g2 : (W.drewN 1).cell? ⟨b, 2, none⟩ = some (.map (some r2)) := b2
  have k2 : Chg (fun g => g = r2) w (W.drewN 1) := k1.trans' (Chg.drewN W 1) (fun _ f => f.elim)
  have C := Lib.hid (copy_any (w := W.drewN 1) (r := r2) (h.now.stay (k2.block r1 h.lt.2.1 h.ne)) (e0.stay rfl) h.ne.symm)
  have K2 := Lib.hid k2
  have H := Lib.hid h
  clear k1 k2 e0 ho h b1 b2
  go_enter Try.func10, Try.ntmps10
  go_wp2_with fail
  refine A.out.mono ?_
  rintro e w' ⟨rfl, rfl⟩
  go_wp2_with fail
  rw [HW.out]
  clear hcl c2
  refine wp_region_still_tail 8 (by kernel_rfl) (by kernel_rfl) ?_
  simp only [List.take_succ_cons, List.take_zero, List.drop_succ_cons, List.drop_zero]
  change wpStill _ _ (W.drewN 1) _ _ _
  repeat still_step
  refine wpStill_nil ?_
  change wpList _ _ _ _ _ (W.drewN 1)
  go_wp2_with fail
  refine C.out.mono ?_
  rintro e w2 ⟨rfl, hf, k3⟩
  obtain ⟨t1, t2, t3⟩ := half_sync H.out hf (K2.out.trans k3)
  have T1 := Lib.hid t1
  clear t1 hf k3 C
  go_wp2
  go_ret
  exact ⟨rfl, T1.out⟩
end

theorem sync_any (h : DiskIs w b F S d) : Calls Try.prog 10 #[.pointer (some ⟨b, 0, none⟩)] w fun e w' => e = .returned (.int .i64 0) ∧ To w b F S (syncM d) w' := by
  obtain ⟨r1, r2, v, ts, h⟩ := h
  refine (sync_half h.half).mono ?_
  rintro e w' ⟨rfl, h1, h2, h3⟩
  exact ⟨rfl, h1.foot (fun _ => Or.inl), h2.mono (fun g hg => hg.elim (fun e => e ▸ h.fb) (fun e => e ▸ h.f2)), h3⟩

/-! Clone -/
theorem run_typeAssert_map {P : Program} (w : World) (t xT k e : TypeId) (v : Value) (h : P.underlying t = some (.map k e)) : (Instr.typeAssert (.iface t v) xT t false).run P w = .ok v w := by
  simp [Instr.typeAssert, run_underlying h, go_sem, Result.andThen]
theorem run_maps_clone {P : Program} (w : World) {r : Nat} {es : Array MapEntry} {clock : Nat} (t : TypeId) (hb : w.heap[r]? = some (.map es clock)) :
    (Extern.MapsClone.clone #[.iface t (.map (some r))]).run P w = .ok (.iface t (.map (some w.heap.size))) (w.alloc (.map es clock)) := by
  have e : Extern.MapsClone.clone #[.iface t (.map (some r))] = (getObj r >>= fun o => match o with
      | .map entries clock => (newObj (.map entries clock) >>= fun n => pure (.iface t (.map (some n))))
      | _ => stuck "maps.clone: a map expected") := rfl
  rw [e]
  simp [MapKept.run_getObj_map hb, Result.andThen, go_sem]
set_option maxRecDepth 100000 in
theorem clone_any {r : Nat} {L : Files} (h : files w r L) : Calls Try.prog 35 #[.map (some r)] w fun e w' => e = .returned (.map (some w.heap.size)) ∧ files w' w.heap.size L ∧ Chg (fun _ => False) w w' ∧ w'.heap.size = w.heap.size + 1 := by
  obtain ⟨es, c, hb, hL⟩ := h.whole
  have hq := run_eql_map (P := Try.prog) w 54 9 9 (some r) Try.underlying54
  clear h
  go_enter Try.func35, Try.ntmps35
  go_wp2
  rw [run_callFunc_extern Try.func50 (by kernel_rfl) (by kernel_rfl) (by kernel_rfl) (e := Extern.MapsClone.clone) (by kernel_rfl), run_maps_clone w 54 hb]
  simp only [Result.andThen]
  rw [Oper.upon_value]
  go_wp2
  rw [run_typeAssert_map _ 54 20 _ _ _ Try.underlying54]
  simp only [Result.andThen]
  rw [Oper.upon_value]
  go_wp2
  go_ret
  exact ⟨rfl, hL _ _ (Go.heap_alloc_new _ _), (Chg.refl _ _).alloc _, by simp⟩
end
end Go.Proofs.Ytjflkmihkfbgpaa
