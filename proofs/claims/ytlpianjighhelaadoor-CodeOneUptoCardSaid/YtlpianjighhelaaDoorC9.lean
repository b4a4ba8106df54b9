/- Walks: made, Frame, of both. -/
import Derived.Test.YtlpianjighhelaaDoorC8
import Derived.Test.YtlpianjighhelaaDoorStep
import Derived.Lib.BufferWrite
import Derived.Deep.RegionHeld3
namespace Go.Proofs.YtlpianjighhelaaDoor
open Go.RowKit Mk
open Go.Lib (byteCells run_copy_row_string)

theorem step_copy_row {ops : Array Oper} {o : Oper} {a : Act} {w : World} {K : Act → World → Prop} {Q : Exit → Act → World → Prop} {E : Prop}
    (hg : o.guard = none) (d x : Operand) (dT sT : TypeId) (hop : o.op = Op.call { callee := Callee.builtin Builtin.copy, args := #[d, x], argTypes := #[dT, sT] })
    (elem : TypeId) (hu : Tryd.prog.underlying dT = some (.slice elem)) (hs : (Tryd.prog.info? elem).map (·.size) = some 1)
    (g off dLen dCap : Nat) (hd : a.eval d = .slice (some ⟨g, off, none⟩) dLen dCap) (s : ByteArray) (hx : a.eval x = .string s) (hle : s.size ≤ dLen)
    (cur : Array Value) (t : TypeId) (hrow : w.heap[g]? = some (.cells cur t (0, 0))) (hfit : off + s.size ≤ cur.size)
    (hK : K (a.put o.dst (goInt s.size)) (w.setRow g (cur.toList.take off ++ byteCells s.data.toList ++ cur.toList.drop (off + s.size)).toArray)) :
    if Region.wanted o (yielded ops a.tmps) = true then Oper.wp Tryd.prog o a w K Q else E := by
  have hw : Region.wanted o (yielded ops a.tmps) = true := by simp [Region.wanted, hg]
  rw [if_pos hw]
  have hrun := run_copy_row_string (P := Tryd.prog) w dT sT o.type elem g off dLen dCap s cur t hu hs hrow hle hfit
  obtain ⟨W', hW'⟩ : ∃ W', w.setRow g (cur.toList.take off ++ byteCells s.data.toList ++ cur.toList.drop (off + s.size)).toArray = W' := ⟨_, rfl⟩
  rw [hW'] at hrun hK
  unfold Oper.wp
  simp [execOp, hop, resolve, invoke, builtin, hd, hx, hrun, Result.andThen]
  exact hK

/-- The head's array stands in the second new block, so many bytes of it written; the result's place is the first one. -/
structure HB (w : World) (l : List UInt8) (v : World) : Prop where
  below : Below w.heap.size w v
  row : ∃ cs : Array Value, v.heap[w.heap.size + 1]? = some (.cells cs 58 (0, 0)) ∧ cs.size = 8 ∧ cs.toList.take l.length = l.map B
  res : ∃ z : Array Value, v.heap[w.heap.size]? = some (.cells z 58 (0, 0)) ∧ z.size = 8

theorem HB.stay {w : World} {l : List UInt8} {v v' : World} (H : HB w l v) (hb : Below v.heap.size v v') : HB w l v' := by
  obtain ⟨cs, h1, h2, h3⟩ := H.row
  obtain ⟨z, h4, h5⟩ := H.res
  exact ⟨H.below.trans (hb.mono H.below.size), ⟨cs, (hb.block _ (Array.getElem?_eq_some_iff.1 h1).1).trans h1, h2, h3⟩, ⟨z, (hb.block _ (Array.getElem?_eq_some_iff.1 h4).1).trans h4, h5⟩⟩
theorem HB.drew {w : World} {l : List UInt8} {v : World} (H : HB w l v) : HB w l v.drew := H.stay ⟨rfl, rfl, rfl, Nat.le_refl _, fun _ _ => rfl⟩
theorem HB.start (w : World) (z z' : Array Value) (h : z.size = 8) (h' : z'.size = 8) : HB w [] ((w.alloc (.cells z 58)).alloc (.cells z' 58)) := by
  have z1 : (w.alloc (.cells z 58)).heap.size = w.heap.size + 1 := by simp
  have b1 := (Below.refl w.heap.size w).alloc (Nat.le_refl _) (.cells z 58)
  refine ⟨b1.alloc b1.size _, ⟨z', ?_, h', rfl⟩, ⟨z, ?_, h⟩⟩
  · have := Go.heap_alloc_new (w.alloc (.cells z 58)) (.cells z' 58)
    rwa [z1] at this
  · rw [RowKit.Below.heap_alloc _ _ _ (by omega)]
    exact Go.heap_alloc_new w _
theorem HB.wrote {w : World} {l : List UInt8} {v : World} (H : HB w l v) (s : ByteArray) {cs : Array Value} (hr : v.heap[w.heap.size + 1]? = some (.cells cs 58 (0, 0))) (h8 : cs.size = 8) (ht : cs.toList.take l.length = l.map B) (hf : l.length + s.size ≤ 8) :
    HB w (l ++ s.data.toList) (v.setRow (w.heap.size + 1) (cs.toList.take l.length ++ byteCells s.data.toList ++ cs.toList.drop (l.length + s.size)).toArray) := by
  have hl : s.data.toList.length = s.size := len_list s
  have hc : cs.toList.length = 8 := h8
  obtain ⟨z, h4, h5⟩ := H.res
  refine ⟨below_setRow H.below (by omega) _, ⟨_, setRow_heap v _ cs _ 58 (0, 0) hr, ?_, ?_⟩, ⟨z, ?_, h5⟩⟩
  · simp [byteCells, hl]; omega
  · rw [ht]
    have e : byteCells s.data.toList = s.data.toList.map B := rfl
    rw [e, ← List.map_append]
    show List.take (l ++ s.data.toList).length (List.map B (l ++ s.data.toList) ++ List.drop (l.length + s.size) cs.toList) = _
    rw [List.take_append_of_le_length (by simp), List.take_of_length_le (by simp)]
  · rw [setRow_other _ _ _ _ (by omega)]; exact h4
theorem HB.less {w : World} {l k : List UInt8} {v : World} (H : HB w (l ++ k) v) : HB w l v := by
  obtain ⟨cs, h1, h2, h3⟩ := H.row
  refine ⟨H.below, ⟨cs, h1, h2, ?_⟩, H.res⟩
  have := congrArg (List.take l.length) h3
  rw [List.take_take, List.map_append, List.length_append, Nat.min_eq_left (by omega)] at this
  rw [this, List.take_append_of_le_length (by simp), List.take_of_length_le (by simp)]
theorem HB.conv {w : World} {l : List UInt8} {v : World} (H : HB w l v) (hl : l.length = 4) : (convert 55 9 (.slice (some ⟨w.heap.size + 1, 0, none⟩) 4 8)).run Tryd.prog v = .ok (.string (str l)) v := by
  obtain ⟨cs, h1, h2, h3⟩ := H.row
  have hc : cs.toList.length = 8 := h2
  have := run_convert_bytes_back (P := Tryd.prog) v 55 9 5 ⟨w.heap.size + 1, 0, none⟩ 8 l Tryd.underlying55 Tryd.underlying5 Tryd.underlying9 (fun i hi => by
    have hg : cs[i]? = some (B l[i]) := by
      have e1 : (cs.toList.take l.length)[i]? = (l.map B)[i]? := by rw [h3]
      rw [List.getElem?_take, if_pos hi, List.getElem?_map, List.getElem?_eq_getElem hi] at e1
      simpa using e1
    have hcl : v.cell? ⟨w.heap.size + 1, i, none⟩ = some (B l[i]) := cell_of h1 hg
    by_cases h0 : i = 0
    · subst h0; exact hcl
    · simpa [Addr.add, h0, B] using hcl)
  rw [hl] at this
  exact this
theorem eight_list (l : List UInt8) (h : l.length = 8) : ∃ b0 b1 b2 b3 b4 b5 b6 b7, l = [b0, b1, b2, b3, b4, b5, b6, b7] := by
  match l, h with
  | [b0, b1, b2, b3, b4, b5, b6, b7], _ => exact ⟨b0, b1, b2, b3, b4, b5, b6, b7, rfl⟩
theorem HB.full {w : World} {l : List UInt8} {v : World} (H : HB w l v) (hl : l.length = 8) : v.heap[w.heap.size + 1]? = some (.cells (l.map B).toArray 58 (0, 0)) := by
  obtain ⟨cs, h1, h2, h3⟩ := H.row
  have hc : cs.toList.length = 8 := h2
  rw [hl, List.take_of_length_le (by omega)] at h3
  rw [h1]
  congr 2
  apply Array.ext'
  rw [h3]
theorem tail4 (n : Nat) : (str (Cod.beL 8 n)).extract 4 8 = str (Cod.beL 4 n) := by
  rw [str_extract]
  have : (str (Cod.beL 8 n)).data.toList = Cod.beL 8 n := rfl
  rw [this, Cod.beL_drop 4 n 4, List.take_of_length_le (by rw [Cod.beL_len]; exact Nat.le_refl _)]

theorem slice58_h (g : Nat) (v : World) : (Instr.sliceAt 58 (.pointer (some ⟨g, 0, none⟩)) none (some (.int .i64 4)) none).run Tryd.prog v = .ok (.slice (some ⟨g, 0, none⟩) 4 8) v := by
  rw [run_sliceAt_array_h v 58 _ Tryd.underlying58 .i64 _ (by omega) (by rw [show Tryd.prog.arrayLen 58 = 8 from by kernel_rfl]; omega)]
  rw [show Tryd.prog.elem 58 = 5 from by kernel_rfl, Tryd.sizeOf5, show Tryd.prog.arrayLen 58 = 8 from by kernel_rfl]
  simp [slicedAt, Addr.add]
theorem slice58_l (g : Nat) (v : World) : (Instr.sliceAt 58 (.pointer (some ⟨g, 0, none⟩)) (some (.int .i64 4)) none none).run Tryd.prog v = .ok (.slice (some ⟨g, 4, none⟩) 4 4) v := by
  rw [run_sliceAt_array_l v 58 _ Tryd.underlying58 .i64 _ (by omega) (by rw [show Tryd.prog.arrayLen 58 = 8 from by kernel_rfl]; omega)]
  rw [show Tryd.prog.elem 58 = 5 from by kernel_rfl, Tryd.sizeOf5, show Tryd.prog.arrayLen 58 = 8 from by kernel_rfl]
  simp [slicedAt, Addr.add]
theorem slice58_all (g : Nat) (v : World) : (Instr.sliceAt 58 (.pointer (some ⟨g, 0, none⟩)) none none none).run Tryd.prog v = .ok (.slice (some ⟨g, 0, none⟩) 8 8) v := by
  rw [run_sliceAt_array_all v 58 _ Tryd.underlying58]
  rw [show Tryd.prog.elem 58 = 5 from by kernel_rfl, Tryd.sizeOf5, show Tryd.prog.arrayLen 58 = 8 from by kernel_rfl]
  simp [slicedAt, Addr.add]
theorem fin8 {w : World} {kb : Nat} {t : TypeId} {c0 c1 c2 c3 c4 c5 c6 c7 : Value} (h : w.heap[kb]? = some (.cells #[c0, c1, c2, c3, c4, c5, c6, c7] t)) (v0 v1 v2 v3 v4 v5 v6 v7 : Value) :
    ((((((((w.setCell ⟨kb, 0, none⟩ v0).setCell ⟨kb, 1, none⟩ v1).setCell ⟨kb, 2, none⟩ v2).setCell ⟨kb, 3, none⟩ v3).setCell ⟨kb, 4, none⟩ v4).setCell ⟨kb, 5, none⟩ v5).setCell ⟨kb, 6, none⟩ v6).setCell ⟨kb, 7, none⟩ v7).heap[kb]? = some (.cells #[v0, v1, v2, v3, v4, v5, v6, v7] t) ∧ Chg (fun g => g = kb) w ((((((((w.setCell ⟨kb, 0, none⟩ v0).setCell ⟨kb, 1, none⟩ v1).setCell ⟨kb, 2, none⟩ v2).setCell ⟨kb, 3, none⟩ v3).setCell ⟨kb, 4, none⟩ v4).setCell ⟨kb, 5, none⟩ v5).setCell ⟨kb, 6, none⟩ v6).setCell ⟨kb, 7, none⟩ v7) := by
  refine ⟨?_, (((((((((Chg.refl (fun g => g = kb) w).setCell (a := ⟨kb, 0, none⟩) (Or.inl rfl) v0).setCell (a := ⟨kb, 1, none⟩) (Or.inl rfl) v1).setCell (a := ⟨kb, 2, none⟩) (Or.inl rfl) v2).setCell (a := ⟨kb, 3, none⟩) (Or.inl rfl) v3).setCell (a := ⟨kb, 4, none⟩) (Or.inl rfl) v4).setCell (a := ⟨kb, 5, none⟩) (Or.inl rfl) v5).setCell (a := ⟨kb, 6, none⟩) (Or.inl rfl) v6).setCell (a := ⟨kb, 7, none⟩) (Or.inl rfl) v7)⟩
  have h0 := Mk.heap_setCell_same (i := 0) h v0
  rw [show (#[c0, c1, c2, c3, c4, c5, c6, c7] : Array Value).setIfInBounds 0 v0 = #[v0, c1, c2, c3, c4, c5, c6, c7] from rfl] at h0
  have h1 := Mk.heap_setCell_same (i := 1) h0 v1
  rw [show (#[v0, c1, c2, c3, c4, c5, c6, c7] : Array Value).setIfInBounds 1 v1 = #[v0, v1, c2, c3, c4, c5, c6, c7] from rfl] at h1
  have h2 := Mk.heap_setCell_same (i := 2) h1 v2
  rw [show (#[v0, v1, c2, c3, c4, c5, c6, c7] : Array Value).setIfInBounds 2 v2 = #[v0, v1, v2, c3, c4, c5, c6, c7] from rfl] at h2
  have h3 := Mk.heap_setCell_same (i := 3) h2 v3
  rw [show (#[v0, v1, v2, c3, c4, c5, c6, c7] : Array Value).setIfInBounds 3 v3 = #[v0, v1, v2, v3, c4, c5, c6, c7] from rfl] at h3
  have h4 := Mk.heap_setCell_same (i := 4) h3 v4
  rw [show (#[v0, v1, v2, v3, c4, c5, c6, c7] : Array Value).setIfInBounds 4 v4 = #[v0, v1, v2, v3, v4, c5, c6, c7] from rfl] at h4
  have h5 := Mk.heap_setCell_same (i := 5) h4 v5
  rw [show (#[v0, v1, v2, v3, v4, c5, c6, c7] : Array Value).setIfInBounds 5 v5 = #[v0, v1, v2, v3, v4, v5, c6, c7] from rfl] at h5
  have h6 := Mk.heap_setCell_same (i := 6) h5 v6
  rw [show (#[v0, v1, v2, v3, v4, v5, c6, c7] : Array Value).setIfInBounds 6 v6 = #[v0, v1, v2, v3, v4, v5, v6, c7] from rfl] at h6
  have h7 := Mk.heap_setCell_same (i := 7) h6 v7
  rw [show (#[v0, v1, v2, v3, v4, v5, v6, c7] : Array Value).setIfInBounds 7 v7 = #[v0, v1, v2, v3, v4, v5, v6, v7] from rfl] at h7
  exact h7
theorem eight_array (z : Array Value) (h : z.size = 8) : ∃ c0 c1 c2 c3 c4 c5 c6 c7 : Value, z = #[c0, c1, c2, c3, c4, c5, c6, c7] := by
  rcases z with ⟨l⟩
  match l, h with
  | [c0, c1, c2, c3, c4, c5, c6, c7], _ => exact ⟨c0, c1, c2, c3, c4, c5, c6, c7, rfl⟩
theorem info5c : (Tryd.prog.info? 5).map (·.size) = some 1 := by kernel_rfl
set_option maxRecDepth 100000 in
set_option maxHeartbeats 2000000 in
theorem made_any (s : ByteArray) (hs : s.size ≤ 16777216) (w : World) :
    Calls Tryd.prog 34 #[.string s] w fun e w' => e = .returned (.agg ((Cod.hdr s.data.toList).map B).toArray) ∧ Below w.heap.size w w' := by
  obtain ⟨W1, HW1⟩ : ∃ W, Hid ((w.alloc (.cells #[.int .u8 0, .int .u8 0, .int .u8 0, .int .u8 0, .int .u8 0, .int .u8 0, .int .u8 0, .int .u8 0] 58)).alloc (.cells #[.int .u8 0, .int .u8 0, .int .u8 0, .int .u8 0, .int .u8 0, .int .u8 0, .int .u8 0, .int .u8 0] 58) = W) := ⟨_, Lib.hid rfl⟩
  have H1 : HB w [] W1 := by rw [← HW1.out]; exact HB.start w _ _ rfl rfl
  have H1d := H1.drew
  have hwr : ∀ x : Nat, x < 18446744073709551616 → IntKind.u64.wrap (x : Int) = x := fun x hx => by simp only [IntKind.wrap, IntKind.bits, IntKind.signed]; simp; omega
  have E1 := (fun w => eight_any s.size (by omega) w)
  rw [← hwr s.size (by omega)] at E1
  replace E1 := Lib.hid E1
  have hz1 : (str (Cod.beL 8 s.size)).size = 8 := Cod.beL_len 8 s.size
  have ht1 := tail4 s.size
  have hf1 : (str (Cod.beL 4 s.size)).size = 4 := Cod.beL_len 4 s.size
  have HF1 := Lib.hid hf1
  obtain ⟨G, hG⟩ : ∃ G, str (Cod.beL 4 s.size) = G := ⟨_, rfl⟩
  rw [hG] at ht1 hf1 HF1
  generalize str (Cod.beL 8 s.size) = E at *
  have c1lt : Crc.more 0 (Cod.beL 4 s.size) < 4294967296 := Crc.more_lt _ (by decide)
  have O1 := fun w => of_any G (by unfold maxLen; omega) w
  have eG : G.data.toList = Cod.beL 4 s.size := by rw [← hG]
  rw [eG] at O1
  have O2 := Lib.hid (fun w => more_any (Crc.more 0 (Cod.beL 4 s.size)) s c1lt (by unfold maxLen; omega) w)
  have c2lt : Crc.more (Crc.more 0 (Cod.beL 4 s.size)) s.data.toList < 4294967296 := Crc.more_lt _ c1lt
  have hhdr : Cod.hdr s.data.toList = Cod.beL 4 s.size ++ Cod.beL 4 (Crc.more (Crc.more 0 (Cod.beL 4 s.size)) s.data.toList) := by
    unfold Cod.hdr
    rw [len_list, Crc.more_append]
  rw [hhdr]
  clear hhdr
  replace O1 := Lib.hid O1
  generalize Crc.more (Crc.more 0 (Cod.beL 4 s.size)) s.data.toList = k2 at *
  generalize Crc.more 0 (Cod.beL 4 s.size) = k1 at *
  have E2 := (fun w => eight_any k2 (by omega) w)
  rw [← hwr k2 (by omega)] at E2
  replace E2 := Lib.hid E2
  have hz2 : (str (Cod.beL 8 k2)).size = 8 := Cod.beL_len 8 k2
  have ht2 := tail4 k2
  have hf2 : (str (Cod.beL 4 k2)).size = 4 := Cod.beL_len 4 k2
  obtain ⟨G2, hG2⟩ : ∃ G, str (Cod.beL 4 k2) = G := ⟨_, rfl⟩
  rw [hG2] at ht2 hf2
  generalize str (Cod.beL 8 k2) = E' at *
  clear eG
  have hlen : (Cod.beL 4 s.size ++ Cod.beL 4 k2).length = 8 := by rw [List.length_append, Cod.beL_len, Cod.beL_len]
  obtain ⟨b0, b1, b2, b3, b4, b5, b6, b7, hbl⟩ := eight_list _ hlen
  rw [hbl]
  have HBL := Lib.hid hbl
  clear hbl
  have SH := slice58_h (w.heap.size + 1)
  have SL := slice58_l (w.heap.size + 1)
  go_enter Tryd.func34, Tryd.ntmps34
  go_wp2_with fail
  rw [HW1.out]
  go_region_held3 (fun v => HB w [] v) (first | assumption | exact HB.drew (by assumption))
    (first | (go_at_call 32; refine (E1.out _).mono ?_; rintro e w' ⟨rfl, hb⟩; have hB := HB.stay (by assumption) hb) | (have hBB : HB w [] _ := (by assumption); obtain ⟨cs, hr, h8, htk⟩ := hBB.row; refine step_copy_row (by rfl) _ _ 55 9 (by rfl) 5 Tryd.underlying55 info5c (w.heap.size + 1) 0 4 8 (by rfl) G (by rfl) (by omega) cs 58 hr (by omega) ?_; have hBC := hBB.wrote G hr h8 htk (by simp; omega); have hBD := hBC.less))
  have H2 : HB w (Cod.beL 4 s.size) (w'.setRow (w.heap.size + 1) (List.take 0 cs.toList ++ byteCells G.data.toList ++ List.drop (0 + G.size) cs.toList).toArray) := by
    have e : ([] : List UInt8) ++ G.data.toList = Cod.beL 4 s.size := by rw [← hG]; rfl
    rw [← e]; exact hBC
  clear hBC hBD hr htk h8 hBB hB hb H1 H1d HW1 E1
  generalize w'.setRow (w.heap.size + 1) (List.take 0 cs.toList ++ byteCells G.data.toList ++ List.drop (0 + G.size) cs.toList).toArray = W2 at *
  have H2d := H2.drew
  have CV : ∀ v, HB w (Cod.beL 4 s.size) v → (convert 55 9 (.slice (some ⟨w.heap.size + 1, 0, none⟩) 4 8)).run Tryd.prog v = .ok (.string G) v := fun v h => by rw [← hG]; exact h.conv (Cod.beL_len _ _)
  clear hz1 ht1 hf1
  go_wp2_with fail
  go_region_held3 (fun v => HB w (Cod.beL 4 s.size) v) (first | assumption | exact HB.drew (by assumption)) (first | (go_at_call 45; refine (O1.out _).mono ?_; rintro e w' ⟨rfl, rfl⟩) | (go_at_call 44; refine (O2.out _).mono ?_; rintro e w' ⟨rfl, rfl⟩) | (go_at_call 32; refine (E2.out _).mono ?_; rintro e w' ⟨rfl, hb⟩; have hB := HB.stay (by assumption) hb) | (have hBB : HB w (Cod.beL 4 s.size) _ := (by assumption); obtain ⟨cs, hr, h8, htk⟩ := hBB.row; refine step_copy_row (by rfl) _ _ 55 9 (by rfl) 5 Tryd.underlying55 info5c (w.heap.size + 1) 4 4 4 (by rfl) G2 (by rfl) (by omega) cs 58 hr (by omega) ?_; have hBC := hBB.wrote G2 hr h8 htk (by rw [Cod.beL_len]; omega); have hBD := hBC.less))
  have H3 : HB w [b0, b1, b2, b3, b4, b5, b6, b7] (w'.setRow (w.heap.size + 1) (List.take 4 cs.toList ++ byteCells G2.data.toList ++ List.drop (4 + G2.size) cs.toList).toArray) := by
    have e : Cod.beL 4 s.size ++ G2.data.toList = [b0, b1, b2, b3, b4, b5, b6, b7] := by rw [← HBL.out, ← hG2]
    rw [← e]
    have e4 : (Cod.beL 4 s.size).length = 4 := Cod.beL_len _ _
    rw [e4] at hBC
    exact hBC
  clear hBC hBD hr htk h8 hBB hB hb H2 H2d O1 O2 E2 CV
  generalize w'.setRow (w.heap.size + 1) (List.take 4 cs.toList ++ byteCells G2.data.toList ++ List.drop (4 + G2.size) cs.toList).toArray = W3 at *
  have hfull := H3.full rfl
  simp only [List.map_cons, List.map_nil] at hfull
  obtain ⟨z, hres, hz⟩ := H3.res
  obtain ⟨r0, r1, r2, r3, r4, r5, r6, r7, rfl⟩ := eight_array z hz
  have x0 : W3.cell? ⟨w.heap.size + 1, 0, none⟩ = some (.int .u8 (b0.toNat : Int)) := cell_of hfull rfl
  have x1 : W3.cell? ⟨w.heap.size + 1, 1, none⟩ = some (.int .u8 (b1.toNat : Int)) := cell_of hfull rfl
  have x2 : W3.cell? ⟨w.heap.size + 1, 2, none⟩ = some (.int .u8 (b2.toNat : Int)) := cell_of hfull rfl
  have x3 : W3.cell? ⟨w.heap.size + 1, 3, none⟩ = some (.int .u8 (b3.toNat : Int)) := cell_of hfull rfl
  have x4 : W3.cell? ⟨w.heap.size + 1, 4, none⟩ = some (.int .u8 (b4.toNat : Int)) := cell_of hfull rfl
  have x5 : W3.cell? ⟨w.heap.size + 1, 5, none⟩ = some (.int .u8 (b5.toNat : Int)) := cell_of hfull rfl
  have x6 : W3.cell? ⟨w.heap.size + 1, 6, none⟩ = some (.int .u8 (b6.toNat : Int)) := cell_of hfull rfl
  have x7 : W3.cell? ⟨w.heap.size + 1, 7, none⟩ = some (.int .u8 (b7.toNat : Int)) := cell_of hfull rfl
  have f0 := frozen_of (i := 0) hres
  have y0 : W3.cell? ⟨w.heap.size, 0, none⟩ = some r0 := cell_of hres rfl
  have f1 := frozen_of (i := 1) hres
  have y1 : W3.cell? ⟨w.heap.size, 1, none⟩ = some r1 := cell_of hres rfl
  have f2 := frozen_of (i := 2) hres
  have y2 : W3.cell? ⟨w.heap.size, 2, none⟩ = some r2 := cell_of hres rfl
  have f3 := frozen_of (i := 3) hres
  have y3 : W3.cell? ⟨w.heap.size, 3, none⟩ = some r3 := cell_of hres rfl
  have f4 := frozen_of (i := 4) hres
  have y4 : W3.cell? ⟨w.heap.size, 4, none⟩ = some r4 := cell_of hres rfl
  have f5 := frozen_of (i := 5) hres
  have y5 : W3.cell? ⟨w.heap.size, 5, none⟩ = some r5 := cell_of hres rfl
  have f6 := frozen_of (i := 6) hres
  have y6 : W3.cell? ⟨w.heap.size, 6, none⟩ = some r6 := cell_of hres rfl
  have f7 := frozen_of (i := 7) hres
  have y7 : W3.cell? ⟨w.heap.size, 7, none⟩ = some r7 := cell_of hres rfl
  have HR := Lib.hid hres
  have HBe := Lib.hid H3.below
  clear hfull hres hz H3
  go_wp2
  obtain ⟨hh, hc⟩ := fin8 HR.out (.int .u8 (b0.toNat : Int)) (.int .u8 (b1.toNat : Int)) (.int .u8 (b2.toNat : Int)) (.int .u8 (b3.toNat : Int)) (.int .u8 (b4.toNat : Int)) (.int .u8 (b5.toNat : Int)) (.int .u8 (b6.toNat : Int)) (.int .u8 (b7.toNat : Int))
  refine bodyPost_ret (results_cell_row (p := 2) (ty := 58) rfl _ _ w.heap.size 58 _ (0, 0) _ rfl hh Tryd.underlying58 rfl (by kernel_rfl)) rfl ⟨rfl, ?_⟩
  exact HBe.out.trans (hc.below (B := w.heap.size) (fun i e => by omega) HBe.out.size)
end Go.Proofs.YtlpianjighhelaaDoor
