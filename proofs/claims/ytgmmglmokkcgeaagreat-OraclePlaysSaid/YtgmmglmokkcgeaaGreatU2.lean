/- Walk: copied: a command in memory of its own. -/
import Derived.Test.YtgmmglmokkcgeaaGreatU1
import Derived.Test.YtgmmglmokkcgeaaGreatT2
import Derived.Test.YtgmmglmokkcgeaaGreatA6
namespace Go.Proofs.YtgmmglmokkcgeaaGreat
set_option linter.unusedVariables false
set_option linter.unusedSimpArgs false
set_option linter.unusedSectionVars false
open Go.RowKit Mk Go.Sort

theorem el9 : El 9 1 16 := el_of (by kernel_rfl)
theorem el109 : El 109 2 24 := el_of (by kernel_rfl)
def needE (x : ByteArray × Nat) : List Value := [.string x.1, .int .u64 (x.2 : Nat)]
def needsV (l : List (ByteArray × Nat)) : List Value := l.flatMap needE
theorem needsV_len (l : List (ByteArray × Nat)) : (needsV l).length = l.length * 2 := by
  induction l with
  | nil => rfl
  | cons x l ih => simp only [needsV, List.flatMap_cons, List.length_append, List.length_cons] at *; rw [ih]; simp [needE]; omega
theorem needsV_at (l : List (ByteArray × Nat)) {i : Nat} (hi : i < l.length) : (needsV l)[i * 2]? = some (.string l[i].1) ∧ (needsV l)[i * 2 + 1]? = some (.int .u64 (l[i].2 : Nat)) := by
  have h0 := flat_at (f := needE) (s := 2) (fun _ => rfl) l i 0 hi (by decide)
  have h1 := flat_at (f := needE) (s := 2) (fun _ => rfl) l i 1 hi (by decide)
  exact ⟨h0, h1⟩
theorem NL.strsAt {w : World} {o : Option Addr} {c : Nat} {xs : List ByteArray} (h : NL w (.slice o xs.length c) xs) (hl : xs.length ≤ 9223372036854775807) : StrsAt w o xs := ⟨hl, fun i hi => by
  obtain ⟨g, cap, e, hc⟩ := h.cell (i := i) (s := xs[i]) (List.getElem?_eq_getElem hi)
  simp only [Value.slice.injEq] at e
  have hlt : g < w.heap.size := sl.lt h (by rw [e.1]; rfl)
  exact ⟨g, 0, e.1, hlt, by rw [Nat.zero_add]; exact hc⟩⟩
/-- The slice v holds these needs. -/
def NdL (w : World) (v : Value) (l : List (ByteArray × Nat)) : Prop := sl w 109 2 v l.length (needsV l)
theorem NdL.needsAt {w : World} {o : Option Addr} {c : Nat} {xs : List (ByteArray × Nat)} (h : NdL w (.slice o xs.length c) xs) (hl : xs.length ≤ 9223372036854775807) (h1 : ∀ x ∈ xs, x.2 < 18446744073709551616) (h2 : ∀ x ∈ xs, x.1.size ≤ maxLen) : NeedsAt w o xs := ⟨hl, fun i hi => by
  obtain ⟨a0, a1⟩ := needsV_at xs hi
  obtain ⟨g, cap, e, hc⟩ := sl.cell h a0
  obtain ⟨g', cap', e', hc'⟩ := sl.cell h a1
  simp only [Value.slice.injEq] at e e'
  rw [e.1] at e'
  have hg : g' = g := by have := e'.1; simp at this; exact this.symm
  subst hg
  have hlt : g' < w.heap.size := sl.lt h (by rw [e.1]; rfl)
  exact ⟨g', 0, e.1, hlt, by rw [Nat.zero_add]; exact hc, by rw [Nat.zero_add]; exact hc'⟩, h1, h2⟩
theorem NL.stay' {w w' : World} {v : Value} {xs : List ByteArray} (h : NL w v xs) (g : w.grownBy w' none) : NL w' v xs := sl.stay h (fun i hi => g.block i (sl.lt h hi) (fun e => by cases e))
section
variable {w : World} {o : OpM} {l : OpL}
theorem strs_src {w : World} {so : Option Addr} {xs : List ByteArray} (h : StrsAt w so xs) : 0 < xs.length → ∃ a, so = some a ∧ ∀ j u, (strs xs)[j]? = some u → w.cell? (a.add j) = some u := by
  intro h0
  obtain ⟨g, o, e, _, _⟩ := h.cell 0 h0
  refine ⟨_, e, fun j u hu => ?_⟩
  have hj : j < xs.length := by have := (List.getElem?_eq_some_iff.1 hu).1; simpa [strs] using this
  obtain ⟨g2, o2, e2, _, hc⟩ := h.cell j hj
  rw [e] at e2
  simp only [Option.some.injEq, Addr.mk.injEq] at e2
  obtain ⟨rfl, rfl, _⟩ := e2
  unfold strs at hu
  rw [List.getElem?_map, List.getElem?_eq_getElem hj] at hu
  simp only [Option.map_some, Option.some.injEq] at hu
  rw [Addr.add_mid, ← hu]
  exact hc
theorem needs_src {w : World} {so : Option Addr} {xs : List (ByteArray × Nat)} (h : NeedsAt w so xs) : 0 < xs.length → ∃ a, so = some a ∧ ∀ j u, (needsV xs)[j]? = some u → w.cell? (a.add j) = some u := by
  intro h0
  obtain ⟨g, o, e, _, _⟩ := h.cell 0 h0
  refine ⟨_, e, fun j u hu => ?_⟩
  have hj : j < xs.length * 2 := by have := (List.getElem?_eq_some_iff.1 hu).1; rwa [needsV_len] at this
  have hi : j / 2 < xs.length := by omega
  obtain ⟨a0, a1⟩ := needsV_at xs hi
  obtain ⟨g2, o2, e2, _, hc, hc'⟩ := h.cell (j / 2) hi
  rw [e] at e2
  simp only [Option.some.injEq, Addr.mk.injEq] at e2
  obtain ⟨rfl, rfl, _⟩ := e2
  rw [Addr.add_mid]
  obtain ⟨q, hq⟩ : ∃ q, j / 2 = q := ⟨_, rfl⟩
  simp only [hq] at a0 a1 hc hc'
  rcases (show j = q * 2 ∨ j = q * 2 + 1 by omega) with rfl | rfl
  · rw [a0] at hu
    cases hu
    exact hc
  · rw [a1] at hu
    cases hu
    rw [← Nat.add_assoc]
    exact hc'
theorem fin9 {w : World} {kb : Nat} {t : TypeId} {c0 c1 c2 c3 c4 c5 c6 c7 c8 : Value} (h : w.heap[kb]? = some (.cells #[c0, c1, c2, c3, c4, c5, c6, c7, c8] t)) (v0 v1 v2 v3 v4 v5 v6 v7 v8 : Value) :
    (((((((((w.setCell ⟨kb, 0, none⟩ v0).setCell ⟨kb, 1, none⟩ v1).setCell ⟨kb, 2, none⟩ v2).setCell ⟨kb, 3, none⟩ v3).setCell ⟨kb, 4, none⟩ v4).setCell ⟨kb, 5, none⟩ v5).setCell ⟨kb, 6, none⟩ v6).setCell ⟨kb, 7, none⟩ v7).setCell ⟨kb, 8, none⟩ v8).heap[kb]? = some (.cells #[v0, v1, v2, v3, v4, v5, v6, v7, v8] t) ∧
    Chg (fun g => g = kb) w (((((((((w.setCell ⟨kb, 0, none⟩ v0).setCell ⟨kb, 1, none⟩ v1).setCell ⟨kb, 2, none⟩ v2).setCell ⟨kb, 3, none⟩ v3).setCell ⟨kb, 4, none⟩ v4).setCell ⟨kb, 5, none⟩ v5).setCell ⟨kb, 6, none⟩ v6).setCell ⟨kb, 7, none⟩ v7).setCell ⟨kb, 8, none⟩ v8) := by
  have h0 : (w.setCell ⟨kb, 0, none⟩ v0).heap[kb]? = some (.cells #[v0, c1, c2, c3, c4, c5, c6, c7, c8] t) := by rw [Mk.heap_setCell_same h v0]; rfl
  have k0 : Chg (fun g => g = kb) w (w.setCell ⟨kb, 0, none⟩ v0) := (Chg.refl (fun g => g = kb) w).setCell (a := ⟨kb, 0, none⟩) (Or.inl rfl) v0
  generalize (w.setCell ⟨kb, 0, none⟩ v0) = w0 at *
  have h1 : (w0.setCell ⟨kb, 1, none⟩ v1).heap[kb]? = some (.cells #[v0, v1, c2, c3, c4, c5, c6, c7, c8] t) := by rw [Mk.heap_setCell_same h0 v1]; rfl
  have k1 : Chg (fun g => g = kb) w (w0.setCell ⟨kb, 1, none⟩ v1) := k0.setCell (a := ⟨kb, 1, none⟩) (Or.inl rfl) v1
  generalize (w0.setCell ⟨kb, 1, none⟩ v1) = w1 at *
  have h2 : (w1.setCell ⟨kb, 2, none⟩ v2).heap[kb]? = some (.cells #[v0, v1, v2, c3, c4, c5, c6, c7, c8] t) := by rw [Mk.heap_setCell_same h1 v2]; rfl
  have k2 : Chg (fun g => g = kb) w (w1.setCell ⟨kb, 2, none⟩ v2) := k1.setCell (a := ⟨kb, 2, none⟩) (Or.inl rfl) v2
  generalize (w1.setCell ⟨kb, 2, none⟩ v2) = w2 at *
  have h3 : (w2.setCell ⟨kb, 3, none⟩ v3).heap[kb]? = some (.cells #[v0, v1, v2, v3, c4, c5, c6, c7, c8] t) := by rw [Mk.heap_setCell_same h2 v3]; rfl
  have k3 : Chg (fun g => g = kb) w (w2.setCell ⟨kb, 3, none⟩ v3) := k2.setCell (a := ⟨kb, 3, none⟩) (Or.inl rfl) v3
  generalize (w2.setCell ⟨kb, 3, none⟩ v3) = w3 at *
  have h4 : (w3.setCell ⟨kb, 4, none⟩ v4).heap[kb]? = some (.cells #[v0, v1, v2, v3, v4, c5, c6, c7, c8] t) := by rw [Mk.heap_setCell_same h3 v4]; rfl
  have k4 : Chg (fun g => g = kb) w (w3.setCell ⟨kb, 4, none⟩ v4) := k3.setCell (a := ⟨kb, 4, none⟩) (Or.inl rfl) v4
  generalize (w3.setCell ⟨kb, 4, none⟩ v4) = w4 at *
  have h5 : (w4.setCell ⟨kb, 5, none⟩ v5).heap[kb]? = some (.cells #[v0, v1, v2, v3, v4, v5, c6, c7, c8] t) := by rw [Mk.heap_setCell_same h4 v5]; rfl
  have k5 : Chg (fun g => g = kb) w (w4.setCell ⟨kb, 5, none⟩ v5) := k4.setCell (a := ⟨kb, 5, none⟩) (Or.inl rfl) v5
  generalize (w4.setCell ⟨kb, 5, none⟩ v5) = w5 at *
  have h6 : (w5.setCell ⟨kb, 6, none⟩ v6).heap[kb]? = some (.cells #[v0, v1, v2, v3, v4, v5, v6, c7, c8] t) := by rw [Mk.heap_setCell_same h5 v6]; rfl
  have k6 : Chg (fun g => g = kb) w (w5.setCell ⟨kb, 6, none⟩ v6) := k5.setCell (a := ⟨kb, 6, none⟩) (Or.inl rfl) v6
  generalize (w5.setCell ⟨kb, 6, none⟩ v6) = w6 at *
  have h7 : (w6.setCell ⟨kb, 7, none⟩ v7).heap[kb]? = some (.cells #[v0, v1, v2, v3, v4, v5, v6, v7, c8] t) := by rw [Mk.heap_setCell_same h6 v7]; rfl
  have k7 : Chg (fun g => g = kb) w (w6.setCell ⟨kb, 7, none⟩ v7) := k6.setCell (a := ⟨kb, 7, none⟩) (Or.inl rfl) v7
  generalize (w6.setCell ⟨kb, 7, none⟩ v7) = w7 at *
  have h8 : (w7.setCell ⟨kb, 8, none⟩ v8).heap[kb]? = some (.cells #[v0, v1, v2, v3, v4, v5, v6, v7, v8] t) := by rw [Mk.heap_setCell_same h7 v8]; rfl
  have k8 : Chg (fun g => g = kb) w (w7.setCell ⟨kb, 8, none⟩ v8) := k7.setCell (a := ⟨kb, 8, none⟩) (Or.inl rfl) v8
  exact ⟨h8, k8⟩
set_option maxRecDepth 100000 in
set_option maxHeartbeats 4000000 in
theorem copied_any (ho : OpAt w o l) (hx : OpX (o, l)) :
    Calls Tryz.prog 22 #[.agg (opC o l)] w fun e w' => ∃ l' : OpL, e = .returned (.agg (opC o l')) ∧ NL w' (.slice l'.ko o.keys.length l'.kc) o.keys ∧ NdL w' (.slice l'.no o.needs.length l'.nc) o.needs ∧
      (∀ g, (Value.slice l'.ko o.keys.length l'.kc).ownBlock = some g → w.heap.size ≤ g) ∧ (∀ g, (Value.slice l'.no o.needs.length l'.nc).ownBlock = some g → w.heap.size ≤ g) ∧ Chg (fun _ => False) w w' := by
  obtain ⟨i9, z9, hi9, hz9, hs9, hb9, hzs9⟩ := el9.has
  obtain ⟨i10, z10, hi10, hz10, hs10, hb10, hzs10⟩ := el109.has
  have k1 := hx.kw
  have k2 := hx.nw
  unfold reachBytes at k1 k2
  have m1 : 0 + o.keys.length ≤ maxLen := by unfold maxLen; simp only at k1; omega
  have m2 : 0 + o.needs.length ≤ maxLen := by unfold maxLen; simp only at k2; omega
  have b1 : (0 + o.keys.length) * 16 ≤ 140737488355328 := by simp only at k1; omega
  have b2 : (0 + o.needs.length) * 24 ≤ 140737488355328 := by simp only at k2; omega
  have HX := Lib.hid hx
  obtain ⟨K, hK⟩ : ∃ K, o.keys.length = K := ⟨_, rfl⟩
  obtain ⟨N, hN⟩ : ∃ N, o.needs.length = N := ⟨_, rfl⟩
  obtain ⟨W0, HW0⟩ : ∃ W, Hid ((w.alloc (.cells (opC o l) 28)).alloc (.cells #[Value.int .u8 0, .int .u32 0, .int .u64 0, .slice none 0 0, .slice none 0 0, .string ⟨#[]⟩, .int .u32 0, .int .u32 0, .int .u64 0] 28) = W) := ⟨_, Lib.hid rfl⟩
  obtain ⟨ob, HOB⟩ : ∃ k, Hid (w.heap.size = k) := ⟨_, Lib.hid rfl⟩
  have hs0 : W0.heap.size = ob + 2 := by rw [← HW0.out, ← HOB.out]; simp
  have hc0 : Chg (fun _ => False) w W0 := by rw [← HW0.out]; exact ((Chg.refl _ _).alloc _).alloc _
  have hb0 : W0.heap[ob]? = some (.cells (opC o l) 28) := by rw [← HW0.out, ← HOB.out, Below.heap_alloc _ _ _ (by simp)]; exact Go.heap_alloc_new _ _
  have hr0 : W0.heap[ob + 1]? = some (.cells #[Value.int .u8 0, .int .u32 0, .int .u64 0, .slice none 0 0, .slice none 0 0, .string ⟨#[]⟩, .int .u32 0, .int .u32 0, .int .u64 0] 28) := by
    rw [← HW0.out, ← HOB.out]
    have := Go.heap_alloc_new (w.alloc (.cells (opC o l) 28)) (.cells #[Value.int .u8 0, .int .u32 0, .int .u64 0, .slice none 0 0, .slice none 0 0, .string ⟨#[]⟩, .int .u32 0, .int .u32 0, .int .u64 0] 28)
    rwa [World.size_alloc] at this
  have k3 : W0.cell? ⟨ob, 3, none⟩ = some (.slice l.ko K l.kc) := by rw [← hK]; exact cell_of hb0 rfl
  have S1 := strs_src (ho.same hc0).keys
  have l1 : (strs o.keys).length = K * 1 := by rw [Nat.mul_one, ← hK]; simp [strs]
  have o1 : ∀ u ∈ strs o.keys, u.oneCell' = true := by simp [strs, Value.oneCell']
  have x1 : K = 0 → l.ko = none → l.kc = 0 := fun _ h => hx.k0 h
  have l2 : (needsV o.needs).length = N * 2 := by rw [needsV_len, hN]
  have o2 : ∀ u ∈ needsV o.needs, u.oneCell' = true := by
    intro u hu
    unfold needsV at hu
    obtain ⟨y, _, hy⟩ := List.mem_flatMap.1 hu
    simp [needE] at hy
    rcases hy with rfl | rfl <;> rfl
  have x2 : N = 0 → l.no = none → l.nc = 0 := fun _ h => hx.n0 h
  rw [hK] at m1 b1 S1
  rw [hN] at m2 b2
  have HO := Lib.hid ho
  have HK := Lib.hid hK
  have HN := Lib.hid hN
  have HS0 := Lib.hid hs0
  have HC0 := Lib.hid hc0
  have HB0 := Lib.hid hb0
  have HR0 := Lib.hid hr0
  have S1 := Lib.hid S1
  have L1 := Lib.hid l1
  have L2 := Lib.hid l2
  have O1 := Lib.hid o1
  have O2 := Lib.hid o2
  have X1 := Lib.hid x1
  have X2 := Lib.hid x2
  have HI9 := Lib.hid (And.intro hi9 (And.intro hz9 (And.intro hs9 (And.intro hb9 hzs9))))
  have HI10 := Lib.hid (And.intro hi10 (And.intro hz10 (And.intro hs10 (And.intro hb10 hzs10))))
  clear ho hx k1 k2 hK hN hs0 hc0 hb0 hr0 l1 l2 o1 o2 x1 x2 hi9 hz9 hs9 hb9 hzs9 hi10 hz10 hs10 hb10 hzs10
  go_enter Tryz.func22, Tryz.ntmps22
  go_upto_region 1 with fail
  rw [HW0.out, HOB.out]
  go_upto_region 2 with (refine wpList_append_sl (by rfl) (.const (.slice none 0 0)) (.tmp 4) 25 (by rfl) 9 i9 z9 1 16 Tryz.underlying25 HI9.out.1 HI9.out.2.1 HI9.out.2.2.1 HI9.out.2.2.2.1 HI9.out.2.2.2.2 (by decide) (.slice none 0 0) 0 [] (by rfl) (sl_nil _ _ _) l.ko K l.kc (strs o.keys) (by rfl) L1.out S1.out X1.out O1.out m1 b1 ?_; intro v1 w1 hs1 hg1 ha1; have HS1 := Lib.hid hs1; have HG1 := Lib.hid hg1; have HA1 := Lib.hid ha1; clear hs1 hg1 ha1; obtain ⟨o1, c1, hv1⟩ := sl_shape HS1.out; rw [Nat.zero_add] at hv1; subst hv1; have hb1 := (HG1.out.block ob (by rw [HS0.out]; omega) (fun e => by simp [Value.ownBlock] at e)).trans HB0.out; have d3 := cell_of hb1 (i := 3) (v := .slice l.ko o.keys.length l.kc) rfl; have d3f := frozen_of (i := 3) hb1; have HB1 := Lib.hid hb1; clear hb1)
  obtain ⟨W2, HW2⟩ : ∃ W, Hid (w1.setCell ⟨ob, 3, none⟩ (.slice o1 K c1) = W) := ⟨_, Lib.hid rfl⟩
  have hn1 : ∀ g, (Value.slice o1 K c1).ownBlock = some g → ob + 2 ≤ g := fun g hg => by
    rcases HA1.out with e | e
    · rw [e] at hg; simp [Value.ownBlock] at hg
    · rw [e, HS0.out] at hg; simp at hg; omega
  have hc2 : Chg (fun _ => False) w W2 := by
    rw [← HW2.out]
    exact (HC0.out.grown HG1.out (fun i hi => by simp [Value.ownBlock] at hi)).setCell (a := ⟨ob, 3, none⟩) (Or.inr (by rw [HOB.out]; exact Nat.le_refl _)) _
  have hb2 : W2.heap[ob]? = some (.cells (opC o ⟨o1, c1, l.no, l.nc⟩) 28) := by rw [← HW2.out, Mk.heap_setCell_same HB1.out, ← HK.out]; rfl
  have hr2 : W2.heap[ob + 1]? = some (.cells #[.int .u8 0, .int .u32 0, .int .u64 0, .slice none 0 0, .slice none 0 0, .string ⟨#[]⟩, .int .u32 0, .int .u32 0, .int .u64 0] 28) := by
    rw [← HW2.out, Below.heap_setCell w1 ⟨ob, 3, none⟩ _ (ob + 1) (by show ob + 1 ≠ ob; omega)]
    exact (HG1.out.block (ob + 1) (by rw [HS0.out]; omega) (fun e => by simp [Value.ownBlock] at e)).trans HR0.out
  have hl2 : NL W2 (.slice o1 K c1) o.keys := by
    have h5 := HS1.out
    rw [Nat.zero_add, List.nil_append] at h5
    unfold NL
    rw [HK.out, ← HW2.out]
    exact h5.stay (fun g hg => Below.heap_setCell w1 ⟨ob, 3, none⟩ _ g (by have := hn1 g hg; show g ≠ ob; omega))
  have hs2 : ob + 2 ≤ W2.heap.size := by rw [← HW2.out, setCell_size]; have := HG1.out.size; have := HS0.out; omega
  have S2 := Lib.hid (show 0 < N → ∃ a, l.no = some a ∧ ∀ j u, (needsV o.needs)[j]? = some u → W2.cell? (a.add j) = some u by have := needs_src (HO.out.same hc2).needs; rw [HN.out] at this; exact this)
  have k4 : W2.cell? ⟨ob, 4, none⟩ = some (.slice l.no N l.nc) := by rw [← HN.out]; exact cell_of hb2 rfl
  have HN1 := Lib.hid hn1
  have HC2 := Lib.hid hc2
  have HB2 := Lib.hid hb2
  have HR2 := Lib.hid hr2
  have HL2 := Lib.hid hl2
  have HS2 := Lib.hid hs2
  clear hn1 hc2 hb2 hr2 hl2 hs2 k3 d3 d3f HB1 HS1 HG1 HA1 HR0 HB0 HC0 HS0
  rw [HW2.out]
  clear HW2 HW0
  go_upto_region 3 with (refine wpList_append_sl (by rfl) (.const (.slice none 0 0)) (.tmp 8) 26 (by rfl) 109 i10 z10 2 24 Tryz.underlying26 HI10.out.1 HI10.out.2.1 HI10.out.2.2.1 HI10.out.2.2.2.1 HI10.out.2.2.2.2 (by decide) (.slice none 0 0) 0 [] (by rfl) (sl_nil _ _ _) l.no N l.nc (needsV o.needs) (by rfl) L2.out S2.out X2.out O2.out m2 b2 ?_; intro v2 w3 hs3 hg3 ha3; have HS3 := Lib.hid hs3; have HG3 := Lib.hid hg3; have HA3 := Lib.hid ha3; clear hs3 hg3 ha3; obtain ⟨o2, c2, hv2⟩ := sl_shape HS3.out; rw [Nat.zero_add] at hv2; subst hv2; have hb3 := (HG3.out.block ob (by have := HS2.out; omega) (fun e => by simp [Value.ownBlock] at e)).trans HB2.out; have d4 := cell_of hb3 (i := 4) (v := .slice l.no o.needs.length l.nc) rfl; have d4f := frozen_of (i := 4) hb3; have HB3 := Lib.hid hb3; clear hb3)
  obtain ⟨W4, HW4⟩ : ∃ W, Hid (w3.setCell ⟨ob, 4, none⟩ (.slice o2 N c2) = W) := ⟨_, Lib.hid rfl⟩
  have hn2 : ∀ g, (Value.slice o2 N c2).ownBlock = some g → ob + 2 ≤ g := fun g hg => by
    rcases HA3.out with e | e
    · rw [e] at hg; simp [Value.ownBlock] at hg
    · rw [e] at hg; have := HS2.out; simp at hg; omega
  have hc4 : Chg (fun _ => False) w W4 := by
    rw [← HW4.out]
    exact (HC2.out.grown HG3.out (fun i hi => by simp [Value.ownBlock] at hi)).setCell (a := ⟨ob, 4, none⟩) (Or.inr (by rw [HOB.out]; exact Nat.le_refl _)) _
  have hb4 : W4.heap[ob]? = some (.cells (opC o ⟨o1, c1, o2, c2⟩) 28) := by rw [← HW4.out, Mk.heap_setCell_same HB3.out, ← HN.out]; rfl
  have hr4 : W4.heap[ob + 1]? = some (.cells #[.int .u8 0, .int .u32 0, .int .u64 0, .slice none 0 0, .slice none 0 0, .string ⟨#[]⟩, .int .u32 0, .int .u32 0, .int .u64 0] 28) := by
    rw [← HW4.out, Below.heap_setCell w3 ⟨ob, 4, none⟩ _ (ob + 1) (by show ob + 1 ≠ ob; omega)]
    exact (HG3.out.block (ob + 1) (by have := HS2.out; omega) (fun e => by simp [Value.ownBlock] at e)).trans HR2.out
  have hl4 : NL W4 (.slice o1 K c1) o.keys := by
    rw [← HW4.out]
    have h6 : sl w3 9 1 (.slice o1 K c1) o.keys.length (strs o.keys) := HL2.out.stay' HG3.out
    exact sl.stay h6 (fun g hg => Below.heap_setCell w3 ⟨ob, 4, none⟩ _ g (by have := HN1.out g hg; show g ≠ ob; omega))
  have hd4 : NdL W4 (.slice o2 N c2) o.needs := by
    have h5 := HS3.out
    rw [Nat.zero_add, List.nil_append] at h5
    unfold NdL
    rw [HN.out, ← HW4.out]
    exact h5.stay (fun g hg => Below.heap_setCell w3 ⟨ob, 4, none⟩ _ g (by have := hn2 g hg; show g ≠ ob; omega))
  have HN2 := Lib.hid hn2
  have HC4 := Lib.hid hc4
  have HR4 := Lib.hid hr4
  have HL4 := Lib.hid hl4
  have HD4 := Lib.hid hd4
  have hb5 : W4.heap[ob]? = some (.cells #[.int .u8 (o.k : Nat), .int .u32 (o.n : Nat), .int .u64 (o.st : Nat), .slice o1 K c1, .slice o2 N c2, .string o.pred, .int .u32 (o.g : Nat), .int .u32 (o.to : Nat), .int .u64 (o.at_ : Nat)] 28) := by have h7 := hb4; unfold opC at h7; rw [HK.out, HN.out] at h7; exact h7
  have e0 : W4.cell? ⟨ob, 0, none⟩ = some (.int .u8 (o.k : Nat)) := cell_of hb5 rfl
  have e1 : W4.cell? ⟨ob, 1, none⟩ = some (.int .u32 (o.n : Nat)) := cell_of hb5 rfl
  have e2 : W4.cell? ⟨ob, 2, none⟩ = some (.int .u64 (o.st : Nat)) := cell_of hb5 rfl
  have e3 : W4.cell? ⟨ob, 3, none⟩ = some (.slice o1 K c1) := cell_of hb5 rfl
  have e4 : W4.cell? ⟨ob, 4, none⟩ = some (.slice o2 N c2) := cell_of hb5 rfl
  have e5 : W4.cell? ⟨ob, 5, none⟩ = some (.string o.pred) := cell_of hb5 rfl
  have e6 : W4.cell? ⟨ob, 6, none⟩ = some (.int .u32 (o.g : Nat)) := cell_of hb5 rfl
  have e7 : W4.cell? ⟨ob, 7, none⟩ = some (.int .u32 (o.to : Nat)) := cell_of hb5 rfl
  have e8 : W4.cell? ⟨ob, 8, none⟩ = some (.int .u64 (o.at_ : Nat)) := cell_of hb5 rfl
  have z0 : W4.cell? ⟨ob + 1, 0, none⟩ = some (.int .u8 0) := cell_of hr4 rfl
  have f0 : W4.frozen? ⟨ob + 1, 0, none⟩ = false := frozen_of hr4
  have z1 : W4.cell? ⟨ob + 1, 1, none⟩ = some (.int .u32 0) := cell_of hr4 rfl
  have f1 : W4.frozen? ⟨ob + 1, 1, none⟩ = false := frozen_of hr4
  have z2 : W4.cell? ⟨ob + 1, 2, none⟩ = some (.int .u64 0) := cell_of hr4 rfl
  have f2 : W4.frozen? ⟨ob + 1, 2, none⟩ = false := frozen_of hr4
  have z3 : W4.cell? ⟨ob + 1, 3, none⟩ = some (.slice none 0 0) := cell_of hr4 rfl
  have f3 : W4.frozen? ⟨ob + 1, 3, none⟩ = false := frozen_of hr4
  have z4 : W4.cell? ⟨ob + 1, 4, none⟩ = some (.slice none 0 0) := cell_of hr4 rfl
  have f4 : W4.frozen? ⟨ob + 1, 4, none⟩ = false := frozen_of hr4
  have z5 : W4.cell? ⟨ob + 1, 5, none⟩ = some (.string ⟨#[]⟩) := cell_of hr4 rfl
  have f5 : W4.frozen? ⟨ob + 1, 5, none⟩ = false := frozen_of hr4
  have z6 : W4.cell? ⟨ob + 1, 6, none⟩ = some (.int .u32 0) := cell_of hr4 rfl
  have f6 : W4.frozen? ⟨ob + 1, 6, none⟩ = false := frozen_of hr4
  have z7 : W4.cell? ⟨ob + 1, 7, none⟩ = some (.int .u32 0) := cell_of hr4 rfl
  have f7 : W4.frozen? ⟨ob + 1, 7, none⟩ = false := frozen_of hr4
  have z8 : W4.cell? ⟨ob + 1, 8, none⟩ = some (.int .u64 0) := cell_of hr4 rfl
  have f8 : W4.frozen? ⟨ob + 1, 8, none⟩ = false := frozen_of hr4
  clear hn2 hc4 hb4 hr4 hl4 hd4 hb5 k4 d4 d4f HB3 HS3 HG3 HA3 HR2 HB2 HC2 HS2
  rw [HW4.out]
  clear HW4
  go_wp2_with fail
  obtain ⟨hh, hc⟩ := fin9 HR4.out (.int .u8 (o.k : Nat)) (.int .u32 (o.n : Nat)) (.int .u64 (o.st : Nat)) (.slice o1 K c1) (.slice o2 N c2) (.string o.pred) (.int .u32 (o.g : Nat)) (.int .u32 (o.to : Nat)) (.int .u64 (o.at_ : Nat))
  refine bodyPost_ret (results_cell_row (p := 2) (ty := 28) rfl _ _ (ob + 1) 28 _ (0, 0) _ rfl hh Tryz.underlying28 rfl (by kernel_rfl)) rfl ⟨⟨o1, c1, o2, c2⟩, ?_, ?_, ?_, ?_, ?_, ?_⟩
  · rw [← HK.out, ← HN.out]
  · rw [HK.out]; exact sl.stay HL4.out (fun g hg => hc.block g (sl.lt HL4.out hg) (by have := HN1.out g hg; omega))
  · rw [HN.out]; exact sl.stay HD4.out (fun g hg => hc.block g (sl.lt HD4.out hg) (by have := HN2.out g hg; omega))
  · intro g hg; rw [HK.out] at hg; have := HN1.out g hg; have := HOB.out; omega
  · intro g hg; rw [HN.out] at hg; have := HN2.out g hg; have := HOB.out; omega
  · exact HC4.out.trans' hc (fun i hi => Or.inr (by have := HOB.out; omega))
end
end Go.Proofs.YtgmmglmokkcgeaaGreat
