/- Walks: does. -/
import Derived.Test.YtjflkmihkfbgpaaW3
namespace Go.Proofs.Ytjflkmihkfbgpaa
open Go.RowKit Mk Go.Sort

section
variable {w : World} {b r1 r2 : Nat} {v : Value} {ts : List (Value × Thing)} {F : Nat → Prop} {S : Nat} {d : DiskM}

/-- Behind a thing that was done. -/
def putM (d : DiskM) (t : Thing) : DiskM := ⟨d.room, act t.1 d.now t.2, d.kept, d.T ++ [t]⟩

theorem info64 : ∃ (i : TypeInfo) (z : Value), Try.prog.info? 64 = some i ∧ i.zero = some z ∧ i.size = 2 ∧ i.bytes = 24 ∧ z.cells.size = 2 := by
  have h : ((Try.prog.info? 64).map fun i => (i.size, i.bytes, i.zero.map (·.cells.size))) = some (2, 24, some 2) := by kernel_rfl
  cases hi : Try.prog.info? 64 with
  | none => rw [hi] at h; cases h
  | some i =>
    rw [hi] at h
    simp only [Option.map_some, Option.some.injEq, Prod.mk.injEq] at h
    obtain ⟨h1, h2, h3⟩ := h
    cases hz : i.zero with
    | none => rw [hz] at h3; cases h3
    | some z => rw [hz] at h3; exact ⟨i, z, rfl, hz, h1, h2, by simpa using h3⟩

theorem capt_len {f : Value} {dd : Do} (h : capt w f dd) : f.oneCell' = true := by
  cases dd with
  | app n => obtain ⟨_, c, rfl, _⟩ := h; rfl
  | wr n => obtain ⟨_, c, rfl, _⟩ := h; rfl
  | trunc n k => obtain ⟨_, c, c', rfl, _⟩ := h; rfl
  | ren x y => obtain ⟨_, _, c, c', rfl, _⟩ := h; rfl
  | rem n => obtain ⟨_, c, rfl, _⟩ := h; rfl

/-- The thing is laid up: w1 is the world behind what was done to the files; W2 behind the append. -/
theorem disk_put (h : DiskRep w b r1 r2 v ts F S d) {f : Value} {dd : Do} {s : ByteArray} (hc : capt w f dd) (hm : may dd d.now) (hS : S + s.size + 1 ≤ 1099511627776)
    {w1 W2 : World} (h1 : files w1 r1 (act dd d.now s)) (c1 : Chg (fun g => g = r1) w w1) {row : Obj} {v' : Value}
    (hsl : sl W2 64 2 v' (ts.length + 1) (tcells ts ++ [f, .string s])) (hg : (w1.alloc row).grownBy W2 v.ownBlock) (hat : v'.ownBlock = v.ownBlock ∨ v'.ownBlock = some (w1.alloc row).heap.size) :
    DiskIs (W2.setCell ⟨b, 3, none⟩ v') b (fun g => F g ∨ w.heap.size ≤ g) (S + s.size + 1) (putM d (dd, s)) ∧ Chg (own b r1 r2 v) w (W2.setCell ⟨b, 3, none⟩ v') := by
  obtain ⟨n1, n2, n3⟩ := h.nes
  obtain ⟨l0, l1, l2⟩ := h.lt
  have hz : (w1.alloc row).heap.size = w1.heap.size + 1 := by simp
  have hz1 := c1.size
  have cW : Chg (own b r1 r2 v) w W2 := by
    refine ⟨hg.os.trans c1.os, hg.tape.trans c1.tape, hg.output.trans c1.output, by have := hg.size; omega, fun g hlt hF => ?_⟩
    rw [hg.block g (by omega) (fun e => hF (Or.inr (Or.inr (Or.inr e.symm)))), Below.heap_alloc _ _ _ (by omega), c1.block g hlt (fun e => hF (Or.inr (Or.inl e)))]
  have cE : Chg (own b r1 r2 v) w (W2.setCell ⟨b, 3, none⟩ v') := cW.setCell (Or.inl (Or.inl rfl)) _
  have hK := h.keeps cE
  have old : ∀ g, g < w.heap.size → g ≠ r1 → v.ownBlock ≠ some g → W2.heap[g]? = w.heap[g]? := fun g hlt a1 a2 => by
    rw [hg.block g (by omega) (fun e => a2 e.symm), Below.heap_alloc _ _ _ (by omega), c1.block g hlt a1]
  have hb2 : W2.heap[b]? = some (.cells #[.int .i64 d.room, .map (some r1), .map (some r2), v] 57) := by rw [old b l0 n1 (fun e => (n3 b e).1 rfl), h.disk]
  have hv' : ∀ g, v'.ownBlock = some g → g ≠ b ∧ g ≠ r1 ∧ g ≠ r2 ∧ (F g ∨ w.heap.size ≤ g) := fun g hgg => by
    rcases hat with e | e
    · rw [e] at hgg
      exact ⟨(n3 g hgg).1, (n3 g hgg).2.1, (n3 g hgg).2.2, Or.inl (h.fv g hgg)⟩
    · rw [e] at hgg
      simp only [Option.some.injEq] at hgg
      exact ⟨by omega, by omega, by omega, Or.inr (by omega)⟩
  refine ⟨⟨r1, r2, v', ts ++ [(f, (dd, s))], ?_⟩, cE⟩
  have hf : capt (W2.setCell ⟨b, 3, none⟩ v') f dd := hK.capt hc
  refine ⟨?_, ?_, ?_, h.ne, ?_, ?_, ?_, ?_, ?_, ?_, ?_, h.room, Or.inl h.fb, Or.inl h.f1, Or.inl h.f2, fun g hgg => (hv' g hgg).2.2.2⟩
  · rw [Mk.heap_setCell_same hb2]
    simp [putM]
  · refine h1.stay ?_
    rw [Below.heap_setCell _ _ _ _ n1.symm, hg.block r1 (by omega) (fun e => (n3 r1 e.symm).2.1 rfl), Below.heap_alloc _ _ _ (by omega)]
  · refine h.kept.stay ?_
    rw [Below.heap_setCell _ _ _ _ n2.symm, old r2 l2 h.ne.symm (fun e => (n3 r2 e).2.2 rfl)]
  · simp [putM, h.things]
  · have : tcells (ts ++ [(f, (dd, s))]) = tcells ts ++ [f, .string s] := by simp [tcells]
    rw [this, List.length_append]
    exact hsl.stay (fun g hgg => Below.heap_setCell _ _ _ _ (hv' g hgg).1)
  · intro t ht
    rcases List.mem_append.1 ht with ht | ht
    · exact hK.capt (h.capt t ht)
    · simp at ht; subst ht; exact hf
  · refine mays_append.2 ⟨h.mays, ?_, trivial⟩
    exact may_perm h.acts.symm h.now.apart hm
  · show (acts d.kept (d.T ++ [(dd, s)])).Perm (act dd d.now s)
    rw [acts_append]
    exact act_perm h.acts (acts_apart h.kept.apart _) dd s
  · have h1 := act_tot dd d.now s
    have h2 := h.size
    have h3 : bulk (d.T ++ [(dd, s)]) = bulk d.T + s.size := by simp [bulk]
    refine ⟨?_, ?_, hS⟩
    · show tot (act dd d.now s) ≤ _
      omega
    · show tot d.kept + bulk (d.T ++ [(dd, s)]) ≤ _
      rw [h3]; omega
  · have := h.len
    simp [putM]
    omega

theorem cell_new_two {w : World} {g : Nat} {u v : Value} {t : TypeId} (h : w.heap[g]? = some (.cells #[u, v] t)) : ∀ j x, [u, v][j]? = some x → w.cell? ((⟨g, 0, none⟩ : Addr).add j) = some x := by
  intro j x hj
  match j, hj with
  | 0, hj =>
    simp at hj
    subst hj
    simp [Addr.add, World.cell?, h]
  | 1, hj =>
    simp at hj
    subst hj
    simp [Addr.add, World.cell?, h]
theorem sl_shape {e : TypeId} {size n : Nat} {v : Value} {xs : List Value} (h : sl w e size v n xs) : ∃ ao cp, v = .slice ao n cp := by
  rcases h.2 with ⟨e, e0⟩ | ⟨g, cap, cur, e, _⟩
  · exact ⟨none, 0, by rw [e, e0]⟩
  · exact ⟨_, _, e⟩
theorem DiskRep.shape (h : DiskRep w b r1 r2 v ts F S d) : ∃ ao cp, v = .slice ao ts.length cp := by
  rcases h.loose.2 with ⟨e, e0⟩ | ⟨g, cap, cur, e, _⟩
  · exact ⟨none, 0, by rw [e, e0]⟩
  · exact ⟨_, _, e⟩

set_option maxRecDepth 100000 in
set_option maxHeartbeats 1000000 in
theorem does_any (h : DiskRep w b r1 r2 v ts F S d) {f : Value} {dd : Do} (hc : capt w f dd) (hm : may dd d.now) (s : ByteArray) (hS : S + s.size + 1 ≤ 1099511627776) :
    Calls Try.prog 30 #[.pointer (some ⟨b, 0, none⟩), .string s, f] w fun e w' => e = .returned (.int .i64 0) ∧ DiskIs w' b (fun g => F g ∨ w.heap.size ≤ g) (S + s.size + 1) (putM d (dd, s)) ∧ Chg (own b r1 r2 v) w w' := by
  have c1 := h.cells.2.1
  have c3 := h.cells.2.2.2
  have ln := h.len
  rw [← h.things, List.length_map] at ln
  obtain ⟨ao, cp, rfl⟩ := h.shape
  have nb := h.nes.1
  have nv := h.nes.2.2 b
  have tb : tot d.now + s.size ≤ 1099511627776 := by have := h.size.1; omega
  have HP := Lib.hid (fun (w1 W2 : World) h1 c1 row v' hsl hg hat => disk_put h (dd := dd) (f := f) (s := s) hc hm hS (w1 := w1) (W2 := W2) h1 c1 (row := row) (v' := v') hsl hg hat)
  have HF := Lib.hid (fun (w1 W2 : World) (row : Obj) (k1 : Chg (fun g => g = r1) w w1) (hg : (w1.alloc row).grownBy W2 (Value.slice ao ts.length cp).ownBlock) => (show W2.frozen? ⟨b, 3, none⟩ = false ∧ W2.cell? ⟨b, 3, none⟩ = some (.slice ao ts.length cp) from (fun hh => ⟨frozen_of hh, cell_of hh (by simp)⟩) (show W2.heap[b]? = some (.cells #[.int .i64 d.room, .map (some r1), .map (some r2), .slice ao ts.length cp] 57) by
    have := k1.size
    rw [hg.block b (by have := h.lt.1; simp; omega) (fun e => nv e.symm |>.1 rfl), Below.heap_alloc _ _ _ (by have := h.lt.1; omega), k1.block b h.lt.1 nb, h.disk])))
  have HA := Lib.hid (fun (w1 : World) (row : Obj) (k1 : Chg (fun g => g = r1) w w1) => (h.loose.stay (w' := w1.alloc row) (fun g hg => by
    have := k1.size
    have hl := h.loose.lt hg
    rw [Below.heap_alloc _ _ _ (by omega), k1.block g hl (h.nes.2.2 g hg).2.1])))
  have H3 := Lib.hid (fun (w1 : World) (k1 : Chg (fun g => g = r1) w w1) => (World.cell?_of_block (a := ⟨b, 3, none⟩) (k1.block b h.lt.1 nb)).trans c3)
  have hf1 := capt_len hc
  obtain ⟨i6, z6, hi6, hz6, hsz6, hby6, hzs6⟩ := info64
  have hN := h.now
  generalize hML : ts.length = m at *
  have HM := Lib.hid hML
  have hm6 : m + 1 ≤ 1099511627776 := by omega
  clear hML
  have HD := Lib.hid h
  clear h c3 nv ln
  cases dd with
  | wr n =>
    obtain ⟨hn, c, rfl, hcS⟩ := hc
    have C := Lib.hid (clo_wr hN hn hcS s)
    clear hcS hN hm
    go_enter Try.func30, Try.ntmps30
    go_wp2_with fail
    refine C.out.mono ?_
    rintro e w1 ⟨rfl, h1, k1⟩
    have c3' := H3.out w1 k1
    have HA' := Lib.hid (HA.out w1 (.cells #[.func (.func 31) #[] #[.pointer (some ⟨c, 0, none⟩)], .string s] 64) k1)
    clear C c1 H3
    go_wp2_with (refine wpList_append_sl (by rfl) _ _ 55 (by rfl) 64 i6 z6 2 24 Try.underlying55 hi6 hz6 hsz6 hby6 hzs6 (by decide) (.slice ao m cp) m (tcells ts) (by rfl) HA'.out (some ⟨w1.heap.size, 0, none⟩) 1 1 [.func (.func 31) #[] #[.pointer (some ⟨c, 0, none⟩)], .string s] (by rfl) (by rfl) (fun _ => ⟨_, rfl, cell_new_two (Go.heap_alloc_new _ _)⟩) (fun h => absurd h (by decide)) (by simp [Value.oneCell']) (by simp only [maxLen]; omega) (by omega) ?_; intro v' w2 hsl hgrow hat; have f3 := (HF.out w1 w2 _ k1 hgrow).1; have g3 := (HF.out w1 w2 _ k1 hgrow).2; obtain ⟨ao2, cp2, rfl⟩ := sl_shape hsl)
    go_ret
    exact ⟨rfl, HP.out w1 w2 h1 k1 _ _ hsl hgrow hat⟩
  | app n =>
    obtain ⟨hn, c, rfl, hcS⟩ := hc
    have C := Lib.hid (clo_app hN hn hcS s tb)
    clear hcS hN hm
    go_enter Try.func30, Try.ntmps30
    go_wp2_with fail
    refine C.out.mono ?_
    rintro e w1 ⟨rfl, h1, k1⟩
    have c3' := H3.out w1 k1
    have HA' := Lib.hid (HA.out w1 (.cells #[.func (.func 34) #[] #[.pointer (some ⟨c, 0, none⟩)], .string s] 64) k1)
    clear C c1 H3
    go_wp2_with (refine wpList_append_sl (by rfl) _ _ 55 (by rfl) 64 i6 z6 2 24 Try.underlying55 hi6 hz6 hsz6 hby6 hzs6 (by decide) (.slice ao m cp) m (tcells ts) (by rfl) HA'.out (some ⟨w1.heap.size, 0, none⟩) 1 1 [.func (.func 34) #[] #[.pointer (some ⟨c, 0, none⟩)], .string s] (by rfl) (by rfl) (fun _ => ⟨_, rfl, cell_new_two (Go.heap_alloc_new _ _)⟩) (fun h => absurd h (by decide)) (by simp [Value.oneCell']) (by simp only [maxLen]; omega) (by omega) ?_; intro v' w2 hsl hgrow hat; have f3 := (HF.out w1 w2 _ k1 hgrow).1; have g3 := (HF.out w1 w2 _ k1 hgrow).2; obtain ⟨ao2, cp2, rfl⟩ := sl_shape hsl)
    go_ret
    exact ⟨rfl, HP.out w1 w2 h1 k1 _ _ hsl hgrow hat⟩
  | trunc n k =>
    obtain ⟨hn, c, c2, rfl, hcS, hcI⟩ := hc
    have C := Lib.hid (clo_trunc hN hn hm (by omega) hcS hcI s)
    clear hcS hcI hN hm
    go_enter Try.func30, Try.ntmps30
    go_wp2_with fail
    refine C.out.mono ?_
    rintro e w1 ⟨rfl, h1, k1⟩
    have c3' := H3.out w1 k1
    have HA' := Lib.hid (HA.out w1 (.cells #[.func (.func 44) #[] #[.pointer (some ⟨c, 0, none⟩), .pointer (some ⟨c2, 0, none⟩)], .string s] 64) k1)
    clear C c1 H3
    go_wp2_with (refine wpList_append_sl (by rfl) _ _ 55 (by rfl) 64 i6 z6 2 24 Try.underlying55 hi6 hz6 hsz6 hby6 hzs6 (by decide) (.slice ao m cp) m (tcells ts) (by rfl) HA'.out (some ⟨w1.heap.size, 0, none⟩) 1 1 [.func (.func 44) #[] #[.pointer (some ⟨c, 0, none⟩), .pointer (some ⟨c2, 0, none⟩)], .string s] (by rfl) (by rfl) (fun _ => ⟨_, rfl, cell_new_two (Go.heap_alloc_new _ _)⟩) (fun h => absurd h (by decide)) (by simp [Value.oneCell']) (by simp only [maxLen]; omega) (by omega) ?_; intro v' w2 hsl hgrow hat; have f3 := (HF.out w1 w2 _ k1 hgrow).1; have g3 := (HF.out w1 w2 _ k1 hgrow).2; obtain ⟨ao2, cp2, rfl⟩ := sl_shape hsl)
    go_ret
    exact ⟨rfl, HP.out w1 w2 h1 k1 _ _ hsl hgrow hat⟩
  | ren x y =>
    obtain ⟨hx, hy, c, c2, rfl, hcS, hcI⟩ := hc
    have C := Lib.hid (clo_ren hN hx hy hcS hcI s)
    clear hcS hcI hN hm
    go_enter Try.func30, Try.ntmps30
    go_wp2_with fail
    refine C.out.mono ?_
    rintro e w1 ⟨rfl, h1, k1⟩
    have c3' := H3.out w1 k1
    have HA' := Lib.hid (HA.out w1 (.cells #[.func (.func 45) #[] #[.pointer (some ⟨c, 0, none⟩), .pointer (some ⟨c2, 0, none⟩)], .string s] 64) k1)
    clear C c1 H3
    go_wp2_with (refine wpList_append_sl (by rfl) _ _ 55 (by rfl) 64 i6 z6 2 24 Try.underlying55 hi6 hz6 hsz6 hby6 hzs6 (by decide) (.slice ao m cp) m (tcells ts) (by rfl) HA'.out (some ⟨w1.heap.size, 0, none⟩) 1 1 [.func (.func 45) #[] #[.pointer (some ⟨c, 0, none⟩), .pointer (some ⟨c2, 0, none⟩)], .string s] (by rfl) (by rfl) (fun _ => ⟨_, rfl, cell_new_two (Go.heap_alloc_new _ _)⟩) (fun h => absurd h (by decide)) (by simp [Value.oneCell']) (by simp only [maxLen]; omega) (by omega) ?_; intro v' w2 hsl hgrow hat; have f3 := (HF.out w1 w2 _ k1 hgrow).1; have g3 := (HF.out w1 w2 _ k1 hgrow).2; obtain ⟨ao2, cp2, rfl⟩ := sl_shape hsl)
    go_ret
    exact ⟨rfl, HP.out w1 w2 h1 k1 _ _ hsl hgrow hat⟩
  | rem n =>
    obtain ⟨hn, c, rfl, hcS⟩ := hc
    have C := Lib.hid (clo_rem hN hn hcS s)
    clear hcS hN hm
    go_enter Try.func30, Try.ntmps30
    go_wp2_with fail
    refine C.out.mono ?_
    rintro e w1 ⟨rfl, h1, k1⟩
    have c3' := H3.out w1 k1
    have HA' := Lib.hid (HA.out w1 (.cells #[.func (.func 46) #[] #[.pointer (some ⟨c, 0, none⟩)], .string s] 64) k1)
    clear C c1 H3
    go_wp2_with (refine wpList_append_sl (by rfl) _ _ 55 (by rfl) 64 i6 z6 2 24 Try.underlying55 hi6 hz6 hsz6 hby6 hzs6 (by decide) (.slice ao m cp) m (tcells ts) (by rfl) HA'.out (some ⟨w1.heap.size, 0, none⟩) 1 1 [.func (.func 46) #[] #[.pointer (some ⟨c, 0, none⟩)], .string s] (by rfl) (by rfl) (fun _ => ⟨_, rfl, cell_new_two (Go.heap_alloc_new _ _)⟩) (fun h => absurd h (by decide)) (by simp [Value.oneCell']) (by simp only [maxLen]; omega) (by omega) ?_; intro v' w2 hsl hgrow hat; have f3 := (HF.out w1 w2 _ k1 hgrow).1; have g3 := (HF.out w1 w2 _ k1 hgrow).2; obtain ⟨ao2, cp2, rfl⟩ := sl_shape hsl)
    go_ret
    exact ⟨rfl, HP.out w1 w2 h1 k1 _ _ hsl hgrow hat⟩
end
end Go.Proofs.Ytjflkmihkfbgpaa
