/- Walks: the document's Crash. -/
import Derived.Test.YtjflkmihkfbgpaaXb
namespace Go.Proofs.Ytjflkmihkfbgpaa
open Go.RowKit Mk Go.Sort
set_option linter.unusedVariables false
set_option linter.unusedSimpArgs false

theorem sl_at (W : World) (n : Nat) (hn : W.heap.size = n) : sl (W.alloc (.cells #[] 73)) 73 2 (.slice (some ⟨n, 0, none⟩) 0 0) 0 [] := by subst hn; exact sl_empty W
theorem fl_copy' {W w4 : World} {n : Nat} (hn : W.heap.size = n) {v' : Value} {L : Files} (hs : sl w4 73 2 v' (0 + L.length) ([] ++ fcells L)) (hg : (W.alloc (.cells #[] 73)).grownBy w4 (Value.slice (some ⟨n, 0, none⟩) 0 0).ownBlock) (ha : v'.ownBlock = (Value.slice (some ⟨n, 0, none⟩) 0 0).ownBlock ∨ v'.ownBlock = some (W.alloc (.cells #[] 73)).heap.size) :
    ∃ o c, v' = .slice o L.length c ∧ FL w4 (.slice o L.length c) L ∧ Below W.heap.size W w4 ∧ ∀ g, (Value.slice o L.length c).ownBlock = some g → W.heap.size ≤ g := by subst hn; exact fl_copy hs hg ha
def tears : Do → Bool
  | .app _ => true
  | .wr _ => true
  | _ => false
def rtear (L : Files) (t : Thing) (n : Nat) : Files := if tears t.1 = true ∧ t.2.size ≠ 0 ∧ n ≠ 0 then refAct (t.1, t.2.extract 0 (min n t.2.size)) L else L
def rcrash (K : Files) (T : List Thing) (k n : Nat) : Files := match T[k]? with
  | some t => rtear (refActs K (T.take k)) t n
  | none => refActs K T
theorem refActs_take {K : Files} {T : List Thing} {k : Nat} {t : Thing} (h : T[k]? = some t) : refActs K (T.take (k + 1)) = refAct t (refActs K (T.take k)) := by
  have : T.take (k + 1) = T.take k ++ [t] := by rw [List.take_add_one, h]; rfl
  rw [this, refActs_append]; rfl
theorem rmays_at {K : Files} {T : List Thing} (hm : rmays K T) {k : Nat} {t : Thing} (h : T[k]? = some t) : may t.1 (refActs K (T.take k)) := by
  obtain ⟨hk, ht⟩ := List.getElem?_eq_some_iff.1 h
  have e : T = T.take k ++ t :: T.drop (k + 1) := by rw [← ht, List.getElem_cons_drop, List.take_append_drop]
  rw [e, rmays_append] at hm
  exact hm.2.1
theorem rtot_at (K : Files) {T : List Thing} {k : Nat} {t : Thing} (h : T[k]? = some t) : tot (refActs K (T.take k)) + t.2.size ≤ tot K + bulk T := by
  have h2 := refActs_tot K (T.take k)
  have h3 : bulk (T.take k) + t.2.size ≤ bulk T := by
    obtain ⟨hk, ht⟩ := List.getElem?_eq_some_iff.1 h
    have e : T = T.take k ++ t :: T.drop (k + 1) := by rw [← ht, List.getElem_cons_drop, List.take_append_drop]
    unfold bulk
    conv => rhs; rw [e]
    simp only [List.map_append, List.map_cons, List.sum_append, List.sum_cons]
    omega
  omega
theorem rlen_at (K : Files) (T : List Thing) (k : Nat) : (refActs K (T.take k)).length ≤ K.length + T.length := by
  have := refActs_len K (T.take k)
  simp only [List.length_take] at this
  omega
theorem rcrash_len (K : Files) (T : List Thing) (k n : Nat) : (rcrash K T k n).length ≤ K.length + T.length := by
  unfold rcrash
  cases h : T[k]? with
  | none => exact refActs_len K T
  | some t =>
    have h1 := refActs_len K (T.take k)
    have hk := (List.getElem?_eq_some_iff.1 h).1
    simp only [List.length_take] at h1
    simp only
    unfold rtear
    split
    · have h2 := refAct_len (t.1, t.2.extract 0 (min n t.2.size)) (refActs K (T.take k))
      omega
    · omega
theorem rcrash_tot (K : Files) (T : List Thing) (k n : Nat) : tot (rcrash K T k n) ≤ tot K + bulk T := by
  unfold rcrash
  cases h : T[k]? with
  | none => exact refActs_tot K T
  | some t =>
    have h1 := rtot_at K h
    simp only
    unfold rtear
    split
    · have h2 := refAct_tot (t.1, t.2.extract 0 (min n t.2.size)) (refActs K (T.take k))
      simp only [ByteArray.size_extract] at h2
      omega
    · omega
section
variable {w : World} {x : Nat} {kv ov nv : Value} {F : Nat → Prop} {S : Nat} {r : RefM}
theorem OL_cells {w : World} {ov : Value} {T : List Thing} (h : sl w 68 4 ov T.length (ocells T)) {i : Nat} {t : Thing} (ht : T[i]? = some t) : ∃ g cap, ov = .slice (some ⟨g, 0, none⟩) T.length cap ∧ w.cell? ⟨g, i * 4, none⟩ = some (.int .i64 (opK t.1)) ∧ w.cell? ⟨g, i * 4 + 1, none⟩ = some (.string (opName t.1)) ∧ w.cell? ⟨g, i * 4 + 2, none⟩ = some (.string (opText t)) ∧ w.cell? ⟨g, i * 4 + 3, none⟩ = some (.int .i64 (opN t.1)) := by
  obtain ⟨g, cap, e, h0⟩ := sl.cell h (i := i * 4) (u := .int .i64 (opK t.1)) (by have := ocells_get ht 0 (by omega); simpa [opL] using this)
  obtain ⟨g1, cap1, e1, h1⟩ := sl.cell h (i := i * 4 + 1) (u := .string (opName t.1)) (by have := ocells_get ht 1 (by omega); simpa [opL] using this)
  obtain ⟨g2, cap2, e2, h2⟩ := sl.cell h (i := i * 4 + 2) (u := .string (opText t)) (by have := ocells_get ht 2 (by omega); simpa [opL] using this)
  obtain ⟨g3, cap3, e3, h3⟩ := sl.cell h (i := i * 4 + 3) (u := .int .i64 (opN t.1)) (by have := ocells_get ht 3 (by omega); simpa [opL] using this)
  subst e
  cases e1
  cases e2
  cases e3
  exact ⟨g, cap, rfl, h0, h1, h2, h3⟩
/-- Behind some things done again. -/
structure AgainAt (w : World) (x : Nat) (kv ov nv : Value) (F : Nat → Prop) (S : Nat) (r : RefM) (k : Nat) (lv : Value) (W : World) : Prop where
  rep : RRep W x kv ov nv F S r
  l : FL W lv (refActs r.K (r.T.take k))
  below : Below w.heap.size w W
theorem AgainAt.stay {k : Nat} {lv : Value} {W W' : World} (h : AgainAt w x kv ov nv F S r k lv W) (b : Below W.heap.size W W') : AgainAt w x kv ov nv F S r k lv W' :=
  ⟨h.rep.below b, h.l.stay b, h.below.trans (b.mono h.below.size)⟩
/-- The kept files are laid. -/
structure Laid1 (w : World) (x : Nat) (v1 ov nv lv : Value) (F : Nat → Prop) (room : Nat) (M : Files) (W : World) : Prop where
  blk : W.heap[x]? = some (.cells #[.int .i64 room, v1, ov, nv] 42)
  k : FL W v1 M
  l : FL W lv M
  own : ∀ g, v1.ownBlock = some g → w.heap.size ≤ g
  chg : Chg F w W
theorem FL.row {w : World} {v : Value} {L : Files} (hv : FL w v L) {g : Nat} (hg : v.ownBlock = some g) : ∃ cur, w.heap[g]? = some (.cells cur 73) := by
  rcases hv.2 with ⟨rfl, _⟩ | ⟨g', cap, cur, rfl, hh, _⟩
  · simp [Value.ownBlock] at hg
  · simp [Value.ownBlock] at hg; subst hg; exact ⟨cur, hh⟩
theorem laid_1 {W w4 : World} {lv : Value} {M : Files} {o : Option Addr} {c : Nat} (h : RRep w x kv ov nv F S r) (hb : Below w.heap.size w W) (hl : FL W lv M) (hf : FL w4 (.slice o M.length c) M) (hb4 : Below W.heap.size W w4) (ho : ∀ g, (Value.slice o M.length c).ownBlock = some g → W.heap.size ≤ g) :
    w4.frozen? ⟨x, 1, none⟩ = false ∧ w4.cell? ⟨x, 1, none⟩ = some kv ∧ Laid1 w x (.slice o M.length c) ov nv lv F r.room M (w4.setCell ⟨x, 1, none⟩ (.slice o M.length c)) := by
  have hx := h.lt
  have hs := hb.size
  have b04 : Below w.heap.size w w4 := hb.trans (hb4.mono hs)
  have h4 := h.below b04
  have e : ∀ i, i ≠ x → (w4.setCell ⟨x, 1, none⟩ (.slice o M.length c)).heap[i]? = w4.heap[i]? := fun i hi => Below.heap_setCell _ _ _ _ hi
  refine ⟨frozen_of h4.blk, cell_of h4.blk rfl, Mk.heap_setCell_same (i := 1) h4.blk _, ?_, ?_, fun g hg => Nat.le_trans hs (ho g hg), ((chg_of_below b04).mono (fun _ f => f.elim)).setCell (Or.inl h.fx) _⟩
  · exact sl.stay hf (fun g hg => e g (by have := ho g hg; omega))
  · refine sl.stay (hl.stay hb4) (fun g hg => e g (fun eg => ?_))
    obtain ⟨cur, hh⟩ := (hl.stay hb4).row hg
    rw [eg, h4.blk] at hh
    simp at hh
theorem laid_2 {W w6 : World} {v1 lv : Value} {M : Files} {o : Option Addr} {c : Nat} (h : RRep w x kv ov nv F S r) (h1 : Laid1 w x v1 ov nv lv F r.room M W) (hM : M.length ≤ S) (hT : tot M ≤ S) (hf : FL w6 (.slice o M.length c) M) (hb : Below W.heap.size W w6) (ho : ∀ g, (Value.slice o M.length c).ownBlock = some g → W.heap.size ≤ g) :
    w6.frozen? ⟨x, 3, none⟩ = false ∧ w6.cell? ⟨x, 3, none⟩ = some nv ∧ (w6.setCell ⟨x, 3, none⟩ (.slice o M.length c)).frozen? ⟨x, 2, none⟩ = false ∧ (w6.setCell ⟨x, 3, none⟩ (.slice o M.length c)).cell? ⟨x, 2, none⟩ = some ov ∧ RTo w x F S ⟨r.room, M, [], M⟩ ((w6.setCell ⟨x, 3, none⟩ (.slice o M.length c)).setCell ⟨x, 2, none⟩ (.slice none 0 0)) := by
  have hx := h.lt
  have hws := h1.chg.size
  have hxW : x < W.heap.size := (Array.getElem?_eq_some_iff.1 h1.blk).1
  have g0 := (hb.block x hxW).trans h1.blk
  have g1 := Mk.heap_setCell_same (i := 3) g0 (.slice o M.length c)
  have g2 := Mk.heap_setCell_same (i := 2) g1 (.slice none 0 0)
  have e : ∀ i, i ≠ x → ((w6.setCell ⟨x, 3, none⟩ (.slice o M.length c)).setCell ⟨x, 2, none⟩ (.slice none 0 0)).heap[i]? = w6.heap[i]? := fun i hi => (Below.heap_setCell _ _ _ _ hi).trans (Below.heap_setCell _ _ _ _ hi)
  have h3 := h.size
  refine ⟨frozen_of g0, cell_of g0 rfl, frozen_of g1, cell_of g1 rfl, ⟨v1, .slice none 0 0, .slice o M.length c, g2, ?_, sl_nil _ _ _, ?_, Or.inl h.fx, fun g hg => Or.inr (h1.own g hg), fun g hg => by simp [Value.ownBlock] at hg, fun g hg => Or.inr (by have := ho g hg; omega), h.room, ⟨by simpa using hM, hM⟩, ⟨hT, ?_, h3.2.2⟩, rfl, trivial⟩, ?_⟩
  · exact sl.stay (h1.k.stay hb) (fun g hg => e g (by have := h1.own g hg; omega))
  · exact sl.stay hf (fun g hg => e g (by have := ho g hg; omega))
  · have : bulk [] = 0 := rfl
    simp only
    omega
  · have c1 : Chg F w w6 := h1.chg.trans' (chg_of_below hb) (fun _ f => f.elim)
    exact (c1.setCell (Or.inl h.fx) _).setCell (Or.inl h.fx) _

theorem chg_tear (wr : World) (o : Obj) (v : Value) : Below wr.heap.size wr ((wr.alloc o).setCell ⟨wr.heap.size, 2, none⟩ v) :=
  ((Chg.refl (fun _ => False) wr).alloc o).setCell (a := ⟨wr.heap.size, 2, none⟩) (Or.inr (Nat.le_refl _)) v |> below_of_chg
set_option maxRecDepth 100000 in
set_option maxHeartbeats 4000000 in
theorem rcrash_bad (h : RIs w x F S r) (k t : Int) (hb : k < 0 ∨ (r.T.length : Int) < k ∨ t < 0) :
    Calls Try.prog 38 #[.pointer (some ⟨x, 0, none⟩), .int .i64 k, .int .i64 t] w fun e w' => e = .returned (.int .i64 2) ∧ w' = w := by
  obtain ⟨kv, ov, nv, h⟩ := h
  obtain ⟨oo, oc, rfl⟩ := sl_shape h.o
  have c2 := h.cells.2.2.1
  generalize r.T.length = m at *
  clear h
  by_cases h1 : k < 0
  · have q1 : decide (k < 0) = true := by simpa using h1
    clear h1 hb
    go_enter Try.func38, Try.ntmps38
    go_wp2
    go_ret
    exact ⟨rfl, rfl⟩
  · have q1 : decide (k < 0) = false := by simpa using h1
    by_cases h2 : (m : Int) < k
    · have q2 : decide ((m : Int) < k) = true := by simpa using h2
      clear h1 h2 hb
      go_enter Try.func38, Try.ntmps38
      go_wp2
      go_ret
      exact ⟨rfl, rfl⟩
    · have q2 : decide ((m : Int) < k) = false := by simpa using h2
      have q3 : decide (t < 0) = true := by simp; omega
      clear h1 h2 hb
      go_enter Try.func38, Try.ntmps38
      go_wp2
      go_ret
      exact ⟨rfl, rfl⟩

set_option maxRecDepth 100000 in
set_option maxHeartbeats 4000000 in
theorem rcrash_good (h : RIs w x F S r) (kp t : Nat) (hk : kp ≤ r.T.length) :
    Calls Try.prog 38 #[.pointer (some ⟨x, 0, none⟩), .int .i64 kp, .int .i64 t] w fun e w' => e = .returned (.int .i64 0) ∧ RTo w x F S ⟨r.room, rcrash r.K r.T kp t, [], rcrash r.K r.T kp t⟩ w' := by
  obtain ⟨kv, ov, nv, h⟩ := h
  obtain ⟨i6, z6, hi6, hz6, hsz6, hby6, hzs6⟩ := info73
  obtain ⟨oo, oc, rfl⟩ := sl_shape h.o
  obtain ⟨ko, kc, rfl⟩ := h.k.shape
  have hxl := h.lt
  have hTl : r.T.length ≤ 1099511627776 := by have := h.len; have := h.size; omega
  have H0 := Lib.hid h
  have HA := Lib.hid (show AgainAt w x (.slice ko r.K.length kc) (.slice oo r.T.length oc) nv F S r 0 (.slice ko (refActs r.K (r.T.take 0)).length kc) w from ⟨h, h.k, Below.refl _ _⟩)
  have k1 := h.cells.2.1
  have k2 := h.cells.2.2.1
  have q1 : decide ((kp : Int) < 0) = false := by simp
  have q2 : decide ((r.T.length : Int) < kp) = false := by simp; omega
  have q2' : decide (r.T.length < kp) = false := by simp; omega
  have q3 : decide ((t : Int) < 0) = false := by simp
  have l0 : (0 : Int) ≤ kp := by omega
  have l00 : (0 : Int) ≤ t := by omega
  obtain ⟨E, HE⟩ : ∃ E, Hid (rcrash r.K r.T kp t = E) := ⟨_, Lib.hid rfl⟩
  rw [HE.out]
  clear h
  go_enter Try.func38, Try.ntmps38
  go_wp2
  go_loopw [7, 8] (fun lv i wr => ∃ (k : Nat) (lo : Option Addr) (lc : Nat), k ≤ kp ∧ i = .int .i64 k ∧ lv = .slice lo (refActs r.K (r.T.take k)).length lc ∧ Hid (AgainAt w x (.slice ko r.K.length kc) (.slice oo r.T.length oc) nv F S r k (.slice lo (refActs r.K (r.T.take k)).length lc) wr)) (fun _ i _ => kp - (intOf i).toNat)
  case atStart => exact ⟨0, ko, kc, by omega, rfl, rfl, HA⟩
  case round =>
    obtain ⟨k, lo, lc, hkk, rfl, rfl, HI⟩ := hrel
    clear HA k1 k2
    have l1 : (0 : Int) ≤ k := by omega
    have k2 := HI.out.rep.cells.2.2.1
    by_cases hlt : k < kp
    · obtain ⟨tt, ht⟩ : ∃ tt, r.T[k]? = some tt := ⟨r.T[k]'(by omega), List.getElem?_eq_getElem (by omega)⟩
      obtain ⟨g, cap, e, h0, h1, h2, h3⟩ := OL_cells HI.out.rep.o ht
      cases e
      have hlt' : k < r.T.length := by omega
      have l2 : (k : Int) < kp := by omega
      have l3 : (k : Int) < r.T.length := by omega
      have q4 : decide (k < kp) = true := by simpa using hlt
      have hll := rlen_at r.K r.T k
      have htt := rtot_at r.K ht
      have DO := Lib.hid (rdoes_any HI.out.l (by have := H0.out.len; have := H0.out.size; omega) tt (rmays_at H0.out.mays ht) (by have := H0.out.size; omega))
      have e1 := refActs_take (K := r.K) ht
      rw [← e1] at DO
      have DO' : Hid (Calls Try.prog 54 #[.slice lo (refActs r.K (r.T.take k)).length lc, .agg #[.int .i64 (opK tt.1), .string (opName tt.1), .string (opText tt), .int .i64 (opN tt.1)]] wr fun e w' => FPost wr (refActs r.K (r.T.take (k + 1))) e w') := DO
      generalize opK tt.1 = p0 at *
      generalize opName tt.1 = p1 at *
      generalize opText tt = p2 at *
      generalize opN tt.1 = p3 at *
      clear DO ht e1 hll htt
      go_wp2_with fail
      refine DO'.out.mono ?_
      rintro e w3 hf
      obtain ⟨fo, fc, rfl, f1, f2, -⟩ := hf
      have HN := Lib.hid (show AgainAt w x (.slice ko r.K.length kc) (.slice (some ⟨g, 0, none⟩) r.T.length oc) nv F S r (k + 1) (.slice fo (refActs r.K (r.T.take (k + 1))).length fc) w3 from ⟨(HI.out.stay f2).rep, f1, (HI.out.stay f2).below⟩)
      clear f1 f2 DO' h0 h1 h2 h3 k2
      go_wp2
      go_round
      case rel => exact ⟨k + 1, fo, fc, by omega, by go_num, rfl, HN⟩
      case measure => simp [intOf]; omega
    · obtain rfl : k = kp := by omega
      have q4 : decide (k < k) = false := by simp
      have q4' : decide ((k : Int) < (k : Int)) = false := by simp
      have HB := Lib.hid HI.out.below
      go_upto_if 49 with fail
      go_cut [7] from 9 (fun lv wc => ∃ (lo : Option Addr) (lc : Nat), lv = .slice lo E.length lc ∧ Hid (FL wc (.slice lo E.length lc) E ∧ Below w.heap.size w wc))
      case first => as_aux_lemma =>
        by_cases hT : k < r.T.length
        · obtain ⟨tt, ht⟩ : ∃ tt, r.T[k]? = some tt := ⟨r.T[k]'(by omega), List.getElem?_eq_getElem (by omega)⟩
          obtain ⟨g, cap, e, h0, h1, h2, h3⟩ := OL_cells HI.out.rep.o ht
          cases e
          have l3 : (k : Int) < r.T.length := by omega
          have q5 : decide (k < r.T.length) = true := by simpa using hT
          have hcr : rcrash r.K r.T k t = rtear (refActs r.K (r.T.take k)) tt t := by unfold rcrash; rw [ht]
          obtain ⟨d, s⟩ := tt
          cases d with
          | app n =>
            simp only [opK, opName, opText, opN] at h0 h1 h2 h3
            by_cases hs0 : s.size = 0
            · have qs : (s.toList == []) = true := by rw [beq_iff_eq, Lib.toList_data]; exact Array.toList_eq_nil_iff.2 (Array.eq_empty_of_size_eq_zero hs0)
              have HEM := Lib.hid (show refActs r.K (r.T.take k) = E by rw [← HE.out, hcr]; simp [rtear, hs0])
              have hb2 : Below wr.heap.size wr (wr.alloc (.cells #[.int .i64 1, .string n, .string s, .int .i64 0] 68)) := (Below.refl _ wr).alloc (Nat.le_refl _) _
              have HL := Lib.hid (HI.out.l.stay hb2)
              have HB := Lib.hid (HB.out.trans (hb2.mono HB.out.size))
              clear hcr HI hb2 ht HE
              generalize refActs r.K (r.T.take k) = M at *

              go_wp2
              go_meet
              case rel => exact ⟨lo, lc, by rw [← HEM.out], Lib.hid ⟨by rw [← HEM.out]; exact HL.out, HB.out⟩⟩

            · have qs : (s.toList == []) = false := by
                rw [beq_eq_false_iff_ne, Lib.toList_data]
                intro e
                exact hs0 (by have := congrArg List.length e; simpa using this)
              by_cases ht0 : t = 0
              · have q6 : decide ((0 : Int) < t) = false := by simp; omega
                have q6' : decide (0 < t) = false := by simp; omega
                have HEM := Lib.hid (show refActs r.K (r.T.take k) = E by rw [← HE.out, hcr]; simp [rtear, ht0])
                have hb2 : Below wr.heap.size wr (wr.alloc (.cells #[.int .i64 1, .string n, .string s, .int .i64 0] 68)) := (Below.refl _ wr).alloc (Nat.le_refl _) _
                have HL := Lib.hid (HI.out.l.stay hb2)
                have HB := Lib.hid (HB.out.trans (hb2.mono HB.out.size))
                clear hcr HI hb2 ht HE
                generalize refActs r.K (r.T.take k) = M at *

                go_wp2
                go_meet
                case rel => exact ⟨lo, lc, by rw [← HEM.out], Lib.hid ⟨by rw [← HEM.out]; exact HL.out, HB.out⟩⟩

              · have q6 : decide ((0 : Int) < t) = true := by simp; omega
                have q6' : decide (0 < t) = true := by simp; omega
                by_cases hlts : t < s.size
                · have q7 : decide (t < s.size) = true := by simpa using hlts
                  have l5 : (t : Int) ≤ s.size := by omega
                  obtain ⟨W3, HW3⟩ : ∃ U, Hid ((wr.alloc (.cells #[.int .i64 1, .string n, .string (s.extract 0 t), .int .i64 0] 68)) = U) := ⟨_, Lib.hid rfl⟩
                  have hb3 : Below wr.heap.size wr W3 := by rw [← HW3.out]; exact ((Below.refl _ wr).alloc (Nat.le_refl _) _)
                  have eT : s.extract 0 (min t s.size) = s.extract 0 t := (by rw [show min t s.size = t by omega])
                  have hsz : (s.extract 0 t).size ≤ s.size := by rw [ByteArray.size_extract]; omega
                  have hrt := rtot_at r.K ht
                  simp only at hrt
                  have DO := Lib.hid (rdoes_any (HI.out.l.stay hb3) (by have := rlen_at r.K r.T k; have := H0.out.len; have := H0.out.size; omega) (Do.app n, s.extract 0 t) trivial (by simp only; have := H0.out.size; omega))
                  have HEM := Lib.hid (show refAct (Do.app n, s.extract 0 t) (refActs r.K (r.T.take k)) = E by
                    rw [← HE.out, hcr]
                    unfold rtear
                    rw [if_pos ⟨rfl, hs0, ht0⟩]
                    show _ = refAct (Do.app n, s.extract 0 (min t s.size)) _
                    rw [eT])
                  have DO' : Hid (Calls Try.prog 54 #[.slice lo (refActs r.K (r.T.take k)).length lc, .agg #[.int .i64 1, .string n, .string (s.extract 0 t), .int .i64 0]] W3 fun e w' => FPost W3 (refAct (Do.app n, s.extract 0 t) (refActs r.K (r.T.take k))) e w') := DO
                  have HB3 := Lib.hid (HB.out.trans (hb3.mono HB.out.size))
                  clear hcr HI hb3 ht HE DO hrt HB
                  generalize refAct (Do.app n, s.extract 0 t) (refActs r.K (r.T.take k)) = M at *
                  go_wp2_with fail
                  rw [HW3.out]
                  refine DO'.out.mono ?_
                  rintro e w3 hf
                  obtain ⟨lo, lc, rfl, f1, f2, -⟩ := hf
                  have HL := Lib.hid f1
                  have HB := Lib.hid (HB3.out.trans (f2.mono HB3.out.size))
                  clear f1 f2 DO' HB3 HW3

                  go_wp2
                  go_meet
                  case rel => exact ⟨lo, lc, by rw [← HEM.out], Lib.hid ⟨by rw [← HEM.out]; exact HL.out, HB.out⟩⟩

                · have q7 : decide (t < s.size) = false := by simpa using hlts
                  obtain ⟨W3, HW3⟩ : ∃ U, Hid ((wr.alloc (.cells #[.int .i64 1, .string n, .string (s), .int .i64 0] 68)) = U) := ⟨_, Lib.hid rfl⟩
                  have hb3 : Below wr.heap.size wr W3 := by rw [← HW3.out]; exact ((Below.refl _ wr).alloc (Nat.le_refl _) _)
                  have eT : s.extract 0 (min t s.size) = s := (by rw [show min t s.size = s.size by omega, extract_all])
                  have hsz : (s).size ≤ s.size := by omega
                  have hrt := rtot_at r.K ht
                  simp only at hrt
                  have DO := Lib.hid (rdoes_any (HI.out.l.stay hb3) (by have := rlen_at r.K r.T k; have := H0.out.len; have := H0.out.size; omega) (Do.app n, s) trivial (by simp only; have := H0.out.size; omega))
                  have HEM := Lib.hid (show refAct (Do.app n, s) (refActs r.K (r.T.take k)) = E by
                    rw [← HE.out, hcr]
                    unfold rtear
                    rw [if_pos ⟨rfl, hs0, ht0⟩]
                    show _ = refAct (Do.app n, s.extract 0 (min t s.size)) _
                    rw [eT])
                  have DO' : Hid (Calls Try.prog 54 #[.slice lo (refActs r.K (r.T.take k)).length lc, .agg #[.int .i64 1, .string n, .string (s), .int .i64 0]] W3 fun e w' => FPost W3 (refAct (Do.app n, s) (refActs r.K (r.T.take k))) e w') := DO
                  have HB3 := Lib.hid (HB.out.trans (hb3.mono HB.out.size))
                  clear hcr HI hb3 ht HE DO hrt HB
                  generalize refAct (Do.app n, s) (refActs r.K (r.T.take k)) = M at *
                  go_wp2_with fail
                  rw [HW3.out]
                  refine DO'.out.mono ?_
                  rintro e w3 hf
                  obtain ⟨lo, lc, rfl, f1, f2, -⟩ := hf
                  have HL := Lib.hid f1
                  have HB := Lib.hid (HB3.out.trans (f2.mono HB3.out.size))
                  clear f1 f2 DO' HB3 HW3

                  go_wp2
                  go_meet
                  case rel => exact ⟨lo, lc, by rw [← HEM.out], Lib.hid ⟨by rw [← HEM.out]; exact HL.out, HB.out⟩⟩
          | wr n =>
            simp only [opK, opName, opText, opN] at h0 h1 h2 h3
            by_cases hs0 : s.size = 0
            · have qs : (s.toList == []) = true := by rw [beq_iff_eq, Lib.toList_data]; exact Array.toList_eq_nil_iff.2 (Array.eq_empty_of_size_eq_zero hs0)
              have HEM := Lib.hid (show refActs r.K (r.T.take k) = E by rw [← HE.out, hcr]; simp [rtear, hs0])
              have hb2 : Below wr.heap.size wr (wr.alloc (.cells #[.int .i64 2, .string n, .string s, .int .i64 0] 68)) := (Below.refl _ wr).alloc (Nat.le_refl _) _
              have HL := Lib.hid (HI.out.l.stay hb2)
              have HB := Lib.hid (HB.out.trans (hb2.mono HB.out.size))
              clear hcr HI hb2 ht HE
              generalize refActs r.K (r.T.take k) = M at *

              go_wp2
              go_meet
              case rel => exact ⟨lo, lc, by rw [← HEM.out], Lib.hid ⟨by rw [← HEM.out]; exact HL.out, HB.out⟩⟩

            · have qs : (s.toList == []) = false := by
                rw [beq_eq_false_iff_ne, Lib.toList_data]
                intro e
                exact hs0 (by have := congrArg List.length e; simpa using this)
              by_cases ht0 : t = 0
              · have q6 : decide ((0 : Int) < t) = false := by simp; omega
                have q6' : decide (0 < t) = false := by simp; omega
                have HEM := Lib.hid (show refActs r.K (r.T.take k) = E by rw [← HE.out, hcr]; simp [rtear, ht0])
                have hb2 : Below wr.heap.size wr (wr.alloc (.cells #[.int .i64 2, .string n, .string s, .int .i64 0] 68)) := (Below.refl _ wr).alloc (Nat.le_refl _) _
                have HL := Lib.hid (HI.out.l.stay hb2)
                have HB := Lib.hid (HB.out.trans (hb2.mono HB.out.size))
                clear hcr HI hb2 ht HE
                generalize refActs r.K (r.T.take k) = M at *

                go_wp2
                go_meet
                case rel => exact ⟨lo, lc, by rw [← HEM.out], Lib.hid ⟨by rw [← HEM.out]; exact HL.out, HB.out⟩⟩

              · have q6 : decide ((0 : Int) < t) = true := by simp; omega
                have q6' : decide (0 < t) = true := by simp; omega
                by_cases hlts : t < s.size
                · have q7 : decide (t < s.size) = true := by simpa using hlts
                  have l5 : (t : Int) ≤ s.size := by omega
                  obtain ⟨W3, HW3⟩ : ∃ U, Hid ((wr.alloc (.cells #[.int .i64 2, .string n, .string (s.extract 0 t), .int .i64 0] 68)) = U) := ⟨_, Lib.hid rfl⟩
                  have hb3 : Below wr.heap.size wr W3 := by rw [← HW3.out]; exact ((Below.refl _ wr).alloc (Nat.le_refl _) _)
                  have eT : s.extract 0 (min t s.size) = s.extract 0 t := (by rw [show min t s.size = t by omega])
                  have hsz : (s.extract 0 t).size ≤ s.size := by rw [ByteArray.size_extract]; omega
                  have hrt := rtot_at r.K ht
                  simp only at hrt
                  have DO := Lib.hid (rdoes_any (HI.out.l.stay hb3) (by have := rlen_at r.K r.T k; have := H0.out.len; have := H0.out.size; omega) (Do.wr n, s.extract 0 t) trivial (by simp only; have := H0.out.size; omega))
                  have HEM := Lib.hid (show refAct (Do.wr n, s.extract 0 t) (refActs r.K (r.T.take k)) = E by
                    rw [← HE.out, hcr]
                    unfold rtear
                    rw [if_pos ⟨rfl, hs0, ht0⟩]
                    show _ = refAct (Do.wr n, s.extract 0 (min t s.size)) _
                    rw [eT])
                  have DO' : Hid (Calls Try.prog 54 #[.slice lo (refActs r.K (r.T.take k)).length lc, .agg #[.int .i64 2, .string n, .string (s.extract 0 t), .int .i64 0]] W3 fun e w' => FPost W3 (refAct (Do.wr n, s.extract 0 t) (refActs r.K (r.T.take k))) e w') := DO
                  have HB3 := Lib.hid (HB.out.trans (hb3.mono HB.out.size))
                  clear hcr HI hb3 ht HE DO hrt HB
                  generalize refAct (Do.wr n, s.extract 0 t) (refActs r.K (r.T.take k)) = M at *
                  go_wp2_with fail
                  rw [HW3.out]
                  refine DO'.out.mono ?_
                  rintro e w3 hf
                  obtain ⟨lo, lc, rfl, f1, f2, -⟩ := hf
                  have HL := Lib.hid f1
                  have HB := Lib.hid (HB3.out.trans (f2.mono HB3.out.size))
                  clear f1 f2 DO' HB3 HW3

                  go_wp2
                  go_meet
                  case rel => exact ⟨lo, lc, by rw [← HEM.out], Lib.hid ⟨by rw [← HEM.out]; exact HL.out, HB.out⟩⟩

                · have q7 : decide (t < s.size) = false := by simpa using hlts
                  obtain ⟨W3, HW3⟩ : ∃ U, Hid ((wr.alloc (.cells #[.int .i64 2, .string n, .string (s), .int .i64 0] 68)) = U) := ⟨_, Lib.hid rfl⟩
                  have hb3 : Below wr.heap.size wr W3 := by rw [← HW3.out]; exact ((Below.refl _ wr).alloc (Nat.le_refl _) _)
                  have eT : s.extract 0 (min t s.size) = s := (by rw [show min t s.size = s.size by omega, extract_all])
                  have hsz : (s).size ≤ s.size := by omega
                  have hrt := rtot_at r.K ht
                  simp only at hrt
                  have DO := Lib.hid (rdoes_any (HI.out.l.stay hb3) (by have := rlen_at r.K r.T k; have := H0.out.len; have := H0.out.size; omega) (Do.wr n, s) trivial (by simp only; have := H0.out.size; omega))
                  have HEM := Lib.hid (show refAct (Do.wr n, s) (refActs r.K (r.T.take k)) = E by
                    rw [← HE.out, hcr]
                    unfold rtear
                    rw [if_pos ⟨rfl, hs0, ht0⟩]
                    show _ = refAct (Do.wr n, s.extract 0 (min t s.size)) _
                    rw [eT])
                  have DO' : Hid (Calls Try.prog 54 #[.slice lo (refActs r.K (r.T.take k)).length lc, .agg #[.int .i64 2, .string n, .string (s), .int .i64 0]] W3 fun e w' => FPost W3 (refAct (Do.wr n, s) (refActs r.K (r.T.take k))) e w') := DO
                  have HB3 := Lib.hid (HB.out.trans (hb3.mono HB.out.size))
                  clear hcr HI hb3 ht HE DO hrt HB
                  generalize refAct (Do.wr n, s) (refActs r.K (r.T.take k)) = M at *
                  go_wp2_with fail
                  rw [HW3.out]
                  refine DO'.out.mono ?_
                  rintro e w3 hf
                  obtain ⟨lo, lc, rfl, f1, f2, -⟩ := hf
                  have HL := Lib.hid f1
                  have HB := Lib.hid (HB3.out.trans (f2.mono HB3.out.size))
                  clear f1 f2 DO' HB3 HW3

                  go_wp2
                  go_meet
                  case rel => exact ⟨lo, lc, by rw [← HEM.out], Lib.hid ⟨by rw [← HEM.out]; exact HL.out, HB.out⟩⟩
          | trunc n j =>
            simp only [opK, opName, opText, opN] at h0 h1 h2 h3

            have HEM := Lib.hid (show refActs r.K (r.T.take k) = E by rw [← HE.out, hcr]; simp [rtear, tears])
            have hb2 : Below wr.heap.size wr (wr.alloc (.cells #[.int .i64 3, .string n, .string s, .int .i64 j] 68)) := (Below.refl _ wr).alloc (Nat.le_refl _) _
            have HL := Lib.hid (HI.out.l.stay hb2)
            have HB := Lib.hid (HB.out.trans (hb2.mono HB.out.size))
            clear hcr HI hb2 ht HE
            generalize refActs r.K (r.T.take k) = M at *

            go_wp2
            go_meet
            case rel => exact ⟨lo, lc, by rw [← HEM.out], Lib.hid ⟨by rw [← HEM.out]; exact HL.out, HB.out⟩⟩
          | ren n m =>
            simp only [opK, opName, opText, opN] at h0 h1 h2 h3

            have HEM := Lib.hid (show refActs r.K (r.T.take k) = E by rw [← HE.out, hcr]; simp [rtear, tears])
            have hb2 : Below wr.heap.size wr (wr.alloc (.cells #[.int .i64 4, .string n, .string m, .int .i64 0] 68)) := (Below.refl _ wr).alloc (Nat.le_refl _) _
            have HL := Lib.hid (HI.out.l.stay hb2)
            have HB := Lib.hid (HB.out.trans (hb2.mono HB.out.size))
            clear hcr HI hb2 ht HE
            generalize refActs r.K (r.T.take k) = M at *

            go_wp2
            go_meet
            case rel => exact ⟨lo, lc, by rw [← HEM.out], Lib.hid ⟨by rw [← HEM.out]; exact HL.out, HB.out⟩⟩
          | rem n =>
            simp only [opK, opName, opText, opN] at h0 h1 h2 h3

            have HEM := Lib.hid (show refActs r.K (r.T.take k) = E by rw [← HE.out, hcr]; simp [rtear, tears])
            have hb2 : Below wr.heap.size wr (wr.alloc (.cells #[.int .i64 5, .string n, .string s, .int .i64 0] 68)) := (Below.refl _ wr).alloc (Nat.le_refl _) _
            have HL := Lib.hid (HI.out.l.stay hb2)
            have HB := Lib.hid (HB.out.trans (hb2.mono HB.out.size))
            clear hcr HI hb2 ht HE
            generalize refActs r.K (r.T.take k) = M at *

            go_wp2
            go_meet
            case rel => exact ⟨lo, lc, by rw [← HEM.out], Lib.hid ⟨by rw [← HEM.out]; exact HL.out, HB.out⟩⟩
        · obtain rfl : k = r.T.length := by omega
          have q5 : decide (r.T.length < r.T.length) = false := by simp
          have e0 : rcrash r.K r.T r.T.length t = refActs r.K r.T := by unfold rcrash; rw [List.getElem?_eq_none (Nat.le_refl _)]
          have HL := Lib.hid HI.out.l
          have e1 : refActs r.K (r.T.take r.T.length) = refActs r.K r.T := by rw [List.take_length]
          rw [e1] at HL
          simp only [e1]
          have HEM := Lib.hid (show refActs r.K r.T = E by rw [← HE.out, e0])
          clear e0 e1 HI
          generalize refActs r.K r.T = M at *
          go_wp2
          go_meet
          case rel => exact ⟨lo, lc, by rw [← HEM.out], Lib.hid ⟨by rw [← HEM.out]; exact HL.out, HB.out⟩⟩
      case rest =>
        obtain ⟨lo, lc, rfl, HI⟩ := hcut
        generalize wc = W at *
        have HL := Lib.hid HI.out.1
        have HB := Lib.hid HI.out.2
        have HML := Lib.hid (show E.length ≤ S by rw [← HE.out]; exact Nat.le_trans (rcrash_len _ _ _ _) H0.out.len.1)
        have HMT := Lib.hid (show tot E ≤ S by rw [← HE.out]; exact Nat.le_trans (rcrash_tot _ _ _ _) H0.out.size.2.1)
        have hMl : E.length ≤ 1099511627776 := Nat.le_trans HML.out H0.out.size.2.2
        have bb1 : 0 + E.length ≤ maxLen := by simp only [maxLen]; omega
        have bb2 : (0 + E.length) * 32 ≤ 140737488355328 := by omega
        have HFC := Lib.hid (fcells_len E)
        have HF1 := Lib.hid (fcells_one E)
        clear HI
        go_upto_region 15 with (refine wpList_append_sl (by rfl) (.tmp 88) (.tmp 89) 39 (by rfl) 73 i6 z6 2 32 Try.underlying39 hi6 hz6 hsz6 hby6 hzs6 (by decide) (.slice (some ⟨W.heap.size, 0, none⟩) 0 0) 0 [] (by rfl) (sl_at W W.heap.size rfl) lo E.length lc (fcells E) (by rfl) HFC.out (fl_src (HL.out.stay ((Below.refl _ W).alloc (Nat.le_refl _) (.cells #[] 73)))).1 (fl_src (HL.out.stay ((Below.refl _ W).alloc (Nat.le_refl _) (.cells #[] 73)))).2 HF1.out bb1 bb2 ?_; intro v' w5 hs hg4 ha; obtain ⟨o1, c1, hv1, f1, f2, f3⟩ := fl_copy' rfl hs hg4 ha; obtain ⟨y1, y2, y3⟩ := laid_1 H0.out HB.out HL.out f1 f2 f3; have HY := Lib.hid y3; clear hs hg4 ha f1 f2 f3 y3; subst hv1)
        go_wp2_with (refine wpList_append_sl (by rfl) (.tmp 94) (.tmp 95) 39 (by rfl) 73 i6 z6 2 32 Try.underlying39 hi6 hz6 hsz6 hby6 hzs6 (by decide) (.slice (some ⟨w5.heap.size, 0, none⟩) 0 0) 0 [] (by rfl) (sl_at (w5.setCell ⟨x, 1, none⟩ (.slice o1 E.length c1)) w5.heap.size (by simp)) lo E.length lc (fcells E) (by rfl) HFC.out (fl_src (HY.out.l.stay ((Below.refl _ (w5.setCell ⟨x, 1, none⟩ (.slice o1 E.length c1))).alloc (Nat.le_refl _) (.cells #[] 73)))).1 (fl_src (HY.out.l.stay ((Below.refl _ (w5.setCell ⟨x, 1, none⟩ (.slice o1 E.length c1))).alloc (Nat.le_refl _) (.cells #[] 73)))).2 HF1.out bb1 bb2 ?_; intro v' w4 hs hg4 ha; obtain ⟨o2, c2, hv2, f1, f2, f3⟩ := fl_copy' (show (w5.setCell ⟨x, 1, none⟩ (.slice o1 E.length c1)).heap.size = w5.heap.size from by simp) hs hg4 ha; obtain ⟨z1, z2, z4, z5, z3⟩ := laid_2 H0.out HY.out HML.out HMT.out f1 f2 f3; have HZ := Lib.hid z3; clear hs hg4 ha f1 f2 f3 z3; subst hv2)
        go_ret
        exact ⟨rfl, HZ.out⟩
end
end Go.Proofs.Ytjflkmihkfbgpaa
