/- Walks: the disk's Copy. -/
import Derived.Test.YtjflkmihkfbgpaaZ1
import Derived.Deep.RegionHeld3
namespace Go.Proofs.Ytjflkmihkfbgpaa
open Go.RowKit Mk Go.Sort
set_option linter.unusedVariables false
set_option linter.unusedSimpArgs false

section
variable {w W : World} {b r1 r2 cb : Nat} {v lv : Value} {ts : List (Value × Thing)} {F : Nat → Prop} {S : Nat} {d : DiskM} {o1 o2 : Option Nat} {ol : Option Value}
theorem tcells_one (h : ∀ t ∈ ts, capt w t.1 t.2.1) : ∀ u ∈ tcells ts, u.oneCell' = true := by
  intro u hu
  unfold tcells at hu
  obtain ⟨t, ht, hu⟩ := List.mem_flatMap.1 hu
  simp only [List.mem_cons, List.not_mem_nil, or_false] at hu
  rcases hu with rfl | rfl
  · exact capt_len (h t ht)
  · rfl
/-- Inside of Copy. -/
structure CD (w : World) (b r1 r2 : Nat) (v : Value) (ts : List (Value × Thing)) (F : Nat → Prop) (S : Nat) (d : DiskM) (cb : Nat) (o1 o2 : Option Nat) (ol : Option Value) (W : World) : Prop where
  rep : DiskRep W b r1 r2 v ts F S d
  box : W.heap[cb]? = some (.cells #[.int .i64 d.room, .map (some r1), .map (some r2), v] 57)
  chg : Chg (fun _ => False) w W
  new : w.heap.size ≤ cb
  n1 : ∀ n, o1 = some n → files W n d.now ∧ cb < n
  n2 : ∀ n, o2 = some n → files W n d.kept ∧ cb < n
  ne : ∀ n m, o1 = some n → o2 = some m → n ≠ m
  l : ∀ lv, ol = some lv → sl W 64 2 lv ts.length (tcells ts) ∧ ∀ g, lv.ownBlock = some g → cb < g
theorem CD.lt (h : CD w b r1 r2 v ts F S d cb o1 o2 ol W) : cb < W.heap.size := (Array.getElem?_eq_some_iff.1 h.box).1
theorem CD.stay {W' : World} (h : CD w b r1 r2 v ts F S d cb o1 o2 ol W) (c : Chg (fun _ => False) W W') : CD w b r1 r2 v ts F S d cb o1 o2 ol W' :=
  ⟨h.rep.same c, (c.block cb h.lt (fun f => f)).trans h.box, h.chg.trans c, h.new, fun n e => ⟨(h.n1 n e).1.stay (c.block n (h.n1 n e).1.lt (fun f => f)), (h.n1 n e).2⟩, fun n e => ⟨(h.n2 n e).1.stay (c.block n (h.n2 n e).1.lt (fun f => f)), (h.n2 n e).2⟩, h.ne, fun lv e => ⟨sl.stay (h.l lv e).1 (fun g hg => c.block g (sl.lt (h.l lv e).1 hg) (fun f => f)), (h.l lv e).2⟩⟩
theorem CD.now (h : CD w b r1 r2 v ts F S d cb none o2 ol W) : Calls Try.prog 35 #[.map (some r1)] W fun e W' => ∃ n, e = .returned (.map (some n)) ∧ CD w b r1 r2 v ts F S d cb (some n) o2 ol W' := by
  refine (clone_any h.rep.now).mono ?_
  rintro e W' ⟨rfl, hf, c, hz⟩
  have k := h.stay c
  refine ⟨_, rfl, k.rep, k.box, k.chg, k.new, fun n e => ?_, k.n2, fun n m e e' => ?_, k.l⟩
  · cases e; exact ⟨hf, h.lt⟩
  · cases e; have := (h.n2 m e').1.lt; omega
theorem CD.kept (h : CD w b r1 r2 v ts F S d cb o1 none ol W) : Calls Try.prog 35 #[.map (some r2)] W fun e W' => ∃ n, e = .returned (.map (some n)) ∧ CD w b r1 r2 v ts F S d cb o1 (some n) ol W' := by
  refine (clone_any h.rep.kept).mono ?_
  rintro e W' ⟨rfl, hf, c, hz⟩
  have k := h.stay c
  refine ⟨_, rfl, k.rep, k.box, k.chg, k.new, k.n1, fun n e => ?_, fun n m e e' => ?_, k.l⟩
  · cases e; exact ⟨hf, h.lt⟩
  · cases e'; have := (h.n1 n e).1.lt; omega
theorem CD.list (h : CD w b r1 r2 v ts F S d cb o1 o2 none W) : Calls Try.prog 41 #[v] W fun e W' => ∃ o c, e = .returned (.slice o ts.length c) ∧ CD w b r1 r2 v ts F S d cb o1 o2 (some (.slice o ts.length c)) W' := by
  have hl : ts.length ≤ 1099511627776 := by have h1 := h.rep.len; have h2 := h.rep.size; have h3 := congrArg List.length h.rep.things; simp only [List.length_map] at h3; omega
  refine (tclone_any h.rep.loose (tcells_one h.rep.capt) hl).mono ?_
  rintro e W' ⟨o, c, rfl, hs, hb, hn⟩
  have k := h.stay (chg_of_below hb)
  refine ⟨o, c, rfl, k.rep, k.box, k.chg, k.new, k.n1, k.n2, k.ne, fun lv e => ?_⟩
  cases e
  exact ⟨hs, fun g hg => Nat.lt_of_lt_of_le h.lt (hn g hg)⟩
theorem CD.clip {o : Option Addr} {n c : Nat} (h : CD w b r1 r2 v ts F S d cb o1 o2 (some (.slice o n c)) W) (hn : n = ts.length) : Calls Try.prog 40 #[.slice o n c] W fun e W' => ∃ o c, e = .returned (.slice o n c) ∧ CD w b r1 r2 v ts F S d cb o1 o2 (some (.slice o n c)) W' := by
  subst hn
  refine (tclip_any (h.l _ rfl).1).mono ?_
  rintro e W' ⟨o', c', rfl, hs, rfl, he⟩
  refine ⟨o', c', rfl, h.rep, h.box, h.chg, h.new, h.n1, h.n2, h.ne, fun lv e => ?_⟩
  cases e
  exact ⟨hs, fun g hg => (h.l _ rfl).2 g (by rw [← he]; exact hg)⟩
theorem fin4 {W : World} {kb : Nat} {t : TypeId} {c0 c1 c2 c3 : Value} (h : W.heap[kb]? = some (.cells #[c0, c1, c2, c3] t)) (v1 v2 v3 : Value) :
    W.frozen? ⟨kb, 1, none⟩ = false ∧ W.cell? ⟨kb, 1, none⟩ = some c1 ∧ (W.setCell ⟨kb, 1, none⟩ v1).frozen? ⟨kb, 2, none⟩ = false ∧ (W.setCell ⟨kb, 1, none⟩ v1).cell? ⟨kb, 2, none⟩ = some c2 ∧
    ((W.setCell ⟨kb, 1, none⟩ v1).setCell ⟨kb, 2, none⟩ v2).frozen? ⟨kb, 3, none⟩ = false ∧ ((W.setCell ⟨kb, 1, none⟩ v1).setCell ⟨kb, 2, none⟩ v2).cell? ⟨kb, 3, none⟩ = some c3 ∧
    (((W.setCell ⟨kb, 1, none⟩ v1).setCell ⟨kb, 2, none⟩ v2).setCell ⟨kb, 3, none⟩ v3).heap[kb]? = some (.cells #[c0, v1, v2, v3] t) := by
  have g1 := Mk.heap_setCell_same (i := 1) h v1
  have g2 := Mk.heap_setCell_same (i := 2) g1 v2
  have g3 := Mk.heap_setCell_same (i := 3) g2 v3
  exact ⟨frozen_of h, cell_of h rfl, frozen_of g1, cell_of g1 rfl, frozen_of g2, cell_of g2 rfl, g3⟩
theorem CD.fin {n1 n2 : Nat} (h : CD w b r1 r2 v ts F S d cb (some n1) (some n2) (some lv) W) :
    DiskIs (((W.setCell ⟨cb, 1, none⟩ (.map (some n1))).setCell ⟨cb, 2, none⟩ (.map (some n2))).setCell ⟨cb, 3, none⟩ lv) cb (fun g => w.heap.size ≤ g) S d ∧
    Chg (fun _ => False) w (((W.setCell ⟨cb, 1, none⟩ (.map (some n1))).setCell ⟨cb, 2, none⟩ (.map (some n2))).setCell ⟨cb, 3, none⟩ lv) := by
  obtain ⟨-, -, -, -, -, -, hx⟩ := fin4 h.box (.map (some n1)) (.map (some n2)) lv
  have c1 : Chg (fun g => g = cb) W (((W.setCell ⟨cb, 1, none⟩ (.map (some n1))).setCell ⟨cb, 2, none⟩ (.map (some n2))).setCell ⟨cb, 3, none⟩ lv) :=
    (((Chg.refl (fun g => g = cb) W).setCell (a := ⟨cb, 1, none⟩) (Or.inl rfl) _).setCell (a := ⟨cb, 2, none⟩) (Or.inl rfl) _).setCell (a := ⟨cb, 3, none⟩) (Or.inl rfl) _
  obtain ⟨f1, l1⟩ := h.n1 n1 rfl
  obtain ⟨f2, l2⟩ := h.n2 n2 rfl
  obtain ⟨hs, hl⟩ := h.l lv rfl
  have hk : Keep W _ := Keep.of_chg c1 (fun g hg _ => by
    subst hg
    unfold capS capI
    rw [h.box]
    refine ⟨fun n e => ?_, fun n e => ?_⟩ <;> simp at e)
  have hr := h.rep
  have hn := h.new
  refine ⟨⟨n1, n2, lv, ts, hx, f1.stay (c1.block n1 f1.lt (by omega)), f2.stay (c1.block n2 f2.lt (by omega)), h.ne n1 n2 rfl rfl, hr.things, sl.stay hs (fun g hg => c1.block g (sl.lt hs hg) (by have := hl g hg; omega)), fun t ht => hk.capt (hr.capt t ht), hr.mays, hr.acts, hr.size, hr.len, hr.room, hn, by omega, by omega, fun g hg => by have := hl g hg; omega⟩, ?_⟩
  exact h.chg.trans' c1 (fun i e => Or.inr (by subst e; exact hn))

set_option maxRecDepth 100000 in
set_option maxHeartbeats 4000000 in
theorem dcopy_any (h : DiskRep w b r1 r2 v ts F S d) : Calls Try.prog 20 #[.pointer (some ⟨b, 0, none⟩)] w fun e w' => ∃ c, e = .returned (.pointer (some ⟨c, 0, none⟩)) ∧ DiskIs w' c (fun g => w.heap.size ≤ g) S d ∧ Chg (fun _ => False) w w' := by
  have A := Lib.hid (not_any h)
  obtain ⟨ao, ac, rfl⟩ := h.shape
  obtain ⟨c0, c1, c2, c3⟩ := h.cells
  have H := Lib.hid h
  clear h
  go_enter Try.func20, Try.ntmps20
  go_wp2_with fail
  refine A.out.mono ?_
  rintro e w1 ⟨rfl, rfl⟩
  have hC : CD w1 b r1 r2 (.slice ao ts.length ac) ts F S d w1.heap.size none none none (w1.alloc (.cells #[.int .i64 d.room, .map (some r1), .map (some r2), .slice ao ts.length ac] 57)).drew := by
    have c : Chg (fun _ => False) w1 (w1.alloc (.cells #[.int .i64 d.room, .map (some r1), .map (some r2), .slice ao ts.length ac] 57)).drew := ((Chg.refl _ _).alloc _).drew
    exact ⟨H.out.same c, Go.heap_alloc_new _ _, c, Nat.le_refl _, (fun n e => nomatch e), (fun n e => nomatch e), (fun n m e => nomatch e), (fun lv e => nomatch e)⟩
  obtain ⟨cb, hcb⟩ : ∃ cb, Hid (w1.heap.size = cb) := ⟨_, Lib.hid rfl⟩
  obtain ⟨W0, HW0⟩ : ∃ W, Hid (w1.alloc (.cells #[.int .i64 d.room, .map (some r1), .map (some r2), .slice ao ts.length ac] 57) = W) := ⟨_, Lib.hid rfl⟩
  rw [HW0.out, hcb.out] at hC
  have p1 : W0.cell? ⟨b, 1, none⟩ = _ := hC.rep.cells.2.1
  have p2 : W0.cell? ⟨b, 2, none⟩ = _ := hC.rep.cells.2.2.1
  have p3 : W0.cell? ⟨b, 3, none⟩ = _ := hC.rep.cells.2.2.2
  have HC := Lib.hid hC
  have hbl : b < w1.heap.size := H.out.lt.1
  rw [hcb.out] at hbl
  have hbn : b ≠ cb := by omega
  have hbn' : cb ≠ b := by omega
  clear hC A H hbl
  go_wp2_with fail
  rw [HW0.out, hcb.out]
  clear c0 c1 c2 c3
  go_region_held3 (fun v => v.cell? ⟨b, 1, none⟩ = some (.map (some r1)) ∧ v.cell? ⟨b, 2, none⟩ = some (.map (some r2)) ∧ v.cell? ⟨b, 3, none⟩ = some (.slice ao ts.length ac)) (first | (go_split_ands; refine ⟨?_, ?_, ?_⟩ <;> with_reducible assumption) | go_keep) (first | (go_at_call 35; with_reducible refine HC.out.now.mono ?_; rintro e w2 ⟨n1, rfl, hC⟩; have p1 := hC.rep.cells.2.1; have p2 := hC.rep.cells.2.2.1; have p3 := hC.rep.cells.2.2.2; have HC := Lib.hid hC; clear hC) | (go_at_call 35; with_reducible refine HC.out.kept.mono ?_; rintro e w3 ⟨n2, rfl, hC⟩; have p1 := hC.rep.cells.2.1; have p2 := hC.rep.cells.2.2.1; have p3 := hC.rep.cells.2.2.2; have HC := Lib.hid hC; clear hC) | (go_at_call 41; with_reducible refine HC.out.list.mono ?_; rintro e w4 ⟨lo, lc, rfl, hC⟩; have p1 := hC.rep.cells.2.1; have p2 := hC.rep.cells.2.2.1; have p3 := hC.rep.cells.2.2.2; have HC := Lib.hid hC; clear hC) | (go_at_call 40; with_reducible refine (HC.out.clip rfl).mono ?_; rintro e w5 ⟨lo2, lc2, rfl, hC⟩; have p1 := hC.rep.cells.2.1; have p2 := hC.rep.cells.2.2.1; have p3 := hC.rep.cells.2.2.2; have HC := Lib.hid hC; obtain ⟨y1, y2, y3, y4, y5, y6, -⟩ := fin4 hC.box (.map (some n1)) (.map (some n2)) (.slice lo2 ts.length lc2); clear hC))
  obtain ⟨z1, z2⟩ := HC.out.fin
  have HZ1 := Lib.hid z1
  have HZ2 := Lib.hid z2
  clear z1 z2 HC y1 y2 y3 y4 y5 y6 p1 p2 p3
  go_wp2
  go_ret
  exact ⟨cb, rfl, HZ1.out, HZ2.out⟩
end
end Go.Proofs.Ytjflkmihkfbgpaa
