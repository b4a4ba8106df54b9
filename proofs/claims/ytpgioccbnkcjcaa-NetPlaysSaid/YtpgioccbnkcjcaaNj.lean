/- NetOnly: messages counted; steps with their sides; a map of packets. -/
import Derived.Test.YtpgioccbnkcjcaaNi
import Derived.Test.YtpgioccbnkcjcaaNd
import Derived.Test.YtpgioccbnkcjcaaRange
namespace Go.Proofs.Ytpgioccbnkcjcaa
open Go.RowKit Mk

/-- How often a message is under way. -/
def pkm (m : Msg) : Pk := (m.frm, m.to, m.txt)
def ct (p : Pk) (L : List Pk) : Nat := L.countP fun x => decide (x = p)
theorem ct_nil (p : Pk) : ct p [] = 0 := rfl
theorem ct_cons (p x : Pk) (L : List Pk) : ct p (x :: L) = ct p L + if x = p then 1 else 0 := by unfold ct; rw [List.countP_cons]; simp
theorem ct_append (p : Pk) (L L' : List Pk) : ct p (L ++ L') = ct p L + ct p L' := List.countP_append
theorem ct_pos {p : Pk} {L : List Pk} : 0 < ct p L ↔ p ∈ L := by unfold ct; rw [List.countP_pos_iff]; simp
def cnt (l : List Msg) (p : Pk) : Nat := ct p (l.map pkm)
theorem cnt_cons (l : List Msg) (m : Msg) (p : Pk) : cnt (m :: l) p = cnt l p + if pkm m = p then 1 else 0 := ct_cons p _ _
theorem cnt_send (l : List Msg) (a b : Int) (s : ByteArray) (p : Pk) : cnt (l ++ [⟨a, b, s⟩]) p = cnt l p + if (a, b, s) = p then 1 else 0 := by
  unfold cnt
  rw [List.map_append, ct_append]
  simp [pkm, ct_cons, ct_nil]
theorem cnt_drop (l : List Msg) (x : Lnk) (u : Nat) (h : u < (q l x).length) (p : Pk) : cnt (dropL l x u) p + (if (x.1, x.2, (q l x)[u]) = p then 1 else 0) = cnt l p := by
  induction l generalizing u with
  | nil => simp [q] at h
  | cons m l ih =>
    by_cases hm : m.frm = x.1 ∧ m.to = x.2
    · have hq : q (m :: l) x = m.txt :: q l x := by simp [q, hm]
      cases u with
      | zero =>
        have hd : dropL (m :: l) x 0 = l := by simp [dropL, hm]
        simp only [hd, hq, List.getElem_cons_zero]
        unfold cnt
        rw [List.map_cons, ct_cons]
        simp [pkm, hm]
      | succ u =>
        have hd : dropL (m :: l) x (u + 1) = m :: dropL l x u := by simp [dropL, hm]
        have hu : u < (q l x).length := by rw [hq] at h; simpa using h
        have := ih u hu
        simp only [hd, hq, List.getElem_cons_succ]
        rw [cnt_cons, cnt_cons]
        omega
    · have hq : q (m :: l) x = q l x := by simp [q, hm]
      have hd : dropL (m :: l) x u = m :: dropL l x u := by
        cases u <;> simp [dropL, hm]
      have hu : u < (q l x).length := by rw [hq] at h; exact h
      have := ih u hu
      simp only [hd, hq]
      rw [cnt_cons, cnt_cons]
      omega
theorem cnt_link (l : List Msg) (x : Lnk) (p : Pk) : ct p (lkL l x) = if x.1 = p.1 ∧ x.2 = p.2.1 then cnt l p else 0 := by
  induction l with
  | nil => simp [lkL, q, cnt, ct_nil]
  | cons m l ih =>
    have e := cnt_cons l m p
    by_cases hm : m.frm = x.1 ∧ m.to = x.2
    · have hq : lkL (m :: l) x = pkm m :: lkL l x := by simp [lkL, q, hm, pkm]
      rw [hq, ct_cons, ih, e]
      by_cases hx : x.1 = p.1 ∧ x.2 = p.2.1
      · rw [if_pos hx, if_pos hx]
      · rw [if_neg hx, if_neg hx]
        have : pkm m ≠ p := fun e => hx ⟨by rw [← hm.1, ← e]; rfl, by rw [← hm.2, ← e]; rfl⟩
        simp [this]
    · have hq : lkL (m :: l) x = lkL l x := by simp [lkL, q, hm]
      rw [hq, ih, e]
      by_cases hx : x.1 = p.1 ∧ x.2 = p.2.1
      · rw [if_pos hx, if_pos hx]
        have : pkm m ≠ p := fun e => hm ⟨by rw [hx.1, ← e]; rfl, by rw [hx.2, ← e]; rfl⟩
        simp [this]
      · rw [if_neg hx, if_neg hx]
theorem cnt_mid (l : List Msg) (a k : Nat) (p : Pk) : ct p (midL l a k) = if (a : Int) + 1 = p.1 ∧ 1 ≤ p.2.1 ∧ p.2.1 ≤ k then cnt l p else 0 := by
  induction k with
  | zero => rw [if_neg (by omega)]; simp [midL, ct_nil]
  | succ k ih =>
    rw [midL_succ, ct_append, ih, cnt_link]
    simp only
    by_cases h1 : (a : Int) + 1 = p.1 ∧ 1 ≤ p.2.1 ∧ p.2.1 ≤ k
    · rw [if_pos h1, if_neg (by omega), if_pos (by omega)]; rfl
    · rw [if_neg h1]
      by_cases h2 : (a : Int) + 1 = p.1 ∧ (k : Int) + 1 = p.2.1
      · rw [if_pos h2, if_pos (by omega)]; omega
      · rw [if_neg h2, if_neg (by omega)]
theorem cnt_outs (l : List Msg) (N k : Nat) (p : Pk) : ct p (outL l N k) = if (1 ≤ p.1 ∧ p.1 ≤ k) ∧ 1 ≤ p.2.1 ∧ p.2.1 ≤ N then cnt l p else 0 := by
  induction k with
  | zero => rw [if_neg (by omega)]; simp [outL, ct_nil]
  | succ k ih =>
    rw [outL_succ, ct_append, ih, cnt_mid]
    by_cases h1 : (1 ≤ p.1 ∧ p.1 ≤ k) ∧ 1 ≤ p.2.1 ∧ p.2.1 ≤ N
    · rw [if_pos h1, if_neg (by omega), if_pos (by omega)]; rfl
    · rw [if_neg h1]
      by_cases h2 : (k : Int) + 1 = p.1 ∧ 1 ≤ p.2.1 ∧ p.2.1 ≤ N
      · rw [if_pos h2, if_pos (by omega)]; omega
      · rw [if_neg h2, if_neg (by omega)]
/-- A message between two machines that there are, short enough. -/
def good (N : Nat) (m : Msg) : Prop := (1 ≤ m.frm ∧ m.frm ≤ N) ∧ (1 ≤ m.to ∧ m.to ≤ N) ∧ m.txt.size ≤ 4194304
theorem cnt_all (l : List Msg) (N : Nat) (h : ∀ m ∈ l, good N m) (p : Pk) : ct p (outL l N N) = cnt l p := by
  rw [cnt_outs]
  split
  · rfl
  · rename_i hn
    symm
    rcases Nat.eq_zero_or_pos (cnt l p) with h0 | h0
    · exact h0
    · obtain ⟨m, hm, rfl⟩ := List.mem_map.1 (ct_pos.1 h0)
      have := h m hm
      exact absurd ⟨this.1, this.2.1⟩ hn
theorem out_good (l : List Msg) (N : Nat) (h : ∀ m ∈ l, good N m) (p : Pk) (hp : p ∈ outL l N N) : good N ⟨p.1, p.2.1, p.2.2⟩ := by
  have h1 : 0 < ct p (outL l N N) := ct_pos.2 hp
  rw [cnt_all l N h] at h1
  have h2 : p ∈ l.map pkm := ct_pos.1 h1
  obtain ⟨m, hm, rfl⟩ := List.mem_map.1 h2
  exact h m hm
theorem drop_mem (l : List Msg) (x : Lnk) (u : Nat) (m : Msg) (h : m ∈ dropL l x u) : m ∈ l := by
  induction l generalizing u with
  | nil => simp [dropL] at h
  | cons m' l ih =>
    unfold dropL at h
    split at h
    · cases u with
      | zero => exact List.mem_cons_of_mem _ h
      | succ u =>
        rcases List.mem_cons.1 h with rfl | h
        · exact List.mem_cons_self
        · exact List.mem_cons_of_mem _ (ih u h)
    · rcases List.mem_cons.1 h with rfl | h
      · exact List.mem_cons_self
      · exact List.mem_cons_of_mem _ (ih u h)

/-! The numbers of a slice. -/
theorem open_ints {H : Type} {enc : TypeId × Value → H} {w : World} {base : Nat} {spare : Nat → Bool} {held : Bool} {c : Value} {m0 : Nat} {y : DataW H × List MemPlace}
    (h : DataW.trod enc Try.prog w base spare held m0 33 [c] = some y) : ∃ so sln sc, c = Value.slice so sln sc ∧ ∃ xs, xs.length = sln ∧ IntsAt w so xs := by
  rcases Go.Deep.open_slice Try.underlying33 h with ⟨e, _⟩ | ⟨a, len, cap, m, n, D, Pl, e, _, hle, hcap, hm, _, hi⟩
  · refine ⟨_, _, _, by simpa using e, [], rfl, by simp, by simp, fun i h => by simp at h⟩
  · simp only [List.cons.injEq, and_true] at e
    subst e
    have hlm : len ≤ m := by rw [hm]; split <;> omega
    have hi : ∀ i, i < m → ∃ cs', w.cells? base (a.add (i * 1)) 1 = some cs' ∧ DataW.trod enc Try.prog w base spare held n 3 cs' = some (D i, Pl i) := fun i h => by
      have := hi i h
      rw [Try.cells3] at this
      exact this
    have key : ∀ i, i < len → ∃ x : Int, i64 x ∧ ∃ g o, a = ⟨g, o, none⟩ ∧ g < w.heap.size ∧ w.cell? ⟨g, o + i, none⟩ = some (.int .i64 x) := by
      intro i hil
      obtain ⟨cs, hc, ht⟩ := hi i (by omega)
      obtain ⟨_, hcl, hcell⟩ := World.cells?_some hc
      obtain ⟨c0, rfl⟩ : ∃ c, cs = [c] := by
        match cs, hcl with
        | [c], _ => exact ⟨c, rfl⟩
      obtain ⟨n0, h0, _, w0⟩ := DataW.trod_int Try.underlying3 ht
      simp at h0
      subst h0
      have hsp : a.spot = none := by
        obtain ⟨cs0, hc0, _⟩ := hi 0 (by omega)
        obtain ⟨_, hcl0, hcell0⟩ := World.cells?_some hc0
        have h6 := hcell0 0 (by omega)
        rw [List.getElem?_eq_getElem (by omega)] at h6
        exact spot_none (a := a) h6
      obtain ⟨g, o, sp⟩ := a
      simp only at hsp
      subst hsp
      have h7 := hcell 0 (by omega)
      rw [List.getElem?_cons_zero] at h7
      have h8 := World.block_lt_of_cell? w _ h7
      have e8 : (((⟨g, o, none⟩ : Addr).add (i * 1)).add 0) = ⟨g, o + i, none⟩ := by rw [Addr.add_mid, Addr.add_mid]; simp
      rw [e8] at h7 h8
      exact ⟨n0, i64_of w0, g, o, rfl, h8, h7⟩
    refine ⟨_, _, _, rfl, List.ofFn (fun i : Fin len => Classical.choose (key i i.2)), by simp, ?_, ?_, ?_⟩
    · intro x hx
      obtain ⟨i, rfl⟩ := (List.mem_ofFn).1 hx
      exact (Classical.choose_spec (key i i.2)).1
    · simp
      have := hle
      have := hcap
      simp only [maxLen] at *
      omega
    · intro i hil
      have hil' : i < len := by simpa using hil
      obtain ⟨_, g, o, ha, hg, hc⟩ := Classical.choose_spec (key i hil')
      refine ⟨g, o, by rw [ha], hg, ?_⟩
      rw [List.getElem_ofFn]
      exact hc

theorem open_sides {H : Type} {enc : TypeId × Value → H} {w : World} {base : Nat} {spare : Nat → Bool} {held : Bool} {v : Value} {d : DataW H} {p : List MemPlace} (hv1 : v.cells.toList = [v])
    (h : DataW.Trod enc Try.prog w base spare held 32 v d p) : ∃ len f, stepsAt w v len f ∧ ∀ i, i < len → ∃ xs, xs.length = (f i).sl ∧ IntsAt w (f i).so xs := by
  obtain ⟨m0, hm0⟩ := h
  rw [hv1] at hm0
  rcases Go.Deep.open_slice Try.underlying32 hm0 with ⟨e, _⟩ | ⟨a, len, cap, m, n, D, Pl, e, _, hle, hcap, hm, _, hi⟩
  · cases e
    exact ⟨0, fun _ => ⟨0, 0, 0, 0, ⟨#[]⟩, none, 0, 0⟩, ⟨⟨_, _, rfl⟩, Nat.zero_le _, fun i hi => by omega⟩, fun i hi => by omega⟩
  · simp only [List.cons.injEq, and_true] at e
    subst e
    have hlm : len ≤ m := by rw [hm]; split <;> omega
    have hi : ∀ i, i < m → ∃ cs', w.cells? base (a.add (i * 6)) 6 = some cs' ∧ DataW.trod enc Try.prog w base spare held n 35 cs' = some (D i, Pl i) := fun i h => by
      have := hi i h
      rw [Try.cells35] at this
      exact this
    have key : ∀ i, i < len → ∃ x : StepV, (x.ok ∧ ∃ xs, xs.length = x.sl ∧ IntsAt w x.so xs) ∧ ∃ g o, a = ⟨g, o, none⟩ ∧ g < w.heap.size ∧ w.rangeAt g (o + i * 6) x.cells := by
      intro i hil
      obtain ⟨cs, hc, ht⟩ := hi i (by omega)
      obtain ⟨_, hcl, hcell⟩ := World.cells?_some hc
      obtain ⟨ys, n', _, _, _, hyl, hf⟩ := DataW.trod_struct Try.underlying35 ht
      have hyl : ys.length = 6 := hyl
      obtain ⟨c0, c1, c2, c3, c4, c5, rfl⟩ := six hcl
      have hy : ∀ j, j < 6 → ∃ y, ys[j]? = some y := fun j hj => ⟨ys[j]'(by omega), List.getElem?_eq_getElem (by omega)⟩
      obtain ⟨y0, e0⟩ := hy 0 (by omega)
      obtain ⟨y1, e1⟩ := hy 1 (by omega)
      obtain ⟨y2, e2⟩ := hy 2 (by omega)
      obtain ⟨y3, e3⟩ := hy 3 (by omega)
      obtain ⟨y4, e4⟩ := hy 4 (by omega)
      obtain ⟨y5, e5⟩ := hy 5 (by omega)
      have f0 : DataW.trod enc Try.prog w base spare held n' 3 [c0] = some y0 := by simpa [Try.cells3] using (hf 0 _ rfl).trans e0
      have f1 : DataW.trod enc Try.prog w base spare held n' 3 [c1] = some y1 := by simpa [Try.cells3] using (hf 1 _ rfl).trans e1
      have f2 : DataW.trod enc Try.prog w base spare held n' 3 [c2] = some y2 := by simpa [Try.cells3] using (hf 2 _ rfl).trans e2
      have f3 : DataW.trod enc Try.prog w base spare held n' 3 [c3] = some y3 := by simpa [Try.cells3] using (hf 3 _ rfl).trans e3
      have f4 : DataW.trod enc Try.prog w base spare held n' 9 [c4] = some y4 := by simpa [Try.cells9] using (hf 4 _ rfl).trans e4
      have f5 : DataW.trod enc Try.prog w base spare held n' 33 [c5] = some y5 := by simpa [Try.cells33] using (hf 5 _ rfl).trans e5
      obtain ⟨so, sln, sc, h5, xs, hxl, hxs⟩ := open_ints f5
      obtain ⟨n0, h0, _, w0⟩ := DataW.trod_int Try.underlying3 f0
      obtain ⟨n1, h1, _, w1⟩ := DataW.trod_int Try.underlying3 f1
      obtain ⟨n2, h2, _, w2⟩ := DataW.trod_int Try.underlying3 f2
      obtain ⟨n3, h3, _, w3⟩ := DataW.trod_int Try.underlying3 f3
      obtain ⟨s4, h4, _, w4⟩ := DataW.trod_string Try.underlying9 f4
      simp at h0 h1 h2 h3 h4
      subst h0 h1 h2 h3 h4 h5
      have hsp : a.spot = none := by
        obtain ⟨cs0, hc0, _⟩ := hi 0 (by omega)
        obtain ⟨_, hcl0, hcell0⟩ := World.cells?_some hc0
        have h6 := hcell0 0 (by omega)
        rw [List.getElem?_eq_getElem (by omega)] at h6
        exact spot_none (a := a) h6
      obtain ⟨g, o, sp⟩ := a
      simp only at hsp
      subst hsp
      have hgl : g < w.heap.size := by
        have h7 := hcell 0 (by omega)
        rw [List.getElem?_cons_zero] at h7
        have h8 := World.block_lt_of_cell? w _ h7
        have e8 : (((⟨g, o, none⟩ : Addr).add (i * 6)).add 0).block = g := by rw [Addr.add_mid, Addr.add_mid]
        rw [e8] at h8
        exact h8
      refine ⟨⟨n0, n1, n2, n3, s4, so, sln, sc⟩, ⟨⟨i64_of w0, i64_of w1, i64_of w2, i64_of w3, w4⟩, xs, hxl, hxs⟩, g, o, rfl, hgl, fun j v hj => ?_⟩
      have hj6 : j < 6 := by
        have := (List.getElem?_eq_some_iff.1 hj).1
        simpa [StepV.cells] using this
      have := hcell j hj6
      rw [Addr.add_mid, Addr.add_mid] at this
      rw [this]
      exact hj
    refine ⟨len, fun i => if h : i < len then Classical.choose (key i h) else ⟨0, 0, 0, 0, ⟨#[]⟩, none, 0, 0⟩, ⟨⟨_, _, rfl⟩, by omega, fun i hil => ?_⟩, fun i hil => ?_⟩
    · obtain ⟨hok, g, o, ha, hg, hr⟩ := Classical.choose_spec (key i hil)
      simp only [dif_pos hil]
      exact ⟨hok.1, g, o, cap, by rw [ha], hg, hr⟩
    · have := (Classical.choose_spec (key i hil)).1.2
      simp only [dif_pos hil]
      exact this

/-! Packets as keys. -/
def okP (p : Pk) : Prop := i64 p.1 ∧ i64 p.2.1 ∧ p.2.2.size ≤ maxLen
def kvP (p : Pk) : Value := .agg #[.int .i64 p.1, .int .i64 p.2.1, .string p.2.2]
theorem Try.row42 : (42 : TypeId) < Try.prog.types.size := of_decide_eq_true (by kernel_rfl)
set_option maxRecDepth 100000 in
theorem Try.wide42 : (match Try.prog.underlying 42 with | some (.array _ _) | some (.struct _) => true | _ => false) = true := by rw [Try.underlying42]
set_option maxRecDepth 100000 in
theorem Try.law42 : WideMaps.KeyLaw Try.prog 42 := deep_law_laid Try.laidOut (m := 2) (by omega) Try.row42 (by kernel_rfl) Try.wide42
theorem Try.keyType42 : Try.prog.keyType 42 = true := by kernel_rfl
theorem Try.cells42 : Try.prog.cellsOf 42 = 3 := by kernel_rfl
theorem lit_pack {P : Program} {k ti ts : TypeId} {f1 f2 f3 : Field} (hu : P.underlying k = some (.struct #[f1, f2, f3]))
    (h1 : f1.type = ti) (h2 : f2.type = ti) (h3 : f3.type = ts) (o1 : f1.offset = 0) (o2 : f2.offset = 1) (o3 : f3.offset = 2)
    (n1 : (f1.name != "_") = true) (n2 : (f2.name != "_") = true) (n3 : (f3.name != "_") = true)
    (eu : P.underlying ti = some (.int .i64)) (es : P.underlying ts = some .string) (hk : P.keyType k = true) (hc : P.cellsOf k = 3)
    (cu : P.cellsOf ti = 1) (cs : P.cellsOf ts = 1) (hsz : ∃ m, P.types.size = m + 1) {a b : Int} {s : ByteArray} (ha : (Lit.int .i64 a).wf = true) (hb : (Lit.int .i64 b).wf = true) (g3 : s.size ≤ maxLen) :
    ∃ l, keyOf P k (.agg #[.int .i64 a, .int .i64 b, .string s]) = some l := by
  obtain ⟨m, hm⟩ := hsz
  have hf : (Value.agg #[.int .i64 a, .int .i64 b, .string s]).formed P k = true := by simp [Value.formed, hu, hc]
  refine ⟨.string (keyBytes [.int .i64 a, .int .i64 b, .string s.data.toList]), ?_⟩
  unfold keyOf
  simp [hu, hk, hf, hm, Program.keyLits, eu, es, Value.cells, hc, cu, cs, ha, hb, h1, h2, h3, o1, o2, o3, n1, n2, n3, g3] at *
theorem keysP : Mk.Keys Try.prog 42 okP kvP where
  keyed := Go.Maps.Keyed.of_law Try.law42
  inj a b h := by
    obtain ⟨a1, a2, a3⟩ := a
    obtain ⟨b1, b2, b3⟩ := b
    simp [kvP] at h
    simp [h]
  lit x hx := lit_pack Try.underlying42 rfl rfl rfl rfl rfl rfl (by decide) (by decide) (by decide) Try.underlying3 Try.underlying9 Try.keyType42 Try.cells42 Try.cells3 Try.cells9
    (Nat.exists_eq_succ_of_ne_zero (fun h => absurd (h ▸ Try.row42) (Nat.not_lt_zero _))) (i64_wf hx.1) (i64_wf hx.2.1) hx.2.2
end Go.Proofs.Ytpgioccbnkcjcaa
