/- ApplyOnce: acts as an argument; the entry of an act; Last; keys that are acts. -/
import Derived.Test.YtcaemfogknaioaaD4
import Derived.Deep.Slices
import Derived.Deep.MidRow
import Derived.ChangeArms
import Derived.DeepKeys4
import Derived.Laws.ResultCell
namespace Go.Proofs.Ytcaemfogknaioaa
open Go.RowKit Mk Go.Sort

structure ActV where
  c : Nat
  n : Nat
  d : ByteArray
  raw : Bool
  k : Nat
  at_ : Nat
def ActV.cells (x : ActV) : List Value := [.int .u64 x.c, .int .u64 x.n, .string x.d, .bool x.raw, .int .u8 x.k, .int .u64 x.at_]
structure ActV.ok (x : ActV) : Prop where
  c : x.c < 18446744073709551616
  n : x.n < 18446744073709551616
  d : x.d.size ≤ maxLen
  k : x.k < 256
  a : x.at_ < 18446744073709551616

/-- The slice v has these acts in the world w. -/
def actsAt (w : World) (v : Value) (len : Nat) (f : Nat → ActV) : Prop :=
  (∃ ao cap, v = .slice ao len cap) ∧ len ≤ maxLen ∧ ∀ i, i < len → (f i).ok ∧ ∃ g o cap, v = .slice (some ⟨g, o, none⟩) len cap ∧ g < w.heap.size ∧ w.rangeAt g (o + i * 6) (f i).cells

theorem Try.cells43 : Try.prog.cellsOf 43 = 6 := by kernel_rfl
theorem Try.cells9 : Try.prog.cellsOf 9 = 1 := by kernel_rfl
theorem Try.cells22 : Try.prog.cellsOf 22 = 1 := by kernel_rfl
theorem Try.cells4 : Try.prog.cellsOf 4 = 1 := by kernel_rfl
theorem Try.cells41 : Try.prog.cellsOf 41 = 1 := by kernel_rfl

theorem six {cs : List Value} (h : cs.length = 6) : ∃ a b c d e f, cs = [a, b, c, d, e, f] := by
  match cs, h with
  | [a, b, c, d, e, f], _ => exact ⟨a, b, c, d, e, f, rfl⟩
theorem spot_none {w : World} {a : Addr} {v : Value} (h : w.cell? a = some v) : a.spot = none := by
  unfold World.cell? at h
  split at h
  · split at h
    · cases h
    · rename_i hn
      cases hs : a.spot with
      | none => rfl
      | some x => rw [hs] at hn; simp at hn
  · cases h
theorem u8_of {a : Int} (h : (Lit.int .u8 a).wf = true) : ∃ c : Nat, c < 256 ∧ a = c := by
  simp [Lit.wf, IntKind.min, IntKind.max, IntKind.bits, IntKind.signed] at h
  exact ⟨a.toNat, by omega, by omega⟩

theorem open_acts {H : Type} {enc : TypeId × Value → H} {w : World} {base : Nat} {spare : Nat → Bool} {held : Bool} {v : Value} {d : DataW H} {p : List MemPlace} (hv1 : v.cells.toList = [v])
    (h : DataW.Trod enc Try.prog w base spare held 34 v d p) : ∃ len f, actsAt w v len f := by
  obtain ⟨m0, hm0⟩ := h
  rw [hv1] at hm0
  rcases Go.Deep.open_slice Try.underlying34 hm0 with ⟨e, _⟩ | ⟨a, len, cap, m, n, D, Pl, e, _, hle, hcap, hm, _, hi⟩
  · cases e
    exact ⟨0, fun _ => ⟨0, 0, ⟨#[]⟩, false, 0, 0⟩, ⟨_, _, rfl⟩, Nat.zero_le _, fun i hi => by omega⟩
  · simp only [List.cons.injEq, and_true] at e
    subst e
    have hlm : len ≤ m := by rw [hm]; split <;> omega
    have hi : ∀ i, i < m → ∃ cs', w.cells? base (a.add (i * 6)) 6 = some cs' ∧ DataW.trod enc Try.prog w base spare held n 43 cs' = some (D i, Pl i) := fun i h => by
      have := hi i h
      rw [Try.cells43] at this
      exact this
    have key : ∀ i, i < len → ∃ x : ActV, x.ok ∧ ∃ g o, a = ⟨g, o, none⟩ ∧ g < w.heap.size ∧ w.rangeAt g (o + i * 6) x.cells := by
      intro i hil
      obtain ⟨cs, hc, ht⟩ := hi i (by omega)
      obtain ⟨_, hcl, hcell⟩ := World.cells?_some hc
      obtain ⟨ys, n', _, _, _, hyl, hf⟩ := DataW.trod_struct Try.underlying43 ht
      have hyl : ys.length = 6 := hyl
      obtain ⟨c0, c1, c2, c3, c4, c5, rfl⟩ := six hcl
      have hy : ∀ j, j < 6 → ∃ y, ys[j]? = some y := fun j hj => ⟨ys[j]'(by omega), List.getElem?_eq_getElem (by omega)⟩
      obtain ⟨y0, e0⟩ := hy 0 (by omega)
      obtain ⟨y1, e1⟩ := hy 1 (by omega)
      obtain ⟨y2, e2⟩ := hy 2 (by omega)
      obtain ⟨y3, e3⟩ := hy 3 (by omega)
      obtain ⟨y4, e4⟩ := hy 4 (by omega)
      obtain ⟨y5, e5⟩ := hy 5 (by omega)
      have f0 : DataW.trod enc Try.prog w base spare held n' 22 [c0] = some y0 := by simpa [Try.cells22] using (hf 0 _ rfl).trans e0
      have f1 : DataW.trod enc Try.prog w base spare held n' 22 [c1] = some y1 := by simpa [Try.cells22] using (hf 1 _ rfl).trans e1
      have f2 : DataW.trod enc Try.prog w base spare held n' 9 [c2] = some y2 := by simpa [Try.cells9] using (hf 2 _ rfl).trans e2
      have f3 : DataW.trod enc Try.prog w base spare held n' 4 [c3] = some y3 := by simpa [Try.cells4] using (hf 3 _ rfl).trans e3
      have f4 : DataW.trod enc Try.prog w base spare held n' 41 [c4] = some y4 := by simpa [Try.cells41] using (hf 4 _ rfl).trans e4
      have f5 : DataW.trod enc Try.prog w base spare held n' 22 [c5] = some y5 := by simpa [Try.cells22] using (hf 5 _ rfl).trans e5
      obtain ⟨n0, h0, _, w0⟩ := DataW.trod_int Try.underlying22 f0
      obtain ⟨n1, h1, _, w1⟩ := DataW.trod_int Try.underlying22 f1
      obtain ⟨s2, h2, _, w2⟩ := DataW.trod_string Try.underlying9 f2
      obtain ⟨b3, h3, _⟩ := DataW.trod_bool Try.underlying4 f3
      obtain ⟨n4, h4, _, w4⟩ := DataW.trod_int Try.underlying41 f4
      obtain ⟨n5, h5, _, w5⟩ := DataW.trod_int Try.underlying22 f5
      simp at h0 h1 h2 h3 h4 h5
      subst h0 h1 h2 h3 h4 h5
      obtain ⟨k0, z0, rfl⟩ := u64_of w0
      obtain ⟨k1, z1, rfl⟩ := u64_of w1
      obtain ⟨k4, z4, rfl⟩ := u8_of w4
      obtain ⟨k5, z5, rfl⟩ := u64_of w5
      have hsp : a.spot = none := by
        obtain ⟨cs0, hc0, _⟩ := hi 0 (by omega)
        obtain ⟨_, hcl0, hcell0⟩ := World.cells?_some hc0
        have h6 := hcell0 0 (by omega)
        rw [List.getElem?_eq_getElem (by omega)] at h6
        exact spot_none (a := a) h6
      obtain ⟨g, o, sp⟩ := a
      simp only at hsp
      subst hsp
      have hgl : g < w.heap.size := by
        have h7 := hcell 0 (by omega)
        rw [List.getElem?_cons_zero] at h7
        have h8 := World.block_lt_of_cell? w _ h7
        have e8 : (((⟨g, o, none⟩ : Addr).add (i * 6)).add 0).block = g := by rw [Addr.add_mid, Addr.add_mid]
        rw [e8] at h8
        exact h8
      refine ⟨⟨k0, k1, s2, b3, k4, k5⟩, ⟨z0, z1, w2, z4, z5⟩, g, o, rfl, hgl, fun j v hj => ?_⟩
      have hj6 : j < 6 := by
        have := (List.getElem?_eq_some_iff.1 hj).1
        simpa [ActV.cells] using this
      have := hcell j hj6
      rw [Addr.add_mid, Addr.add_mid] at this
      rw [this]
      exact hj
    refine ⟨len, fun i => if h : i < len then Classical.choose (key i h) else ⟨0, 0, ⟨#[]⟩, false, 0, 0⟩, ⟨_, _, rfl⟩, by omega, fun i hil => ?_⟩
    obtain ⟨hok, g, o, ha, hg, hr⟩ := Classical.choose_spec (key i hil)
    simp only [dif_pos hil]
    exact ⟨hok, g, o, cap, by rw [ha], hg, hr⟩

/-- The cells of an act. -/
theorem actsAt.load {w v0 : World} {ao : Option Addr} {cap len : Nat} {f : Nat → ActV} (h : actsAt w (.slice ao len cap) len f) {i : Nat} (hi : i < len) (hs : ∀ g, g < w.heap.size → v0.heap[g]? = w.heap[g]?) :
    ∃ g o, ao = some ⟨g, o, none⟩ ∧ g < w.heap.size ∧ v0.cell? ⟨g, o + i * 6, none⟩ = some (.int .u64 (f i).c) ∧ v0.cell? ⟨g, o + i * 6 + 1, none⟩ = some (.int .u64 (f i).n) ∧ v0.cell? ⟨g, o + i * 6 + 2, none⟩ = some (.string (f i).d) ∧
      v0.cell? ⟨g, o + i * 6 + 3, none⟩ = some (.bool (f i).raw) ∧ v0.cell? ⟨g, o + i * 6 + 4, none⟩ = some (.int .u8 (f i).k) ∧ v0.cell? ⟨g, o + i * 6 + 5, none⟩ = some (.int .u64 (f i).at_) := by
  obtain ⟨_, hlm, h⟩ := h
  obtain ⟨_, g, o, cap', e, hg, hr⟩ := h i hi
  simp only [Value.slice.injEq] at e
  have key : ∀ j x, (f i).cells[j]? = some x → v0.cell? ⟨g, o + i * 6 + j, none⟩ = some x := fun j x hj => by
    rw [← hr j x hj]
    exact World.cell?_of_block (hs g hg)
  exact ⟨g, o, e.1, hg, key 0 _ rfl, key 1 _ rfl, key 2 _ rfl, key 3 _ rfl, key 4 _ rfl, key 5 _ rfl⟩

/-! An act as a key: of a client with a number. -/
def okA (x : Nat × Nat) : Prop := x.1 < 18446744073709551616 ∧ x.2 < 18446744073709551616
def kvA (x : Nat × Nat) : Value := .agg #[.int .u64 x.1, .int .u64 x.2, .string ⟨#[]⟩, .bool false, .int .u8 0, .int .u64 0]
theorem Try.laidOut : laidOutB Try.prog = true := by kernel_rfl
theorem Try.row43 : (43 : TypeId) < Try.prog.types.size := of_decide_eq_true (by kernel_rfl)
set_option maxRecDepth 100000 in
theorem Try.wide43 : (match Try.prog.underlying 43 with | some (.array _ _) | some (.struct _) => true | _ => false) = true := by rw [Try.underlying43]
set_option maxRecDepth 100000 in
theorem Try.law43 : WideMaps.KeyLaw Try.prog 43 := deep_law_laid Try.laidOut (m := 2) (by omega) Try.row43 (by kernel_rfl) Try.wide43
theorem Try.keyType43 : Try.prog.keyType 43 = true := by kernel_rfl
theorem lit_act {P : Program} {k tu ts tb tk : TypeId} {f1 f2 f3 f4 f5 f6 : Field} (hu : P.underlying k = some (.struct #[f1, f2, f3, f4, f5, f6]))
    (h1 : f1.type = tu) (h2 : f2.type = tu) (h3 : f3.type = ts) (h4 : f4.type = tb) (h5 : f5.type = tk) (h6 : f6.type = tu) (o1 : f1.offset = 0) (o2 : f2.offset = 1) (o3 : f3.offset = 2) (o4 : f4.offset = 3) (o5 : f5.offset = 4) (o6 : f6.offset = 5)
    (n1 : (f1.name != "_") = true) (n2 : (f2.name != "_") = true) (n3 : (f3.name != "_") = true) (n4 : (f4.name != "_") = true) (n5 : (f5.name != "_") = true) (n6 : (f6.name != "_") = true)
    (eu : P.underlying tu = some (.int .u64)) (es : P.underlying ts = some .string) (eb : P.underlying tb = some .bool) (ek : P.underlying tk = some (.int .u8)) (hk : P.keyType k = true) (hc : P.cellsOf k = 6)
    (cu : P.cellsOf tu = 1) (cs : P.cellsOf ts = 1) (cb : P.cellsOf tb = 1) (ck : P.cellsOf tk = 1) (hsz : ∃ m, P.types.size = m + 1) {a b : Int} (ha : (Lit.int .u64 a).wf = true) (hb : (Lit.int .u64 b).wf = true) :
    ∃ l, keyOf P k (.agg #[.int .u64 a, .int .u64 b, .string ⟨#[]⟩, .bool false, .int .u8 0, .int .u64 0]) = some l := by
  obtain ⟨m, hm⟩ := hsz
  have hf : (Value.agg #[.int .u64 a, .int .u64 b, .string ⟨#[]⟩, .bool false, .int .u8 0, .int .u64 0]).formed P k = true := by simp [Value.formed, hu, hc]
  have g3 : (⟨#[]⟩ : ByteArray).size ≤ maxLen := by decide
  have g4 : (Lit.int .u8 0).wf = true := by decide
  have g5 : (Lit.int .u64 0).wf = true := by decide
  refine ⟨.string (keyBytes [.int .u64 a, .int .u64 b, .string [], .bool false, .int .u8 0, .int .u64 0]), ?_⟩
  unfold keyOf
  simp [hu, hk, hf, hm, Program.keyLits, eu, es, eb, ek, Value.cells, hc, cu, cs, cb, ck, ha, hb, h1, h2, h3, h4, h5, h6, o1, o2, o3, o4, o5, o6, n1, n2, n3, n4, n5, n6, g3, g4, g5] at *
theorem keysA : Mk.Keys Try.prog 43 okA kvA where
  keyed := Go.Maps.Keyed.of_law Try.law43
  inj a b h := by
    obtain ⟨a1, a2⟩ := a
    obtain ⟨b1, b2⟩ := b
    simp [kvA] at h
    simp; omega
  lit x hx := lit_act Try.underlying43 rfl rfl rfl rfl rfl rfl rfl rfl rfl rfl rfl rfl (by decide) (by decide) (by decide) (by decide) (by decide) (by decide) Try.underlying22 Try.underlying9 Try.underlying4 Try.underlying41 Try.keyType43 Try.cells43 Try.cells22 Try.cells9 Try.cells4 Try.cells41
    (Nat.exists_eq_succ_of_ne_zero (fun h => absurd (h ▸ Try.row43) (Nat.not_lt_zero _))) (WalkArith.wf_u64 (by have := hx.1; omega)) (WalkArith.wf_u64 (by have := hx.2; omega))
end Go.Proofs.Ytcaemfogknaioaa
