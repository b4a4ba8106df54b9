/- Walks: Write, Append, Read, Loose, New. -/
import Derived.Test.YtjflkmihkfbgpaaW4
namespace Go.Proofs.Ytjflkmihkfbgpaa
open Go.RowKit Mk Go.Sort

section
variable {w : World} {b r1 r2 : Nat} {v : Value} {ts : List (Value × Thing)} {F : Nat → Prop} {S : Nat} {d : DiskM}

theorem DiskRep.own_in (h : DiskRep w b r1 r2 v ts F S d) {g : Nat} (hg : own b r1 r2 v g) : F g := by
  rcases hg with rfl | rfl | rfl | hg
  · exact h.fb
  · exact h.f1
  · exact h.f2
  · exact h.fv g hg
theorem DiskIs.larger {S' : Nat} (h : DiskIs w b F S d) (hS : S ≤ S') (h' : S' ≤ 1099511627776) : DiskIs w b F S' d := by
  obtain ⟨r1, r2, v, ts, h⟩ := h
  refine ⟨r1, r2, v, ts, h.disk, h.now, h.kept, h.ne, h.things, h.loose, h.capt, h.mays, h.acts, ?_, Nat.le_trans h.len hS, h.room, h.fb, h.f1, h.f2, h.fv⟩
  have := h.size
  omega
theorem DiskIs.foot {G : Nat → Prop} (h : DiskIs w b F S d) (hF : ∀ i, F i → G i) : DiskIs w b G S d := by
  obtain ⟨r1, r2, v, ts, h⟩ := h
  exact ⟨r1, r2, v, ts, h.foot hF⟩
theorem DiskIs.same {w' : World} (h : DiskIs w b F S d) (c : Chg (fun _ => False) w w') : DiskIs w' b F S d := by
  obtain ⟨r1, r2, v, ts, h⟩ := h
  exact ⟨r1, r2, v, ts, h.same c⟩

/-- A call's end: the disk is so; nothing but its own blocks has turned. -/
structure To (w : World) (b : Nat) (F : Nat → Prop) (S : Nat) (d : DiskM) (w' : World) : Prop where
  is : DiskIs w' b (fun g => F g ∨ w.heap.size ≤ g) S d
  chg : Chg F w w'
  keep : Keep w w'

theorem To.of_same {w' : World} (h : DiskIs w b F S d) (c : Chg (fun _ => False) w w') : To w b F S d w' :=
  ⟨(h.same c).foot (fun _ => Or.inl), c.mono (fun _ f => f.elim), Keep.of_none c⟩
theorem To.behind {w0 w' : World} {S' : Nat} {d' : DiskM} (c : Chg (fun _ => False) w0 w) (h : To w b F S' d' w') : To w0 b F S' d' w' :=
  ⟨h.is.foot (fun g hg => hg.imp id (fun e => Nat.le_trans c.size e)), (c.mono (fun _ f => f.elim)).trans h.chg, (Keep.of_none c).trans h.keep⟩
theorem To.larger {w' : World} {S' : Nat} (h : To w b F S d w') (hS : S ≤ S') (h' : S' ≤ 1099511627776) : To w b F S' d w' := ⟨h.is.larger hS h', h.chg, h.keep⟩
theorem To.trans {w1 w2 : World} {S' : Nat} {d' : DiskM} (h : To w b F S d w1) (k : To w1 b (fun g => F g ∨ w.heap.size ≤ g) S' d' w2) : To w b F S' d' w2 :=
  ⟨k.is.foot (fun g hg => hg.elim id (fun e => Or.inr (Nat.le_trans h.chg.size e))), h.chg.trans' k.chg (fun i hi => hi), h.keep.trans k.keep⟩

def writeM (d : DiskM) (n s : ByteArray) : DiskM × Int := if named n = false then (d, 2) else if fitsM d n s.size then (putM d (.wr n, s), 0) else (d, 6)
def appendM (d : DiskM) (n s : ByteArray) : DiskM × Int := if named n = false then (d, 2) else if fitsM d n ((byt d.now n).size + s.size) then (putM d (.app n, s), 0) else (d, 6)

theorem does_to (h : DiskIs w b F S d) {f : Value} {dd : Do} (hc : capt w f dd) (hm : may dd d.now) (s : ByteArray) (hS : S + s.size + 1 ≤ 1099511627776) :
    Calls Try.prog 30 #[.pointer (some ⟨b, 0, none⟩), .string s, f] w fun e w' => e = .returned (.int .i64 0) ∧ To w b F (S + s.size + 1) (putM d (dd, s)) w' := by
  obtain ⟨r1, r2, v, ts, h⟩ := h
  refine (does_any h hc hm s hS).mono ?_
  rintro e w' ⟨rfl, h1, h2⟩
  exact ⟨rfl, h1, h2.mono (fun g hg => h.own_in hg), h.keeps h2⟩
theorem able_to (h : DiskIs w b F S d) (there : Bool) (n : ByteArray) (g : Nat) {W : World} (c : Chg (fun _ => False) w W) (c1 : W.cell? ⟨g, 0, none⟩ = some (.string n)) :
    Calls Try.prog 28 #[.pointer (some ⟨b, 0, none⟩), .bool there, .slice (some ⟨g, 0, none⟩) 1 1] W fun e w' => e = .returned (.int .i64 (ableM there n d.now)) ∧ Chg (fun _ => False) W w' := by
  obtain ⟨r1, r2, v, ts, h⟩ := h
  refine (able_any (h.same c) there g n c1).mono ?_
  rintro e w' ⟨rfl, h1⟩
  exact ⟨rfl, h1⟩
theorem fits_to (h : DiskIs w b F S d) (x : ByteArray) (n : Nat) (hx : okS x) (hn : n ≤ 2199023255552) {W : World} (c : Chg (fun _ => False) w W) :
    Calls Try.prog 29 #[.pointer (some ⟨b, 0, none⟩), .string x, .int .i64 n] W fun e w' => e = .returned (.bool (fitsM d x n)) ∧ Chg (fun _ => False) W w' := by
  obtain ⟨r1, r2, v, ts, h⟩ := h
  refine (fits_any (h.same c) x n hx hn).mono ?_
  rintro e w' ⟨rfl, h1⟩
  exact ⟨rfl, h1⟩
theorem Mk.Chg.stays {w w' : World} {c : Nat} {o : Obj} (h : Chg (fun _ => False) w w') (hc : w.heap[c]? = some o) : w'.heap[c]? = some o :=
  (h.block c (Array.getElem?_eq_some_iff.1 hc).1 (fun f => f)).trans hc

/-- The name's own block, and the list of it. -/
structure Boxed (w : World) (n : ByteArray) (W : World) : Prop where
  chg : Chg (fun _ => False) w W
  box : W.heap[w.heap.size]? = some (.cells #[.string n] 9)
  list : W.cell? ⟨w.heap.size + 1, 0, none⟩ = some (.string n)
theorem boxed (w : World) (n : ByteArray) : Boxed w n ((w.alloc (.cells #[.string n] 9)).alloc (.cells #[.string n] 9)) := by
  have hz : (w.alloc (.cells #[.string n] 9)).heap.size = w.heap.size + 1 := by simp
  refine ⟨((Chg.refl _ _).alloc _).alloc _, ?_, ?_⟩
  · rw [Below.heap_alloc _ _ _ (by omega)]
    exact Go.heap_alloc_new _ _
  · have := Go.heap_alloc_new (w.alloc (.cells #[.string n] 9)) (.cells #[.string n] 9)
    rw [hz] at this
    exact cell_of this (by simp)

theorem capt_wr {w : World} {n : ByteArray} (hn : okS n) {c : Nat} (h : w.heap[c]? = some (.cells #[.string n] 9)) : capt w (.func (.func 31) #[] #[.pointer (some ⟨c, 0, none⟩)]) (.wr n) := ⟨hn, c, rfl, h⟩
theorem capt_app {w : World} {n : ByteArray} (hn : okS n) {c : Nat} (h : w.heap[c]? = some (.cells #[.string n] 9)) : capt w (.func (.func 34) #[] #[.pointer (some ⟨c, 0, none⟩)]) (.app n) := ⟨hn, c, rfl, h⟩

set_option maxRecDepth 100000 in
set_option maxHeartbeats 1000000 in
theorem write_any (h : DiskIs w b F S d) (n s : ByteArray) (hS : S + s.size + 1 ≤ 1099511627776) :
    Calls Try.prog 9 #[.pointer (some ⟨b, 0, none⟩), .string n, .string s] w fun e w' => e = .returned (.int .i64 (writeM d n s).2) ∧ To w b F (S + s.size + 1) (writeM d n s).1 w' := by
  have hB := boxed w n
  obtain ⟨W, HW⟩ : ∃ W, Hid ((w.alloc (.cells #[.string n] 9)).alloc (.cells #[.string n] 9) = W) := ⟨_, Lib.hid rfl⟩
  rw [HW.out] at hB
  have HB := Lib.hid hB
  have H := Lib.hid h
  have A := Lib.hid (able_to h false n _ hB.chg hB.list)
  have hs : s.size ≤ 1099511627776 := by omega
  obtain ⟨E, HE⟩ : ∃ E, Hid (writeM d n s = E) := ⟨_, Lib.hid rfl⟩
  rw [HE.out]
  cases hn : named n
  · have e0 : E = (d, 2) := by rw [← HE.out]; simp [writeM, hn]
    subst e0
    have ea : ableM false n d.now = 2 := by simp [ableM, hn]
    rw [ea] at A
    clear h HE hn ea hB
    go_enter Try.func9, Try.ntmps9
    go_wp2_with fail
    rw [HW.out]
    refine A.out.mono ?_
    rintro e w1 ⟨rfl, k1⟩
    go_wp2
    go_ret
    exact ⟨rfl, (To.of_same H.out (HB.out.chg.trans k1)).larger (by omega) hS⟩
  · have ea : ableM false n d.now = 0 := by simp [ableM, hn]
    have hok := Lib.hid (named_ok hn)
    rw [ea] at A
    have FT := Lib.hid (fun (W : World) c => fits_to h n s.size (named_ok hn) (by omega) (W := W) c)
    have HD := Lib.hid (fun (w1 : World) (k : Chg (fun _ => False) w w1) (hb : w1.heap[w.heap.size]? = some (.cells #[.string n] 9)) => does_to (h.same k) (capt_wr (named_ok hn) hb) trivial s hS)
    cases hf : fitsM d n s.size
    · have e0 : E = (d, 6) := by rw [← HE.out]; simp [writeM, hn, hf]
      subst e0
      rw [hf] at FT
      clear h HE hn ea hB hf HD
      go_enter Try.func9, Try.ntmps9
      go_wp2_with fail
      rw [HW.out]
      refine A.out.mono ?_
      rintro e w1 ⟨rfl, k1⟩
      have K1 := Lib.hid (HB.out.chg.trans k1)
      have HX := Lib.hid (k1.stays HB.out.box)
      have dX := cell_of (i := 0) (v := .string n) HX.out rfl
      clear k1 A
      go_wp2_with fail
      refine (FT.out _ K1.out).mono ?_
      rintro e w2 ⟨rfl, k2⟩
      clear dX
      go_wp2
      go_ret
      exact ⟨rfl, (To.of_same H.out (K1.out.trans k2)).larger (by omega) hS⟩
    · have e0 : E = (putM d (.wr n, s), 0) := by rw [← HE.out]; simp [writeM, hn, hf]
      subst e0
      rw [hf] at FT
      clear h HE hn ea hB hf
      go_enter Try.func9, Try.ntmps9
      go_wp2_with fail
      rw [HW.out]
      refine A.out.mono ?_
      rintro e w1 ⟨rfl, k1⟩
      have K1 := Lib.hid (HB.out.chg.trans k1)
      have HX := Lib.hid (k1.stays HB.out.box)
      have dX := cell_of (i := 0) (v := .string n) HX.out rfl
      clear k1 A
      go_wp2_with fail
      refine (FT.out _ K1.out).mono ?_
      rintro e w2 ⟨rfl, k2⟩
      have K2 := Lib.hid (K1.out.trans k2)
      have D := Lib.hid (HD.out w2 K2.out (k2.stays HX.out))
      clear dX k2 FT HD HX
      go_wp2_with fail
      refine D.out.mono ?_
      rintro e w3 ⟨rfl, k3⟩
      have K3 := Lib.hid k3
      clear k3 D
      go_wp2
      go_ret
      exact ⟨rfl, To.behind K2.out K3.out⟩
end
end Go.Proofs.Ytjflkmihkfbgpaa
