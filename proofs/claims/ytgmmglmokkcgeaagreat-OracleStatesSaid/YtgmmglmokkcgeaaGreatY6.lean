/- In Bytes: each call at whatever world. -/
import Derived.Test.YtgmmglmokkcgeaaGreatY5
import Derived.Test.YtgmmglmokkcgeaaGreatX4
import Derived.Deep.QuietTactic
import Derived.BigQuiet
namespace Go.Proofs.YtgmmglmokkcgeaaGreat
set_option linter.unusedVariables false
set_option linter.unusedSimpArgs false
set_option linter.unusedSectionVars false
open Go.RowKit Mk Go.Sort Go.Shelf

theorem sortI_like {V W : Type} {A : List (Nat × V)} {B : List (Nat × W)} (ha : A.Pairwise (fun p q => p.1 ≠ q.1)) (hb : Ris ltN B) (h : ∀ x, (lk A x).isSome = (lk B x).isSome) : sortI (A.map (·.1)) = B.map (·.1) := by
  have hk : ∀ x, x ∈ A.map (·.1) ↔ x ∈ B.map (·.1) := fun x => by
    have key : ∀ {V W : Type} {A : List (Nat × V)} {B : List (Nat × W)}, (∀ x, (lk A x).isSome = (lk B x).isSome) → x ∈ A.map (·.1) → x ∈ B.map (·.1) := fun {V W A B} h hx => by
      obtain ⟨v, hv⟩ := lk_of_mem hx
      have h2 := h x
      rw [hv] at h2
      obtain ⟨v, hv⟩ := Option.isSome_iff_exists.1 h2.symm
      exact List.mem_map.2 ⟨_, lk_mem hv, rfl⟩
    exact ⟨key h, key (fun x => (h x).symm)⟩
  have hn1 : (A.map (·.1)).Nodup := by unfold List.Nodup; rw [List.pairwise_map]; exact ha
  have hn2 : (B.map (·.1)).Nodup := by unfold List.Nodup; rw [List.pairwise_map]; exact hb.apart ltN_ord
  rw [sortI_perm ((List.perm_ext_iff_of_nodup hn1 hn2).2 hk)]
  refine sortI_eq ?_
  rw [List.pairwise_map]
  exact hb.imp (fun h => by simpa [ltN] using h)
section
variable {w w' : World} {b : Nat} {R : Loc} {F : Nat → Prop} {n : OM} {r : RM}
theorem lk_nv {K : Type} [DecidableEq K] (L : List (K × Nat)) (x : K) : (lk (nv L) x).isSome = (lk L x).isSome := by unfold nv; rw [lk_map]; cases lk L x <;> rfl
theorem lk_tv (L : List (ByteArray × Tb)) (x : ByteArray) : (lk (tv L) x).isSome = (lk L x).isSome := by unfold tv; rw [lk_map]; cases lk L x <;> rfl
/-- The writer and its variable, made. -/
theorem bw_begin (h : RawRep w b R F n) (hF : ∀ g, F g → g < w.heap.size) : BwAt w b (w.heap.size + 1) w.heap.size R F n [] ((w.alloc (.cells #[.string ⟨#[]⟩] 94)).alloc (.cells #[.pointer (some ⟨w.heap.size, 0, none⟩)] 92)) where
  st := h.same (((Chg.refl _ w).alloc _).alloc _)
  wr := (Below.heap_alloc _ _ _ (by simp)).trans (Go.heap_alloc_new w _)
  var := by have := Go.heap_alloc_new (w.alloc (.cells #[.string ⟨#[]⟩] 94)) (.cells #[.pointer (some ⟨w.heap.size, 0, none⟩)] 92); rwa [World.size_alloc] at this
  chg := ((Chg.refl _ w).alloc _).alloc _
  new := Nat.le_refl _
  fl := hF
/-- What a call that writes leaves. -/
def BwTo (w : World) (b vb wb : Nat) (R : Loc) (F : Nat → Prop) (n : OM) (L' : List UInt8) (W W' : World) : Prop := BwAt w b vb wb R F n L' W' ∧ Chg (fun g => g = wb) W W'
/-- A call of num, at whatever world that has come of this one by what was made. -/
abbrev NumC (w : World) (b vb wb : Nat) (R : Loc) (F : Nat → Prop) (n : OM) (L' : List UInt8) (W : World) (k : Nat) (xs : List Nat) : Prop :=
  ∀ (u : World) (g : Nat) (cs : Array Value), Chg (fun _ => False) W u → u.heap[g]? = some (.cells cs 24) → cs = (xs.map fun x => Value.int .u64 (x : Nat)).toArray →
    Calls Tryz.prog 42 #[.pointer (some ⟨wb, 0, none⟩), .slice (some ⟨g, 0, none⟩) k k] u fun e W' => e = .returned (.tuple #[]) ∧ Hid (BwTo w b vb wb R F n L' W W')
theorem chg_wb {W u W' : World} {wb : Nat} (c : Chg (fun _ => False) W u) (c2 : Chg (fun g => g = wb) u W') : Chg (fun g => g = wb) W W' := (c.mono (fun _ f => f.elim)).trans c2
theorem BwAt.rowC {W u : World} {vb wb : Nat} {L L' : List UInt8} (h : BwAt w b vb wb R F n L W) (cu : Chg (fun _ => False) W u) {o : Option Addr} {c : Nat} {xs : List Nat} (hN : NumsAt u (.slice o xs.length c) xs) (hn : xs.length ≤ 17179869184) (hx : ∀ x ∈ xs, x < 18446744073709551616) (hL : L.length ≤ 1099511627776) (hL' : L' = L ++ xs.flatMap Cod.num) :
    Calls Tryz.prog 42 #[.pointer (some ⟨wb, 0, none⟩), .slice o xs.length c] u fun e W' => e = .returned (.tuple #[]) ∧ Hid (BwTo w b vb wb R F n L' W W') := by
  have hu := h.same cu
  refine (wnum_any hu.wr hN hx hL hn).mono ?_
  rintro e W' ⟨rfl, h1, h2⟩
  rw [str_nums, ← hL'] at h1
  exact ⟨rfl, Lib.hid ⟨hu.next h1 h2, chg_wb cu h2⟩⟩
theorem BwAt.numC {W : World} {vb wb : Nat} {L L' : List UInt8} (h : BwAt w b vb wb R F n L W) (k : Nat) (xs : List Nat) (hk : xs.length = k) (hn : k ≤ 4) (hx : ∀ x ∈ xs, x < 18446744073709551616) (hL : L.length ≤ 1099511627776) (hL' : L' = L ++ xs.flatMap Cod.num) : NumC w b vb wb R F n L' W k xs := by
  subst hk
  rintro u g cs c hg rfl
  exact h.rowC c ⟨by simp, Or.inr ⟨g, xs.length, _, rfl, hg, Nat.le_refl _, by simp only [maxLen]; omega, by simp, by simp only [List.toList_toArray, Nat.mul_one]; exact List.take_of_length_le (by simp)⟩⟩ (by omega) hx hL hL'
theorem BwAt.textC {W u : World} {vb wb : Nat} {L L' : List UInt8} (h : BwAt w b vb wb R F n L W) (cu : Chg (fun _ => False) W u) (t : ByteArray) (hL : L.length ≤ 1099511627776) (ht : t.size ≤ 1099511627776) (hL' : L' = L ++ Cod.text t.data.toList) :
    Calls Tryz.prog 47 #[.pointer (some ⟨wb, 0, none⟩), .string t] u fun e W' => e = .returned (.tuple #[]) ∧ Hid (BwTo w b vb wb R F n L' W W') := by
  have hu := h.same cu
  refine (wtext_any hu.wr t hL ht).mono ?_
  rintro e W' ⟨rfl, h1, h2⟩
  rw [str_text, ← hL'] at h1
  exact ⟨rfl, Lib.hid ⟨hu.next h1 h2, chg_wb cu h2⟩⟩
theorem BwAt.keep {W u : World} {vb wb : Nat} {L : List UInt8} (h : BwAt w b vb wb R F n L W) (c : Chg (fun g => g = wb) W u) : RawRep u b R F n ∧ u.heap[vb]? = some (.cells #[.pointer (some ⟨wb, 0, none⟩)] 92) := by
  have hne : vb ≠ wb := fun e => by have h1 := h.var; have h2 := h.wr; unfold WrAt at h2; rw [e, h2] at h1; simp at h1
  have hn := h.new
  exact ⟨h.st.stay c (fun i f e => by have := h.fl i f; omega), (c.block vb (Array.getElem?_eq_some_iff.1 h.var).1 hne).trans h.var⟩
theorem wrap_len (n : Nat) (h : n ≤ 1099511627776) : IntKind.u64.wrap (n : Int) = (n : Int) := by simp only [IntKind.wrap, IntKind.bits, IntKind.signed]; simp; omega
theorem RawRep.lenD (h : RawRep w b R F n) (hl : LikeR R n r) (ty : TypeId) : (Builtin.len_ #[31] ty #[.map (some R.d)]).run Tryz.prog w = .ok (.int .i64 (r.d.length : Nat)) w := by
  have := run_len (P := Tryz.prog) Tryz.underlying31 h.dec ty
  rw [this, nv, List.length_map, (h.lens hl).1]
theorem RawRep.lenL (h : RawRep w b R F n) (hl : LikeR R n r) (ty : TypeId) : (Builtin.len_ #[32] ty #[.map (some R.l)]).run Tryz.prog w = .ok (.int .i64 (r.k.length : Nat)) w := by
  have := run_len (P := Tryz.prog) Tryz.underlying32 h.las ty
  rw [this, nv, List.length_map, (h.lens hl).2.1]
theorem RawRep.lenT (h : RawRep w b R F n) (hl : LikeR R n r) (ty : TypeId) : (Builtin.len_ #[33] ty #[.map (some R.t)]).run Tryz.prog w = .ok (.int .i64 (r.t.length : Nat)) w := by
  have := run_len (P := Tryz.prog) Tryz.underlying33 h.tab ty
  rw [this, tv, List.length_map, (h.lens hl).2.2.1]
theorem RawRep.lenC (h : RawRep w b R F n) (hl : LikeR R n r) (ty : TypeId) : (Builtin.len_ #[34] ty #[.map (some R.c)]).run Tryz.prog w = .ok (.int .i64 (r.c.length : Nat)) w := by
  have := run_len (P := Tryz.prog) Tryz.underlying34 h.com ty
  rw [this, (h.lens hl).2.2.2]
theorem BwAt.sortD {W : World} {vb wb : Nat} {L : List UInt8} (h : BwAt w b vb wb R F n L W) (hl : LikeR R n r) (hd : r.d.length ≤ 1099511627776) :
    Calls Tryz.prog 43 #[.func (.func 86) #[] #[.pointer (some ⟨W.heap.size, 0, none⟩)]] (W.alloc (.cells #[.map (some R.d)] 31)) fun e w' => ∃ o c, e = .returned (.slice o r.d.length c) ∧ Hid (BwAt w b vb wb R F n L w' ∧ NumsAt w' (.slice o r.d.length c) (r.d.map (·.1))) := by
  have e1 : sortI ((nv n.dec).map (·.1)) = r.d.map (·.1) := sortI_like h.st.dec.apart hl.ds (fun x => by rw [lk_nv, hl.d])
  have hs := sorted43_any h.st.dec (by rw [nv, List.length_map, (h.st.lens hl).1]; exact hd)
  rw [e1] at hs
  refine hs.mono ?_
  rintro e w' ⟨o, c, rfl, h1, h2, -⟩
  rw [List.length_map] at h1
  exact ⟨o, c, by rw [List.length_map], Lib.hid ⟨h.same h2, h1⟩⟩
theorem BwAt.sortL {W : World} {vb wb : Nat} {L : List UInt8} (h : BwAt w b vb wb R F n L W) (hl : LikeR R n r) (hd : r.k.length ≤ 1099511627776) :
    Calls Tryz.prog 45 #[.func (.func 89) #[] #[.pointer (some ⟨W.heap.size, 0, none⟩)]] (W.alloc (.cells #[.map (some R.l)] 32)) fun e w' => ∃ o c, e = .returned (.slice o r.k.length c) ∧ Hid (BwAt w b vb wb R F n L w' ∧ NL w' (.slice o r.k.length c) (r.k.map (·.1))) := by
  have e1 : sortN ((nv n.las).map (·.1)) = r.k.map (·.1) := sortN_like h.st.las.apart hl.ks (fun x => by rw [lk_nv, hl.k])
  have hs := sorted46_any h.st.las (by rw [nv, List.length_map, (h.st.lens hl).2.1]; exact hd)
  rw [e1] at hs
  refine hs.mono ?_
  rintro e w' ⟨o, c, rfl, h1, h2, -⟩
  rw [List.length_map] at h1
  exact ⟨o, c, by rw [List.length_map], Lib.hid ⟨h.same h2, h1⟩⟩
theorem BwAt.sortC {W : World} {vb wb : Nat} {L : List UInt8} (h : BwAt w b vb wb R F n L W) (hl : LikeR R n r) (hd : r.c.length ≤ 1099511627776) :
    Calls Tryz.prog 45 #[.func (.func 91) #[] #[.pointer (some ⟨W.heap.size, 0, none⟩)]] (W.alloc (.cells #[.map (some R.c)] 34)) fun e w' => ∃ o c, e = .returned (.slice o r.c.length c) ∧ Hid (BwAt w b vb wb R F n L w' ∧ NL w' (.slice o r.c.length c) (r.c.map (·.1)) ∧ Chg (fun _ => False) W w') := by
  have e1 : sortN (R.rows.map (·.1)) = r.c.map (·.1) := sortN_like h.st.com.apart hl.cs (fun x => by rw [hl.c]; cases lk R.rows x <;> rfl)
  have hs := sorted48_any h.st.com (by rw [(h.st.lens hl).2.2.2]; exact hd)
  rw [e1] at hs
  refine hs.mono ?_
  rintro e w' ⟨o, c, rfl, h1, h2, -⟩
  rw [List.length_map] at h1
  exact ⟨o, c, by rw [List.length_map], Lib.hid ⟨h.same h2, h1, h2⟩⟩
/-- Rows are no writers. -/
theorem NumsAt.off {W W' : World} {wb : Nat} {s : ByteArray} {v : Value} {l : List Nat} (h : NumsAt W v l) (hw : WrAt W wb s) (c : Chg (fun g => g = wb) W W') : NumsAt W' v l :=
  sl.stay h (fun g hg => by obtain ⟨cur, hh⟩ := sl_typ h hg; exact c.block g (sl.lt h hg) (typ_ne hh hw (by decide)))
theorem NL.off {W W' : World} {wb : Nat} {s : ByteArray} {v : Value} {l : List ByteArray} (h : NL W v l) (hw : WrAt W wb s) (c : Chg (fun g => g = wb) W W') : NL W' v l :=
  sl.stay h (fun g hg => by obtain ⟨cur, hh⟩ := sl_typ h hg; exact c.block g (sl.lt h hg) (typ_ne hh hw (by decide)))
theorem NumsAt.at_ {W : World} {o : Option Addr} {N c : Nat} {l : List Nat} (h : NumsAt W (.slice o N c) l) {i x : Nat} (hx : l[i]? = some x) : ∃ g, o = some ⟨g, 0, none⟩ ∧ W.cell? ⟨g, i, none⟩ = some (.int .u64 (x : Nat)) := by
  obtain ⟨g, cap, e, hc⟩ := sl.cell h (i := i) (u := .int .u64 (x : Nat)) (by rw [List.getElem?_map, hx]; rfl)
  injection e with e1 e2 e3
  exact ⟨g, e1, hc⟩
theorem NL.at_ {W : World} {o : Option Addr} {N c : Nat} {l : List ByteArray} (h : NL W (.slice o N c) l) {i : Nat} {x : ByteArray} (hx : l[i]? = some x) : ∃ g, o = some ⟨g, 0, none⟩ ∧ W.cell? ⟨g, i, none⟩ = some (.string x) := by
  obtain ⟨g, cap, e, hc⟩ := NL.cell h hx
  injection e with e1 e2 e3
  exact ⟨g, e1, hc⟩
theorem RawRep.valD (h : RawRep w b R F n) (hl : LikeR R n r) {x v : Nat} (hx : x < 18446744073709551616) {i : Nat} (hi : r.d[i]? = some (x, v)) : (Instr.lookup 31 (.map (some R.d)) (.int .u64 (x : Nat)) false).run Tryz.prog w = .ok (.int .u64 (v : Nat)) w := by
  rw [h.lookD hx, hl.d, (lk_some (hl.ds.apart ltN_ord) hi).1]; rfl
theorem RawRep.valL (h : RawRep w b R F n) (hl : LikeR R n r) {x : ByteArray} {v : Nat} (hx : x.size ≤ maxLen) {i : Nat} (hi : r.k[i]? = some (x, v)) : (Instr.lookup 32 (.map (some R.l)) (.string x) false).run Tryz.prog w = .ok (.int .u64 (v : Nat)) w := by
  rw [h.lookL hx, hl.k, (lk_some (hl.ks.apart lessB_ord) hi).1]; rfl
theorem RawRep.rowC (h : RawRep w b R F n) (hl : LikeR R n r) {x : ByteArray} {l : List Nat} {i : Nat} (hi : r.c[i]? = some (x, l)) : ∃ o c, lk R.rows x = some (.slice o l.length c) ∧ n.com x = l := by
  have h1 := hl.c x
  rw [(lk_some (hl.cs.apart lessB_ord) hi).1] at h1
  cases hr : lk R.rows x with
  | none => rw [hr] at h1; cases h1
  | some v =>
    rw [hr] at h1
    have e : n.com x = l := (Option.some.inj h1).symm
    have hs := h.rows _ (lk_mem hr)
    simp only [e] at hs
    obtain ⟨o, c, rfl⟩ := sl_shape hs
    exact ⟨o, c, rfl, e⟩
theorem RawRep.runC (h : RawRep w b R F n) {x : ByteArray} {v : Value} (hx : x.size ≤ maxLen) (hv : lk R.rows x = some v) : (Instr.lookup 34 (.map (some R.c)) (.string x) false).run Tryz.prog w = .ok v w := by
  have hm := run_lookup keysS Tryz.underlying34 (z := .slice none 0 0) (w := w) (by simp [go_sem]) h.com (x := x) hx false
  simp only [kvS] at hm
  rw [hm, hv]
  rfl
theorem RawRep.numsC (h : RawRep w b R F n) {x : ByteArray} {l : List Nat} {v : Value} (hv : lk R.rows x = some v) (he : n.com x = l) : NumsAt w v l := by
  have hs := h.rows _ (lk_mem hv)
  simp only [he] at hs
  exact hs
end
end Go.Proofs.YtgmmglmokkcgeaaGreat
