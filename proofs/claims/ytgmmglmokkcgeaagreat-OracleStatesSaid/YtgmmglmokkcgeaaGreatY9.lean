/- While a state is read: the reader, the state, their variables; the loop over so many. -/
import Derived.Test.YtgmmglmokkcgeaaGreatY7
import Derived.Test.YtgmmglmokkcgeaaGreatD8
import Derived.Test.YtgmmglmokkcgeaaGreatAd
import Derived.Deep.RegionHeld3
namespace Go.Proofs.YtgmmglmokkcgeaaGreat
set_option linter.unusedVariables false
set_option linter.unusedSimpArgs false
set_option linter.unusedSectionVars false
open Go.RowKit Mk Go.Sort

section
variable {σ : Type} {St : σ → World → Prop} {rd : σ → RdS} {next : σ → σ} {f : FuncId} {caps : Array Value} {rb N : Nat} {s0 : σ} {W : World}
set_option maxRecDepth 100000 in
set_option maxHeartbeats 4000000 in
theorem many_any (hent : ∀ args u, (callFunc f args).run Tryz.prog u = .ok (.enter f args) u)
    (hnum : Calls Tryz.prog 51 #[.pointer (some ⟨rb, 0, none⟩)] W fun e W' => e = .returned (.int .u64 (N : Nat)) ∧ St s0 W')
    (hrd : ∀ s W, St s W → RdAt 112 W rb (rd s))
    (hstep : ∀ s W, St s W → (rd s).bad = false → Calls Tryz.prog f caps W fun e W' => e = .returned (.tuple #[]) ∧ St (next s) W') (hN : N < 18446744073709551616) :
    Calls Tryz.prog 52 #[.pointer (some ⟨rb, 0, none⟩), .func (.func f) #[] caps] W fun e W' => e = .returned (.tuple #[]) ∧ St (runR rd next N s0) W' := by
  have HS := Lib.hid hstep
  have HR := Lib.hid hrd
  have HU := Lib.hid hnum
  obtain ⟨F, HF⟩ : ∃ F, Hid (runR rd next N s0 = F) := ⟨_, Lib.hid rfl⟩
  rw [HF.out]
  clear hstep hrd hnum
  go_enter Tryz.func52, Tryz.ntmps52
  go_wp2_with fail
  refine HU.out.mono ?_
  rintro e w1 ⟨rfl, h1⟩
  have H1 := Lib.hid h1
  clear h1 HU
  go_wp2
  go_loopw [4] (fun i wr => ∃ (k : Nat) (s : σ), i = .int .u64 k ∧ k < 18446744073709551616 ∧ Hid (runR rd next k s = F) ∧ Hid (St s wr)) (fun i _ => (intOf i).toNat)
  case atStart => exact ⟨N, s0, rfl, hN, HF, H1⟩
  case round =>
    obtain ⟨k, s, rfl, hk, HK, HT⟩ := hrel
    clear H1
    have b1 : wr.cell? ⟨rb, 1, none⟩ = some (.bool (rd s).bad) := cell_of (HR.out s wr HT.out) rfl
    obtain ⟨bd, hbd⟩ : ∃ bd, (rd s).bad = bd := ⟨_, rfl⟩
    rw [hbd] at b1
    cases k with
    | zero =>
      have HE := Lib.hid (show s = F from HK.out)
      clear hbd
      go_wp2
      go_end0
      exact ⟨rfl, by rw [← HE.out]; exact HT.out⟩
    | succ k =>
      have q1 : decide ((0 : Int) < ((k + 1 : Nat) : Int)) = true := by simp <;> omega
      have q2 : decide ((0 : Int) < (k : Int) + 1) = true := by simp <;> omega
      have q3 : decide (0 < k + 1) = true := by simp
      have q4 : IntKind.u64.wrap (k : Int) = k := by simp only [IntKind.wrap, IntKind.bits, IntKind.signed]; simp; omega
      cases bd
      · have HC := Lib.hid (HS.out s wr HT.out hbd)
        have HE := Lib.hid (show runR rd next k (next s) = F by rw [← runR_next rd next hbd]; exact HK.out)
        clear hbd
        go_wp2_with fail
        refine HC.out.mono ?_
        rintro e w2 ⟨rfl, h2⟩
        have H2 := Lib.hid h2
        clear h2
        go_wp2
        go_roundw
        case rel => exact ⟨k, next s, by go_num, by omega, HE, H2⟩
        case measure => simp [intOf]
      · have HE := Lib.hid (show s = F by rw [← HK.out]; exact (runR_bad rd next hbd _).symm)
        clear hbd
        go_wp2
        go_end0
        exact ⟨rfl, by rw [← HE.out]; exact HT.out⟩
end

/-- While a state is read. -/
structure RsRep (w : World) (rv sv rb b S : Nat) (R : Loc) (F : Nat → Prop) (n : OM) (r : RdS) (m : RM) (W : World) : Prop where
  rd : RdAt 112 W rb r
  rvar : W.heap[rv]? = some (.cells #[.pointer (some ⟨rb, 0, none⟩)] 110)
  svar : W.heap[sv]? = some (.cells #[.pointer (some ⟨b, 0, none⟩)] 30)
  st : RawRep W b R F n
  like : LikeR R n m
  fn : ∀ g, F g → w.heap.size ≤ g ∧ g ≠ rb ∧ g ≠ rv ∧ g ≠ sv
  chg : Chg (fun _ => False) w W
  rn : w.heap.size ≤ rb
  sz : r.s.size ≤ S
  S : S ≤ 1099511627776
def RsAt (w : World) (rv sv rb b S : Nat) (r : RdS) (m : RM) (W : World) : Prop := ∃ R F n, RsRep w rv sv rb b S R F n r m W
section
variable {w W W' : World} {rv sv rb b S : Nat} {R : Loc} {F : Nat → Prop} {n : OM} {r : RdS} {m : RM}
theorem RsRep.rv_ne (h : RsRep w rv sv rb b S R F n r m W) : rv ≠ rb := typ_ne h.rvar h.rd (by decide)
theorem RsRep.sv_ne (h : RsRep w rv sv rb b S R F n r m W) : sv ≠ rb := typ_ne h.svar h.rd (by decide)
theorem RsRep.same (h : RsRep w rv sv rb b S R F n r m W) (c : Chg (fun _ => False) W W') : RsRep w rv sv rb b S R F n r m W' :=
  ⟨h.rd.stay c, (c.block rv (Array.getElem?_eq_some_iff.1 h.rvar).1 (fun f => f)).trans h.rvar, (c.block sv (Array.getElem?_eq_some_iff.1 h.svar).1 (fun f => f)).trans h.svar, h.st.same c, h.like, h.fn, h.chg.trans c, h.rn, h.sz, h.S⟩
theorem RsRep.read (h : RsRep w rv sv rb b S R F n r m W) {r' : RdS} (h1 : RdAt 112 W' rb r') (c : Chg (fun g => g = rb) W W') (hs : r'.s.size ≤ r.s.size) : RsRep w rv sv rb b S R F n r' m W' :=
  ⟨h1, (c.block rv (Array.getElem?_eq_some_iff.1 h.rvar).1 h.rv_ne).trans h.rvar, (c.block sv (Array.getElem?_eq_some_iff.1 h.svar).1 h.sv_ne).trans h.svar, h.st.stay c (fun g f e => (h.fn g f).2.1 e), h.like, h.fn, h.chg.trans' c (fun i e => Or.inr (by rw [e]; exact h.rn)), h.rn, Nat.le_trans hs h.sz, h.S⟩
/-- Where the state's own blocks alone have turned. -/
theorem RsRep.put (h : RsRep w rv sv rb b S R F n r m W) {R' : Loc} {F' : Nat → Prop} {n' : OM} {m' : RM} (h1 : RawRep W' b R' F' n') (hl : LikeR R' n' m') (c : Chg F W W') (hF : ∀ g, F' g → F g ∨ W.heap.size ≤ g) : RsRep w rv sv rb b S R' F' n' r m' W' := by
  have hb := h.rd.lt
  have hv := (Array.getElem?_eq_some_iff.1 h.rvar).1
  have hs := (Array.getElem?_eq_some_iff.1 h.svar).1
  have hw := h.chg.size
  exact ⟨(c.block rb hb (fun f => (h.fn _ f).2.1 rfl)).trans h.rd, (c.block rv hv (fun f => (h.fn _ f).2.2.1 rfl)).trans h.rvar, (c.block sv hs (fun f => (h.fn _ f).2.2.2 rfl)).trans h.svar, h1, hl, fun g f => by
    rcases hF g f with f | f
    · exact h.fn g f
    · exact ⟨by omega, by omega, by omega, by omega⟩, h.chg.trans' c (fun i f => Or.inr (h.fn i f).1), h.rn, h.sz, h.S⟩
theorem RsRep.put2 (h : RsRep w rv sv rb b S R F n r m W) {R' : Loc} {F' : Nat → Prop} {n' : OM} {m' : RM} (h1 : RawRep W' b R' F' n') (hl : LikeR R' n' m') (c : Chg F W W') (hF : ∀ g, F' g → w.heap.size ≤ g ∧ g ≠ rb ∧ g ≠ rv ∧ g ≠ sv) : RsRep w rv sv rb b S R' F' n' r m' W' :=
  ⟨(c.block rb h.rd.lt (fun f => (h.fn _ f).2.1 rfl)).trans h.rd, (c.block rv (Array.getElem?_eq_some_iff.1 h.rvar).1 (fun f => (h.fn _ f).2.2.1 rfl)).trans h.rvar, (c.block sv (Array.getElem?_eq_some_iff.1 h.svar).1 (fun f => (h.fn _ f).2.2.2 rfl)).trans h.svar, h1, hl, hF, h.chg.trans' c (fun i f => Or.inr (h.fn i f).1), h.rn, h.sz, h.S⟩
/-- A row of no one's is laid. -/
theorem RawRep.putNew (h : RawRep W b R F n) {x : ByteArray} {l : List Nat} {v : Value} {es : Array MapEntry} {ck : Nat} (hv : NumsAt W v l) (hn : ∀ g, v.ownBlock = some g → ¬ F g) (E : Ent okS kvS es ck (upd R.rows x v)) :
    RawRep (ChangeMaps.setBlock W R.c (.map es ck)) b { R with rows := upd R.rows x v } (fun g => F g ∨ v.ownBlock = some g) { n with com := fun p => if p = x then l else n.com p } := by
  obtain ⟨e1, e2, e3, e4, e5, e6⟩ := h.ne
  obtain ⟨b1, b2, b3, b4⟩ := h.b_ne
  have hk : ∀ g, g ≠ R.c → (ChangeMaps.setBlock W R.c (.map es ck)).heap[g]? = W.heap[g]? := fun g hc => heap_setBlock_ne hc
  have hold : ∀ p ∈ upd R.rows x v, p.1 ≠ x → p ∈ R.rows := fun p hp hne => by
    rcases mem_upd2 hp with rfl | hp
    · exact absurd rfl hne
    · exact hp
  have hnew : ∀ p ∈ upd R.rows x v, p.1 = x → p.2 = v := fun p hp he => by
    have h1 := lk_of_mem' (upd_apart h.com.apart x v) hp
    rw [he, lk_upd_same] at h1
    exact (Option.some.inj h1).symm
  refine ⟨(hk b b4).trans h.box, h.dec.stay (hk _ e3), h.las.stay (hk _ e5), h.tab.stay (hk _ e6), ⟨es, ck, setBlock_same h.com.lt, E⟩, fun p hp => ?_, fun y hy => ?_, fun p hp p' hp' hne => ?_, h.ne, Or.inl h.fb, Or.inl h.fd, Or.inl h.fl, Or.inl h.ft, Or.inl h.fc, fun p hp g hg => ?_⟩
  · by_cases e : p.1 = x
    · rw [hnew p hp e]
      simp only [if_pos e]
      exact sl.stay hv (fun g hg => hk g (fun e2 => hn g hg (by rw [e2]; exact h.fc)))
    · have hp' := hold p hp e
      simp only [if_neg e]
      exact (h.rows p hp').stay (fun g hg => hk g (h.row_ne hp' hg).2.2.2.2)
  · rw [lk_upd] at hy
    simp only
    by_cases e : y = x
    · rw [if_pos e] at hy; cases hy
    · rw [if_neg e] at hy
      rw [if_neg e]
      exact h.gone y hy
  · have key : ∀ q ∈ R.rows, ∀ g, q.2.ownBlock = some g → v.ownBlock ≠ some g := fun q hq g hg e => hn g e (h.frow q hq g hg)
    by_cases e : p.1 = x
    · have hp2 := hold p' hp' (fun e' => hne (e.trans e'.symm))
      rw [hnew p hp e]
      cases hvo : p'.2.ownBlock with
      | none =>
        cases hv2 : v.ownBlock with
        | none => exact Or.inl rfl
        | some g => exact Or.inr (by simp)
      | some g => exact Or.inr (key _ hp2 g hvo)
    · have hp1 := hold p hp e
      by_cases e' : p'.1 = x
      · rw [hnew p' hp' e']
        cases hvo : p.2.ownBlock with
        | none => exact Or.inl rfl
        | some g => exact Or.inr (fun e2 => key _ hp1 g hvo e2.symm)
      · exact h.apart p hp1 p' (hold p' hp' e') hne
  · by_cases e : p.1 = x
    · rw [hnew p hp e] at hg; exact Or.inr hg
    · exact Or.inl (h.frow p (hold p hp e) g hg)
theorem RsRep.cells (h : RsRep w rv sv rb b S R F n r m W) {u : World} (c : Chg (fun g => g = rb) W u) : u.cell? ⟨rv, 0, none⟩ = some (.pointer (some ⟨rb, 0, none⟩)) ∧ u.cell? ⟨sv, 0, none⟩ = some (.pointer (some ⟨b, 0, none⟩)) ∧ RawRep u b R F n :=
  ⟨cell_of ((c.block rv (Array.getElem?_eq_some_iff.1 h.rvar).1 h.rv_ne).trans h.rvar) rfl, cell_of ((c.block sv (Array.getElem?_eq_some_iff.1 h.svar).1 h.sv_ne).trans h.svar) rfl, h.st.stay c (fun g f e => (h.fn g f).2.1 e)⟩
theorem chg_rb {u : World} (c : Chg (fun _ => False) W u) (c2 : Chg (fun g => g = rb) u W') : Chg (fun g => g = rb) W W' := (c.mono (fun _ f => f.elim)).trans c2
theorem RsRep.num (h : RsRep w rv sv rb b S R F n r m W) {u : World} (cu : Chg (fun _ => False) W u) : Calls Tryz.prog 51 #[.pointer (some ⟨rb, 0, none⟩)] u fun e W' => e = .returned (.int .u64 ((numR r).1 : Nat)) ∧ Hid (RsRep w rv sv rb b S R F n (numR r).2 m W' ∧ Chg (fun g => g = rb) W W') :=
  (rdnum_any (h.same cu).rd (Nat.le_trans h.sz h.S)).mono fun e W' hh => ⟨hh.1, Lib.hid ⟨(h.same cu).read hh.2.1 hh.2.2 (numR_le r).1, chg_rb cu hh.2.2⟩⟩
theorem RsRep.small (h : RsRep w rv sv rb b S R F n r m W) {u : World} (cu : Chg (fun _ => False) W u) : Calls Tryz.prog 57 #[.pointer (some ⟨rb, 0, none⟩)] u fun e W' => e = .returned (.int .u32 ((smallR r).1 : Nat)) ∧ Hid (RsRep w rv sv rb b S R F n (smallR r).2 m W' ∧ Chg (fun g => g = rb) W W') :=
  (rdsmall_any (h.same cu).rd (Nat.le_trans h.sz h.S)).mono fun e W' hh => ⟨hh.1, Lib.hid ⟨(h.same cu).read hh.2.1 hh.2.2 (smallR_le r).1, chg_rb cu hh.2.2⟩⟩
theorem RsRep.text (h : RsRep w rv sv rb b S R F n r m W) {u : World} (cu : Chg (fun _ => False) W u) : Calls Tryz.prog 55 #[.pointer (some ⟨rb, 0, none⟩)] u fun e W' => e = .returned (.string (textR r).1) ∧ Hid (RsRep w rv sv rb b S R F n (textR r).2 m W' ∧ Chg (fun g => g = rb) W W') :=
  (rdtext_any (h.same cu).rd (Nat.le_trans h.sz h.S)).mono fun e W' hh => ⟨hh.1, Lib.hid ⟨(h.same cu).read hh.2.1 hh.2.2 (textR_le r).1, chg_rb cu hh.2.2⟩⟩
theorem RsRep.setD (h : RsRep w rv sv rb b S R F n r m W) {x v : Nat} (hx : x < 18446744073709551616) : ∃ es ck, (Instr.mapUpdate 31 (.map (some R.d)) (.int .u64 (x : Nat)) (.int .u64 (v : Nat))).run Tryz.prog W = .ok () (ChangeMaps.setBlock W R.d (.map es ck)) ∧ Hid (RsAt w rv sv rb b S r { m with d := lay ltN x v m.d } (ChangeMaps.setBlock W R.d (.map es ck))) := by
  obtain ⟨es, ck, h1, h2⟩ := run_update keysU Tryz.underlying31 h.st.dec (x := x) hx (.int .u64 (v : Nat))
  have e : upd (nv n.dec) x (.int .u64 (v : Nat)) = nv (upd n.dec x v) := upd_map nV n.dec x v
  rw [e] at h2
  refine ⟨es, ck, h1, Lib.hid ⟨R, F, _, h.put (h.st.putD h2) ⟨h.like.time, h.like.uid, h.like.mark, fun y => by simp only; rw [lk_upd, lay_lk ltN_ord _ _ h.like.ds, h.like.d], lay_ris ltN_ord _ _ h.like.ds, h.like.k, h.like.ks, h.like.t, h.like.ts, h.like.c, h.like.cs⟩ ((Chg.refl F W).setBlock (Or.inl h.st.fd) _) (fun g f => Or.inl f)⟩⟩
theorem RsRep.setL (h : RsRep w rv sv rb b S R F n r m W) {x : ByteArray} {v : Nat} (hx : x.size ≤ maxLen) : ∃ es ck, (Instr.mapUpdate 32 (.map (some R.l)) (.string x) (.int .u64 (v : Nat))).run Tryz.prog W = .ok () (ChangeMaps.setBlock W R.l (.map es ck)) ∧ Hid (RsAt w rv sv rb b S r { m with k := lay lessB x v m.k } (ChangeMaps.setBlock W R.l (.map es ck))) := by
  obtain ⟨es, ck, h1, h2⟩ := run_update keysS Tryz.underlying32 h.st.las (x := x) hx (.int .u64 (v : Nat))
  have e : upd (nv n.las) x (.int .u64 (v : Nat)) = nv (upd n.las x v) := upd_map nV n.las x v
  rw [e] at h2
  refine ⟨es, ck, h1, Lib.hid ⟨R, F, _, h.put (h.st.putL h2) ⟨h.like.time, h.like.uid, h.like.mark, h.like.d, h.like.ds, fun y => by simp only; rw [lk_upd, lay_lk lessB_ord _ _ h.like.ks, h.like.k], lay_ris lessB_ord _ _ h.like.ks, h.like.t, h.like.ts, h.like.c, h.like.cs⟩ ((Chg.refl F W).setBlock (Or.inl h.st.fl) _) (fun g f => Or.inl f)⟩⟩
theorem RsRep.setT (h : RsRep w rv sv rb b S R F n r m W) {x : ByteArray} {t : Tb} (hx : x.size ≤ maxLen) : ∃ es ck, (Instr.mapUpdate 33 (.map (some R.t)) (.string x) (tbV t)).run Tryz.prog W = .ok () (ChangeMaps.setBlock W R.t (.map es ck)) ∧ Hid (RsAt w rv sv rb b S r { m with t := lay lessB x t m.t } (ChangeMaps.setBlock W R.t (.map es ck))) := by
  obtain ⟨es, ck, h1, h2⟩ := run_update keysS Tryz.underlying33 h.st.tab (x := x) hx (tbV t)
  have e : upd (tv n.tab) x (tbV t) = tv (upd n.tab x t) := upd_map tbV n.tab x t
  rw [e] at h2
  refine ⟨es, ck, h1, Lib.hid ⟨R, F, _, h.put (h.st.putT h2) ⟨h.like.time, h.like.uid, h.like.mark, h.like.d, h.like.ds, h.like.k, h.like.ks, fun y => by simp only; rw [lk_upd, lay_lk lessB_ord _ _ h.like.ts, h.like.t], lay_ris lessB_ord _ _ h.like.ts, h.like.c, h.like.cs⟩ ((Chg.refl F W).setBlock (Or.inl h.st.ft) _) (fun g f => Or.inl f)⟩⟩
/-- A row that is nobody's. -/
theorem RsRep.setC (h : RsRep w rv sv rb b S R F n r m W) {x : ByteArray} {l : List Nat} {v : Value} (hx : x.size ≤ maxLen) (hv : NumsAt W v l) (hn : ∀ g, v.ownBlock = some g → ¬ F g ∧ w.heap.size ≤ g ∧ g ≠ rb ∧ g ≠ rv ∧ g ≠ sv) : ∃ es ck, (Instr.mapUpdate 34 (.map (some R.c)) (.string x) v).run Tryz.prog W = .ok () (ChangeMaps.setBlock W R.c (.map es ck)) ∧ Hid (RsAt w rv sv rb b S r { m with c := lay lessB x l m.c } (ChangeMaps.setBlock W R.c (.map es ck))) := by
  obtain ⟨es, ck, h1, h2⟩ := run_update keysS Tryz.underlying34 h.st.com (x := x) hx v
  refine ⟨es, ck, h1, Lib.hid ⟨_, _, _, h.put2 (h.st.putNew hv (fun g hg => (hn g hg).1) h2) ⟨h.like.time, h.like.uid, h.like.mark, h.like.d, h.like.ds, h.like.k, h.like.ks, h.like.t, h.like.ts, fun y => ?_, lay_ris lessB_ord _ _ h.like.cs⟩ ((Chg.refl F W).setBlock (Or.inl h.st.fc) _) (fun g f => ?_)⟩⟩
  · simp only
    rw [lk_upd, lay_lk lessB_ord _ _ h.like.cs, h.like.c]
    by_cases e : y = x
    · rw [if_pos e, if_pos e]; simp only [if_pos e, Option.map_some]
    · rw [if_neg e, if_neg e]; simp only [if_neg e]
  · rcases f with f | f
    · exact h.fn g f
    · exact (hn g f).2
end
end Go.Proofs.YtgmmglmokkcgeaaGreat
/- Walks: the closures of ReadState: a decision, a key's last. -/
namespace Go.Proofs.YtgmmglmokkcgeaaGreat
set_option linter.unusedVariables false
set_option linter.unusedSimpArgs false
set_option linter.unusedSectionVars false
open Go.RowKit Mk Go.Sort

section
variable {w W : World} {rv sv rb b S : Nat} {r : RdS} {m : RM}
theorem RsRep.cellsM {R : Loc} {F : Nat → Prop} {n : OM} (h : RsRep w rv sv rb b S R F n r m W) {k : Nat} (hk : F k) (hb : b ≠ k) (o : Obj) :
    (ChangeMaps.setBlock W k o).cell? ⟨rv, 0, none⟩ = some (.pointer (some ⟨rb, 0, none⟩)) ∧ (ChangeMaps.setBlock W k o).cell? ⟨sv, 0, none⟩ = some (.pointer (some ⟨b, 0, none⟩)) ∧ ∀ i, (ChangeMaps.setBlock W k o).cell? ⟨b, i, none⟩ = W.cell? ⟨b, i, none⟩ :=
  ⟨cell_of ((heap_setBlock_ne (fun e => (h.fn k hk).2.2.1 e.symm)).trans h.rvar) rfl, cell_of ((heap_setBlock_ne (fun e => (h.fn k hk).2.2.2 e.symm)).trans h.svar) rfl, fun i => World.cell?_of_block (a := ⟨b, i, none⟩) (heap_setBlock_ne hb)⟩
set_option maxRecDepth 100000 in
set_option maxHeartbeats 4000000 in
theorem clo53 (h : RsAt w rv sv rb b S r m W) :
    Calls Tryz.prog 53 #[.pointer (some ⟨rv, 0, none⟩), .pointer (some ⟨sv, 0, none⟩)] W fun e W' => e = .returned (.tuple #[]) ∧ RsAt w rv sv rb b S (decN (r, m.d)).1 { m with d := (decN (r, m.d)).2 } W' := by
  obtain ⟨R, F, n, h⟩ := h
  have N1 := Lib.hid (h.num (Chg.refl _ W))
  have v0 : W.cell? ⟨rv, 0, none⟩ = some (.pointer (some ⟨rb, 0, none⟩)) := cell_of h.rvar rfl
  have HX := Lib.hid (numR_le r).2
  unfold decN
  clear h
  generalize (numR r).1 = x at *
  generalize (numR r).2 = r1 at *
  obtain ⟨v, HV⟩ : ∃ v, Hid ((numR r1).1 = v) := ⟨_, Lib.hid rfl⟩
  obtain ⟨r2, HR2⟩ : ∃ v, Hid ((numR r1).2 = v) := ⟨_, Lib.hid rfl⟩
  rw [HV.out, HR2.out]
  go_enter Tryz.func53, Tryz.ntmps53
  go_wp2_with fail
  refine N1.out.mono ?_
  rintro e W1 ⟨rfl, H1⟩
  have H1 := Lib.hid H1.out.1
  clear v0 N1
  have v0 : W1.cell? ⟨rv, 0, none⟩ = some (.pointer (some ⟨rb, 0, none⟩)) := cell_of H1.out.rvar rfl
  have v1 : W1.cell? ⟨sv, 0, none⟩ = some (.pointer (some ⟨b, 0, none⟩)) := cell_of H1.out.svar rfl
  have c4 := H1.out.st.c4
  have N2 := Lib.hid (fun (u : World) (cu : Chg (fun _ => False) W1 u) => H1.out.num cu)
  rw [HV.out, HR2.out] at N2
  have KEY := Lib.hid (fun (u : World) (c : Chg (fun g => g = rb) W1 u) => show u.cell? ⟨rv, 0, none⟩ = some (.pointer (some ⟨rb, 0, none⟩)) ∧ u.cell? ⟨sv, 0, none⟩ = some (.pointer (some ⟨b, 0, none⟩)) ∧ u.cell? ⟨b, 4, none⟩ = some (.map (some R.d)) from
    (have k := H1.out.cells c; ⟨k.1, k.2.1, k.2.2.c4⟩))
  go_wp2_with fail
  go_region_held3 (fun u => u.cell? ⟨rv, 0, none⟩ = some (.pointer (some ⟨rb, 0, none⟩)) ∧ u.cell? ⟨sv, 0, none⟩ = some (.pointer (some ⟨b, 0, none⟩)) ∧ u.cell? ⟨b, 4, none⟩ = some (.map (some R.d))) (first | exact KEY.out _ (Chg.refl _ _).drew | exact KEY.out _ H2.out.2 | exact ⟨HKM.out.1, HKM.out.2.1, (HKM.out.2.2 _).trans HC4.out⟩) ((go_at_call 51; (with_reducible refine (N2.out _ (Chg.refl _ _).drew).mono ?_); rintro e W2 ⟨rfl, H2⟩; obtain ⟨es, ck, hup, HE⟩ := H2.out.1.setD (x := x) (v := v) HX.out; have HKM := Lib.hid (H2.out.1.cellsM H2.out.1.st.fd H2.out.1.st.b_ne.1 (.map es ck)); have HC4 := Lib.hid H2.out.1.st.c4))
  go_wp2
  go_end0
  exact ⟨rfl, HE.out⟩
set_option maxRecDepth 100000 in
set_option maxHeartbeats 4000000 in
theorem clo54 (h : RsAt w rv sv rb b S r m W) :
    Calls Tryz.prog 54 #[.pointer (some ⟨rv, 0, none⟩), .pointer (some ⟨sv, 0, none⟩)] W fun e W' => e = .returned (.tuple #[]) ∧ RsAt w rv sv rb b S (lasN (r, m.k)).1 { m with k := (lasN (r, m.k)).2 } W' := by
  obtain ⟨R, F, n, h⟩ := h
  have N1 := Lib.hid (h.text (Chg.refl _ W))
  have v0 : W.cell? ⟨rv, 0, none⟩ = some (.pointer (some ⟨rb, 0, none⟩)) := cell_of h.rvar rfl
  have HX := Lib.hid (show (textR r).1.size ≤ maxLen by have := (textR_le r).2; have := h.sz; have := h.S; unfold maxLen; omega)
  unfold lasN
  clear h
  generalize (textR r).1 = x at *
  generalize (textR r).2 = r1 at *
  obtain ⟨v, HV⟩ : ∃ v, Hid ((numR r1).1 = v) := ⟨_, Lib.hid rfl⟩
  obtain ⟨r2, HR2⟩ : ∃ v, Hid ((numR r1).2 = v) := ⟨_, Lib.hid rfl⟩
  rw [HV.out, HR2.out]
  go_enter Tryz.func54, Tryz.ntmps54
  go_wp2_with fail
  refine N1.out.mono ?_
  rintro e W1 ⟨rfl, H1⟩
  have H1 := Lib.hid H1.out.1
  clear v0 N1
  have v0 : W1.cell? ⟨rv, 0, none⟩ = some (.pointer (some ⟨rb, 0, none⟩)) := cell_of H1.out.rvar rfl
  have v1 : W1.cell? ⟨sv, 0, none⟩ = some (.pointer (some ⟨b, 0, none⟩)) := cell_of H1.out.svar rfl
  have c5 := H1.out.st.c5
  have N2 := Lib.hid (fun (u : World) (cu : Chg (fun _ => False) W1 u) => H1.out.num cu)
  rw [HV.out, HR2.out] at N2
  have KEY := Lib.hid (fun (u : World) (c : Chg (fun g => g = rb) W1 u) => show u.cell? ⟨rv, 0, none⟩ = some (.pointer (some ⟨rb, 0, none⟩)) ∧ u.cell? ⟨sv, 0, none⟩ = some (.pointer (some ⟨b, 0, none⟩)) ∧ u.cell? ⟨b, 5, none⟩ = some (.map (some R.l)) from
    (have k := H1.out.cells c; ⟨k.1, k.2.1, k.2.2.c5⟩))
  go_wp2_with fail
  go_region_held3 (fun u => u.cell? ⟨rv, 0, none⟩ = some (.pointer (some ⟨rb, 0, none⟩)) ∧ u.cell? ⟨sv, 0, none⟩ = some (.pointer (some ⟨b, 0, none⟩)) ∧ u.cell? ⟨b, 5, none⟩ = some (.map (some R.l))) (first | exact KEY.out _ (Chg.refl _ _).drew | exact KEY.out _ H2.out.2 | exact ⟨HKM.out.1, HKM.out.2.1, (HKM.out.2.2 _).trans HC4.out⟩) ((go_at_call 51; (with_reducible refine (N2.out _ (Chg.refl _ _).drew).mono ?_); rintro e W2 ⟨rfl, H2⟩; obtain ⟨es, ck, hup, HE⟩ := H2.out.1.setL (x := x) (v := v) HX.out; have HKM := Lib.hid (H2.out.1.cellsM H2.out.1.st.fl H2.out.1.st.b_ne.2.1 (.map es ck)); have HC4 := Lib.hid H2.out.1.st.c5))
  go_wp2
  go_end0
  exact ⟨rfl, HE.out⟩
end
end Go.Proofs.YtgmmglmokkcgeaaGreat
