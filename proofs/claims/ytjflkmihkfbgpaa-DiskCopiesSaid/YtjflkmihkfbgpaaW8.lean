/- Walks: Crash. -/
import Derived.Test.YtjflkmihkfbgpaaW7
import Derived.Laws.EntriesVeiled
namespace Go.Proofs.Ytjflkmihkfbgpaa
open Go.RowKit Mk Go.Sort

section
variable {w : World} {b : Nat} {F : Nat → Prop} {S : Nat} {d : DiskM}

theorem enters_of {P : Program} {f : FuncId} {fn : Func} {c : Code} (hf : P.funcs[f]? = some fn) (hname : (fn.name == "runtime.NumGoroutine") = false) (hb : fn.body = some c) : ∀ args u, (callFunc f args).run P u = .ok (.enter f args) u := by
  intro args w
  have h1 : fn.name ≠ "runtime.NumGoroutine" := by simpa using hname
  simp [callFunc, hf, h1, hb, mark]
theorem enters31 : ∀ args u, (callFunc 31 args).run Try.prog u = .ok (.enter 31 args) u := enters_of Try.func31 (by kernel_rfl) rfl
theorem enters34 : ∀ args u, (callFunc 34 args).run Try.prog u = .ok (.enter 34 args) u := enters_of Try.func34 (by kernel_rfl) rfl
theorem enters44 : ∀ args u, (callFunc 44 args).run Try.prog u = .ok (.enter 44 args) u := enters_of Try.func44 (by kernel_rfl) rfl
theorem enters45 : ∀ args u, (callFunc 45 args).run Try.prog u = .ok (.enter 45 args) u := enters_of Try.func45 (by kernel_rfl) rfl
theorem enters46 : ∀ args u, (callFunc 46 args).run Try.prog u = .ok (.enter 46 args) u := enters_of Try.func46 (by kernel_rfl) rfl

/-- A function value that does a thing: which function, and its contract. -/
theorem clo_any {f : Value} {dd : Do} (h : capt w f dd) : ∃ (n : FuncId) (caps : Array Value), f = .func (.func n) #[] caps ∧ (∀ args u, (callFunc n args).run Try.prog u = .ok (.enter n args) u) ∧
    ∀ (W : World) (r : Nat) (L : Files) (s : ByteArray), Keep w W → files W r L → may dd L → tot L + s.size ≤ 1099511627776 →
      Calls Try.prog n (#[.map (some r), .string s] ++ caps) W fun e w' => e = .returned (.tuple #[]) ∧ files w' r (act dd L s) ∧ Chg (fun g => g = r) W w' := by
  cases dd with
  | app n => obtain ⟨hn, c, rfl, hc⟩ := h; exact ⟨_, _, rfl, enters34, fun W r L s k hf hm hs => clo_app hf hn ((k c).1 _ hc) s hs⟩
  | wr n => obtain ⟨hn, c, rfl, hc⟩ := h; exact ⟨_, _, rfl, enters31, fun W r L s k hf hm hs => clo_wr hf hn ((k c).1 _ hc) s⟩
  | trunc n j => obtain ⟨hn, c, c', rfl, hc, hc'⟩ := h; exact ⟨_, _, rfl, enters44, fun W r L s k hf hm hs => clo_trunc hf hn hm (by omega) ((k c).1 _ hc) ((k c').2 _ hc') s⟩
  | ren x y => obtain ⟨hx, hy, c, c', rfl, hc, hc'⟩ := h; exact ⟨_, _, rfl, enters45, fun W r L s k hf hm hs => clo_ren hf hx hy ((k c).1 _ hc) ((k c').1 _ hc') s⟩
  | rem n => obtain ⟨hn, c, rfl, hc⟩ := h; exact ⟨_, _, rfl, enters46, fun W r L s k hf hm hs => clo_rem hf hn ((k c).1 _ hc) s⟩

section
variable {r1 r2 : Nat} {v : Value} {ts : List (Value × Thing)}

/-- Behind i things that were done again. -/
structure CrashAt (w : World) (r2 : Nat) (K : Files) (T : List Thing) (i : Nat) (wr : World) : Prop where
  kept : files wr r2 (acts K (T.take i))
  chg : Chg (fun g => g = r2) w wr

theorem crash_half (h : DiskRep w b r1 r2 v ts F S d) {w1 w2 : World} {C : Files} (hf : files w1 r2 C) (c1 : Chg (fun g => g = r2) w w1) (hk : files w2 w1.heap.size C) (c2 : Chg (fun _ => False) w1 w2) (hz : w2.heap.size = w1.heap.size + 1) (hC : tot C ≤ S) :
    Half (w2.setCell ⟨b, 1, none⟩ (.map (some w1.heap.size))) b w1.heap.size r2 v (fun g => F g ∨ w.heap.size ≤ g) S d.room C C ∧ w2.frozen? ⟨b, 1, none⟩ = false ∧ w2.cell? ⟨b, 1, none⟩ = some (.map (some r1)) ∧
      Chg F w (w2.setCell ⟨b, 1, none⟩ (.map (some w1.heap.size))) ∧ Keep w (w2.setCell ⟨b, 1, none⟩ (.map (some w1.heap.size))) := by
  obtain ⟨n1, n2, n3⟩ := h.nes
  obtain ⟨l0, l1, l2⟩ := h.lt
  have hw := c1.size
  have c12 : Chg (fun g => g = r2) w w2 := c1.trans' c2 (fun _ f => f.elim)
  have hb : w2.heap[b]? = some (.cells #[.int .i64 d.room, .map (some r1), .map (some r2), v] 57) := (c12.block b l0 n2).trans h.disk
  have cO : Chg (own b r1 r2 v) w w2 := c12.mono (fun g hg => Or.inr (Or.inr (Or.inl hg)))
  have cE : Chg (own b r1 r2 v) w (w2.setCell ⟨b, 1, none⟩ (.map (some w1.heap.size))) := cO.setCell (Or.inl (Or.inl rfl)) _
  refine ⟨⟨?_, ?_, ?_, by omega, fun g hg => ?_, ⟨hC, h.size.2.2⟩, h.room, Or.inl h.fb, Or.inr hw, Or.inl h.f2⟩, frozen_of hb, cell_of hb (by simp), cE.mono (fun g hg => h.own_in hg), h.keeps cE⟩
  · rw [Mk.heap_setCell_same hb]
    simp
  · refine hk.stay ?_
    rw [Below.heap_setCell _ _ _ _ (by show w1.heap.size ≠ b; omega)]
  · refine hf.stay ?_
    rw [Below.heap_setCell _ _ _ _ n2.symm, c2.block r2 hf.lt (fun f => f)]
  · obtain ⟨cur, hh⟩ := h.row hg
    obtain ⟨m1, m2, m3⟩ := n3 g hg
    refine ⟨cur, ?_⟩
    rw [Below.heap_setCell _ _ _ _ m1, c12.block g (Array.getElem?_eq_some_iff.1 hh).1 m3, hh]

def crashM (d : DiskM) (k t : Int) : DiskM × Int := if k < 0 ∨ (d.T.length : Int) < k ∨ t < 0 then (d, 2) else (⟨d.room, crash d.kept d.T k.toNat t.toNat, crash d.kept d.T k.toNat t.toNat, []⟩, 0)

theorem crash_bad (h : DiskIs w b F S d) (k t : Int) (hb : k < 0 ∨ (d.T.length : Int) < k ∨ t < 0) :
    Calls Try.prog 12 #[.pointer (some ⟨b, 0, none⟩), .int .i64 k, .int .i64 t] w fun e w' => e = .returned (.int .i64 2) ∧ w' = w := by
  obtain ⟨r1, r2, v, ts, h⟩ := h
  have A := Lib.hid (not_of w b r1 h.cells.2.1)
  have c3 := h.cells.2.2.2
  obtain ⟨ao, cp, rfl⟩ := h.shape
  rw [← h.things, List.length_map] at hb
  generalize ts.length = m at *
  clear h
  by_cases h1 : k < 0
  · have q1 : decide (k < 0) = true := by simpa using h1
    clear hb h1
    go_enter Try.func12, Try.ntmps12
    go_wp2_with fail
    refine A.out.mono ?_
    rintro e w' ⟨rfl, rfl⟩
    go_wp2
    go_ret
    exact ⟨rfl, rfl⟩
  · have q1 : decide (k < 0) = false := by simpa using h1
    by_cases h2 : (m : Int) < k
    · have q2 : decide ((m : Int) < k) = true := by simpa using h2
      clear hb h1 h2
      go_enter Try.func12, Try.ntmps12
      go_wp2_with fail
      refine A.out.mono ?_
      rintro e w' ⟨rfl, rfl⟩
      go_wp2
      go_ret
      exact ⟨rfl, rfl⟩
    · have q2 : decide ((m : Int) < k) = false := by simpa using h2
      have q3 : decide (t < 0) = true := by simp; omega
      clear hb h1 h2
      go_enter Try.func12, Try.ntmps12
      go_wp2_with fail
      refine A.out.mono ?_
      rintro e w' ⟨rfl, rfl⟩
      go_wp2
      go_ret
      exact ⟨rfl, rfl⟩
theorem crash_cells (h : DiskRep w b r1 r2 v ts F S d) {wr : World} (c : Chg (fun g => g = r2) w wr) {k : Nat} (hk : k < ts.length) :
    ∃ g cp f dd s, v = .slice (some ⟨g, 0, none⟩) ts.length cp ∧ wr.cell? ⟨g, k * 2, none⟩ = some f ∧ wr.cell? ⟨g, k * 2 + 1, none⟩ = some (.string s) ∧ wr.cell? ⟨b, 2, none⟩ = some (.map (some r2)) ∧ capt w f dd ∧ d.T[k]? = some (dd, s) := by
  have t1 := tcells_get ts k hk
  rw [Nat.mul_comm] at t1
  obtain ⟨g, cp, hv, e1⟩ := h.loose.cell t1.1
  obtain ⟨g', cp', hv', e2⟩ := h.loose.cell t1.2
  rw [hv] at hv'
  cases hv'
  have hg : v.ownBlock = some g := by rw [hv]; rfl
  have hb := c.block g (h.loose.lt hg) (h.nes.2.2 g hg).2.2
  refine ⟨g, cp, ts[k].1, ts[k].2.1, ts[k].2.2, hv, ?_, ?_, ?_, h.capt _ (List.getElem_mem hk), ?_⟩
  · rw [World.cell?_of_block hb]; exact e1
  · rw [World.cell?_of_block hb]; exact e2
  · rw [World.cell?_of_block (c.block b h.lt.1 h.nes.2.1)]; exact h.cells.2.2.1
  · rw [← h.things, List.getElem?_map, List.getElem?_eq_getElem hk]; rfl

theorem bytes_isEmpty (s : ByteArray) : s.toList.isEmpty = decide (s.size = 0) := by
  rw [ByteArray.toList_eq]
  obtain ⟨⟨l⟩⟩ := s
  cases l <;> simp [ByteArray.size]

theorem acts_snoc {L : Files} {T : List Thing} {k : Nat} {t : Thing} (h : T[k]? = some t) : acts L (T.take (k + 1)) = act t.1 (acts L (T.take k)) t.2 := by
  obtain ⟨hk, ht⟩ := List.getElem?_eq_some_iff.1 h
  rw [List.take_succ_eq_append_getElem hk, ht, acts_append]
  rfl
theorem mays_at {L : Files} {T : List Thing} (h : mays L T) {k : Nat} {t : Thing} (ht : T[k]? = some t) : may t.1 (acts L (T.take k)) := by
  obtain ⟨hk, e⟩ := List.getElem?_eq_some_iff.1 ht
  have : T = T.take k ++ t :: T.drop (k + 1) := by rw [← e, List.getElem_cons_drop, List.take_append_drop]
  rw [this] at h
  exact (mays_append.1 h).2.1
theorem tot_at (L : Files) {T : List Thing} {k : Nat} {t : Thing} (ht : T[k]? = some t) : tot (acts L (T.take k)) + t.2.size ≤ tot L + bulk T := by
  obtain ⟨hk, e⟩ := List.getElem?_eq_some_iff.1 ht
  have : T = T.take k ++ t :: T.drop (k + 1) := by rw [← e, List.getElem_cons_drop, List.take_append_drop]
  have h1 := acts_tot L (T.take k)
  have h2 : bulk (T.take k) + t.2.size ≤ bulk T := by
    unfold bulk
    conv => rhs; rw [this]
    simp only [List.map_append, List.map_cons, List.sum_append, List.sum_cons]
    omega
  omega

theorem crash_rest (h : DiskRep w b r1 r2 v ts F S d) {w1 : World} {C : Files} (hf : files w1 r2 C) (c1 : Chg (fun g => g = r2) w w1) (hC : tot C ≤ S) :
    w1.cell? ⟨b, 2, none⟩ = some (.map (some r2)) ∧ Calls Try.prog 35 #[.map (some r2)] w1 (fun e w2 => e = .returned (.map (some w1.heap.size)) ∧ w2.frozen? ⟨b, 1, none⟩ = false ∧ w2.cell? ⟨b, 1, none⟩ = some (.map (some r1)) ∧
      Hid (Calls Try.prog 10 #[.pointer (some ⟨b, 0, none⟩)] (w2.setCell ⟨b, 1, none⟩ (.map (some w1.heap.size))) (fun e w' => e = .returned (.int .i64 0) ∧ To w b F S ⟨d.room, C, C, []⟩ w'))) := by
  refine ⟨by rw [World.cell?_of_block (c1.block b h.lt.1 h.nes.2.1)]; exact h.cells.2.2.1, (clone_any hf).mono ?_⟩
  rintro e w2 ⟨rfl, hk, c2, hz⟩
  obtain ⟨hH, f1, g1, cc, kk⟩ := crash_half h hf c1 hk c2 hz hC
  refine ⟨rfl, f1, g1, Lib.hid ((sync_half hH).mono ?_)⟩
  rintro e w3 ⟨rfl, hd, c3, k3⟩
  refine ⟨rfl, hd, cc.trans' c3 (fun g hg => ?_), kk.trans k3⟩
  rcases hg with rfl | rfl
  · exact Or.inl h.fb
  · exact Or.inl h.f2

/-- A thing is done again: what the round's call asks, in the world behind its draw. -/
theorem crash_call (h : DiskRep w b r1 r2 v ts F S d) {wr : World} {k : Nat} (hU : CrashAt w r2 d.kept d.T k wr) {dd : Do} {s : ByteArray} (hT : d.T[k]? = some (dd, s)) {n : FuncId} {caps : Array Value}
    (hcl : ∀ (W : World) (r : Nat) (L : Files) (s : ByteArray), Keep w W → files W r L → may dd L → tot L + s.size ≤ 1099511627776 →
      Calls Try.prog n (#[.map (some r), .string s] ++ caps) W fun e w' => e = .returned (.tuple #[]) ∧ files w' r (act dd L s) ∧ Chg (fun g => g = r) W w')
    {W : World} (c : Chg (fun _ => False) wr W) (y : ByteArray) (hy : y.size ≤ s.size) :
    Calls Try.prog n (#[.map (some r2), .string y] ++ caps) W fun e w' => e = .returned (.tuple #[]) ∧ Hid (files w' r2 (act dd (acts d.kept (d.T.take k)) y)) ∧ Hid (Chg (fun g => g = r2) w w') := by
  have c1 : Chg (fun g => g = r2) w W := hU.chg.trans' c (fun _ f => f.elim)
  have hk : Keep w W := h.keeps (c1.mono (fun g hg => Or.inr (Or.inr (Or.inl hg))))
  have hf : files W r2 (acts d.kept (d.T.take k)) := hU.kept.stay (c.block r2 hU.kept.lt (fun f => f))
  have h2 := tot_at d.kept hT
  have h3 := h.size
  refine (hcl W r2 _ y hk hf (mays_at h.mays hT) (by simp only at h2; omega)).mono ?_
  rintro e w' ⟨rfl, h5, h6⟩
  exact ⟨rfl, Lib.hid h5, Lib.hid (c1.trans h6)⟩
end
end
end Go.Proofs.Ytjflkmihkfbgpaa
