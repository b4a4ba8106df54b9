/- Walks: Apply. -/
import Derived.Test.YtcaemfogknaioaaD1
namespace Go.Proofs.Ytcaemfogknaioaa
open Go.RowKit Mk Go.Sort

def doM (m : LoopM) (c n : Nat) (d : ByteArray) : LoopM × ByteArray × Nat := (⟨m.state ++ d, m.index, upd m.clients c (n, (stepM m.state d).2)⟩, (stepM m.state d).2, 0)
def cmdM (m : LoopM) (data : ByteArray) : LoopM × ByteArray × Nat := match Cod.rcmd data.data.toList with
  | none => (m, ⟨#[]⟩, 150)
  | some (c, n, d) => match lk m.clients c with
    | none => doM m c n (str d)
    | some (q, a) => if n < q then (m, ⟨#[]⟩, 151) else if n = q then (m, a, 0) else doM m c n (str d)
def atM (m : LoopM) (idx : Nat) : LoopM := ⟨m.state, idx, m.clients⟩
def applyM (m : LoopM) (idx kind : Nat) (data : ByteArray) : LoopM × ByteArray × Nat :=
  if idx ≠ (m.index + 1) % 18446744073709551616 then (m, ⟨#[]⟩, 2) else if kind ≠ 0 then (atM m idx, ⟨#[]⟩, 0) else cmdM (atM m idx) data

section
variable {w w' : World} {b r : Nat} {F : Nat → Prop} {S : Nat} {m : LoopM}
theorem LoopRep.index (h : LoopRep w b r F S m) {idx : Nat} (hi : idx < 18446744073709551616) : LoopRep (w.setCell ⟨b, 2, none⟩ (.int .u64 idx)) b r F S (atM m idx) :=
  ⟨by rw [Mk.heap_setCell_same h.loop]; simp [atM], h.map.stay (Below.heap_setCell _ _ _ _ h.ne.symm), hi, h.size, h.fb, h.fr⟩
theorem LoopRep.state (h : LoopRep w b r F S m) {s : ByteArray} {S' : Nat} (hs : s.size ≤ S') (h' : S' ≤ 1099511627776) : LoopRep (w.setCell ⟨b, 0, none⟩ (.string s)) b r F S' ⟨s, m.index, m.clients⟩ :=
  ⟨by rw [Mk.heap_setCell_same h.loop]; simp, h.map.stay (Below.heap_setCell _ _ _ _ h.ne.symm), h.idx, ⟨hs, h'⟩, h.fb, h.fr⟩
theorem LoopRep.larger (h : LoopRep w b r F S m) {S' : Nat} (hs : S ≤ S') (h' : S' ≤ 1099511627776) : LoopRep w b r F S' m := ⟨h.loop, h.map, h.idx, ⟨by have := h.size; omega, h'⟩, h.fb, h.fr⟩
theorem LoopRep.look (h : LoopRep w b r F S m) {c : Nat} (hc : okU c) :
    (Instr.lookup 77 (.map (some r)) (.int .u64 c) true).run Try.prog w = .ok (.tuple #[lastV ((lk m.clients c).getD (0, ⟨#[]⟩)), .bool (lk m.clients c).isSome]) w := by
  have hr := run_lookup keysU Try.underlying77 (Try.zeroValue82 w) h.map hc true
  rw [show clv m.clients = m.clients.map (fun p => (p.1, lastV p.2)) from rfl, lk_map] at hr
  refine hr.trans ?_
  cases lk m.clients c <;> rfl
theorem LoopRep.store (h : LoopRep w b r F S m) {c : Nat} (hc : okU c) (x : Last) :
    ∃ o, (Instr.mapUpdate 77 (.map (some r)) (.int .u64 c) (lastV x)).run Try.prog w = .ok () (ChangeMaps.setBlock w r o) ∧ LoopRep (ChangeMaps.setBlock w r o) b r F S ⟨m.state, m.index, upd m.clients c x⟩ ∧ Chg F w (ChangeMaps.setBlock w r o) := by
  obtain ⟨es, k, h3, h4⟩ := run_update keysU Try.underlying77 h.map hc (lastV x)
  rw [show clv m.clients = m.clients.map (fun p => (p.1, lastV p.2)) from rfl, upd_map] at h4
  refine ⟨_, h3, ⟨(heap_setBlock_ne h.ne).trans h.loop, ⟨es, k, heap_setBlock_eq h.map.lt, h4⟩, h.idx, h.size, h.fb, h.fr⟩, (Chg.refl F w).setBlock (Or.inl h.fr) _⟩

theorem rcmd_bounds {l : List UInt8} {c n : Nat} {d : List UInt8} (h : Cod.rcmd l = some (c, n, d)) : okU c ∧ okU n ∧ d.length ≤ l.length := by
  have a1 := rnum_le l
  have a2 := rnum_le (Cod.rnum l).2.1
  have b1 := rnum_lt l
  have b2 := rnum_lt (Cod.rnum l).2.1
  have a3 : (Cod.rtext (Cod.rnum (Cod.rnum l).2.1).2.1).1.length ≤ (Cod.rnum (Cod.rnum l).2.1).2.1.length := by
    unfold Cod.rtext
    have a4 := rnum_le (Cod.rnum (Cod.rnum l).2.1).2.1
    (repeat' split) <;> first | (simp; done) | (simp; omega)
  unfold Cod.rcmd at h
  simp only at h
  split at h
  · simp only [Option.some.injEq, Prod.mk.injEq] at h
    obtain ⟨rfl, rfl, rfl⟩ := h
    exact ⟨b1, b2, by omega⟩
  · cases h
end
end Go.Proofs.Ytcaemfogknaioaa
