/- Walks: a loop's Bytes. -/
import Derived.Test.YtcaemfogknaioaaP6
import Derived.Test.YtcaemfogknaioaaD3
import Derived.Test.YtcaemfogknaioaaRange
namespace Go.Proofs.Ytcaemfogknaioaa
set_option linter.unusedVariables false
set_option linter.unusedSimpArgs false
open Go.RowKit Mk Go.Sort

theorem str_app (a b : List UInt8) : str a ++ str b = str (a ++ b) := by
  apply ByteArray.ext
  simp
theorem func59 : ∃ a b c, Try.prog.underlying 59 = some (.func a b c) := by
  have h : (match Try.prog.underlying 59 with | some (.func ..) => true | _ => false) = true := by kernel_rfl
  split at h
  · rename_i a b c e; exact ⟨a, b, c, e⟩
  · cases h
theorem field82_0 (q : Int) (a : ByteArray) (u : World) : Sem.run Try.prog (Instr.field 82 (.agg #[.int .u64 q, .string a]) 0) u = .ok (.int .u64 q) u := by kernel_rfl
theorem field82_1 (q : Int) (a : ByteArray) (u : World) : Sem.run Try.prog (Instr.field 82 (.agg #[.int .u64 q, .string a]) 1) u = .ok (.string a) u := by kernel_rfl
section
variable {w w' : World} {b r : Nat} {F : Nat → Prop} {S : Nat} {m : LoopM}
theorem LoopRep.look0 (h : LoopRep w b r F S m) {c : Nat} (hc : okU c) :
    (Instr.lookup 77 (.map (some r)) (.int .u64 c) false).run Try.prog w = .ok (lastV (atC m.clients c)) w := by
  have hr := run_lookup keysU Try.underlying77 (Try.zeroValue82 w) h.map hc false
  rw [show clv m.clients = m.clients.map (fun p => (p.1, lastV p.2)) from rfl, lk_map] at hr
  refine hr.trans ?_
  unfold atC
  cases lk m.clients c <;> rfl
theorem LoopRep.keyOk (h : LoopRep w b r F S m) : ∀ p ∈ m.clients, okU p.1 := by
  intro p hp
  obtain ⟨es, c, -, E⟩ := h.map
  exact E.ok (p.1, lastV p.2) (List.mem_map.2 ⟨p, hp, rfl⟩)
/-- Behind some rounds of Bytes. -/
structure KeysAt (w : World) (r1 : Nat) (N left : List (Nat × Value)) (A : List Nat) (v : Value) (wr : World) : Prop where
  over : rangeAt okU kvU wr w.heap.size r1 N left
  perm : (A ++ left.map (·.1)).Perm (N.map (·.1))
  has : IL wr v A
  own : ∀ g, v.ownBlock = some g → w.heap.size < g
  chg : Chg (fun _ => False) w wr
  lt : w.heap.size < wr.heap.size
theorem KeysAt.step {r1 : Nat} {N a bb : List (Nat × Value)} {p : Nat × Value} {A : List Nat} {v v' : Value} {wr w1 w4 : World} (h : KeysAt w r1 N (a ++ p :: bb) A v wr) (hr1 : r1 < w.heap.size) (hc : Chg (fun i => i = w.heap.size) wr w1) (hsz : w1.heap.size = wr.heap.size) (ho : rangeAt okU kvU w1 w.heap.size r1 N (a ++ bb))
    (hs : sl w4 22 1 v' (A.length + 1) (idV A ++ [.int .u64 (p.1 : Nat)])) (hg : (w1.alloc (.cells #[.int .u64 (p.1 : Nat)] 22)).grownBy w4 v.ownBlock) (ha : v'.ownBlock = v.ownBlock ∨ v'.ownBlock = some (w1.alloc (.cells #[.int .u64 (p.1 : Nat)] 22)).heap.size) :
    (∃ o' c', v' = .slice o' (A.length + 1) c') ∧ KeysAt w r1 N (a ++ bb) (A ++ [p.1]) v' w4 := by
  have hhas : IL w4 v' (A ++ [p.1]) := by
    unfold IL
    rw [List.length_append]
    have : idV (A ++ [p.1]) = idV A ++ [.int .u64 (p.1 : Nat)] := by simp [idV]
    rw [this]
    exact hs
  obtain ⟨o', c', e'⟩ := sl_shape hhas
  rw [List.length_append] at e'
  have h0 := h.lt
  have hgs := hg.size
  simp only [World.size_alloc] at hgs ha
  have keep : ∀ i, i ≤ w.heap.size → w4.heap[i]? = w1.heap[i]? := fun i hi => by
    rw [hg.block i (by rw [World.size_alloc]; omega) (fun e => by have := h.own i e.symm; omega)]
    exact Below.heap_alloc _ _ _ (by omega)
  refine ⟨⟨o', c', e'⟩, ho.stay (keep _ (by omega)) (keep _ (Nat.le_refl _)), ?_, hhas, fun g hg' => ?_, ?_, by omega⟩
  · refine List.Perm.trans ?_ h.perm
    rw [List.append_assoc, List.map_append, List.map_append, List.map_cons]
    refine List.Perm.append_left A ?_
    exact (List.perm_middle (a := p.1) (l₁ := a.map (·.1)) (l₂ := bb.map (·.1))).symm
  · rcases ha with e | e
    · exact h.own g (by rw [← e]; exact hg')
    · rw [e] at hg'
      have := Option.some.inj hg'
      omega
  · have c1 : Chg (fun _ => False) w (w1.alloc (.cells #[.int .u64 (p.1 : Nat)] 22)) := (h.chg.trans' hc (fun i hi => Or.inr (by omega))).alloc _
    exact c1.grown hg (fun i hi => Or.inr (by have := h.own i hi; omega))
theorem KeysAt.row {r1 : Nat} {N left : List (Nat × Value)} {A : List Nat} {v : Value} {wr w1 : World} (h : KeysAt w r1 N left A v wr) (hc : Chg (fun i => i = w.heap.size) wr w1) (o : Obj) : sl (w1.alloc o) 22 1 v A.length (idV A) := by
  have h1 : IL w1 v A := sl.stay h.has (fun g hg => hc.block g (sl.lt h.has hg) (fun e => by have := h.own g hg; omega))
  exact h1.stay ((Chg.refl _ w1).alloc _)
theorem oneB_pos (L : List (Nat × Last)) (k : Nat) : 1 ≤ (oneB L k).length := by
  unfold oneB
  rw [List.length_append, List.length_append, Cod.num_len]
  omega
theorem flat_len (L : List (Nat × Last)) (ks : List Nat) : ks.length ≤ (ks.flatMap (oneB L)).length := by
  induction ks with
  | nil => simp
  | cons k ks ih =>
    rw [List.flatMap_cons, List.length_append, List.length_cons]
    have := oneB_pos L k
    omega
theorem loopS_len (m : LoopM) : m.clients.length ≤ (preB m (sortC m.clients)).length ∧ (loopS m).length = (preB m (sortC m.clients)).length + (Cod.text m.state.data.toList).length := by
  constructor
  · have := flat_len m.clients (sortC m.clients)
    rw [sortC_len] at this
    unfold preB
    rw [List.length_append]
    omega
  · unfold loopS; rw [List.length_append]
theorem text_len (s : ByteArray) : s.size ≤ (Cod.text s.data.toList).length := by
  unfold Cod.text
  rw [List.length_append, len_list]
  omega
end
end Go.Proofs.Ytcaemfogknaioaa
