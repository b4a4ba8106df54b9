/- Walks: any act's entry; plain: what is written is read. -/
import Derived.Test.YtcaemfogknaioaaQ1
import Derived.Test.YtcaemfogknaioaaE2
import Derived.Laws.ResultCell
namespace Go.Proofs.Ytcaemfogknaioaa
set_option linter.unusedVariables false
set_option linter.unusedSimpArgs false
open Go.RowKit Mk Go.Sort

set_option maxRecDepth 100000 in
set_option maxHeartbeats 1000000 in
theorem entry_raw (c n k t : Nat) (d : ByteArray) (w : World) :
    Calls Try.prog 15 #[.agg #[.int .u64 c, .int .u64 n, .string d, .bool true, .int .u8 k, .int .u64 t]] w fun e w' => e = .returned (entryV k d) ∧ Below w.heap.size w w' := by
  go_enter Try.func15, Try.ntmps15
  go_wp2_with fail
  refine bodyPost_ret (results_cell_row (p := 2) (ty := 45) rfl _ _ (w.heap.size + 1) 45 _ (0, 0) _ rfl (three w _ _ _ (RowKit.Below.refl _ _)).1 Try.underlying45 rfl (by kernel_rfl)) rfl ⟨rfl, ?_⟩
  exact below_of_chg ((((Chg.refl _ w).alloc _).alloc _).alloc _)
/-- Any act's entry. -/
theorem entryx_any (x : ActV) (hx : x.ok) (hd : x.d.size ≤ 1000) : ∃ s : ByteArray, s.size ≤ 1100 ∧ ∀ w, Calls Try.prog 15 #[.agg x.cells.toArray] w fun e w' => e = .returned (entryV x.k s) ∧ Below w.heap.size w w' := by
  obtain ⟨c, n, d, raw, k, t⟩ := x
  have hc := hx.c
  have hn := hx.n
  simp only at hc hn hd
  cases raw
  · obtain ⟨s, e, hv, he, h0⟩ := cmdV_tuple c n d.data.toList
    refine ⟨s, ?_, fun w => entry_any c n k t d s e hc hn (by omega) hv w⟩
    by_cases e0 : e = 0
    · obtain ⟨hs, -, -, -⟩ := h0 e0
      have h1 := num_size c
      have h2 := num_size n
      have h3 := text_size d
      rw [hs, ← cmd_str, ByteArray.size_append, ByteArray.size_append]
      omega
    · have : s.size = 0 := by
        unfold cmdV at hv
        split at hv
        · simp only [Value.tuple.injEq] at hv; injection hv with hv; simp at hv; rw [← hv.1]; rfl
        · split at hv
          · simp only [Value.tuple.injEq] at hv; injection hv with hv; simp at hv; rw [← hv.1]; rfl
          · simp only [Value.tuple.injEq] at hv; injection hv with hv; simp at hv; omega
      omega
  · exact ⟨d, by omega, fun w => entry_raw c n k t d w⟩

theorem cliR_write : ∀ (C : List (Nat × Last)) (b : Nat) (r : List UInt8), risesR b C → (∀ p ∈ C, 0 < p.2.1 ∧ p.2.2.size < 18446744073709551616) → cliR C.length (cliB C ++ r) b = some (C, r)
  | [], b, r, h, hp => rfl
  | p :: C, b, r, h, hp => by
    obtain ⟨h1, h2, h3, h4⟩ := h
    obtain ⟨q1, q2⟩ := hp p (List.mem_cons_self ..)
    have hu : cliB (p :: C) ++ r = Cod.num p.1 ++ (Cod.num p.2.1 ++ (Cod.text p.2.2.data.toList ++ (cliB C ++ r))) := by
      unfold cliB
      rw [List.flatMap_cons]
      simp only [List.append_assoc]
    have a1 := Cod.rnum_num p.1 h2 (Cod.num p.2.1 ++ (Cod.text p.2.2.data.toList ++ (cliB C ++ r)))
    have a2 := Cod.rnum_num p.2.1 h3 (Cod.text p.2.2.data.toList ++ (cliB C ++ r))
    have a3 := Cod.rtext_text p.2.2.data.toList (by rw [len_list]; exact q2) (cliB C ++ r)
    rw [hu, List.length_cons]
    unfold cliR
    rw [a1]
    simp only
    rw [a2]
    simp only
    rw [a3]
    simp only
    rw [if_neg (by omega), if_neg (by omega), if_neg (by omega), cliR_write C p.1 r h4 (fun q hq => hp q (List.mem_cons_of_mem _ hq))]
    rfl
/-- What is written of a loop is read as it. -/
theorem refL_write {m : LoopM} (hi : m.index < 18446744073709551616) (hr : risesR 0 m.clients) (hn : m.clients.length < 18446744073709551616) (hp : ∀ p ∈ m.clients, 0 < p.2.1 ∧ p.2.2.size < 18446744073709551616) (hs : m.state.size < 18446744073709551616) :
    refL (str (loopB m)) = if okS m.state = true then some m else none := by
  have hu : loopB m = Cod.num m.index ++ (Cod.num m.clients.length ++ (cliB m.clients ++ Cod.text m.state.data.toList)) := by
    unfold loopB; simp only [List.append_assoc]
  have a1 := Cod.rnum_num m.index hi (Cod.num m.clients.length ++ (cliB m.clients ++ Cod.text m.state.data.toList))
  have a2 := Cod.rnum_num m.clients.length hn (cliB m.clients ++ Cod.text m.state.data.toList)
  have a3 := Cod.rtext_text m.state.data.toList (by rw [len_list]; exact hs) []
  rw [List.append_nil] at a3
  have a4 := cliR_write m.clients 0 (Cod.text m.state.data.toList) hr hp
  have hst : str m.state.data.toList = m.state := str_self _
  show (if (Cod.rnum (loopB m)).2.2 ≠ 0 then none else if (Cod.rnum (Cod.rnum (loopB m)).2.1).2.2 ≠ 0 then none else match cliR (Cod.rnum (Cod.rnum (loopB m)).2.1).1 (Cod.rnum (Cod.rnum (loopB m)).2.1).2.1 0 with | none => none | some p => endL (Cod.rnum (loopB m)).1 p.1 p.2) = _
  rw [hu, a1]
  simp only
  rw [a2]
  simp only
  rw [a4, if_neg (by decide), if_neg (by decide)]
  simp only
  unfold endL
  rw [a3]
  simp only
  rw [hst]
  by_cases e : okS m.state = true
  · rw [if_pos ⟨trivial, trivial, e⟩, if_pos e]
  · rw [if_neg (fun h => e h.2.2), if_neg e]
/-- The bounds of a loop behind so many rounds. -/
structure Bnd (k : Nat) (m : LoopM) : Prop where
  n : m.clients.length ≤ k
  st : m.state.size ≤ 1000 + 1100 * k
  cl : ∀ p ∈ m.clients, 0 < p.2.1 ∧ p.2.2.size ≤ 2000
  ix : m.index < 18446744073709551616
theorem layC_mem {c : Nat} {x : Last} : ∀ {L : List (Nat × Last)} {p : Nat × Last}, p ∈ layC c x L → p = (c, x) ∨ p ∈ L
  | [], p, h => by simp [layC] at h; exact Or.inl h
  | q :: L, p, h => by
    unfold layC at h
    split at h
    · rcases List.mem_cons.1 h with rfl | h
      · exact Or.inr (List.mem_cons_self ..)
      · rcases layC_mem h with h | h
        · exact Or.inl h
        · exact Or.inr (List.mem_cons_of_mem _ h)
    · split at h
      · rcases List.mem_cons.1 h with h | h
        · exact Or.inl h
        · exact Or.inr (List.mem_cons_of_mem _ h)
      · rcases List.mem_cons.1 h with h | h
        · exact Or.inl h
        · exact Or.inr h
theorem rcmd_seq {l : List UInt8} {c n : Nat} {d : List UInt8} (h : Cod.rcmd l = some (c, n, d)) : 0 < n := by
  unfold Cod.rcmd at h
  simp only at h
  split at h
  · rename_i h1
    simp only [Option.some.injEq, Prod.mk.injEq] at h
    obtain ⟨rfl, rfl, rfl⟩ := h
    omega
  · cases h
theorem Bnd.next {k : Nat} {m : LoopM} (h : Bnd k m) {idx kind : Nat} {data : ByteArray} (hi : idx < 18446744073709551616) (hd : data.size ≤ 1100) : Bnd (k + 1) (rapplyM m idx kind data).1 := by
  have hw : Bnd (k + 1) m := ⟨by have := h.n; omega, by have := h.st; omega, h.cl, h.ix⟩
  have ha : Bnd (k + 1) (atM m idx) := ⟨hw.n, hw.st, h.cl, hi⟩
  unfold rapplyM
  split
  · exact hw
  · split
    · exact ha
    · unfold rcmdM
      cases hr : Cod.rcmd data.data.toList with
      | none => exact ha
      | some t =>
        obtain ⟨c, n, d⟩ := t
        simp only
        have hpos := rcmd_seq hr
        obtain ⟨-, -, hdl⟩ := rcmd_bounds hr
        rw [len_list] at hdl
        have hdo : Bnd (k + 1) (rdoM (atM m idx) c n (str d)).1 := by
          have hst : (str d).size = d.length := rfl
          refine ⟨?_, ?_, fun p hp => ?_, hi⟩
          · have := layC_len c (n, (stepM (atM m idx).state (str d)).2) m.clients
            have := h.n
            show (layC c _ m.clients).length ≤ k + 1
            omega
          · show (m.state ++ str d).size ≤ _
            rw [ByteArray.size_append]
            have := h.st
            omega
          · rcases layC_mem (show p ∈ layC c (n, (stepM m.state (str d)).2) m.clients from hp) with rfl | hp
            · refine ⟨hpos, ?_⟩
              show (str (Cod.num m.state.size) ++ str d).size ≤ 2000
              rw [ByteArray.size_append]
              have := num_size m.state.size
              omega
            · exact h.cl p hp
        cases lk (atM m idx).clients c with
        | none => exact hdo
        | some v =>
          obtain ⟨q, a⟩ := v
          simp only
          split
          · exact ha
          · split
            · exact ha
            · exact hdo
theorem cliB_len {C : List (Nat × Last)} (h : ∀ p ∈ C, p.2.2.size ≤ 2000) : (cliB C).length ≤ C.length * 2100 := by
  induction C with
  | nil => simp [cliB]
  | cons p C ih =>
    have h1 := ih (fun q hq => h q (List.mem_cons_of_mem _ hq))
    have h2 := h p (List.mem_cons_self ..)
    have h3 := num_size p.1
    have h4 := num_size p.2.1
    have h5 := text_size p.2.2
    have e3 : (str (Cod.num p.1)).size = (Cod.num p.1).length := rfl
    have e4 : (str (Cod.num p.2.1)).size = (Cod.num p.2.1).length := rfl
    have e5 : (str (Cod.text p.2.2.data.toList)).size = (Cod.text p.2.2.data.toList).length := rfl
    show ((Cod.num p.1 ++ Cod.num p.2.1 ++ Cod.text p.2.2.data.toList) ++ cliB C).length ≤ _
    rw [List.length_append, List.length_append, List.length_append, List.length_cons]
    omega
theorem Bnd.bytes {k : Nat} {m : LoopM} (h : Bnd k m) (hk : k ≤ 60) : (loopB m).length ≤ 300000 := by
  have h1 := cliB_len (fun p hp => (h.cl p hp).2)
  have h2 := num_size m.index
  have h3 := num_size m.clients.length
  have h4 := text_size m.state
  have h5 := h.n
  have h6 := h.st
  have e3 : (str (Cod.num m.index)).size = (Cod.num m.index).length := rfl
  have e4 : (str (Cod.num m.clients.length)).size = (Cod.num m.clients.length).length := rfl
  have e5 : (str (Cod.text m.state.data.toList)).size = (Cod.text m.state.data.toList).length := rfl
  unfold loopB
  rw [List.length_append, List.length_append, List.length_append]
  have : m.clients.length * 2100 ≤ 60 * 2100 := Nat.mul_le_mul_right _ (by omega)
  omega
end Go.Proofs.Ytcaemfogknaioaa
