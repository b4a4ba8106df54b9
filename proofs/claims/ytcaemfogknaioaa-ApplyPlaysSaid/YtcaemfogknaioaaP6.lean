/- Walks: numbers in a slice, sorted; plain: a loop's bytes by its sorted clients. -/
import Derived.Test.YtcaemfogknaioaaP4
import Derived.Test.YtcaemfogknaioaaSa
namespace Go.Proofs.Ytcaemfogknaioaa
set_option linter.unusedVariables false
set_option linter.unusedSimpArgs false
open Go.RowKit Mk Go.Sort

def idV (ns : List Nat) : List Value := ns.map fun n => Value.int .u64 (n : Nat)
/-- The slice v holds these numbers. -/
def IL (w : World) (v : Value) (ns : List Nat) : Prop := sl w 22 1 v ns.length (idV ns)
theorem IL.cell {w : World} {v : Value} {L : List Nat} (h : IL w v L) {i : Nat} {s : Nat} (hs : L[i]? = some s) : ∃ g cap, v = .slice (some ⟨g, 0, none⟩) L.length cap ∧ w.cell? ⟨g, i, none⟩ = some (.int .u64 (s : Nat)) :=
  sl.cell h (by unfold idV; rw [List.getElem?_map, hs]; rfl)
theorem IL.stay {w w' : World} {v : Value} {L : List Nat} (h : IL w v L) (c : Chg (fun _ => False) w w') : IL w' v L := sl.stay h (fun g hg => c.block g (sl.lt h hg) (fun f => f))
theorem info22 : ∃ (i : TypeInfo) (z : Value), Try.prog.info? 22 = some i ∧ i.zero = some z ∧ i.size = 1 ∧ i.bytes = 8 ∧ z.cells.size = 1 := by
  obtain ⟨i, hi, hzz⟩ := Option.map_eq_some_iff.1 (show (Try.prog.info? 22).map (fun i => (i.zero, i.size, i.bytes)) = some (some (.int .u64 0), 1, 8) by kernel_rfl)
  simp only [Prod.mk.injEq] at hzz
  exact ⟨i, _, hi, hzz.1, hzz.2.1, hzz.2.2, rfl⟩
def ints (ns : List Nat) : List Int := ns.map fun n : Nat => (n : Int)
/-- The numbers, rising. -/
def sortI (ns : List Nat) : List Nat := ((ints ns).mergeSort fun x y => decide (x ≤ y)).map Int.toNat
theorem sortI_len (ns : List Nat) : (sortI ns).length = ns.length := by
  unfold sortI ints; rw [List.length_map, List.length_mergeSort, List.length_map]
theorem sortI_nil : sortI [] = [] := List.eq_nil_of_length_eq_zero (sortI_len [])
theorem ms_sorted (l : List Int) : (l.mergeSort fun x y => decide (x ≤ y)).Pairwise (fun x y => x ≤ y) :=
  (List.pairwise_mergeSort (le := fun x y : Int => decide (x ≤ y)) (fun a b c h1 h2 => by simp only [decide_eq_true_eq] at *; omega) (fun a b => by simp only [Bool.or_eq_true, decide_eq_true_eq]; omega) l).imp (fun h => by simpa using h)
theorem sortI_perm {ns ms : List Nat} (h : ns.Perm ms) : sortI ns = sortI ms := by
  unfold sortI
  congr 1
  refine List.Perm.eq_of_pairwise (le := fun x y : Int => x ≤ y) (fun a b _ _ h1 h2 => by omega) (ms_sorted _) (ms_sorted _) ?_
  exact ((List.mergeSort_perm _ _).trans (h.map _)).trans (List.mergeSort_perm _ _).symm
theorem back_nat (l : List Nat) : (ints l).map Int.toNat = l := by
  unfold ints
  rw [List.map_map]
  have : Int.toNat ∘ (fun n : Nat => (n : Int)) = id := by funext n; simp
  rw [this, List.map_id]
/-- Numbers that rise are the sorted ones. -/
theorem sortI_eq {ns : List Nat} (hs : ns.Pairwise (fun a b => a < b)) : sortI ns = ns := by
  have h1 : ((ints ns).mergeSort fun x y => decide (x ≤ y)) = ints ns := by
    refine List.Perm.eq_of_pairwise (le := fun x y : Int => x ≤ y) (fun a b _ _ h1 h2 => by omega) (ms_sorted _) ?_ (List.mergeSort_perm _ _)
    unfold ints
    rw [List.pairwise_map]
    exact hs.imp (fun h => by omega)
  unfold sortI
  rw [h1, back_nat]
theorem ints_sorted (ns : List Nat) : (ints ns).mergeSort (fun x y => decide (x ≤ y)) = ints (sortI ns) := by
  unfold sortI
  obtain ⟨arr, harr⟩ : ∃ arr, (ints ns).mergeSort (fun x y => decide (x ≤ y)) = arr := ⟨_, rfl⟩
  have hm : ∀ x ∈ arr, 0 ≤ x := fun x hx => by
    rw [← harr] at hx
    have := (List.mergeSort_perm (ints ns) fun x y => decide (x ≤ y)).mem_iff.1 hx
    unfold ints at this
    obtain ⟨n, _, rfl⟩ := List.mem_map.1 this
    omega
  rw [harr]
  unfold ints
  rw [List.map_map]
  have : arr.map ((fun n : Nat => (n : Int)) ∘ Int.toNat) = arr.map id := List.map_congr_left (fun x hx => by have := hm x hx; simp; omega)
  rw [this, List.map_id]

theorem sort_any {w : World} {v : Value} {ns : List Nat} (h : IL w v ns) (hL : ns.length ≤ 1099511627776) :
    Calls Try.prog 41 #[v] w fun e w' => e = .returned (.tuple #[]) ∧ IL w' v (sortI ns) ∧ Chg (fun g => v.ownBlock = some g) w w' := by
  rcases h.2 with ⟨rfl, e0⟩ | ⟨g, cap, cur, rfl, hg, hnc, hcm, hcs, ht⟩
  · obtain rfl := List.eq_nil_of_length_eq_zero e0
    refine (su_Sort_nil none 0 w).mono ?_
    rintro e w' ⟨rfl, rfl⟩
    exact ⟨rfl, by rw [sortI_nil]; exact h, Chg.refl _ _⟩
  · by_cases e0 : ns.length = 0
    · obtain rfl := List.eq_nil_of_length_eq_zero e0
      refine (su_Sort_nil (some ⟨g, 0, none⟩) cap w).mono ?_
      rintro e w' ⟨rfl, rfl⟩
      exact ⟨rfl, by rw [sortI_nil]; exact h, Chg.refl _ _⟩
    have hlen : (ints ns).length = ns.length := List.length_map _
    have hH : Holds (Value.int .u64) w g 0 (ints ns).toArray := fun j hj => by
      rw [List.size_toArray, hlen] at hj
      obtain ⟨g', cap', e, hc⟩ := h.cell (i := j) (s := ns[j]) (by rw [List.getElem?_eq_getElem hj])
      cases e
      refine ⟨?_, frozen_of hg⟩
      rw [Nat.zero_add, hc]
      congr 1
      have : (ints ns).toArray[j]! = (ns[j] : Int) := by
        rw [getElem!_pos _ j (by rw [List.size_toArray, hlen]; exact hj)]
        simp [ints]
      rw [this]
    have C := su_slices_Sort g 0 cap (ints ns) w hH (Array.getElem?_eq_some_iff.1 hg).1 (by rw [hlen]; omega)
    rw [hlen, ints_sorted] at C
    refine Calls.mono C ?_
    rintro e w' ⟨rfl, n, os, rfl⟩
    have hal : (ints (sortI ns)).length = ns.length := by unfold ints; rw [List.length_map, sortI_len]
    have hsl := sortI_len ns
    generalize sortI ns = ms at *
    have hlt := (Array.getElem?_eq_some_iff.1 hg).1
    have hcl : cur.toList.length = cur.size := Array.length_toList
    have hnew : (grow (putRow (Value.int .u64) (Sort.ahead w n) g 0 (ints ms).toArray) os).heap[g]? = some (.cells (putCells (Value.int .u64) 0 (ints ms).toArray cur) 22) := by
      unfold grow
      rw [Array.getElem?_append_left (by rw [size_putRow]; exact hlt)]
      unfold putRow mapBlock
      show (w.heap.modify g _)[g]? = _
      rw [Array.getElem?_modify, if_pos rfl, hg]
      rfl
    refine ⟨rfl, ⟨by simp [idV], Or.inr ⟨g, cap, _, by rw [hsl], hnew, by rw [hsl]; exact hnc, hcm, ?_, ?_⟩⟩, ?_⟩
    · unfold putCells; rw [Array.size_mapIdx]; exact hcs
    · rw [hsl]
      apply List.ext_getElem?
      intro i
      unfold idV putCells
      rw [List.getElem?_take, List.getElem?_map]
      by_cases hi : i < ns.length
      · rw [if_pos (by omega), Array.getElem?_toList, Array.getElem?_mapIdx]
        have hic : i < cur.size := by omega
        rw [Array.getElem?_eq_getElem hic, List.getElem?_eq_getElem (by omega)]
        simp only [Option.map_some, Option.some.injEq, Nat.sub_zero, List.size_toArray]
        rw [if_pos ⟨by omega, by omega⟩, getElem!_pos _ i (by rw [List.size_toArray]; omega)]
        simp [ints]
      · rw [if_neg (by omega), List.getElem?_eq_none (by omega)]
        rfl
    · refine ⟨rfl, rfl, rfl, ?_, fun i hi hF => ?_⟩
      · unfold grow; simp [Sort.ahead]
      · unfold grow
        rw [Array.getElem?_append_left (by rw [size_putRow]; exact hi)]
        unfold putRow mapBlock
        show (w.heap.modify g _)[i]? = _
        rw [Array.getElem?_modify, if_neg (fun e => hF (by rw [e]; rfl))]

/-! ### The bytes by the sorted clients -/
def atC (L : List (Nat × Last)) (k : Nat) : Last := (lk L k).getD (0, ⟨#[]⟩)
def oneB (L : List (Nat × Last)) (k : Nat) : List UInt8 := Cod.num k ++ Cod.num (atC L k).1 ++ Cod.text (atC L k).2.data.toList
def sortC (L : List (Nat × Last)) : List Nat := sortI (L.map (·.1))
def preB (m : LoopM) (ks : List Nat) : List UInt8 := Cod.num m.index ++ Cod.num m.clients.length ++ ks.flatMap (oneB m.clients)
def loopS (m : LoopM) : List UInt8 := preB m (sortC m.clients) ++ Cod.text m.state.data.toList
theorem sortC_len (L : List (Nat × Last)) : (sortC L).length = L.length := by unfold sortC; rw [sortI_len, List.length_map]
theorem preB_take (m : LoopM) {j : Nat} {k : Nat} (h : (sortC m.clients)[j]? = some k) : preB m ((sortC m.clients).take (j + 1)) = preB m ((sortC m.clients).take j) ++ oneB m.clients k := by
  unfold preB
  rw [List.take_add_one, h, List.flatMap_append, List.append_assoc, List.append_assoc, List.append_assoc]
  simp
theorem preB_le (m : LoopM) (j : Nat) : (preB m ((sortC m.clients).take j)).length ≤ (preB m (sortC m.clients)).length := by
  have : preB m (sortC m.clients) = preB m ((sortC m.clients).take j) ++ ((sortC m.clients).drop j).flatMap (oneB m.clients) := by
    unfold preB
    rw [List.append_assoc (Cod.num m.index ++ Cod.num m.clients.length), ← List.flatMap_append, List.take_append_drop]
  rw [this, List.length_append]
  omega
theorem rises_pair : ∀ (C : List (Nat × Last)) (b : Nat), risesR b C → (∀ p ∈ C, b < p.1) ∧ (C.map (·.1)).Pairwise (fun x y => x < y)
  | [], b, h => ⟨by simp, by simp⟩
  | p :: C, b, h => by
    obtain ⟨h1, -, -, h2⟩ := h
    obtain ⟨i1, i2⟩ := rises_pair C p.1 h2
    refine ⟨fun q hq => ?_, ?_⟩
    · rcases List.mem_cons.1 hq with rfl | hq
      · exact h1
      · exact Nat.lt_trans h1 (i1 q hq)
    · rw [List.map_cons, List.pairwise_cons]
      refine ⟨fun k hk => ?_, i2⟩
      obtain ⟨q, hq, rfl⟩ := List.mem_map.1 hk
      exact i1 q hq
theorem lk_at {C : List (Nat × Last)} {b : Nat} (h : risesR b C) : ∀ p ∈ C, atC C p.1 = p.2 := by
  intro p hp
  obtain ⟨j, hj, e⟩ := List.getElem_of_mem hp
  have hd := (rises_pair C b h).2
  rw [List.pairwise_map] at hd
  have := (lk_some (L := C) (x := p.1) (j := j) (v := p.2) (hd.imp (fun h => by omega)) (by rw [List.getElem?_eq_getElem hj, e])).1
  unfold atC
  rw [this]
  rfl
theorem loopS_eq {m : LoopM} (h : risesR 0 m.clients) : loopS m = loopB m := by
  unfold loopS loopB preB
  have hs : sortC m.clients = m.clients.map (·.1) := sortI_eq (rises_pair _ _ h).2
  rw [hs]
  congr 2
  unfold cliB
  rw [List.flatMap_map]
  have hl := lk_at h
  have : ∀ D : List (Nat × Last), (∀ p ∈ D, p ∈ m.clients) → D.flatMap (fun p => oneB m.clients p.1) = D.flatMap fun p => Cod.num p.1 ++ Cod.num p.2.1 ++ Cod.text p.2.2.data.toList := by
    intro D hD
    induction D with
    | nil => rfl
    | cons p D ih =>
      rw [List.flatMap_cons, List.flatMap_cons, ih (fun q hq => hD q (List.mem_cons_of_mem _ hq))]
      congr 1
      unfold oneB
      rw [hl p (hD p (List.mem_cons_self ..))]
  exact this _ (fun p hp => hp)
end Go.Proofs.Ytcaemfogknaioaa
