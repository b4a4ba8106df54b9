/- Numbers in a slice, sorted. Printed by genY2.py (off apply's P6). -/
import Derived.Test.YtgmmglmokkcgeaaGreatQa
import Derived.Test.YtgmmglmokkcgeaaGreatD8
import Derived.Test.YtgmmglmokkcgeaaGreatT3
import Derived.Test.YtgmmglmokkcgeaaGreatRange
import Derived.Test.YtgmmglmokkcgeaaGreatR3
import Derived.Test.YtgmmglmokkcgeaaGreatA7
import Derived.Test.YtgmmglmokkcgeaaGreatA8
import Derived.Shelf.Abstract
import Derived.Shelf.RegionOpen
import Derived.OwnWalkIn
import Derived.TacticsInMore
import Derived.LoopNIn
import Derived.LoopIn
namespace Go.Proofs.YtgmmglmokkcgeaaGreat
set_option linter.unusedVariables false
set_option linter.unusedSimpArgs false
open Go.RowKit Mk Go.Sort

def idV (ns : List Nat) : List Value := ns.map fun n => Value.int .u64 (n : Nat)
/-- The slice v holds these numbers. -/
def IL (w : World) (v : Value) (ns : List Nat) : Prop := sl w 24 1 v ns.length (idV ns)
theorem IL.cell {w : World} {v : Value} {L : List Nat} (h : IL w v L) {i : Nat} {s : Nat} (hs : L[i]? = some s) : ∃ g cap, v = .slice (some ⟨g, 0, none⟩) L.length cap ∧ w.cell? ⟨g, i, none⟩ = some (.int .u64 (s : Nat)) :=
  sl.cell h (by unfold idV; rw [List.getElem?_map, hs]; rfl)
theorem IL.stay {w w' : World} {v : Value} {L : List Nat} (h : IL w v L) (c : Chg (fun _ => False) w w') : IL w' v L := sl.stay h (fun g hg => c.block g (sl.lt h hg) (fun f => f))
def ints (ns : List Nat) : List Int := ns.map fun n : Nat => (n : Int)
/-- The numbers, rising. -/
def sortI (ns : List Nat) : List Nat := ((ints ns).mergeSort fun x y => decide (x ≤ y)).map Int.toNat
theorem sortI_len (ns : List Nat) : (sortI ns).length = ns.length := by
  unfold sortI ints; rw [List.length_map, List.length_mergeSort, List.length_map]
theorem sortI_nil : sortI [] = [] := List.eq_nil_of_length_eq_zero (sortI_len [])
theorem ms_sorted (l : List Int) : (l.mergeSort fun x y => decide (x ≤ y)).Pairwise (fun x y => x ≤ y) :=
  (List.pairwise_mergeSort (le := fun x y : Int => decide (x ≤ y)) (fun a b c h1 h2 => by simp only [decide_eq_true_eq] at *; omega) (fun a b => by simp only [Bool.or_eq_true, decide_eq_true_eq]; omega) l).imp (fun h => by simpa using h)
theorem sortI_perm {ns ms : List Nat} (h : ns.Perm ms) : sortI ns = sortI ms := by
  unfold sortI
  congr 1
  refine List.Perm.eq_of_pairwise (le := fun x y : Int => x ≤ y) (fun a b _ _ h1 h2 => by omega) (ms_sorted _) (ms_sorted _) ?_
  exact ((List.mergeSort_perm _ _).trans (h.map _)).trans (List.mergeSort_perm _ _).symm
theorem back_nat (l : List Nat) : (ints l).map Int.toNat = l := by
  unfold ints
  rw [List.map_map]
  have : Int.toNat ∘ (fun n : Nat => (n : Int)) = id := by funext n; simp
  rw [this, List.map_id]
/-- Numbers that rise are the sorted ones. -/
theorem sortI_eq {ns : List Nat} (hs : ns.Pairwise (fun a b => a < b)) : sortI ns = ns := by
  have h1 : ((ints ns).mergeSort fun x y => decide (x ≤ y)) = ints ns := by
    refine List.Perm.eq_of_pairwise (le := fun x y : Int => x ≤ y) (fun a b _ _ h1 h2 => by omega) (ms_sorted _) ?_ (List.mergeSort_perm _ _)
    unfold ints
    rw [List.pairwise_map]
    exact hs.imp (fun h => by omega)
  unfold sortI
  rw [h1, back_nat]
theorem ints_sorted (ns : List Nat) : (ints ns).mergeSort (fun x y => decide (x ≤ y)) = ints (sortI ns) := by
  unfold sortI
  obtain ⟨arr, harr⟩ : ∃ arr, (ints ns).mergeSort (fun x y => decide (x ≤ y)) = arr := ⟨_, rfl⟩
  have hm : ∀ x ∈ arr, 0 ≤ x := fun x hx => by
    rw [← harr] at hx
    have := (List.mergeSort_perm (ints ns) fun x y => decide (x ≤ y)).mem_iff.1 hx
    unfold ints at this
    obtain ⟨n, _, rfl⟩ := List.mem_map.1 this
    omega
  rw [harr]
  unfold ints
  rw [List.map_map]
  have : arr.map ((fun n : Nat => (n : Int)) ∘ Int.toNat) = arr.map id := List.map_congr_left (fun x hx => by have := hm x hx; simp; omega)
  rw [this, List.map_id]

theorem sort_any {w : World} {v : Value} {ns : List Nat} (h : IL w v ns) (hL : ns.length ≤ 1099511627776) :
    Calls Tryz.prog 85 #[v] w fun e w' => e = .returned (.tuple #[]) ∧ IL w' v (sortI ns) ∧ Chg (fun g => v.ownBlock = some g) w w' := by
  rcases h.2 with ⟨rfl, e0⟩ | ⟨g, cap, cur, rfl, hg, hnc, hcm, hcs, ht⟩
  · obtain rfl := List.eq_nil_of_length_eq_zero e0
    refine (su_Sort_nil none 0 w).mono ?_
    rintro e w' ⟨rfl, rfl⟩
    exact ⟨rfl, by rw [sortI_nil]; exact h, Chg.refl _ _⟩
  · by_cases e0 : ns.length = 0
    · obtain rfl := List.eq_nil_of_length_eq_zero e0
      refine (su_Sort_nil (some ⟨g, 0, none⟩) cap w).mono ?_
      rintro e w' ⟨rfl, rfl⟩
      exact ⟨rfl, by rw [sortI_nil]; exact h, Chg.refl _ _⟩
    have hlen : (ints ns).length = ns.length := List.length_map _
    have hH : Holds (Value.int .u64) w g 0 (ints ns).toArray := fun j hj => by
      rw [List.size_toArray, hlen] at hj
      obtain ⟨g', cap', e, hc⟩ := h.cell (i := j) (s := ns[j]) (by rw [List.getElem?_eq_getElem hj])
      cases e
      refine ⟨?_, frozen_of hg⟩
      rw [Nat.zero_add, hc]
      congr 1
      have : (ints ns).toArray[j]! = (ns[j] : Int) := by
        rw [getElem!_pos _ j (by rw [List.size_toArray, hlen]; exact hj)]
        simp [ints]
      rw [this]
    have C := su_slices_Sort g 0 cap (ints ns) w hH (Array.getElem?_eq_some_iff.1 hg).1 (by rw [hlen]; omega)
    rw [hlen, ints_sorted] at C
    refine Calls.mono C ?_
    rintro e w' ⟨rfl, n, os, rfl⟩
    have hal : (ints (sortI ns)).length = ns.length := by unfold ints; rw [List.length_map, sortI_len]
    have hsl := sortI_len ns
    generalize sortI ns = ms at *
    have hlt := (Array.getElem?_eq_some_iff.1 hg).1
    have hcl : cur.toList.length = cur.size := Array.length_toList
    have hnew : (grow (putRow (Value.int .u64) (Sort.ahead w n) g 0 (ints ms).toArray) os).heap[g]? = some (.cells (putCells (Value.int .u64) 0 (ints ms).toArray cur) 24) := by
      unfold grow
      rw [Array.getElem?_append_left (by rw [size_putRow]; exact hlt)]
      unfold putRow mapBlock
      show (w.heap.modify g _)[g]? = _
      rw [Array.getElem?_modify, if_pos rfl, hg]
      rfl
    refine ⟨rfl, ⟨by simp [idV], Or.inr ⟨g, cap, _, by rw [hsl], hnew, by rw [hsl]; exact hnc, hcm, ?_, ?_⟩⟩, ?_⟩
    · unfold putCells; rw [Array.size_mapIdx]; exact hcs
    · rw [hsl]
      apply List.ext_getElem?
      intro i
      unfold idV putCells
      rw [List.getElem?_take, List.getElem?_map]
      by_cases hi : i < ns.length
      · rw [if_pos (by omega), Array.getElem?_toList, Array.getElem?_mapIdx]
        have hic : i < cur.size := by omega
        rw [Array.getElem?_eq_getElem hic, List.getElem?_eq_getElem (by omega)]
        simp only [Option.map_some, Option.some.injEq, Nat.sub_zero, List.size_toArray]
        rw [if_pos ⟨by omega, by omega⟩, getElem!_pos _ i (by rw [List.size_toArray]; omega)]
        simp [ints]
      · rw [if_neg (by omega), List.getElem?_eq_none (by omega)]
        rfl
    · refine ⟨rfl, rfl, rfl, ?_, fun i hi hF => ?_⟩
      · unfold grow; simp [Sort.ahead]
      · unfold grow
        rw [Array.getElem?_append_left (by rw [size_putRow]; exact hi)]
        unfold putRow mapBlock
        show (w.heap.modify g _)[i]? = _
        rw [Array.getElem?_modify, if_neg (fun e => hF (by rw [e]; rfl))]

end Go.Proofs.YtgmmglmokkcgeaaGreat
/- Walks: slices.Sorted(maps.Keys(m)) of numbers. -/
namespace Go.Proofs.YtgmmglmokkcgeaaGreat
set_option linter.unusedVariables false
set_option linter.unusedSimpArgs false
set_option linter.unusedSectionVars false
open Go.RowKit Mk Go.Sort Go.Shelf
attribute [local go_sem] Oper.semAt_some

theorem entersU {P : Program} {f : FuncId} {fn : Func} {c : Code} (hf : P.funcs[f]? = some fn) (hname : (fn.name == "runtime.NumGoroutine") = false) (hb : fn.body = some c) : ∀ args u, (callFunc f args).run P u = .ok (.enter f args) u := by
  intro args w
  have h1 : fn.name ≠ "runtime.NumGoroutine" := by simpa using hname
  simp [callFunc, hf, h1, hb, mark]
/-- The iterator over keys, some handed over, 'left' still to come; the caller's word. -/
structure KeyAt (L left : List (Nat × Value)) (J : List Nat → (Nat → Prop) → World → Prop) (n0 r it : Nat) (pre : List Nat) (F : Nat → Prop) (wr : World) : Prop where
  over : rangeAt okU kvU wr it r L left
  mid : (pre ++ left.map (·.1)).Perm (L.map (·.1))
  own : n0 ≤ it ∧ ¬ F it ∧ ¬ F r
  say : J pre F wr
  size : n0 ≤ wr.heap.size
set_option maxRecDepth 100000 in
set_option maxHeartbeats 2000000 in
theorem keysU_seq {w : World} {kb r : Nat} {L : List (Nat × Value)} (h : mapAt okU kvU w r L) (hkb : w.heap[kb]? = some (.cells #[.map (some r)] 31)) :
    SeqF Tryz.prog 86 #[.pointer (some ⟨kb, 0, none⟩)] (fun x : Nat => #[.int .u64 (x : Nat)]) (fun pre => ∃ rest, (pre ++ rest).Perm (L.map (·.1))) (fun xs => xs.Perm (L.map (·.1))) (fun g => g = kb ∨ g = r) w := by
  intro l J Jx W F0 hsz hR hF0 hJ hJx hY h0
  have hm : mapAt okU kvU W r L := h.stay (hR r (Or.inr rfl))
  have hk := (hR kb (Or.inl rfl)).trans hkb
  have q0 : W.cell? ⟨kb, 0, none⟩ = some (.map (some r)) := cell_of hk rfl
  obtain ⟨it, hrg, ho⟩ := hm.range (P := Tryz.prog) Tryz.underlying31
  have hrF : ¬ F0 r := fun f => (hF0 r f).2 (Or.inr rfl)
  have hiF : ¬ F0 W.heap.size := fun f => by have := (hF0 _ f).1; omega
  have HB := Lib.hid (show KeyAt L L J W.heap.size r W.heap.size [] F0 (W.alloc it) from ⟨ho, by simp, ⟨Nat.le_refl _, hiF, hrF⟩, hJ _ _ _ _ h0 ((Chg.refl _ _).alloc _), by simp⟩)
  have HJ := Lib.hid hJ
  have HJx := Lib.hid hJx
  have HY := Lib.hid hY
  obtain ⟨ir, HIR⟩ : ∃ k, Hid (W.heap.size = k) := ⟨_, Lib.hid rfl⟩
  rw [HIR.out] at HB hrg
  clear h hkb hR hF0 hJ hJx hY h0 hk ho hm hrF hiF
  show CallsIn Fence.wide 2 Tryz.prog 86 #[.func (.yield l) #[] #[], .pointer (some ⟨kb, 0, none⟩)] W _
  refine callsIn_of_wp Tryz.func86 rfl trivial ?_ rfl
  simp only [Tryz.ntmps86, List.size_toArray, List.length_cons, List.length_nil, Nat.reduceAdd, Nat.reduceSub, Array.replicate_succ, Array.replicate_zero, List.push_toArray, List.append_toArray, List.nil_append, List.cons_append]
  gi_wp2_with fail
  gi_loopw [] (fun wr => ∃ (left : List (Nat × Value)) (pre : List Nat) (F : Nat → Prop), Hid (KeyAt L left J ir r ir pre F wr)) (fun wr => wr.rangeLeft r ir)
  case atStart => exact ⟨_, _, _, HB⟩
  case round =>
    obtain ⟨left, pre, F, HI⟩ := hrel
    clear HB hrg q0
    rcases HI.out.over.next (P := Tryz.prog) with ⟨hl0, hn⟩ | ⟨a, p, bb, w1, hl0, hn, hc, hsz1, ho, hen⟩
    · have hS : pre.Perm (L.map (·.1)) := by have := HI.out.mid; rw [hl0] at this; simpa using this
      have HS := Lib.hid hS
      clear hS hl0
      gi_wp2
      go_end0
      exact ⟨⟨_, rfl⟩, .inl ⟨pre, F, HS.out, HI.out.say⟩⟩
    · obtain ⟨x, v⟩ := p
      have hen' := hen w1 rfl rfl
      have HO := Lib.hid ho
      have hmid : ((pre ++ [x]) ++ (a ++ bb).map (·.1)).Perm (L.map (·.1)) := by
        refine List.Perm.trans ?_ HI.out.mid
        rw [hl0]
        simp only [List.map_append, List.map_cons, List.append_assoc]
        refine List.Perm.append_left pre ?_
        exact (List.perm_middle (a := x) (l₁ := a.map (·.1)) (l₂ := bb.map (·.1))).symm
      have HMID := Lib.hid hmid
      have hJ1 : J pre F w1 := HJ.out _ _ _ _ HI.out.say (((Chg.refl (fun g => W.heap.size ≤ g ∧ ¬ F g) wr)).trans' hc (fun i e => Or.inl (by rw [e]; exact ⟨by rw [HIR.out]; exact Nat.le_refl _, HI.out.own.2.1⟩)))
      obtain ⟨fn, tmps, assign, body, hy, hR⟩ := HY.out pre x F w1 hJ1 ⟨_, hmid⟩
      have HOWN := Lib.hid HI.out.own
      have HSZ := Lib.hid (show ir ≤ w1.heap.size by rw [hsz1]; exact HI.out.size)
      have HL0 := Lib.hid hl0
      have HIL := Lib.hid HI.out.over.left_eq
      unfold kvU at *
      clear hen hc hsz1 ho hmid hJ1 hl0 HI
      gi_wp2
      refine hR.mono ?_
      rintro e W' ⟨F', hw, hc, -, (⟨rfl, hj⟩ | ⟨rfl, hj⟩)⟩
      · have hkeep : KeyAt L (a ++ bb) J ir r ir (pre ++ [x]) F' W' := by
          have h1 := HO.out.lt
          refine ⟨rangeAt.stay (ok := okU) (kv := kvU) HO.out (hc.block _ h1.1 HOWN.out.2.2) (hc.block _ h1.2.1 HOWN.out.2.1), HMID.out, ⟨HOWN.out.1, fun f => ?_, fun f => ?_⟩, hj, Nat.le_trans HSZ.out hc.size⟩
          · rcases hw _ f with f | f
            · exact HOWN.out.2.1 f
            · have := h1.2.1; omega
          · rcases hw _ f with f | f
            · exact HOWN.out.2.2 f
            · have := h1.1; omega
        have HG := Lib.hid hkeep
        clear hw hc hj hkeep
        gi_wp2
        go_roundw
        case rel => exact ⟨_, _, _, HG⟩
        case measure => rw [HG.out.over.left_eq, HIL.out, HL0.out]; simp
      · have HG := Lib.hid hj
        clear hw hc hj
        gi_wp2
        refine bodyPost_ret (results_none rfl _ _ _) rfl ?_
        exact ⟨⟨_, rfl⟩, .inr ⟨_, F', ⟨_, HMID.out⟩, HG.out⟩⟩
/-- What Collect keeps while it goes on. -/
structure ColU (w : World) (pre : List Nat) (F : Nat → Prop) (W : World) : Prop where
  row : ∃ v, W.heap[w.heap.size]? = some (.cells #[v] 82) ∧ NumsAt W v pre ∧ (∀ g, F g ↔ (g = w.heap.size ∨ v.ownBlock = some g)) ∧ ∀ g, v.ownBlock = some g → w.heap.size + 1 ≤ g
  below : RowKit.Below w.heap.size w W
theorem ColU.go {w : World} {pre : List Nat} {F : Nat → Prop} {W W' : World} (h : ColU w pre F W) (c : Chg (fun g => w.heap.size + 1 ≤ g ∧ ¬ F g) W W') : ColU w pre F W' := by
  obtain ⟨v, h1, h2, h3, h4⟩ := h.row
  have hl := (Array.getElem?_eq_some_iff.1 h1).1
  refine ⟨⟨v, (c.block _ hl (fun f => f.2 ((h3 _).2 (Or.inl rfl)))).trans h1, sl.stay h2 (fun g hg => c.block g (sl.lt h2 hg) (fun f => f.2 ((h3 g).2 (Or.inr hg)))), h3, h4⟩, ?_⟩
  exact h.below.trans (c.below (B := w.heap.size) (fun i f => by omega) h.below.size)
theorem cell_new_one {w : World} {g : Nat} {a : Value} {t : TypeId} (h : w.heap[g]? = some (.cells #[a] t)) : ∀ j u, [a][j]? = some u → w.cell? ((⟨g, 0, none⟩ : Addr).add j) = some u := by
  intro j u hj
  cases j with
  | zero => simp at hj; subst hj; exact cell_of h rfl
  | succ j => simp at hj
set_option maxRecDepth 100000 in
set_option maxHeartbeats 2000000 in
theorem append_seqU {g : Nat} {lb : Array Value} (eg : ∀ args w, (callFunc g args).run Tryz.prog w = .ok (.enter g args) w) {w : World} {N : Nat} (hL : N ≤ 1099511627776) {R : Nat → Prop} {Ok S : List Nat → Prop} (hok : ∀ pre, Ok pre → pre.length ≤ N)
    (hseq : SeqF Tryz.prog g lb (fun x : Nat => #[.int .u64 (x : Nat)]) Ok S R w) (hR : ∀ g, R g → g < w.heap.size) :
    Calls Tryz.prog 113 #[.slice none 0 0, .func (.func g) #[] lb] w fun e w' => ∃ v xs, e = .returned v ∧ S xs ∧ NumsAt w' v xs ∧ RowKit.Below w.heap.size w w' ∧ ∀ g, v.ownBlock = some g → w.heap.size ≤ g := by
  obtain ⟨i6, z6, hi6, hz6, hsz6, hby6, hzs6⟩ := el24.has
  refine (callsIn_wide (n := 3)).1 ?_
  refine callsIn_of_wp_marks Tryz.func113 rfl trivial ?_ rfl
  simp only [Tryz.ntmps113, List.size_toArray, List.length_cons, List.length_nil, Nat.reduceAdd, Nat.reduceSub, Array.replicate_succ, Array.replicate_zero, List.push_toArray, List.append_toArray, List.nil_append, List.cons_append]
  gi_wp2
  obtain ⟨w2, hw2⟩ : ∃ W, w.alloc (.cells #[.slice none 0 0] 82) = W := ⟨_, rfl⟩
  have hs2 : w2.heap.size = w.heap.size + 1 := by rw [← hw2]; simp
  have hB2 : RowKit.Below w.heap.size w w2 := by rw [← hw2]; exact (Below.refl _ w).alloc (Nat.le_refl _) _
  have hx1 : w2.heap[w.heap.size]? = some (.cells #[.slice none 0 0] 82) := by
    rw [← hw2]; exact Go.heap_alloc_new _ _
  rw [hw2]
  clear hw2
  refine wp_rangeF (w0 := w) (gf := g) (lb := lb) rfl eg hseq (by omega) (fun g hg => ⟨hR g hg, hB2.block g (hR g hg)⟩) (fun _ => rfl)
    (fun pre F W => ColU w pre F W) (fun c pre F W => False) (fun g => g = w.heap.size)
    (fun g hg => ⟨by omega, fun f => by have := hR g f; omega⟩)
    (fun pre F W1 W2 h c => h.go (c.mono (fun g f => ⟨by omega, f.2⟩)))
    (fun c pre F W1 W2 h k => h.elim)
    ⟨⟨_, hx1, sl_nil _ _ _, fun g => by simp [Value.ownBlock], fun g hg => by simp [Value.ownBlock] at hg⟩, hB2⟩ ?_ ?_ ?_
  · intro l pre x F W hI hok' hF hl hwl hlW
    have hpl : pre.length < N := by
      have := hok _ hok'
      simp at this
      omega
    gi_wp2
    refine ⟨Below.refl _ W, fun W2 hc2 hsz hI2 => ?_⟩
    obtain ⟨v, h1, h2, h3, h4⟩ := hI2.row
    have a5 : W2.cell? ⟨w.heap.size, 0, none⟩ = some v := cell_of h1 rfl
    obtain ⟨o, c, rfl⟩ := sl_shape h2
    obtain ⟨W3, HW3⟩ : ∃ A, Hid (W2.alloc (.cells #[.int .u64 (x : Nat)] 24) = A) := ⟨_, Lib.hid rfl⟩
    have hB3 : RowKit.Below W2.heap.size W2 W3 := by rw [← HW3.out]; exact (Below.refl _ W2).alloc (Nat.le_refl _) _
    have hN := Lib.hid (cell_new_one (w := W3) (g := W2.heap.size) (a := .int .u64 (x : Nat)) (t := 24) (by rw [← HW3.out]; exact Go.heap_alloc_new _ _))
    have HS := Lib.hid (show sl W3 24 1 (.slice o pre.length c) pre.length (pre.map fun x => Value.int .u64 (x : Nat)) from sl.stay h2 (fun g hg => hB3.block g (sl.lt h2 hg)))
    have hrow3 : W3.heap[w.heap.size]? = some (.cells #[.slice o pre.length c] 82) := (hB3.block _ (Array.getElem?_eq_some_iff.1 h1).1).trans h1
    have hap : (.slice o pre.length c : Value).ownBlock ≠ some (w.heap.size) := fun e => by have := h4 _ e; omega
    have FIN := Lib.hid (fun (v' : Value) (w4 : World) (hs4 : sl w4 24 1 v' (pre.length + 1) ((pre.map fun x => Value.int .u64 (x : Nat)) ++ [.int .u64 (x : Nat)])) (hg : W3.grownBy w4 (Value.slice o pre.length c).ownBlock) (ha : v'.ownBlock = (Value.slice o pre.length c).ownBlock ∨ v'.ownBlock = some W3.heap.size) =>
      (show (w4.heap[w.heap.size]? = some (.cells #[.slice o pre.length c] 82) ∧ ∃ o' c', v' = .slice o' (pre.length + 1) c') ∧ fromF (fun pre F W => ColU w pre F W) (pre ++ [x]) F W2 (w4.setCell ⟨w.heap.size, 0, none⟩ v') from by
        have hlen : (pre ++ [x]).length = pre.length + 1 := by simp
        have hhas : NumsAt w4 v' (pre ++ [x]) := by
          unfold NumsAt
          rw [List.map_append, hlen]
          exact hs4
        have hr3l := (Array.getElem?_eq_some_iff.1 hrow3).1
        have hr4 := (hg.block _ hr3l (fun e => hap e.symm)).trans hrow3
        have hv : v'.ownBlock ≠ some (w.heap.size) := fun e => by
          rcases ha with e2 | e2
          · rw [e2] at e; exact hap e
          · rw [e2] at e; have := Option.some.inj e; have := hB3.size; have := (Array.getElem?_eq_some_iff.1 h1).1; omega
        obtain ⟨o', c', hv'⟩ := sl_shape hhas
        rw [hlen] at hv'
        have hB3s := hB3.size
        have h1l := (Array.getElem?_eq_some_iff.1 h1).1
        have hc34 : Chg F W2 (w4.setCell ⟨w.heap.size, 0, none⟩ v') := by
          refine (((chg_of_below hB3).mono (G := F) (fun _ f => f.elim)).grown hg (fun i e => Or.inl ((h3 i).2 (Or.inr e)))).setCell (Or.inl ((h3 _).2 (Or.inl rfl))) _
        refine ⟨⟨hr4, o', c', hv'⟩, fun i => i = w.heap.size ∨ v'.ownBlock = some i, fun i f => ?_, fun i f => ?_, hc34, ⟨⟨v', ?_, ?_, fun i => Iff.rfl, fun i e => ?_⟩, ?_⟩⟩
        · rcases f with f | f
          · exact Or.inl ((h3 i).2 (Or.inl f))
          · rcases ha with e | e
            · exact Or.inl ((h3 i).2 (Or.inr (by rw [← e]; exact f)))
            · rw [e] at f; cases f; exact Or.inr hB3s
        · have := hc34.size
          rcases f with f | f
          · omega
          · have h5 := sl.lt hs4 f
            have h6 : (w4.setCell ⟨w.heap.size, 0, none⟩ v').heap.size = w4.heap.size := by simp [World.setCell]
            omega
        · rw [Mk.heap_setCell_same hr4]; rfl
        · exact sl.stay hhas (fun i e => Below.heap_setCell _ _ _ _ (fun e2 => hv (by rw [e, e2])))
        · rcases ha with e2 | e2
          · exact h4 i (by rw [← e2]; exact e)
          · rw [e2] at e; cases e; have := hI2.below.size; omega
        · exact hI2.below.trans (hc34.below (B := w.heap.size) (fun i f => by rcases (h3 _).1 f with f | f; omega; have := h4 _ f; omega) hI2.below.size)))
    clear hI hc2 hsz h1 h2 h3 h4 hok' hI2 hB3 hap
    have l1 : pre.length + 1 ≤ maxLen := by simp only [maxLen]; omega
    have l2 : (pre.length + 1) * 8 ≤ 140737488355328 := by omega
    have hrow3c : W3.cell? ⟨w.heap.size, 0, none⟩ = some (.slice o pre.length c) := cell_of hrow3 rfl
    gi_wp2_with (gi_at_builtin; refine wpListIn_append_sl rfl _ _ 82 rfl 24 i6 z6 1 8 Tryz.underlying82 hi6 hz6 hsz6 hby6 hzs6 (by decide) (.slice o pre.length c) pre.length (pre.map fun x => Value.int .u64 (x : Nat)) rfl (by rw [HW3.out]; exact HS.out) (some ⟨W2.heap.size, 0, none⟩) 1 1 [.int .u64 (x : Nat)] rfl rfl (fun _ => ⟨_, rfl, by rw [HW3.out]; exact hN.out⟩) (fun h => absurd h (by decide)) (by simp [Value.oneCell']) l1 l2 ?_; intro v' w4 hsl hgrow hat; rw [HW3.out] at hgrow hat; obtain ⟨⟨hr4, o', c', rfl⟩, hfin⟩ := FIN.out v' w4 hsl hgrow hat; have HFIN := Lib.hid hfin; have c4 : w4.cell? ⟨w.heap.size, 0, none⟩ = some (.slice o pre.length c) := cell_of hr4 rfl; have f4 : w4.frozen? ⟨w.heap.size, 0, none⟩ = false := frozen_of hr4; clear hsl hgrow hat hr4 hfin)
    exact HFIN.out
  · rintro D xs F W hD hFD hS hI hK
    obtain ⟨v, h1, h2, h3, h4⟩ := hI.row
    have HB := Lib.hid hI.below
    have HF := Lib.hid (fun g hg => (h4 g hg : w.heap.size + 1 ≤ g))
    have H2 := Lib.hid h2
    have hDv : v.ownBlock ≠ some D := fun e => hFD ((h3 D).2 (Or.inr e))
    have HDv := Lib.hid hDv
    have c5 : W.cell? ⟨w.heap.size, 0, none⟩ = some v := cell_of h1 rfl
    obtain ⟨o, c, rfl⟩ := sl_shape h2
    clear h1 h2 h3 h4 hI hFD hDv
    gi_wp2
    refine ⟨by simp, .inl ⟨_, _, rfl, run_takeDeferred hK, ?_⟩⟩
    refine ⟨_, results_tmp rfl _ _ _, .slice o xs.length c, xs, rfl, hS, sl.stay H2.out (fun g hg => World.putObj_heap_other (fun e => HDv.out (by rw [← e]; exact hg))), HB.out.trans (belowK_b (w := w) (Nat.le_refl _) W D _ _ (by omega) hK rfl rfl), fun g hg => by have := HF.out g hg; omega⟩
  · rintro D c pre F W hD hFD hok hI hK
    exact hI.elim
section
variable {w : World} {r : Nat} {L : List (Nat × Value)}
set_option maxRecDepth 100000 in
theorem keys44_any (mb : Option Nat) (W : World) : Calls Tryz.prog 44 #[.map mb] W fun e w' => e = .returned (.func (.func 86) #[] #[.pointer (some ⟨W.heap.size, 0, none⟩)]) ∧ w' = W.alloc (.cells #[.map mb] 31) := by
  go_enter Tryz.func44, Tryz.ntmps44
  go_wp2
  go_ret
  exact ⟨rfl, rfl⟩
set_option maxRecDepth 100000 in
theorem collectU_any (h : mapAt okU kvU w r L) (hl : L.length ≤ 1099511627776) :
    Calls Tryz.prog 84 #[.func (.func 86) #[] #[.pointer (some ⟨w.heap.size, 0, none⟩)]] (w.alloc (.cells #[.map (some r)] 31)) fun e w' => ∃ o c xs, e = .returned (.slice o xs.length c) ∧ xs.Perm (L.map (·.1)) ∧
      NumsAt w' (.slice o xs.length c) xs ∧ Chg (fun _ => False) w w' ∧ ∀ g, (Value.slice o xs.length c).ownBlock = some g → w.heap.size + 1 ≤ g := by
  have hA := append_seqU (g := 86) (lb := #[.pointer (some ⟨w.heap.size, 0, none⟩)]) (entersU Tryz.func86 (by kernel_rfl) rfl) (N := L.length) hl (R := fun g => g = w.heap.size ∨ g = r)
    (Ok := fun pre => ∃ rest, (pre ++ rest).Perm (L.map (·.1))) (S := fun xs => xs.Perm (L.map (·.1))) (fun pre ⟨rest, hp⟩ => by have := hp.length_eq; simp at this; omega)
    (keysU_seq (w := w.alloc (.cells #[.map (some r)] 31)) (h.stay (Below.heap_alloc _ _ _ h.lt)) (Go.heap_alloc_new _ _)) (fun g hg => by have := h.lt; simp; rcases hg with e | e <;> omega)
  have A := Lib.hid hA
  clear hA
  go_enter Tryz.func84, Tryz.ntmps84
  go_wp2_with fail
  refine A.out.mono ?_
  rintro e w' ⟨v, xs, rfl, hS, h1, h2, h3⟩
  obtain ⟨o, c, rfl⟩ := sl_shape h1
  have HQ := Lib.hid (show xs.Perm (L.map (·.1)) ∧ NumsAt w' (.slice o xs.length c) xs ∧ Chg (fun _ => False) w w' ∧ ∀ g, (Value.slice o xs.length c).ownBlock = some g → w.heap.size + 1 ≤ g from ⟨hS, h1, ((Chg.refl (fun _ => False) w).alloc _).trans (chg_of_below h2), fun g hg => by have := h3 g hg; simpa using this⟩)
  clear hS h1 h2 h3
  go_wp2
  go_ret
  exact ⟨_, _, _, rfl, HQ.out⟩
set_option maxRecDepth 100000 in
theorem sorted43_any (h : mapAt okU kvU w r L) (hl : L.length ≤ 1099511627776) :
    Calls Tryz.prog 43 #[.func (.func 86) #[] #[.pointer (some ⟨w.heap.size, 0, none⟩)]] (w.alloc (.cells #[.map (some r)] 31)) fun e w' => ∃ o c, e = .returned (.slice o (sortI (L.map (·.1))).length c) ∧
      NumsAt w' (.slice o (sortI (L.map (·.1))).length c) (sortI (L.map (·.1))) ∧ Chg (fun _ => False) w w' ∧ ∀ g, (Value.slice o (sortI (L.map (·.1))).length c).ownBlock = some g → w.heap.size ≤ g := by
  obtain ⟨N, HN⟩ : ∃ N, Hid (sortI (L.map (·.1)) = N) := ⟨_, Lib.hid rfl⟩
  rw [HN.out]
  have A := Lib.hid (collectU_any h hl)
  have HLE := Lib.hid hl
  clear h hl
  go_enter Tryz.func43, Tryz.ntmps43
  go_wp2_with fail
  refine A.out.mono ?_
  rintro e w1 ⟨o, c, xs, rfl, hp, h1, h2, h3⟩
  have hxl : xs.length = L.length := by have := hp.length_eq; simpa using this
  have SO := Lib.hid (sort_any (show IL w1 (.slice o xs.length c) xs from h1) (by have := HLE.out; omega))
  have hs := sortI_perm hp
  rw [HN.out] at hs
  rw [hs] at SO
  have HE := Lib.hid (show xs.length = N.length by rw [← hs, sortI_len])
  have H2 := Lib.hid h2
  have H3 := Lib.hid h3
  clear hp h1 h2 h3 hxl hs
  generalize xs.length = k at *
  go_wp2_with fail
  refine SO.out.mono ?_
  rintro e w2 ⟨rfl, h4, h5⟩
  have HQ := Lib.hid (show NumsAt w2 (.slice o k c) N ∧ Chg (fun _ => False) w w2 ∧ ∀ g, (Value.slice o k c).ownBlock = some g → w.heap.size ≤ g from ⟨h4, H2.out.trans' h5 (fun g hg => Or.inr (by have := H3.out g hg; omega)), fun g hg => by have := H3.out g hg; omega⟩)
  clear h4 h5
  go_wp2_with fail
  go_ret
  exact ⟨o, c, by rw [← HE.out]; rfl, by rw [← HE.out]; exact HQ.out⟩
end
end Go.Proofs.YtgmmglmokkcgeaaGreat
