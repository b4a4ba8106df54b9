/- Walks: the disk's Names. -/
import Derived.Test.YtjflkmihkfbgpaaX3
import Derived.Test.YtjflkmihkfbgpaaX4
namespace Go.Proofs.Ytjflkmihkfbgpaa
open Go.RowKit Mk Go.Sort
set_option linter.unusedVariables false
set_option linter.unusedSimpArgs false

def strs (ns : List ByteArray) : List Value := ns.map Value.string
/-- The slice v holds these names. -/
def NL (w : World) (v : Value) (ns : List ByteArray) : Prop := sl w 9 1 v ns.length (strs ns)
theorem NL.shape {w : World} {v : Value} {L : List ByteArray} (h : NL w v L) : ∃ o c, v = .slice o L.length c := by
  rcases h.2 with ⟨rfl, e⟩ | ⟨g, cap, cur, rfl, _⟩
  · exact ⟨_, _, by rw [e]⟩
  · exact ⟨_, _, rfl⟩
theorem NL.cell {w : World} {v : Value} {L : List ByteArray} (h : NL w v L) {i : Nat} {s : ByteArray} (hs : L[i]? = some s) : ∃ g cap, v = .slice (some ⟨g, 0, none⟩) L.length cap ∧ w.cell? ⟨g, i, none⟩ = some (.string s) :=
  sl.cell h (by unfold strs; rw [List.getElem?_map, hs]; rfl)
theorem NL.stay {w w' : World} {v : Value} {L : List ByteArray} (h : NL w v L) (k : Below w.heap.size w w') : NL w' v L := sl.stay h (fun _ hg => k.block _ (sl.lt h hg))
theorem info9 : ∃ (i : TypeInfo) (z : Value), Try.prog.info? 9 = some i ∧ i.zero = some z ∧ i.size = 1 ∧ i.bytes = 16 ∧ z.cells.size = 1 := by
  have h : ((Try.prog.info? 9).map fun i => (i.size, i.bytes, i.zero.map (·.cells.size))) = some (1, 16, some 1) := by kernel_rfl
  cases hi : Try.prog.info? 9 with
  | none => rw [hi] at h; cases h
  | some i =>
    rw [hi] at h
    simp only [Option.map_some, Option.some.injEq, Prod.mk.injEq] at h
    obtain ⟨h1, h2, h3⟩ := h
    cases hz : i.zero with
    | none => rw [hz] at h3; cases h3
    | some z => rw [hz] at h3; exact ⟨i, z, rfl, hz, h1, h2, by simpa using h3⟩

/-- The names, rising. -/
def sortN (ns : List ByteArray) : List ByteArray := ((ns.map (·.toList)).mergeSort fun x y => decide (x ≤ y)).map fun l => ⟨l.toArray⟩
theorem back_list (s : ByteArray) : (⟨s.toList.toArray⟩ : ByteArray) = s := by
  rw [Lib.toList_data]
theorem sortN_len (ns : List ByteArray) : (sortN ns).length = ns.length := by
  unfold sortN; rw [List.length_map, List.length_mergeSort, List.length_map]
theorem sortN_nil : sortN [] = [] := List.eq_nil_of_length_eq_zero (sortN_len [])
theorem sortN_perm (ns : List ByteArray) : (sortN ns).Perm ns := by
  unfold sortN
  have h := (List.mergeSort_perm (ns.map (·.toList)) fun x y => decide (x ≤ y)).map (fun l : List UInt8 => (⟨l.toArray⟩ : ByteArray))
  refine h.trans ?_
  rw [List.map_map]
  have : (fun l : List UInt8 => (⟨l.toArray⟩ : ByteArray)) ∘ (fun s : ByteArray => s.toList) = id := by
    funext s; exact back_list s
  rw [this, List.map_id]
/-- Names that rise are the sorted ones. -/
theorem sortN_eq {ns ms : List ByteArray} (hp : ms.Perm ns) (hs : ms.Pairwise (fun a b => a.toList < b.toList)) : sortN ns = ms := by
  have h1 : ((ns.map (·.toList)).mergeSort fun x y => decide (x ≤ y)) = ms.map (·.toList) := by
    refine List.Perm.eq_of_pairwise (le := fun x y : List UInt8 => x ≤ y) ?_ ?_ ?_ ?_
    · intro a b _ _ h1 h2
      exact List.le_antisymm h1 h2
    · have := List.pairwise_mergeSort (le := fun x y : List UInt8 => decide (x ≤ y)) (fun a b c h1 h2 => by
        simp only [decide_eq_true_eq] at *; exact List.le_trans h1 h2) (fun a b => by
        have := List.le_total a b
        simp only [Bool.or_eq_true, decide_eq_true_eq]; exact this) (ns.map (·.toList))
      exact this.imp (fun h => by simpa using h)
    · rw [List.pairwise_map]
      exact hs.imp (fun h => List.le_of_lt h)
    · exact (List.mergeSort_perm _ _).trans (hp.map _).symm
  unfold sortN
  rw [h1, List.map_map]
  have : (fun l : List UInt8 => (⟨l.toArray⟩ : ByteArray)) ∘ (fun s : ByteArray => s.toList) = id := by
    funext s; exact back_list s
  rw [this, List.map_id]

theorem sort_any {w : World} {v : Value} {ns : List ByteArray} (h : NL w v ns) (hL : ns.length ≤ 1099511627776) :
    Calls Try.prog 47 #[v] w fun e w' => e = .returned (.tuple #[]) ∧ NL w' v (sortN ns) ∧ Chg (fun g => v.ownBlock = some g) w w' := by
  rcases h.2 with ⟨rfl, e0⟩ | ⟨g, cap, cur, rfl, hg, hnc, hcm, hcs, ht⟩
  · obtain rfl := List.eq_nil_of_length_eq_zero e0
    have C := AnyG.slices_Sort_string_none sortS none 0 w
    refine Calls.mono (show Calls Try.prog 47 #[.slice none 0 0] w _ from C) ?_
    rintro e w' ⟨rfl, rfl⟩
    exact ⟨rfl, by rw [sortN_nil]; exact h, Chg.refl _ _⟩
  · by_cases e0 : ns.length = 0
    · obtain rfl := List.eq_nil_of_length_eq_zero e0
      have C := AnyG.slices_Sort_string_none sortS (some ⟨g, 0, none⟩) cap w
      refine Calls.mono (show Calls Try.prog 47 #[.slice (some ⟨g, 0, none⟩) 0 cap] w _ from C) ?_
      rintro e w' ⟨rfl, rfl⟩
      exact ⟨rfl, by rw [sortN_nil]; exact h, Chg.refl _ _⟩
    have hlen : (ns.map (·.toList)).length = ns.length := List.length_map _
    have hH : Holds encStr w g 0 (ns.map (·.toList)).toArray := fun j hj => by
      rw [List.size_toArray, hlen] at hj
      obtain ⟨g', cap', e, hc⟩ := h.cell (i := j) (s := ns[j]) (by rw [List.getElem?_eq_getElem hj])
      cases e
      refine ⟨?_, frozen_of hg⟩
      rw [Nat.zero_add, hc]
      congr 1
      have : (ns.map (·.toList)).toArray[j]! = ns[j].toList := by
        rw [getElem!_pos _ j (by rw [List.size_toArray, hlen]; exact hj)]
        simp
      rw [this]
      show Value.string ns[j] = Value.string ⟨ns[j].toList.toArray⟩
      rw [back_list]
    have C := AnyG.slices_Sort_string sortS g 0 cap (ns.map (·.toList)) w hH (Array.getElem?_eq_some_iff.1 hg).1 (by rw [hlen]; omega)
    rw [hlen] at C
    refine Calls.mono (show Calls Try.prog 47 #[.slice (some ⟨g, 0, none⟩) ns.length cap] w _ from C) ?_
    rintro e w' ⟨rfl, n, os, rfl⟩
    obtain ⟨arr, harr⟩ : ∃ arr, (ns.map (·.toList)).mergeSort (fun x y => decide (x ≤ y)) = arr := ⟨_, rfl⟩
    have hal : arr.length = ns.length := by rw [← harr, List.length_mergeSort, hlen]
    have hso : sortN ns = arr.map fun l => ⟨l.toArray⟩ := by unfold sortN; rw [harr]
    rw [harr]
    have hlt := (Array.getElem?_eq_some_iff.1 hg).1
    have hcl : cur.toList.length = cur.size := Array.length_toList
    have hnew : (grow (putRow encStr (Sort.ahead w n) g 0 arr.toArray) os).heap[g]? = some (.cells (putCells encStr 0 arr.toArray cur) 9) := by
      unfold grow
      rw [Array.getElem?_append_left (by rw [size_putRow]; exact hlt)]
      unfold putRow mapBlock
      show (w.heap.modify g _)[g]? = _
      rw [Array.getElem?_modify, if_pos rfl, hg]
      rfl
    refine ⟨rfl, ⟨by simp [strs], Or.inr ⟨g, cap, _, by rw [sortN_len], hnew, by rw [sortN_len]; exact hnc, hcm, ?_, ?_⟩⟩, ?_⟩
    · unfold putCells; rw [Array.size_mapIdx]; exact hcs
    · rw [sortN_len, hso]
      apply List.ext_getElem?
      intro i
      unfold strs putCells
      rw [List.getElem?_take, List.map_map, List.getElem?_map]
      by_cases hi : i < ns.length
      · rw [if_pos (by omega), Array.getElem?_toList, Array.getElem?_mapIdx]
        have hic : i < cur.size := by omega
        rw [Array.getElem?_eq_getElem hic, List.getElem?_eq_getElem (by omega)]
        simp only [Option.map_some, Option.some.injEq, Nat.sub_zero, List.size_toArray]
        rw [if_pos ⟨by omega, by omega⟩, getElem!_pos _ i (by rw [List.size_toArray]; omega)]
        simp
      · rw [if_neg (by omega), List.getElem?_eq_none (by omega)]
        rfl
    · refine ⟨rfl, rfl, rfl, ?_, fun i hi hF => ?_⟩
      · unfold grow; simp [Sort.ahead]
      · unfold grow
        rw [Array.getElem?_append_left (by rw [size_putRow]; exact hi)]
        unfold putRow mapBlock
        show (w.heap.modify g _)[i]? = _
        rw [Array.getElem?_modify, if_neg (fun e => hF (by rw [e]; rfl))]
theorem clip_any {w : World} {v : Value} {ns : List ByteArray} (h : NL w v ns) (hL : ns.length ≤ 1099511627776) :
    Calls Try.prog 48 #[v] w fun e w' => ∃ o c, e = .returned (.slice o ns.length c) ∧ NL w' (.slice o ns.length c) ns ∧ w' = w ∧ (Value.slice o ns.length c).ownBlock = v.ownBlock := by
  have H := Lib.hid h
  rcases h.2 with ⟨rfl, e0⟩ | ⟨g, cap, cur, rfl, hg, hnc, hcm, hcs, ht⟩
  · obtain rfl := List.eq_nil_of_length_eq_zero e0
    clear h e0
    go_enter Try.func48, Try.ntmps48
    go_wp2
    go_ret
    exact ⟨_, _, rfl, H.out, rfl, rfl⟩
  · have HC := Lib.hid (show NL w (.slice (some ⟨g, 0, none⟩) ns.length ns.length) ns from by
      have := sl.cut h (Nat.le_refl ns.length)
      rwa [List.take_of_length_le (by simp [strs])] at this)
    have l0 : (0 : Int) ≤ ns.length := by omega
    have l1 : (ns.length : Int) ≤ cap := by omega
    have l2 : ns.length ≤ cap := hnc
    clear h hg hcm hcs ht
    go_enter Try.func48, Try.ntmps48
    go_wp2
    go_ret
    exact ⟨_, _, rfl, HC.out, rfl, rfl⟩

/-- Behind some rounds of Names. -/
structure NamesAt (w : World) (r1 : Nat) (N left : Files) (A : List ByteArray) (v : Value) (wr : World) : Prop where
  over : filesOver wr w.heap.size r1 N left
  perm : (A ++ left.map (·.1)).Perm (N.map (·.1))
  has : NL wr v A
  own : ∀ g, v.ownBlock = some g → w.heap.size < g
  chg : Chg (fun _ => False) w wr
  lt : w.heap.size < wr.heap.size
theorem NamesAt.step {w : World} {r1 : Nat} {N a bb : Files} {x s : ByteArray} {A : List ByteArray} {v v' : Value} {wr w1 w4 : World} (h : NamesAt w r1 N (a ++ (x, s) :: bb) A v wr) (hr1 : r1 < w.heap.size) (hc : Chg (fun i => i = w.heap.size) wr w1) (hsz : w1.heap.size = wr.heap.size) (ho : filesOver w1 w.heap.size r1 N (a ++ bb))
    (hs : sl w4 9 1 v' (A.length + 1) (strs A ++ [.string x])) (hg : (w1.alloc (.cells #[.string x] 9)).grownBy w4 v.ownBlock) (ha : v'.ownBlock = v.ownBlock ∨ v'.ownBlock = some (w1.alloc (.cells #[.string x] 9)).heap.size) :
    (∃ o' c', v' = .slice o' (A.length + 1) c') ∧ NamesAt w r1 N (a ++ bb) (A ++ [x]) v' w4 := by
  have hhas : NL w4 v' (A ++ [x]) := by
    unfold NL
    rw [List.length_append]
    have : strs (A ++ [x]) = strs A ++ [.string x] := by simp [strs]
    rw [this]
    exact hs
  obtain ⟨o', c', e'⟩ := hhas.shape
  rw [List.length_append] at e'
  have h0 := h.lt
  have hgs := hg.size
  simp only [World.size_alloc] at hgs ha
  have keep : ∀ i, i ≤ w.heap.size → w4.heap[i]? = w1.heap[i]? := fun i hi => by
    rw [hg.block i (by rw [World.size_alloc]; omega) (fun e => by have := h.own i e.symm; omega)]
    exact Below.heap_alloc _ _ _ (by omega)
  refine ⟨⟨o', c', e'⟩, ho.stay (keep _ (by omega)) (keep _ (Nat.le_refl _)), ?_, hhas, fun g hg' => ?_, ?_, by omega⟩
  · refine List.Perm.trans ?_ h.perm
    rw [List.append_assoc, List.map_append, List.map_append, List.map_cons]
    refine List.Perm.append_left A ?_
    exact (List.perm_middle (a := x) (l₁ := a.map (·.1)) (l₂ := bb.map (·.1))).symm
  · rcases ha with e | e
    · exact h.own g (by rw [← e]; exact hg')
    · rw [e] at hg'
      have := Option.some.inj hg'
      omega
  · have c1 : Chg (fun _ => False) w (w1.alloc (.cells #[.string x] 9)) := (h.chg.trans' hc (fun i hi => Or.inr (by omega))).alloc _
    exact c1.grown hg (fun i hi => Or.inr (by have := h.own i hi; omega))
theorem NamesAt.row {w : World} {r1 : Nat} {N left : Files} {A : List ByteArray} {v : Value} {wr w1 : World} (h : NamesAt w r1 N left A v wr) (hc : Chg (fun i => i = w.heap.size) wr w1) (o : Obj) : sl (w1.alloc o) 9 1 v A.length (strs A) := by
  have h1 : NL w1 v A := sl.stay h.has (fun g hg => hc.block g (sl.lt h.has hg) (fun e => by have := h.own g hg; omega))
  exact h1.stay ((Below.refl _ w1).alloc (Nat.le_refl _) _)

set_option maxRecDepth 100000 in
set_option maxHeartbeats 1000000 in
theorem names_any {w : World} {b r1 r2 : Nat} {v : Value} {ts : List (Value × Thing)} {F : Nat → Prop} {S : Nat} {d : DiskM} (h : DiskRep w b r1 r2 v ts F S d) (hL : d.now.length ≤ 1099511627776) :
    Calls Try.prog 27 #[.pointer (some ⟨b, 0, none⟩)] w fun e w' => ∃ o c, e = .returned (.slice o (sortN (d.now.map (·.1))).length c) ∧ NL w' (.slice o (sortN (d.now.map (·.1))).length c) (sortN (d.now.map (·.1))) ∧ Chg (fun _ => False) w w' ∧ ∀ g, (Value.slice o (sortN (d.now.map (·.1))).length c).ownBlock = some g → w.heap.size ≤ g := by
  obtain ⟨i6, z6, hi6, hz6, hsz6, hby6, hzs6⟩ := info9
  have c1 := h.cells.2.1
  have hr1 := h.lt.2.1
  obtain ⟨it, left, hrg, hp, ho⟩ := h.now.range (P := Try.prog) Try.underlying54
  have HA := Lib.hid (show NamesAt w r1 d.now left [] (.slice none 0 0) (w.alloc it) from ⟨ho, by simpa using hp.map _, sl_nil _ _ _, fun g hg => by simp [Value.ownBlock] at hg, (Chg.refl _ _).alloc _, by simp⟩)
  generalize d.now = N at *
  clear ho hp h
  go_enter Try.func27, Try.ntmps27
  go_wp2
  go_loopw [3] (fun s wr => ∃ (A : List ByteArray) (left : Files) (o : Option Addr) (c : Nat), s = .slice o A.length c ∧ Hid (NamesAt w r1 N left A (.slice o A.length c) wr)) (fun _ wr => wr.rangeLeft r1 w.heap.size)
  case atStart => exact ⟨[], left, none, 0, rfl, HA⟩
  case round =>
    obtain ⟨A, left, o, c, rfl, HU⟩ := hrel
    have hAl : A.length ≤ N.length := by have := HU.out.perm.length_eq; simp at this; omega
    rcases HU.out.over.next (P := Try.prog) with ⟨h0, hn⟩ | ⟨a, x, s, bb, w1, h0, hx, hn, hc, hsz, ho, hen⟩
    · have hpp : A.Perm (N.map (·.1)) := by have := HU.out.perm; rw [h0] at this; simpa using this
      have e0 : sortN (N.map (·.1)) = sortN A := by
        unfold sortN
        congr 1
        refine List.Perm.eq_of_pairwise (le := fun x y : List UInt8 => x ≤ y) (fun a b _ _ h1 h2 => List.le_antisymm h1 h2) ?_ ?_ ?_
        · exact (List.pairwise_mergeSort (le := fun x y : List UInt8 => decide (x ≤ y)) (fun a b c h1 h2 => by simp only [decide_eq_true_eq] at *; exact List.le_trans h1 h2) (fun a b => by have := List.le_total a b; simp only [Bool.or_eq_true, decide_eq_true_eq]; exact this) _).imp (fun h => by simpa using h)
        · exact (List.pairwise_mergeSort (le := fun x y : List UInt8 => decide (x ≤ y)) (fun a b c h1 h2 => by simp only [decide_eq_true_eq] at *; exact List.le_trans h1 h2) (fun a b => by have := List.le_total a b; simp only [Bool.or_eq_true, decide_eq_true_eq]; exact this) _).imp (fun h => by simpa using h)
        · exact ((List.mergeSort_perm _ _).trans (hpp.map _).symm).trans (List.mergeSort_perm _ _).symm
      have E0 := Lib.hid e0
      have SO := Lib.hid (sort_any HU.out.has (by omega))
      have CL := Lib.hid (fun (w2 : World) (v : Value) (h : NL w2 v (sortN A)) => clip_any h (by rw [sortN_len]; omega))
      have hln := sortN_len A
      have HU2 := Lib.hid (And.intro HU.out.chg HU.out.own)
      clear h0 hpp e0 HU HA
      go_wp2_with fail
      refine SO.out.mono ?_
      rintro e w2 ⟨rfl, h2, k2⟩
      have C := Lib.hid (CL.out _ _ h2)
      have K2 := Lib.hid (HU2.out.1.trans' k2 (fun i hi => Or.inr (by have := HU2.out.2 i hi; omega)))
      clear h2 k2 SO CL
      go_wp2_with fail
      refine C.out.mono ?_
      rintro e w3 ⟨o3, c3, rfl, h3, rfl, h4⟩
      have H3 := Lib.hid h3
      have H4 := Lib.hid h4
      clear h3 h4 C
      go_wp2
      go_ret
      rw [E0.out]
      exact ⟨o3, c3, by rw [hln]; rfl, H3.out, K2.out, fun g hg => by rw [H4.out] at hg; have := HU2.out.2 g hg; omega⟩
    · have hen' := hen (w1) rfl rfl
      have HU' := HU.out
      rw [h0] at HU'
      have HS := Lib.hid (fun (v' : Value) (w4 : World) hs hg ha => HU'.step hr1 hc hsz ho (v' := v') (w4 := w4) hs hg ha)
      have HR := Lib.hid (HU'.row hc (.cells #[.string x] 9))
      have H0 := Lib.hid h0
      have HN := Lib.hid (cell_new_one (Go.heap_alloc_new w1 (.cells #[.string x] 9)))
      have bb1 : A.length + 1 ≤ maxLen := by simp only [maxLen]; omega
      have bb2 : (A.length + 1) * 16 ≤ 140737488355328 := by omega
      clear hen h0 hc ho hx hsz hrg HA HU'
      go_wp2_with (refine wpList_append_sl (by rfl) (.tmp 16) (.tmp 18) 52 (by rfl) 9 i6 z6 1 16 Try.underlying52 hi6 hz6 hsz6 hby6 hzs6 (by decide) (.slice o A.length c) A.length (strs A) (by rfl) HR.out (some ⟨w1.heap.size, 0, none⟩) 1 1 [.string x] (by rfl) (by rfl) (fun _ => ⟨_, rfl, HN.out⟩) (fun h => absurd h (by decide)) (by simp [Value.oneCell']) bb1 bb2 ?_; intro v' w4 hs hg4 ha; obtain ⟨⟨o', c', hv'⟩, hna⟩ := HS.out v' w4 hs hg4 ha; have HNA := Lib.hid hna; clear hs hg4 ha hna; subst hv')
      go_roundw
      case rel => exact ⟨A ++ [x], a ++ bb, o', c', by simp, by simpa using HNA⟩
      case measure => rw [HNA.out.over.left_eq, HU.out.over.left_eq, H0.out]; simp
end Go.Proofs.Ytjflkmihkfbgpaa
