/- Walks: maps.Equal of two maps of the same pairs. Printed by genS5.py. -/
import Derived.Test.YtgmmglmokkcgeaaGreatA7
import Derived.Test.YtgmmglmokkcgeaaGreatRange
import Derived.Test.YtgmmglmokkcgeaaGreatY7
import Derived.Deep.QuietTactic
import Derived.BigQuiet
namespace Go.Proofs.YtgmmglmokkcgeaaGreat
set_option linter.unusedVariables false
set_option linter.unusedSimpArgs false
set_option linter.unusedSectionVars false
open Go.RowKit Mk Go.Sort

/-- Behind some rounds of Equal. -/
structure EqAt {K : Type} [DecidableEq K] (ok : K → Prop) (kv : K → Value) (w : World) (r1 : Nat) (L left : List (K × Value)) (wr : World) : Prop where
  over : rangeAt ok kv wr w.heap.size r1 L left
  chg : Chg (fun _ => False) w wr
theorem rangeAt.alloc2 {K : Type} [DecidableEq K] {ok : K → Prop} {kv : K → Value} {w : World} {r bm : Nat} {L left : List (K × Value)} (h : rangeAt ok kv w r bm L left) (o1 o2 : Obj) : rangeAt ok kv ((w.alloc o1).alloc o2) r bm L left :=
  h.stay ((((Chg.refl (fun _ => False) w).alloc o1).alloc o2).block _ h.lt.1 (fun f => f)) ((((Chg.refl (fun _ => False) w).alloc o1).alloc o2).block _ h.lt.2.1 (fun f => f))
theorem zero24 (w : World) : (zeroValue 24).run Tryz.prog w = .ok (.int .u64 0) w := by simp [go_sem]
/-- Two tablets are told apart. -/
def eqT (a b : Tb) : Bool := decide (a.p = b.p) && decide (a.g = b.g) && decide (a.to = b.to) && decide (a.at_ = b.at_) && decide (a.tn = b.tn)
theorem eqT_self (c : Tb) : eqT c c = true := by simp [eqT]
theorem toList_inj {a b : ByteArray} (h : a.toList = b.toList) : a = b := by
  have h1 : a.data.toList = b.data.toList := by rw [← Lib.toList_data, ← Lib.toList_data]; exact h
  cases a; cases b; simp only [ByteArray.mk.injEq] at h1 ⊢; exact Array.toList_inj.1 h1
theorem bytes_eq {p q : ByteArray} : p.toList = q.toList ↔ p = q := ⟨toList_inj, fun e => by rw [e]⟩
theorem equalInT (a b : Tb) (w : World) : (Op.equalIn 10000 41 (tbV a) (tbV b)).run Tryz.prog w = .ok (eqT a b) w := by
  have hS : Tryz.prog.underlying 41 = some (.struct (Tryz.prog.fieldsOf 41)) := by kernel_rfl
  have hp : Tryz.prog.stoodInHeld 41 = false := by kernel_rfl
  unfold tbV
  rw [show (10000 : Nat) = 9999 + 1 from rfl, run_equalIn_agg w 9999 41 _ _ hS hp]
  simp only [Program.fieldsOf, Tryz.underlying41]
  go_simp
  obtain ⟨p, g, t, a1, n⟩ := a
  obtain ⟨p', g', t', a2, n'⟩ := b
  have ci : ∀ a b : Nat, ((a : Int) = (b : Int)) ↔ a = b := fun a b => by omega
  by_cases h1 : p = p' <;> by_cases h2 : g = g' <;> by_cases h3 : t = t' <;> by_cases h4 : a1 = a2 <;> by_cases h5 : n = n' <;> simp [eqT, bytes_eq, ci, h1, h2, h3, h4, h5]
set_option maxRecDepth 100000 in
set_option maxHeartbeats 2000000 in
theorem equalD {w : World} {r1 r2 : Nat} {L : List (Nat × Nat)} (h1 : mapAt okU kvU w r1 (nv L)) (h2 : mapAt okU kvU w r2 (nv L)) :
    Calls Tryz.prog 37 #[.map (some r1), .map (some r2)] w fun e w' => e = .returned (.bool true) ∧ Chg (fun _ => False) w w' := by
  have hl1 := fun ty => run_len (P := Tryz.prog) Tryz.underlying31 h1 ty
  have hl2 := fun ty => run_len (P := Tryz.prog) Tryz.underlying31 h2 ty
  obtain ⟨it, hrg, ho⟩ := h1.range (P := Tryz.prog) Tryz.underlying31
  have HA := Lib.hid (show EqAt okU kvU w r1 (nv L) (nv L) (w.alloc it) from ⟨ho, (Chg.refl _ _).alloc _⟩)
  have hr2 := h2.lt
  have H2 := Lib.hid h2
  obtain ⟨ln, HLN⟩ : ∃ k, Hid (((nv L).length : Int) = k) := ⟨_, Lib.hid rfl⟩
  rw [HLN.out] at hl1 hl2
  have ql : decide (ln = ln) = true := decide_eq_true rfl
  have ql' : (ln == ln) = true := by simp
  have HOK := Lib.hid (show ∀ p ∈ nv L, okU p.1 from by obtain ⟨_, _, _, E⟩ := h1; exact E.ok)
  have HAP := Lib.hid h1.apart
  clear ho h1 h2
  go_enter Tryz.func37, Tryz.ntmps37
  go_wp2_with fail
  go_loopw [] (fun wr => ∃ left, Hid (EqAt okU kvU w r1 (nv L) left wr)) (fun wr => wr.rangeLeft r1 w.heap.size)
  case atStart => exact ⟨_, HA⟩
  case round =>
    obtain ⟨left, HU⟩ := hrel
    rcases HU.out.over.next (P := Tryz.prog) with ⟨h0, hn⟩ | ⟨a, p, bb, w1, h0, hn, hc, hsz, ho, hen⟩
    · clear HA
      go_wp2_with fail
      go_ret
      exact ⟨rfl, HU.out.chg⟩
    · obtain ⟨x, v⟩ := p
      have HO := Lib.hid ho
      have hen' := hen w1 rfl rfl
      have hC1 := HU.out.chg.trans' hc (fun i hi => Or.inr (by omega))
      have HC1 := Lib.hid hC1
      have hm : (x, v) ∈ nv L := HU.out.over.sub.subset (by rw [h0]; simp)
      have hf2 := H2.out.stay (hC1.block r2 hr2 (fun f => f))
      have hz := zero24 w1
      have hlk := run_lookup keysU Tryz.underlying31 hz hf2 (HOK.out _ hm) true
      have hk : lk (nv L) x = some v := by
        obtain ⟨j, hj, e⟩ := List.getElem_of_mem hm
        exact (lk_some HAP.out (j := j) (x := x) (v := v) (by rw [List.getElem?_eq_getElem hj, e])).1
      rw [hk] at hlk
      simp only [if_true, Option.getD_some, Option.isSome_some] at hlk
      obtain ⟨⟨x', c⟩, _, hxc⟩ := List.mem_map.1 hm
      obtain ⟨rfl, rfl⟩ := Prod.mk.inj hxc
      have H0 := Lib.hid h0
      unfold nV kvU at *
      have v1 : ((c : Int) == (c : Int)) = true := by simp
      have v2 : decide ((c : Int) = (c : Int)) = true := decide_eq_true rfl
      clear hen h0 hc ho hsz hrg HA hC1 hf2 hk hxc hm
      go_wp2_with fail
      go_roundw
      case rel => exact ⟨a ++ bb, Lib.hid ⟨HO.out, HC1.out⟩⟩
      case measure => rw [HO.out.left_eq, HU.out.over.left_eq, H0.out]; simp
set_option maxRecDepth 100000 in
set_option maxHeartbeats 2000000 in
theorem equalL {w : World} {r1 r2 : Nat} {L : List (ByteArray × Nat)} (h1 : mapAt okS kvS w r1 (nv L)) (h2 : mapAt okS kvS w r2 (nv L)) :
    Calls Tryz.prog 38 #[.map (some r1), .map (some r2)] w fun e w' => e = .returned (.bool true) ∧ Chg (fun _ => False) w w' := by
  have hl1 := fun ty => run_len (P := Tryz.prog) Tryz.underlying32 h1 ty
  have hl2 := fun ty => run_len (P := Tryz.prog) Tryz.underlying32 h2 ty
  obtain ⟨it, hrg, ho⟩ := h1.range (P := Tryz.prog) Tryz.underlying32
  have HA := Lib.hid (show EqAt okS kvS w r1 (nv L) (nv L) (w.alloc it) from ⟨ho, (Chg.refl _ _).alloc _⟩)
  have hr2 := h2.lt
  have H2 := Lib.hid h2
  obtain ⟨ln, HLN⟩ : ∃ k, Hid (((nv L).length : Int) = k) := ⟨_, Lib.hid rfl⟩
  rw [HLN.out] at hl1 hl2
  have ql : decide (ln = ln) = true := decide_eq_true rfl
  have ql' : (ln == ln) = true := by simp
  have HOK := Lib.hid (show ∀ p ∈ nv L, okS p.1 from by obtain ⟨_, _, _, E⟩ := h1; exact E.ok)
  have HAP := Lib.hid h1.apart
  clear ho h1 h2
  go_enter Tryz.func38, Tryz.ntmps38
  go_wp2_with fail
  go_loopw [] (fun wr => ∃ left, Hid (EqAt okS kvS w r1 (nv L) left wr)) (fun wr => wr.rangeLeft r1 w.heap.size)
  case atStart => exact ⟨_, HA⟩
  case round =>
    obtain ⟨left, HU⟩ := hrel
    rcases HU.out.over.next (P := Tryz.prog) with ⟨h0, hn⟩ | ⟨a, p, bb, w1, h0, hn, hc, hsz, ho, hen⟩
    · clear HA
      go_wp2_with fail
      go_ret
      exact ⟨rfl, HU.out.chg⟩
    · obtain ⟨x, v⟩ := p
      have HO := Lib.hid ho
      have hen' := hen w1 rfl rfl
      have hC1 := HU.out.chg.trans' hc (fun i hi => Or.inr (by omega))
      have HC1 := Lib.hid hC1
      have hm : (x, v) ∈ nv L := HU.out.over.sub.subset (by rw [h0]; simp)
      have hf2 := H2.out.stay (hC1.block r2 hr2 (fun f => f))
      have hz := zero24 w1
      have hlk := run_lookup keysS Tryz.underlying32 hz hf2 (HOK.out _ hm) true
      have hk : lk (nv L) x = some v := by
        obtain ⟨j, hj, e⟩ := List.getElem_of_mem hm
        exact (lk_some HAP.out (j := j) (x := x) (v := v) (by rw [List.getElem?_eq_getElem hj, e])).1
      rw [hk] at hlk
      simp only [if_true, Option.getD_some, Option.isSome_some] at hlk
      obtain ⟨⟨x', c⟩, _, hxc⟩ := List.mem_map.1 hm
      obtain ⟨rfl, rfl⟩ := Prod.mk.inj hxc
      have H0 := Lib.hid h0
      unfold nV kvS at *
      have v1 : ((c : Int) == (c : Int)) = true := by simp
      have v2 : decide ((c : Int) = (c : Int)) = true := decide_eq_true rfl
      clear hen h0 hc ho hsz hrg HA hC1 hf2 hk hxc hm
      go_wp2_with fail
      go_roundw
      case rel => exact ⟨a ++ bb, Lib.hid ⟨HO.out, HC1.out⟩⟩
      case measure => rw [HO.out.left_eq, HU.out.over.left_eq, H0.out]; simp
set_option maxRecDepth 100000 in
set_option maxHeartbeats 2000000 in
theorem equalT {w : World} {r1 r2 : Nat} {L : List (ByteArray × Tb)} (h1 : mapAt okS kvS w r1 (tv L)) (h2 : mapAt okS kvS w r2 (tv L)) :
    Calls Tryz.prog 39 #[.map (some r1), .map (some r2)] w fun e w' => e = .returned (.bool true) ∧ Chg (fun _ => False) w w' := by
  have hl1 := fun ty => run_len (P := Tryz.prog) Tryz.underlying33 h1 ty
  have hl2 := fun ty => run_len (P := Tryz.prog) Tryz.underlying33 h2 ty
  obtain ⟨it, hrg, ho⟩ := h1.range (P := Tryz.prog) Tryz.underlying33
  have HA := Lib.hid (show EqAt okS kvS w r1 (tv L) (tv L) (w.alloc it) from ⟨ho, (Chg.refl _ _).alloc _⟩)
  have hr2 := h2.lt
  have H2 := Lib.hid h2
  obtain ⟨ln, HLN⟩ : ∃ k, Hid (((tv L).length : Int) = k) := ⟨_, Lib.hid rfl⟩
  rw [HLN.out] at hl1 hl2
  have ql : decide (ln = ln) = true := decide_eq_true rfl
  have ql' : (ln == ln) = true := by simp
  have HOK := Lib.hid (show ∀ p ∈ tv L, okS p.1 from by obtain ⟨_, _, _, E⟩ := h1; exact E.ok)
  have HAP := Lib.hid h1.apart
  clear ho h1 h2
  go_enter Tryz.func39, Tryz.ntmps39
  go_wp2_with fail
  go_loopw [] (fun wr => ∃ left, Hid (EqAt okS kvS w r1 (tv L) left wr)) (fun wr => wr.rangeLeft r1 w.heap.size)
  case atStart => exact ⟨_, HA⟩
  case round =>
    obtain ⟨left, HU⟩ := hrel
    rcases HU.out.over.next (P := Tryz.prog) with ⟨h0, hn⟩ | ⟨a, p, bb, w1, h0, hn, hc, hsz, ho, hen⟩
    · clear HA
      go_wp2_with fail
      go_ret
      exact ⟨rfl, HU.out.chg⟩
    · obtain ⟨x, v⟩ := p
      have HO := Lib.hid ho
      have hen' := hen w1 rfl rfl
      have hC1 := HU.out.chg.trans' hc (fun i hi => Or.inr (by omega))
      have HC1 := Lib.hid hC1
      have hm : (x, v) ∈ tv L := HU.out.over.sub.subset (by rw [h0]; simp)
      have hf2 := H2.out.stay (hC1.block r2 hr2 (fun f => f))
      have hz := zero38 w1
      have hlk := run_lookup keysS Tryz.underlying33 hz hf2 (HOK.out _ hm) true
      have hk : lk (tv L) x = some v := by
        obtain ⟨j, hj, e⟩ := List.getElem_of_mem hm
        exact (lk_some HAP.out (j := j) (x := x) (v := v) (by rw [List.getElem?_eq_getElem hj, e])).1
      rw [hk] at hlk
      simp only [if_true, Option.getD_some, Option.isSome_some] at hlk
      obtain ⟨⟨x', c⟩, _, hxc⟩ := List.mem_map.1 hm
      obtain ⟨rfl, rfl⟩ := Prod.mk.inj hxc
      have H0 := Lib.hid h0
      have hE := fun u => equalInT c c u
      simp only [eqT_self] at hE
      have hlk2 := fun o => run_lookup keysS Tryz.underlying33 (zero38 (w1.alloc o)) (hf2.stay (Go.heap_alloc_old w1 o hf2.lt)) (HOK.out _ hm) true
      simp only [hk, if_true, Option.getD_some, Option.isSome_some] at hlk2
      clear hlk
      unfold tbV kvS at *
      clear hen h0 hc ho hsz hrg HA hC1 hf2 hk hxc hm
      go_wp2_with fail
      go_roundw
      case rel => exact ⟨a ++ bb, Lib.hid ⟨(rangeAt.alloc2 (ok := okS) (kv := kvS) HO.out _ _), (HC1.out.alloc _).alloc _⟩⟩
      case measure => rw [(rangeAt.alloc2 (ok := okS) (kv := kvS) HO.out _ _).left_eq, HU.out.over.left_eq, H0.out]; simp
end Go.Proofs.YtgmmglmokkcgeaaGreat
/- Walks: maps.Equal of any two maps; slices.Equal. Printed by genXa.py. -/
namespace Go.Proofs.YtgmmglmokkcgeaaGreat
set_option linter.unusedVariables false
set_option linter.unusedSimpArgs false
set_option linter.unusedSectionVars false
open Go.RowKit Mk Go.Sort

/-- As many pairs, and each of the one told by the other: they tell the same. -/
theorem lk_all {K V : Type} [DecidableEq K] {A B : List (K × V)} (ha : A.Pairwise (fun p q => p.1 ≠ q.1)) (hb : B.Pairwise (fun p q => p.1 ≠ q.1)) (hl : A.length = B.length) (h : ∀ p ∈ A, lk B p.1 = some p.2) (x : K) : lk A x = lk B x := by
  have hkeys : ∀ y ∈ B.map (·.1), y ∈ A.map (·.1) := by
    intro y hy
    by_cases hm : y ∈ A.map (·.1)
    · exact hm
    · exfalso
      have h1 : ((y :: A.map (·.1))).length ≤ (B.map (·.1)).length := nodup_le2 (by
        refine List.nodup_cons.2 ⟨hm, ?_⟩
        unfold List.Nodup; rw [List.pairwise_map]; exact ha) (fun q hq => by
        rcases List.mem_cons.1 hq with rfl | hq
        · exact hy
        · obtain ⟨p, hp, rfl⟩ := List.mem_map.1 hq
          exact List.mem_map.2 ⟨_, lk_mem (h p hp), rfl⟩)
      simp at h1
      omega
  cases hx : lk A x with
  | some v =>
    have := h _ (lk_mem hx)
    simp only at this
    exact this.symm
  | none =>
    cases hy : lk B x with
    | none => rfl
    | some v =>
      exfalso
      have := hkeys x (List.mem_map.2 ⟨_, lk_mem hy, rfl⟩)
      obtain ⟨u, hu⟩ := lk_of_mem this
      rw [hx] at hu
      cases hu
/-- Behind some rounds of Equal. -/
structure EqAt2 {K : Type} [DecidableEq K] (ok : K → Prop) (kv : K → Value) (w : World) (r1 : Nat) (L M left : List (K × Value)) (wr : World) : Prop where
  over : rangeAt ok kv wr w.heap.size r1 L left
  chg : Chg (fun _ => False) w wr
  seen : ∀ p ∈ L, p ∉ left → lk M p.1 = some p.2
theorem EqAt2.step {K : Type} [DecidableEq K] {ok : K → Prop} {kv : K → Value} {w : World} {r1 : Nat} {L M left a bb : List (K × Value)} {p : K × Value} {wr w1 : World} (h : EqAt2 ok kv w r1 L M left wr) (h0 : left = a ++ p :: bb) (hc : Chg (fun i => i = w.heap.size) wr w1) (ho : rangeAt ok kv w1 w.heap.size r1 L (a ++ bb)) (hp : lk M p.1 = some p.2) : EqAt2 ok kv w r1 L M (a ++ bb) w1 :=
  ⟨ho, h.chg.trans' hc (fun i e => Or.inr (by omega)), fun q hq hn => by
    by_cases e : q = p
    · rw [e]; exact hp
    · refine h.seen q hq (fun hh => hn ?_)
      rw [h0] at hh
      simp only [List.mem_append, List.mem_cons] at hh ⊢
      exact hh.imp id (fun h => h.resolve_left e)⟩
theorem eqT_iff (a b : Tb) : eqT a b = true ↔ a = b := by
  obtain ⟨p, g, t, a1, n⟩ := a
  obtain ⟨p', g', t', a2, n'⟩ := b
  simp [eqT, and_assoc]
set_option maxRecDepth 100000 in
set_option maxHeartbeats 4000000 in
theorem equalD_any {w : World} {r1 r2 : Nat} {A B : List (Nat × Nat)} (h1 : mapAt okU kvU w r1 (nv A)) (h2 : mapAt okU kvU w r2 (nv B)) {z : Bool} (hz : (∀ x, lk A x = lk B x) ↔ z = true) :
    Calls Tryz.prog 37 #[.map (some r1), .map (some r2)] w fun e w' => e = .returned (.bool z) ∧ Chg (fun _ => False) w w' := by
  have hA : A.Pairwise (fun p q => p.1 ≠ q.1) := (List.pairwise_map (f := fun p : Nat × Nat => (p.1, nV p.2))).1 h1.apart
  have hB : B.Pairwise (fun p q => p.1 ≠ q.1) := (List.pairwise_map (f := fun p : Nat × Nat => (p.1, nV p.2))).1 h2.apart
  have HAA := Lib.hid hA
  have HBB := Lib.hid hB
  have HZ := Lib.hid hz
  have hl1 := fun ty => run_len (P := Tryz.prog) Tryz.underlying31 h1 ty
  have hl2 := fun ty => run_len (P := Tryz.prog) Tryz.underlying31 h2 ty
  have hn1 : (nv A).length = A.length := by simp [nv]
  have hn2 : (nv B).length = B.length := by simp [nv]
  rw [hn1] at hl1
  rw [hn2] at hl2
  by_cases hlen : A.length = B.length
  · obtain ⟨it, hrg, ho⟩ := h1.range (P := Tryz.prog) Tryz.underlying31
    have HA := Lib.hid (show EqAt2 okU kvU w r1 (nv A) (nv B) (nv A) (w.alloc it) from ⟨ho, (Chg.refl _ _).alloc _, fun p hp hn => absurd hp hn⟩)
    have hr2 := h2.lt
    have H2 := Lib.hid h2
    rw [← hlen] at hl2
    have HLEN := Lib.hid hlen
    obtain ⟨ln, HLN⟩ : ∃ k, Hid ((A.length : Int) = k) := ⟨_, Lib.hid rfl⟩
    rw [HLN.out] at hl1 hl2
    have ql : decide (ln = ln) = true := decide_eq_true rfl
    have ql' : (ln == ln) = true := by simp
    have HOK := Lib.hid (show ∀ p ∈ nv A, okU p.1 from by obtain ⟨_, _, _, E⟩ := h1; exact E.ok)
    clear ho h1 h2 hlen hA hB hz hn1 hn2
    go_enter Tryz.func37, Tryz.ntmps37
    go_wp2_with fail
    go_loopw [] (fun wr => ∃ left, Hid (EqAt2 okU kvU w r1 (nv A) (nv B) left wr)) (fun wr => wr.rangeLeft r1 w.heap.size)
    case atStart => exact ⟨_, HA⟩
    case round =>
      obtain ⟨left, HU⟩ := hrel
      rcases HU.out.over.next (P := Tryz.prog) with ⟨h0, hn⟩ | ⟨a, p, bb, w1, h0, hn, hc, hsz, ho, hen⟩
      · have hzt : z = true := HZ.out.1 (lk_all HAA.out HBB.out HLEN.out (fun p hp => by
          have h5 := HU.out.seen (p.1, nV p.2) (List.mem_map.2 ⟨p, hp, rfl⟩) (by rw [h0]; simp)
          unfold nv at h5
          rw [lk_map] at h5
          cases hh : lk B p.1 with
          | none => rw [hh] at h5; cases h5
          | some u =>
            rw [hh] at h5
            simp only [Option.map_some, Option.some.injEq] at h5
            exact congrArg some (by simp only [nV, Value.int.injEq, true_and] at h5; omega)))
        have HCC := Lib.hid HU.out.chg
        subst hzt
        clear HA h0 HU
        go_wp2_with fail
        go_ret
        exact ⟨rfl, HCC.out⟩
      · obtain ⟨x, v⟩ := p
        have hen' := hen w1 rfl rfl
        have hC1 := HU.out.chg.trans' hc (fun i hi => Or.inr (by omega))
        have hm : (x, v) ∈ nv A := HU.out.over.sub.subset (by rw [h0]; simp)
        obtain ⟨⟨x', c⟩, hcm, hxc⟩ := List.mem_map.1 hm
        obtain ⟨rfl, rfl⟩ := Prod.mk.inj hxc
        have HLA := Lib.hid (lk_of_mem' HAA.out hcm)
        have HSTEP := Lib.hid (fun (hp : lk (nv B) x' = some (nV c)) => HU.out.step h0 hc ho hp)
        have HRL := Lib.hid HU.out.over.left_eq
        have HC1 := Lib.hid hC1
        have hf2 := H2.out.stay (hC1.block r2 hr2 (fun f => f))
        have hz0 := zero24 w1
        have hlk := run_lookup keysU Tryz.underlying31 hz0 hf2 (HOK.out _ hm) true
        have hokx := HOK.out _ hm
        rw [nv, lk_map] at hlk
        have HLKB := Lib.hid (show ∀ y, lk (nv B) y = (lk B y).map nV from fun y => by rw [nv, lk_map])
        have H0 := Lib.hid h0
        
        simp only at HLA
        cases hlb : lk B x' with
        | none =>
          rw [hlb] at hlk
          simp only [if_true, Option.map_none, Option.getD_none, Option.isSome_none] at hlk
          have hzf : z = false := by
            cases hzz : z
            · rfl
            · have := HZ.out.2 hzz x'
              rw [hlb, HLA.out] at this
              cases this
          subst hzf
          
          unfold nV kvU at *
          clear hen h0 hc ho hsz hrg HA hC1 hf2 hlb hm hcm HSTEP hokx hz0
          go_wp2_with fail
          go_ret
          exact ⟨rfl, HC1.out⟩
        | some c2 =>
          rw [hlb] at hlk
          simp only [if_true, Option.map_some, Option.getD_some, Option.isSome_some] at hlk
          by_cases hcc : c2 = c
          · subst hcc
            have HG := Lib.hid (HSTEP.out (by rw [HLKB.out, hlb]; rfl))
            have v1 : ((c2 : Int) == (c2 : Int)) = true := by simp
            have v2 : decide ((c2 : Int) = (c2 : Int)) = true := decide_eq_true rfl
            unfold nV kvU at *
            clear hen h0 hc ho hsz hrg HA hC1 hf2 hlb hm hcm HSTEP hokx hz0 HU
            go_wp2_with fail
            go_roundw
            case rel => exact ⟨a ++ bb, HG⟩
            case measure => rw [HG.out.over.left_eq, HRL.out, H0.out]; simp
          · have hzf : z = false := by
              cases hzz : z
              · rfl
              · have := HZ.out.2 hzz x'
                rw [hlb, HLA.out] at this
                exact absurd (Option.some.inj this).symm hcc
            subst hzf
            have v1 : ((c : Int) == (c2 : Int)) = false := by rw [beq_eq_false_iff_ne]; omega
            have v2 : decide ((c : Int) = (c2 : Int)) = false := decide_eq_false (by omega)
            have v3 : ((c2 : Int) == (c : Int)) = false := by rw [beq_eq_false_iff_ne]; omega
            have v4 : decide (c = c2) = false := decide_eq_false (fun e => hcc e.symm)
            unfold nV kvU at *
            clear hen h0 hc ho hsz hrg HA hC1 hf2 hlb hm hcm HSTEP hokx hz0
            go_wp2_with fail
            go_ret
            exact ⟨rfl, HC1.out⟩
  · have hzf : z = false := by
      cases hzz : z
      · rfl
      · exact absurd (len_of_lk hA hB (fun x => by rw [hz.2 hzz x])) hlen
    subst hzf
    have q1 : ((A.length : Int) == (B.length : Int)) = false := by rw [beq_eq_false_iff_ne]; omega
    have q2 : decide ((A.length : Int) = (B.length : Int)) = false := decide_eq_false (by omega)
    have q3 : (A.length == B.length) = false := by simp [hlen]
    have q4 : decide (A.length = B.length) = false := decide_eq_false hlen
    have q5 : ((A.length : Int) != (B.length : Int)) = true := by rw [bne_iff_ne]; omega
    clear hlen hA hB hz hn1 hn2 h1 h2 HAA HBB HZ
    go_enter Tryz.func37, Tryz.ntmps37
    go_wp2_with fail
    go_ret
    exact ⟨rfl, Chg.refl _ _⟩
set_option maxRecDepth 100000 in
set_option maxHeartbeats 4000000 in
theorem equalL_any {w : World} {r1 r2 : Nat} {A B : List (ByteArray × Nat)} (h1 : mapAt okS kvS w r1 (nv A)) (h2 : mapAt okS kvS w r2 (nv B)) {z : Bool} (hz : (∀ x, lk A x = lk B x) ↔ z = true) :
    Calls Tryz.prog 38 #[.map (some r1), .map (some r2)] w fun e w' => e = .returned (.bool z) ∧ Chg (fun _ => False) w w' := by
  have hA : A.Pairwise (fun p q => p.1 ≠ q.1) := (List.pairwise_map (f := fun p : ByteArray × Nat => (p.1, nV p.2))).1 h1.apart
  have hB : B.Pairwise (fun p q => p.1 ≠ q.1) := (List.pairwise_map (f := fun p : ByteArray × Nat => (p.1, nV p.2))).1 h2.apart
  have HAA := Lib.hid hA
  have HBB := Lib.hid hB
  have HZ := Lib.hid hz
  have hl1 := fun ty => run_len (P := Tryz.prog) Tryz.underlying32 h1 ty
  have hl2 := fun ty => run_len (P := Tryz.prog) Tryz.underlying32 h2 ty
  have hn1 : (nv A).length = A.length := by simp [nv]
  have hn2 : (nv B).length = B.length := by simp [nv]
  rw [hn1] at hl1
  rw [hn2] at hl2
  by_cases hlen : A.length = B.length
  · obtain ⟨it, hrg, ho⟩ := h1.range (P := Tryz.prog) Tryz.underlying32
    have HA := Lib.hid (show EqAt2 okS kvS w r1 (nv A) (nv B) (nv A) (w.alloc it) from ⟨ho, (Chg.refl _ _).alloc _, fun p hp hn => absurd hp hn⟩)
    have hr2 := h2.lt
    have H2 := Lib.hid h2
    rw [← hlen] at hl2
    have HLEN := Lib.hid hlen
    obtain ⟨ln, HLN⟩ : ∃ k, Hid ((A.length : Int) = k) := ⟨_, Lib.hid rfl⟩
    rw [HLN.out] at hl1 hl2
    have ql : decide (ln = ln) = true := decide_eq_true rfl
    have ql' : (ln == ln) = true := by simp
    have HOK := Lib.hid (show ∀ p ∈ nv A, okS p.1 from by obtain ⟨_, _, _, E⟩ := h1; exact E.ok)
    clear ho h1 h2 hlen hA hB hz hn1 hn2
    go_enter Tryz.func38, Tryz.ntmps38
    go_wp2_with fail
    go_loopw [] (fun wr => ∃ left, Hid (EqAt2 okS kvS w r1 (nv A) (nv B) left wr)) (fun wr => wr.rangeLeft r1 w.heap.size)
    case atStart => exact ⟨_, HA⟩
    case round =>
      obtain ⟨left, HU⟩ := hrel
      rcases HU.out.over.next (P := Tryz.prog) with ⟨h0, hn⟩ | ⟨a, p, bb, w1, h0, hn, hc, hsz, ho, hen⟩
      · have hzt : z = true := HZ.out.1 (lk_all HAA.out HBB.out HLEN.out (fun p hp => by
          have h5 := HU.out.seen (p.1, nV p.2) (List.mem_map.2 ⟨p, hp, rfl⟩) (by rw [h0]; simp)
          unfold nv at h5
          rw [lk_map] at h5
          cases hh : lk B p.1 with
          | none => rw [hh] at h5; cases h5
          | some u =>
            rw [hh] at h5
            simp only [Option.map_some, Option.some.injEq] at h5
            exact congrArg some (by simp only [nV, Value.int.injEq, true_and] at h5; omega)))
        have HCC := Lib.hid HU.out.chg
        subst hzt
        clear HA h0 HU
        go_wp2_with fail
        go_ret
        exact ⟨rfl, HCC.out⟩
      · obtain ⟨x, v⟩ := p
        have hen' := hen w1 rfl rfl
        have hC1 := HU.out.chg.trans' hc (fun i hi => Or.inr (by omega))
        have hm : (x, v) ∈ nv A := HU.out.over.sub.subset (by rw [h0]; simp)
        obtain ⟨⟨x', c⟩, hcm, hxc⟩ := List.mem_map.1 hm
        obtain ⟨rfl, rfl⟩ := Prod.mk.inj hxc
        have HLA := Lib.hid (lk_of_mem' HAA.out hcm)
        have HSTEP := Lib.hid (fun (hp : lk (nv B) x' = some (nV c)) => HU.out.step h0 hc ho hp)
        have HRL := Lib.hid HU.out.over.left_eq
        have HC1 := Lib.hid hC1
        have hf2 := H2.out.stay (hC1.block r2 hr2 (fun f => f))
        have hz0 := zero24 w1
        have hlk := run_lookup keysS Tryz.underlying32 hz0 hf2 (HOK.out _ hm) true
        have hokx := HOK.out _ hm
        rw [nv, lk_map] at hlk
        have HLKB := Lib.hid (show ∀ y, lk (nv B) y = (lk B y).map nV from fun y => by rw [nv, lk_map])
        have H0 := Lib.hid h0
        
        simp only at HLA
        cases hlb : lk B x' with
        | none =>
          rw [hlb] at hlk
          simp only [if_true, Option.map_none, Option.getD_none, Option.isSome_none] at hlk
          have hzf : z = false := by
            cases hzz : z
            · rfl
            · have := HZ.out.2 hzz x'
              rw [hlb, HLA.out] at this
              cases this
          subst hzf
          
          unfold nV kvS at *
          clear hen h0 hc ho hsz hrg HA hC1 hf2 hlb hm hcm HSTEP hokx hz0
          go_wp2_with fail
          go_ret
          exact ⟨rfl, HC1.out⟩
        | some c2 =>
          rw [hlb] at hlk
          simp only [if_true, Option.map_some, Option.getD_some, Option.isSome_some] at hlk
          by_cases hcc : c2 = c
          · subst hcc
            have HG := Lib.hid (HSTEP.out (by rw [HLKB.out, hlb]; rfl))
            have v1 : ((c2 : Int) == (c2 : Int)) = true := by simp
            have v2 : decide ((c2 : Int) = (c2 : Int)) = true := decide_eq_true rfl
            unfold nV kvS at *
            clear hen h0 hc ho hsz hrg HA hC1 hf2 hlb hm hcm HSTEP hokx hz0 HU
            go_wp2_with fail
            go_roundw
            case rel => exact ⟨a ++ bb, HG⟩
            case measure => rw [HG.out.over.left_eq, HRL.out, H0.out]; simp
          · have hzf : z = false := by
              cases hzz : z
              · rfl
              · have := HZ.out.2 hzz x'
                rw [hlb, HLA.out] at this
                exact absurd (Option.some.inj this).symm hcc
            subst hzf
            have v1 : ((c : Int) == (c2 : Int)) = false := by rw [beq_eq_false_iff_ne]; omega
            have v2 : decide ((c : Int) = (c2 : Int)) = false := decide_eq_false (by omega)
            have v3 : ((c2 : Int) == (c : Int)) = false := by rw [beq_eq_false_iff_ne]; omega
            have v4 : decide (c = c2) = false := decide_eq_false (fun e => hcc e.symm)
            unfold nV kvS at *
            clear hen h0 hc ho hsz hrg HA hC1 hf2 hlb hm hcm HSTEP hokx hz0
            go_wp2_with fail
            go_ret
            exact ⟨rfl, HC1.out⟩
  · have hzf : z = false := by
      cases hzz : z
      · rfl
      · exact absurd (len_of_lk hA hB (fun x => by rw [hz.2 hzz x])) hlen
    subst hzf
    have q1 : ((A.length : Int) == (B.length : Int)) = false := by rw [beq_eq_false_iff_ne]; omega
    have q2 : decide ((A.length : Int) = (B.length : Int)) = false := decide_eq_false (by omega)
    have q3 : (A.length == B.length) = false := by simp [hlen]
    have q4 : decide (A.length = B.length) = false := decide_eq_false hlen
    have q5 : ((A.length : Int) != (B.length : Int)) = true := by rw [bne_iff_ne]; omega
    clear hlen hA hB hz hn1 hn2 h1 h2 HAA HBB HZ
    go_enter Tryz.func38, Tryz.ntmps38
    go_wp2_with fail
    go_ret
    exact ⟨rfl, Chg.refl _ _⟩
set_option maxRecDepth 100000 in
set_option maxHeartbeats 4000000 in
theorem equalT_any {w : World} {r1 r2 : Nat} {A B : List (ByteArray × Tb)} (h1 : mapAt okS kvS w r1 (tv A)) (h2 : mapAt okS kvS w r2 (tv B)) {z : Bool} (hz : (∀ x, lk A x = lk B x) ↔ z = true) :
    Calls Tryz.prog 39 #[.map (some r1), .map (some r2)] w fun e w' => e = .returned (.bool z) ∧ Chg (fun _ => False) w w' := by
  have hA : A.Pairwise (fun p q => p.1 ≠ q.1) := (List.pairwise_map (f := fun p : ByteArray × Tb => (p.1, tbV p.2))).1 h1.apart
  have hB : B.Pairwise (fun p q => p.1 ≠ q.1) := (List.pairwise_map (f := fun p : ByteArray × Tb => (p.1, tbV p.2))).1 h2.apart
  have HAA := Lib.hid hA
  have HBB := Lib.hid hB
  have HZ := Lib.hid hz
  have hl1 := fun ty => run_len (P := Tryz.prog) Tryz.underlying33 h1 ty
  have hl2 := fun ty => run_len (P := Tryz.prog) Tryz.underlying33 h2 ty
  have hn1 : (tv A).length = A.length := by simp [tv]
  have hn2 : (tv B).length = B.length := by simp [tv]
  rw [hn1] at hl1
  rw [hn2] at hl2
  by_cases hlen : A.length = B.length
  · obtain ⟨it, hrg, ho⟩ := h1.range (P := Tryz.prog) Tryz.underlying33
    have HA := Lib.hid (show EqAt2 okS kvS w r1 (tv A) (tv B) (tv A) (w.alloc it) from ⟨ho, (Chg.refl _ _).alloc _, fun p hp hn => absurd hp hn⟩)
    have hr2 := h2.lt
    have H2 := Lib.hid h2
    rw [← hlen] at hl2
    have HLEN := Lib.hid hlen
    obtain ⟨ln, HLN⟩ : ∃ k, Hid ((A.length : Int) = k) := ⟨_, Lib.hid rfl⟩
    rw [HLN.out] at hl1 hl2
    have ql : decide (ln = ln) = true := decide_eq_true rfl
    have ql' : (ln == ln) = true := by simp
    have HOK := Lib.hid (show ∀ p ∈ tv A, okS p.1 from by obtain ⟨_, _, _, E⟩ := h1; exact E.ok)
    clear ho h1 h2 hlen hA hB hz hn1 hn2
    go_enter Tryz.func39, Tryz.ntmps39
    go_wp2_with fail
    go_loopw [] (fun wr => ∃ left, Hid (EqAt2 okS kvS w r1 (tv A) (tv B) left wr)) (fun wr => wr.rangeLeft r1 w.heap.size)
    case atStart => exact ⟨_, HA⟩
    case round =>
      obtain ⟨left, HU⟩ := hrel
      rcases HU.out.over.next (P := Tryz.prog) with ⟨h0, hn⟩ | ⟨a, p, bb, w1, h0, hn, hc, hsz, ho, hen⟩
      · have hzt : z = true := HZ.out.1 (lk_all HAA.out HBB.out HLEN.out (fun p hp => by
          have h5 := HU.out.seen (p.1, tbV p.2) (List.mem_map.2 ⟨p, hp, rfl⟩) (by rw [h0]; simp)
          unfold tv at h5
          rw [lk_map] at h5
          cases hh : lk B p.1 with
          | none => rw [hh] at h5; cases h5
          | some u =>
            rw [hh] at h5
            simp only [Option.map_some, Option.some.injEq] at h5
            exact congrArg some (by
              have := congrArg (fun v => match v with | Value.agg cs => cs.toList | _ => []) h5
              obtain ⟨p1, p2⟩ := p
              obtain ⟨a1, a2, a3, a4, a5⟩ := u
              obtain ⟨b1, b2, b3, b4, b5⟩ := p2
              simp [tbV] at h5 ⊢
              obtain ⟨i1, i2, i3, i4, i5⟩ := h5
              exact ⟨i1, by omega, by omega, by omega, by omega⟩)))
        have HCC := Lib.hid HU.out.chg
        subst hzt
        clear HA h0 HU
        go_wp2_with fail
        go_ret
        exact ⟨rfl, HCC.out⟩
      · obtain ⟨x, v⟩ := p
        have hen' := hen w1 rfl rfl
        have hC1 := HU.out.chg.trans' hc (fun i hi => Or.inr (by omega))
        have hm : (x, v) ∈ tv A := HU.out.over.sub.subset (by rw [h0]; simp)
        obtain ⟨⟨x', c⟩, hcm, hxc⟩ := List.mem_map.1 hm
        obtain ⟨rfl, rfl⟩ := Prod.mk.inj hxc
        have HLA := Lib.hid (lk_of_mem' HAA.out hcm)
        have HSTEP := Lib.hid (fun (hp : lk (tv B) x' = some (tbV c)) => HU.out.step h0 hc ho hp)
        have HRL := Lib.hid HU.out.over.left_eq
        have HC1 := Lib.hid hC1
        have hf2 := H2.out.stay (hC1.block r2 hr2 (fun f => f))
        have hz0 := zero38 w1
        have hlk := run_lookup keysS Tryz.underlying33 hz0 hf2 (HOK.out _ hm) true
        have hokx := HOK.out _ hm
        rw [tv, lk_map] at hlk
        have HLKB := Lib.hid (show ∀ y, lk (tv B) y = (lk B y).map tbV from fun y => by rw [tv, lk_map])
        have H0 := Lib.hid h0
        have hlk2 := fun o => run_lookup keysS Tryz.underlying33 (zero38 (w1.alloc o)) (hf2.stay (Go.heap_alloc_old w1 o hf2.lt)) (HOK.out _ hm) true
        simp only [tv, lk_map] at hlk2
        clear hlk
        have hlk := hlk2
        clear hlk2
        simp only at HLA
        cases hlb : lk B x' with
        | none =>
          rw [hlb] at hlk
          simp only [if_true, Option.map_none, Option.getD_none, Option.isSome_none] at hlk
          have hzf : z = false := by
            cases hzz : z
            · rfl
            · have := HZ.out.2 hzz x'
              rw [hlb, HLA.out] at this
              cases this
          subst hzf
          
          unfold tbV kvS at *
          clear hen h0 hc ho hsz hrg HA hC1 hf2 hlb hm hcm HSTEP hokx hz0
          go_wp2_with fail
          go_ret
          exact ⟨rfl, (HC1.out.alloc _).alloc _⟩
        | some c2 =>
          rw [hlb] at hlk
          simp only [if_true, Option.map_some, Option.getD_some, Option.isSome_some] at hlk
          by_cases hcc : c2 = c
          · subst hcc
            have HG := Lib.hid (HSTEP.out (by rw [HLKB.out, hlb]; rfl))
            have hE := fun u => equalInT c2 c2 u
            simp only [eqT_self] at hE
            unfold tbV kvS at *
            clear hen h0 hc ho hsz hrg HA hC1 hf2 hlb hm hcm HSTEP hokx hz0 HU
            go_wp2_with fail
            go_roundw
            case rel => exact ⟨a ++ bb, Lib.hid ⟨rangeAt.alloc2 (ok := okS) (kv := kvS) HG.out.over _ _, (HG.out.chg.alloc _).alloc _, HG.out.seen⟩⟩
            case measure => rw [(rangeAt.alloc2 (ok := okS) (kv := kvS) HG.out.over _ _).left_eq, HRL.out, H0.out]; simp
          · have hzf : z = false := by
              cases hzz : z
              · rfl
              · have := HZ.out.2 hzz x'
                rw [hlb, HLA.out] at this
                exact absurd (Option.some.inj this).symm hcc
            subst hzf
            have hE := fun u => equalInT c c2 u
            have hEf : eqT c c2 = false := by
              cases hee : eqT c c2
              · rfl
              · exact absurd ((eqT_iff _ _).1 hee).symm hcc
            simp only [hEf] at hE
            unfold tbV kvS at *
            clear hen h0 hc ho hsz hrg HA hC1 hf2 hlb hm hcm HSTEP hokx hz0
            go_wp2_with fail
            go_ret
            exact ⟨rfl, (HC1.out.alloc _).alloc _⟩
  · have hzf : z = false := by
      cases hzz : z
      · rfl
      · exact absurd (len_of_lk hA hB (fun x => by rw [hz.2 hzz x])) hlen
    subst hzf
    have q1 : ((A.length : Int) == (B.length : Int)) = false := by rw [beq_eq_false_iff_ne]; omega
    have q2 : decide ((A.length : Int) = (B.length : Int)) = false := decide_eq_false (by omega)
    have q3 : (A.length == B.length) = false := by simp [hlen]
    have q4 : decide (A.length = B.length) = false := decide_eq_false hlen
    have q5 : ((A.length : Int) != (B.length : Int)) = true := by rw [bne_iff_ne]; omega
    clear hlen hA hB hz hn1 hn2 h1 h2 HAA HBB HZ
    go_enter Tryz.func39, Tryz.ntmps39
    go_wp2_with fail
    go_ret
    exact ⟨rfl, Chg.refl _ _⟩
end Go.Proofs.YtgmmglmokkcgeaaGreat
