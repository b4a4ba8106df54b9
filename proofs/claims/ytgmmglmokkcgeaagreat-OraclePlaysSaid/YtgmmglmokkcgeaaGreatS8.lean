/- Walks: maps.Equal of two maps of the same pairs. Printed by genS5.py. -/
import Derived.Test.YtgmmglmokkcgeaaGreatA7
import Derived.Test.YtgmmglmokkcgeaaGreatRange
import Derived.Test.YtgmmglmokkcgeaaGreatR3
import Derived.Deep.QuietTactic
import Derived.Test.YtgmmglmokkcgeaaGreatA8
import Derived.Test.YtgmmglmokkcgeaaGreatA6
import Derived.BigQuiet
import Derived.Lib.QuietBelow
namespace Go.Proofs.YtgmmglmokkcgeaaGreat
set_option linter.unusedVariables false
set_option linter.unusedSimpArgs false
set_option linter.unusedSectionVars false
open Go.RowKit Mk Go.Sort

/-- Behind some rounds of Equal. -/
structure EqAt {K : Type} [DecidableEq K] (ok : K → Prop) (kv : K → Value) (w : World) (r1 : Nat) (L left : List (K × Value)) (wr : World) : Prop where
  over : rangeAt ok kv wr w.heap.size r1 L left
  chg : Chg (fun _ => False) w wr
theorem rangeAt.alloc2 {K : Type} [DecidableEq K] {ok : K → Prop} {kv : K → Value} {w : World} {r bm : Nat} {L left : List (K × Value)} (h : rangeAt ok kv w r bm L left) (o1 o2 : Obj) : rangeAt ok kv ((w.alloc o1).alloc o2) r bm L left :=
  h.stay ((((Chg.refl (fun _ => False) w).alloc o1).alloc o2).block _ h.lt.1 (fun f => f)) ((((Chg.refl (fun _ => False) w).alloc o1).alloc o2).block _ h.lt.2.1 (fun f => f))
theorem zero24 (w : World) : (zeroValue 24).run Tryz.prog w = .ok (.int .u64 0) w := by simp [go_sem]
/-- Two tablets are told apart. -/
def eqT (a b : Tb) : Bool := decide (a.p = b.p) && decide (a.g = b.g) && decide (a.to = b.to) && decide (a.at_ = b.at_) && decide (a.tn = b.tn)
theorem eqT_self (c : Tb) : eqT c c = true := by simp [eqT]
theorem toList_inj {a b : ByteArray} (h : a.toList = b.toList) : a = b := by
  have h1 : a.data.toList = b.data.toList := by rw [← Lib.toList_data, ← Lib.toList_data]; exact h
  cases a; cases b; simp only [ByteArray.mk.injEq] at h1 ⊢; exact Array.toList_inj.1 h1
theorem bytes_eq {p q : ByteArray} : p.toList = q.toList ↔ p = q := ⟨toList_inj, fun e => by rw [e]⟩
theorem equalInT (a b : Tb) (w : World) : (Op.equalIn 10000 41 (tbV a) (tbV b)).run Tryz.prog w = .ok (eqT a b) w := by
  have hS : Tryz.prog.underlying 41 = some (.struct (Tryz.prog.fieldsOf 41)) := by kernel_rfl
  have hp : Tryz.prog.stoodInHeld 41 = false := by kernel_rfl
  unfold tbV
  rw [show (10000 : Nat) = 9999 + 1 from rfl, run_equalIn_agg w 9999 41 _ _ hS hp]
  simp only [Program.fieldsOf, Tryz.underlying41]
  go_simp
  obtain ⟨p, g, t, a1, n⟩ := a
  obtain ⟨p', g', t', a2, n'⟩ := b
  have ci : ∀ a b : Nat, ((a : Int) = (b : Int)) ↔ a = b := fun a b => by omega
  by_cases h1 : p = p' <;> by_cases h2 : g = g' <;> by_cases h3 : t = t' <;> by_cases h4 : a1 = a2 <;> by_cases h5 : n = n' <;> simp [eqT, bytes_eq, ci, h1, h2, h3, h4, h5]
set_option maxRecDepth 100000 in
set_option maxHeartbeats 2000000 in
theorem equalD {w : World} {r1 r2 : Nat} {L : List (Nat × Nat)} (h1 : mapAt okU kvU w r1 (nv L)) (h2 : mapAt okU kvU w r2 (nv L)) :
    Calls Tryz.prog 37 #[.map (some r1), .map (some r2)] w fun e w' => e = .returned (.bool true) ∧ Chg (fun _ => False) w w' := by
  have hl1 := fun ty => run_len (P := Tryz.prog) Tryz.underlying31 h1 ty
  have hl2 := fun ty => run_len (P := Tryz.prog) Tryz.underlying31 h2 ty
  obtain ⟨it, hrg, ho⟩ := h1.range (P := Tryz.prog) Tryz.underlying31
  have HA := Lib.hid (show EqAt okU kvU w r1 (nv L) (nv L) (w.alloc it) from ⟨ho, (Chg.refl _ _).alloc _⟩)
  have hr2 := h2.lt
  have H2 := Lib.hid h2
  obtain ⟨ln, HLN⟩ : ∃ k, Hid (((nv L).length : Int) = k) := ⟨_, Lib.hid rfl⟩
  rw [HLN.out] at hl1 hl2
  have ql : decide (ln = ln) = true := decide_eq_true rfl
  have ql' : (ln == ln) = true := by simp
  have HOK := Lib.hid (show ∀ p ∈ nv L, okU p.1 from by obtain ⟨_, _, _, E⟩ := h1; exact E.ok)
  have HAP := Lib.hid h1.apart
  clear ho h1 h2
  go_enter Tryz.func37, Tryz.ntmps37
  go_wp2_with fail
  go_loopw [] (fun wr => ∃ left, Hid (EqAt okU kvU w r1 (nv L) left wr)) (fun wr => wr.rangeLeft r1 w.heap.size)
  case atStart => exact ⟨_, HA⟩
  case round =>
    obtain ⟨left, HU⟩ := hrel
    rcases HU.out.over.next (P := Tryz.prog) with ⟨h0, hn⟩ | ⟨a, p, bb, w1, h0, hn, hc, hsz, ho, hen⟩
    · clear HA
      go_wp2_with fail
      go_ret
      exact ⟨rfl, HU.out.chg⟩
    · obtain ⟨x, v⟩ := p
      have HO := Lib.hid ho
      have hen' := hen w1 rfl rfl
      have hC1 := HU.out.chg.trans' hc (fun i hi => Or.inr (by omega))
      have HC1 := Lib.hid hC1
      have hm : (x, v) ∈ nv L := HU.out.over.sub.subset (by rw [h0]; simp)
      have hf2 := H2.out.stay (hC1.block r2 hr2 (fun f => f))
      have hz := zero24 w1
      have hlk := run_lookup keysU Tryz.underlying31 hz hf2 (HOK.out _ hm) true
      have hk : lk (nv L) x = some v := by
        obtain ⟨j, hj, e⟩ := List.getElem_of_mem hm
        exact (lk_some HAP.out (j := j) (x := x) (v := v) (by rw [List.getElem?_eq_getElem hj, e])).1
      rw [hk] at hlk
      simp only [if_true, Option.getD_some, Option.isSome_some] at hlk
      obtain ⟨⟨x', c⟩, _, hxc⟩ := List.mem_map.1 hm
      obtain ⟨rfl, rfl⟩ := Prod.mk.inj hxc
      have H0 := Lib.hid h0
      unfold nV kvU at *
      have v1 : ((c : Int) == (c : Int)) = true := by simp
      have v2 : decide ((c : Int) = (c : Int)) = true := decide_eq_true rfl
      clear hen h0 hc ho hsz hrg HA hC1 hf2 hk hxc hm
      go_wp2_with fail
      go_roundw
      case rel => exact ⟨a ++ bb, Lib.hid ⟨HO.out, HC1.out⟩⟩
      case measure => rw [HO.out.left_eq, HU.out.over.left_eq, H0.out]; simp
set_option maxRecDepth 100000 in
set_option maxHeartbeats 2000000 in
theorem equalL {w : World} {r1 r2 : Nat} {L : List (ByteArray × Nat)} (h1 : mapAt okS kvS w r1 (nv L)) (h2 : mapAt okS kvS w r2 (nv L)) :
    Calls Tryz.prog 38 #[.map (some r1), .map (some r2)] w fun e w' => e = .returned (.bool true) ∧ Chg (fun _ => False) w w' := by
  have hl1 := fun ty => run_len (P := Tryz.prog) Tryz.underlying32 h1 ty
  have hl2 := fun ty => run_len (P := Tryz.prog) Tryz.underlying32 h2 ty
  obtain ⟨it, hrg, ho⟩ := h1.range (P := Tryz.prog) Tryz.underlying32
  have HA := Lib.hid (show EqAt okS kvS w r1 (nv L) (nv L) (w.alloc it) from ⟨ho, (Chg.refl _ _).alloc _⟩)
  have hr2 := h2.lt
  have H2 := Lib.hid h2
  obtain ⟨ln, HLN⟩ : ∃ k, Hid (((nv L).length : Int) = k) := ⟨_, Lib.hid rfl⟩
  rw [HLN.out] at hl1 hl2
  have ql : decide (ln = ln) = true := decide_eq_true rfl
  have ql' : (ln == ln) = true := by simp
  have HOK := Lib.hid (show ∀ p ∈ nv L, okS p.1 from by obtain ⟨_, _, _, E⟩ := h1; exact E.ok)
  have HAP := Lib.hid h1.apart
  clear ho h1 h2
  go_enter Tryz.func38, Tryz.ntmps38
  go_wp2_with fail
  go_loopw [] (fun wr => ∃ left, Hid (EqAt okS kvS w r1 (nv L) left wr)) (fun wr => wr.rangeLeft r1 w.heap.size)
  case atStart => exact ⟨_, HA⟩
  case round =>
    obtain ⟨left, HU⟩ := hrel
    rcases HU.out.over.next (P := Tryz.prog) with ⟨h0, hn⟩ | ⟨a, p, bb, w1, h0, hn, hc, hsz, ho, hen⟩
    · clear HA
      go_wp2_with fail
      go_ret
      exact ⟨rfl, HU.out.chg⟩
    · obtain ⟨x, v⟩ := p
      have HO := Lib.hid ho
      have hen' := hen w1 rfl rfl
      have hC1 := HU.out.chg.trans' hc (fun i hi => Or.inr (by omega))
      have HC1 := Lib.hid hC1
      have hm : (x, v) ∈ nv L := HU.out.over.sub.subset (by rw [h0]; simp)
      have hf2 := H2.out.stay (hC1.block r2 hr2 (fun f => f))
      have hz := zero24 w1
      have hlk := run_lookup keysS Tryz.underlying32 hz hf2 (HOK.out _ hm) true
      have hk : lk (nv L) x = some v := by
        obtain ⟨j, hj, e⟩ := List.getElem_of_mem hm
        exact (lk_some HAP.out (j := j) (x := x) (v := v) (by rw [List.getElem?_eq_getElem hj, e])).1
      rw [hk] at hlk
      simp only [if_true, Option.getD_some, Option.isSome_some] at hlk
      obtain ⟨⟨x', c⟩, _, hxc⟩ := List.mem_map.1 hm
      obtain ⟨rfl, rfl⟩ := Prod.mk.inj hxc
      have H0 := Lib.hid h0
      unfold nV kvS at *
      have v1 : ((c : Int) == (c : Int)) = true := by simp
      have v2 : decide ((c : Int) = (c : Int)) = true := decide_eq_true rfl
      clear hen h0 hc ho hsz hrg HA hC1 hf2 hk hxc hm
      go_wp2_with fail
      go_roundw
      case rel => exact ⟨a ++ bb, Lib.hid ⟨HO.out, HC1.out⟩⟩
      case measure => rw [HO.out.left_eq, HU.out.over.left_eq, H0.out]; simp
set_option maxRecDepth 100000 in
set_option maxHeartbeats 2000000 in
theorem equalT {w : World} {r1 r2 : Nat} {L : List (ByteArray × Tb)} (h1 : mapAt okS kvS w r1 (tv L)) (h2 : mapAt okS kvS w r2 (tv L)) :
    Calls Tryz.prog 39 #[.map (some r1), .map (some r2)] w fun e w' => e = .returned (.bool true) ∧ Chg (fun _ => False) w w' := by
  have hl1 := fun ty => run_len (P := Tryz.prog) Tryz.underlying33 h1 ty
  have hl2 := fun ty => run_len (P := Tryz.prog) Tryz.underlying33 h2 ty
  obtain ⟨it, hrg, ho⟩ := h1.range (P := Tryz.prog) Tryz.underlying33
  have HA := Lib.hid (show EqAt okS kvS w r1 (tv L) (tv L) (w.alloc it) from ⟨ho, (Chg.refl _ _).alloc _⟩)
  have hr2 := h2.lt
  have H2 := Lib.hid h2
  obtain ⟨ln, HLN⟩ : ∃ k, Hid (((tv L).length : Int) = k) := ⟨_, Lib.hid rfl⟩
  rw [HLN.out] at hl1 hl2
  have ql : decide (ln = ln) = true := decide_eq_true rfl
  have ql' : (ln == ln) = true := by simp
  have HOK := Lib.hid (show ∀ p ∈ tv L, okS p.1 from by obtain ⟨_, _, _, E⟩ := h1; exact E.ok)
  have HAP := Lib.hid h1.apart
  clear ho h1 h2
  go_enter Tryz.func39, Tryz.ntmps39
  go_wp2_with fail
  go_loopw [] (fun wr => ∃ left, Hid (EqAt okS kvS w r1 (tv L) left wr)) (fun wr => wr.rangeLeft r1 w.heap.size)
  case atStart => exact ⟨_, HA⟩
  case round =>
    obtain ⟨left, HU⟩ := hrel
    rcases HU.out.over.next (P := Tryz.prog) with ⟨h0, hn⟩ | ⟨a, p, bb, w1, h0, hn, hc, hsz, ho, hen⟩
    · clear HA
      go_wp2_with fail
      go_ret
      exact ⟨rfl, HU.out.chg⟩
    · obtain ⟨x, v⟩ := p
      have HO := Lib.hid ho
      have hen' := hen w1 rfl rfl
      have hC1 := HU.out.chg.trans' hc (fun i hi => Or.inr (by omega))
      have HC1 := Lib.hid hC1
      have hm : (x, v) ∈ tv L := HU.out.over.sub.subset (by rw [h0]; simp)
      have hf2 := H2.out.stay (hC1.block r2 hr2 (fun f => f))
      have hz := zero38 w1
      have hlk := run_lookup keysS Tryz.underlying33 hz hf2 (HOK.out _ hm) true
      have hk : lk (tv L) x = some v := by
        obtain ⟨j, hj, e⟩ := List.getElem_of_mem hm
        exact (lk_some HAP.out (j := j) (x := x) (v := v) (by rw [List.getElem?_eq_getElem hj, e])).1
      rw [hk] at hlk
      simp only [if_true, Option.getD_some, Option.isSome_some] at hlk
      obtain ⟨⟨x', c⟩, _, hxc⟩ := List.mem_map.1 hm
      obtain ⟨rfl, rfl⟩ := Prod.mk.inj hxc
      have H0 := Lib.hid h0
      have hE := fun u => equalInT c c u
      simp only [eqT_self] at hE
      have hlk2 := fun o => run_lookup keysS Tryz.underlying33 (zero38 (w1.alloc o)) (hf2.stay (Go.heap_alloc_old w1 o hf2.lt)) (HOK.out _ hm) true
      simp only [hk, if_true, Option.getD_some, Option.isSome_some] at hlk2
      clear hlk
      unfold tbV kvS at *
      clear hen h0 hc ho hsz hrg HA hC1 hf2 hk hxc hm
      go_wp2_with fail
      go_roundw
      case rel => exact ⟨a ++ bb, Lib.hid ⟨(rangeAt.alloc2 (ok := okS) (kv := kvS) HO.out _ _), (HC1.out.alloc _).alloc _⟩⟩
      case measure => rw [(rangeAt.alloc2 (ok := okS) (kv := kvS) HO.out _ _).left_eq, HU.out.over.left_eq, H0.out]; simp
end Go.Proofs.YtgmmglmokkcgeaaGreat
/- Walks: slices.Equal of the same times; maps.EqualFunc of the same commits. -/
namespace Go.Proofs.YtgmmglmokkcgeaaGreat
set_option linter.unusedVariables false
set_option linter.unusedSimpArgs false
set_option linter.unusedSectionVars false
open Go.RowKit Mk Go.Sort

set_option maxRecDepth 100000 in
set_option maxHeartbeats 2000000 in
theorem seq_any {w : World} {o1 o2 : Option Addr} {N c1 c2 : Nat} {L : List Nat} (h1 : sl w 24 1 (.slice o1 N c1) N (timesV L)) (h2 : sl w 24 1 (.slice o2 N c2) N (timesV L)) :
    Calls Tryz.prog 41 #[.slice o1 N c1, .slice o2 N c2] w fun e w' => e = .returned (.bool true) ∧ Chg (fun _ => False) w w' := by
  have H1 := Lib.hid h1
  have H2 := Lib.hid h2
  have ql : decide ((N : Int) = (N : Int)) = true := decide_eq_true rfl
  have ql' : ((N : Int) == (N : Int)) = true := by simp
  have HNL := Lib.hid (show (timesV L).length = N by have := h1.1; omega)
  have hN : N ≤ maxLen := h1.le
  unfold maxLen at hN
  clear h1 h2
  go_enter Tryz.func41, Tryz.ntmps41
  go_wp2_with fail
  go_loopw [13] (fun i wr => ∃ j : Nat, i = .int .i64 j ∧ j ≤ N ∧ Hid (Chg (fun _ => False) w wr)) (fun i _ => N - (intOf i).toNat)
  case atStart => exact ⟨0, rfl, Nat.zero_le _, Lib.hid (Chg.refl _ _)⟩
  case round =>
    obtain ⟨j, rfl, hj, HC⟩ := hrel
    by_cases hlt : j < N
    · have hd : decide ((j : Int) < N) = true := by simp; omega
      have hjl : j < L.length := by have := HNL.out; simp [timesV] at this; omega
      have hx : (timesV L)[j]? = some (nV L[j]) := by simp [timesV, hjl]
      obtain ⟨g1, k1, e1, a1⟩ := (H1.out.stay (fun g hg => HC.out.block g (H1.out.lt hg) (fun f => f))).cell hx
      obtain ⟨g2, k2, e2, a2⟩ := (H2.out.stay (fun g hg => HC.out.block g (H2.out.lt hg) (fun f => f))).cell hx
      obtain ⟨rfl, rfl⟩ : o1 = some ⟨g1, 0, none⟩ ∧ c1 = k1 := by cases e1; exact ⟨rfl, rfl⟩
      obtain ⟨rfl, rfl⟩ : o2 = some ⟨g2, 0, none⟩ ∧ c2 = k2 := by cases e2; exact ⟨rfl, rfl⟩
      generalize L[j] = c at *
      unfold nV at a1 a2
      have q0 : (0 : Int) ≤ (j : Int) := by omega
      have q1 : (j : Int) < N := by omega
      have v1 : ((c : Int) == (c : Int)) = true := by simp
      have v2 : decide ((c : Int) = (c : Int)) = true := decide_eq_true rfl
      clear hx e1 e2 hjl
      go_wp2_with fail
      go_quiet (fail)
      have HC2 := Lib.hid (HC.out.trans (Chg.drewN' wr nq))
      go_wp2_with fail
      go_roundw
      case rel => exact ⟨j + 1, by go_num, by omega, HC2⟩
      case measure => simp [intOf]; omega
    · have hd : decide ((j : Int) < N) = false := by simp; omega
      go_wp2_with fail
      go_ret
      exact ⟨rfl, HC.out⟩
end Go.Proofs.YtgmmglmokkcgeaaGreat
/- Walks: maps.EqualFunc of the same commits; Same of two states that are the same. -/
namespace Go.Proofs.YtgmmglmokkcgeaaGreat
set_option linter.unusedVariables false
set_option linter.unusedSimpArgs false
set_option linter.unusedSectionVars false
open Go.RowKit Mk Go.Sort

theorem enters_of {P : Program} {f : FuncId} {fn : Func} {c : Code} (hf : P.funcs[f]? = some fn) (hname : (fn.name == "runtime.NumGoroutine") = false) (hb : fn.body = some c) : ∀ args u, (callFunc f args).run P u = .ok (.enter f args) u := by
  intro args w
  have h1 : fn.name ≠ "runtime.NumGoroutine" := by simpa using hname
  simp [callFunc, hf, h1, hb, mark]
theorem nodup_le {K : Type} [DecidableEq K] {A B : List K} (ha : A.Nodup) (hs : ∀ x ∈ A, x ∈ B) : A.length ≤ B.length := by
  induction A generalizing B with
  | nil => simp
  | cons x A ih =>
    obtain ⟨h1, h2⟩ := List.nodup_cons.1 ha
    have hx := hs x (by simp)
    have := ih (B := B.erase x) h2 (fun y hy => (List.mem_erase_of_ne (fun (e : y = x) => h1 (by rw [← e]; exact hy))).2 (hs y (by simp [hy])))
    rw [List.length_erase_of_mem hx] at this
    have hl := List.length_pos_of_mem hx
    simp only [List.length_cons]
    omega
section
variable {w w' : World} {b b2 : Nat} {R R2 : Loc} {F F2 : Nat → Prop} {n : OM}
theorem OrRep.hasRow (h : OrRep w b R F n) (x : ByteArray) : x ∈ R.rows.map (·.1) ↔ n.com x ≠ [] := by
  constructor
  · intro hx
    obtain ⟨p, hp, rfl⟩ := List.mem_map.1 hx
    exact h.full p hp
  · intro hx
    cases hk : lk R.rows x with
    | none => exact absurd (h.gone x hk) hx
    | some v => exact List.mem_map.2 ⟨(x, v), lk_mem hk, rfl⟩
theorem OrRep.rows_le (h : OrRep w b R F n) (h2 : OrRep w b2 R2 F2 n) : R.rows.length ≤ R2.rows.length := by
  have := nodup_le (A := R.rows.map (·.1)) (B := R2.rows.map (·.1)) (by
    unfold List.Nodup
    rw [List.pairwise_map]
    exact h.com.apart) (fun x hx => (h2.hasRow x).2 ((h.hasRow x).1 hx))
  simpa using this
/-- Behind some rounds. -/
theorem OrRep.rowOf (h : OrRep w b R F n) (h2 : OrRep w b2 R2 F2 n) {x : ByteArray} {v : Value} (hm : (x, v) ∈ R.rows) : ∃ v2, lk R2.rows x = some v2 ∧ sl w 24 1 v2 (n.com x).length (timesV (n.com x)) := by
  have hx := (h2.hasRow x).2 (h.full _ hm)
  cases hk : lk R2.rows x with
  | none => exact absurd (h2.gone x hk) (h.full _ hm)
  | some v2 => exact ⟨v2, rfl, h2.rows _ (lk_mem hk)⟩
set_option maxRecDepth 100000 in
set_option maxHeartbeats 4000000 in
theorem equalC (h1 : OrRep w b R F n) (h2 : OrRep w b2 R2 F2 n) :
    Calls Tryz.prog 40 #[.map (some R.c), .map (some R2.c), .func (.func 41) #[] #[]] w fun e w' => e = .returned (.bool true) ∧ Chg (fun _ => False) w w' := by
  have e41 := enters_of Tryz.func41 (by kernel_rfl) rfl
  have hln : R.rows.length = R2.rows.length := Nat.le_antisymm (h1.rows_le h2) (h2.rows_le h1)
  have hl1 := fun ty => run_len (P := Tryz.prog) Tryz.underlying34 h1.com ty
  have hl2 := fun ty => run_len (P := Tryz.prog) Tryz.underlying34 h2.com ty
  rw [← hln] at hl2
  obtain ⟨it, hrg, ho⟩ := h1.com.range (P := Tryz.prog) Tryz.underlying34
  have HA := Lib.hid (show EqAt okS kvS w R.c R.rows R.rows (w.alloc it) from ⟨ho, (Chg.refl _ _).alloc _⟩)
  have H1 := Lib.hid h1
  have H2 := Lib.hid h2
  obtain ⟨ln, HLN⟩ : ∃ k, Hid ((R.rows.length : Int) = k) := ⟨_, Lib.hid rfl⟩
  rw [HLN.out] at hl1 hl2
  have ql : decide (ln = ln) = true := decide_eq_true rfl
  have ql' : (ln == ln) = true := by simp
  have HOK := Lib.hid (show ∀ p ∈ R.rows, okS p.1 from by obtain ⟨_, _, _, E⟩ := h1.com; exact E.ok)
  clear ho h1 h2 hln
  go_enter Tryz.func40, Tryz.ntmps40
  go_wp2_with fail
  go_loopw [] (fun wr => ∃ left, Hid (EqAt okS kvS w R.c R.rows left wr)) (fun wr => wr.rangeLeft R.c w.heap.size)
  case atStart => exact ⟨_, HA⟩
  case round =>
    obtain ⟨left, HU⟩ := hrel
    rcases HU.out.over.next (P := Tryz.prog) with ⟨h0, hn⟩ | ⟨a, p, bb, w1, h0, hn, hc, hsz, ho, hen⟩
    · clear HA
      go_wp2_with fail
      go_ret
      exact ⟨rfl, HU.out.chg⟩
    · obtain ⟨x, v⟩ := p
      have HO := Lib.hid ho
      have hen' := hen w1 rfl rfl
      have hC1 := HU.out.chg.trans' hc (fun i hi => Or.inr (by omega))
      have HC1 := Lib.hid hC1
      have hm : (x, v) ∈ R.rows := HU.out.over.sub.subset (by rw [h0]; simp)
      have r1 := H1.out.same hC1
      have r2 := H2.out.same hC1
      have hs1 := r1.rows _ hm
      obtain ⟨v2, hk, hs2⟩ := r1.rowOf r2 hm
      have hlk := run_lookup keysS Tryz.underlying34 (z := .slice none 0 0) (w := w1) (by simp [go_sem]) r2.com (HOK.out _ hm) true
      rw [hk] at hlk
      simp only [if_true, Option.getD_some, Option.isSome_some] at hlk
      obtain ⟨o1, c1, e1⟩ := sl_shape hs1
      obtain ⟨o2, c2, e2⟩ := sl_shape hs2
      simp only at e1
      subst e1 e2
      have SE := Lib.hid (seq_any hs1 hs2)
      have H0 := Lib.hid h0
      clear hen h0 hc ho hsz hrg HA hC1 hk hm r1 r2 hs1 hs2
      go_wp2_with fail
      refine SE.out.mono ?_
      rintro e w2 ⟨rfl, c2⟩
      have HO2 := Lib.hid (rangeAt.stay (ok := okS) (kv := kvS) HO.out (c2.block _ HO.out.lt.1 (fun f => f)) (c2.block _ HO.out.lt.2.1 (fun f => f)))
      have HC2 := Lib.hid (HC1.out.trans c2)
      clear c2
      go_wp2_with fail
      go_roundw
      case rel => exact ⟨a ++ bb, Lib.hid ⟨HO2.out, HC2.out⟩⟩
      case measure => rw [HO2.out.left_eq, HU.out.over.left_eq, H0.out]; simp
end
end Go.Proofs.YtgmmglmokkcgeaaGreat
/- Walks: Same. Printed by genS8.py. -/
namespace Go.Proofs.YtgmmglmokkcgeaaGreat
set_option linter.unusedVariables false
set_option linter.unusedSimpArgs false
set_option linter.unusedSectionVars false
open Go.RowKit Mk Go.Sort

section
variable {w w' : World} {b c : Nat} {R R2 : Loc} {F F2 : Nat → Prop} {n n2 : OM}
set_option maxRecDepth 100000 in
set_option maxHeartbeats 8000000 in
theorem same_no (hx : OrRep w b R F n) (hy : OrRep w c R2 F2 n2) (ht : n.time ≠ n2.time) :
    Calls Tryz.prog 16 #[.pointer (some ⟨b, 0, none⟩), .pointer (some ⟨c, 0, none⟩)] w fun e w' => e = .returned (.bool false) ∧ Chg (fun _ => False) w w' := by
  have N1 : ∀ (d : Nat) (os : Array Obj), Calls Tryz.prog 29 #[.pointer (some ⟨b, 0, none⟩)] (grow (redrawn w d) os) fun e w'' => e = .returned (.bool false) ∧ ∃ p : Regrown, w'' = grow (redrawn w p.d) p.os := fun d os => Calls.regrown_of (((fun {u : World} (c : Chg (fun _ => False) w u) => (none_any (hx.same c)).mono (fun e w2 hh => (⟨hh.1, by rw [hh.2]; exact Chg.refl _ _⟩ : e = .returned (.bool false) ∧ Chg (fun _ => False) u w2))) (chg_of_below (below_regrown w d os))).mono fun e w' hh => ⟨hh.1, below_of_chg hh.2⟩)
  have N2 : ∀ (d : Nat) (os : Array Obj), Calls Tryz.prog 29 #[.pointer (some ⟨c, 0, none⟩)] (grow (redrawn w d) os) fun e w'' => e = .returned (.bool false) ∧ ∃ p : Regrown, w'' = grow (redrawn w p.d) p.os := fun d os => Calls.regrown_of (((fun {u : World} (c : Chg (fun _ => False) w u) => (none_any (hy.same c)).mono (fun e w2 hh => (⟨hh.1, by rw [hh.2]; exact Chg.refl _ _⟩ : e = .returned (.bool false) ∧ Chg (fun _ => False) u w2))) (chg_of_below (below_regrown w d os))).mono fun e w' hh => ⟨hh.1, below_of_chg hh.2⟩)
  have x1 : w.cell? ⟨b, 1, none⟩ = some (.int .u64 (n.time : Nat)) := hx.c1
  have gx1 := fun p os => cell_regrown x1 p os
  have y1 : w.cell? ⟨c, 1, none⟩ = some (.int .u64 (n2.time : Nat)) := hy.c1
  have gy1 := fun p os => cell_regrown y1 p os
  have v1 : ((n.time : Int) == (n2.time : Int)) = false := by rw [beq_eq_false_iff_ne]; omega
  have v2 : decide (n.time = n2.time) = false := decide_eq_false ht
  have v3 : decide ((n.time : Int) = (n2.time : Int)) = false := decide_eq_false (by omega)
  clear hx hy
  go_enter Tryz.func16, Tryz.ntmps16
  go_wp2_with fail
  refine wp_region_quiet_below (by kernel_rfl) (by kernel_rfl) ?_
  simp only [List.append_eq, List.cons_append, List.nil_append]
  repeat (go_big_quiet_step (first | (with_reducible exact N1 _ _) | (with_reducible exact N2 _ _)))
  refine wpQuiet_nil ?_
  intro _ hw'
  obtain ⟨⟨dq, osq⟩, hw''⟩ := hw'
  subst hw''
  have HC := Lib.hid (chg_of_below (below_regrown w dq osq))
  go_wp2_with fail
  go_ret
  exact ⟨rfl, HC.out⟩
set_option maxRecDepth 100000 in
set_option maxHeartbeats 16000000 in
theorem same_yes (hx : OrRep w b R F n) (hy : OrRep w c R2 F2 n) :
    Calls Tryz.prog 16 #[.pointer (some ⟨b, 0, none⟩), .pointer (some ⟨c, 0, none⟩)] w fun e w' => e = .returned (.bool true) ∧ Chg (fun _ => False) w w' := by
  have N1 : ∀ (d : Nat) (os : Array Obj), Calls Tryz.prog 29 #[.pointer (some ⟨b, 0, none⟩)] (grow (redrawn w d) os) fun e w'' => e = .returned (.bool false) ∧ ∃ p : Regrown, w'' = grow (redrawn w p.d) p.os := fun d os => Calls.regrown_of (((fun {u : World} (c : Chg (fun _ => False) w u) => (none_any (hx.same c)).mono (fun e w2 hh => (⟨hh.1, by rw [hh.2]; exact Chg.refl _ _⟩ : e = .returned (.bool false) ∧ Chg (fun _ => False) u w2))) (chg_of_below (below_regrown w d os))).mono fun e w' hh => ⟨hh.1, below_of_chg hh.2⟩)
  have N2 : ∀ (d : Nat) (os : Array Obj), Calls Tryz.prog 29 #[.pointer (some ⟨c, 0, none⟩)] (grow (redrawn w d) os) fun e w'' => e = .returned (.bool false) ∧ ∃ p : Regrown, w'' = grow (redrawn w p.d) p.os := fun d os => Calls.regrown_of (((fun {u : World} (c : Chg (fun _ => False) w u) => (none_any (hy.same c)).mono (fun e w2 hh => (⟨hh.1, by rw [hh.2]; exact Chg.refl _ _⟩ : e = .returned (.bool false) ∧ Chg (fun _ => False) u w2))) (chg_of_below (below_regrown w d os))).mono fun e w' hh => ⟨hh.1, below_of_chg hh.2⟩)
  have M37 : ∀ (d : Nat) (os : Array Obj), Calls Tryz.prog 37 #[.map (some R.d), .map (some R2.d)] (grow (redrawn w d) os) fun e w'' => e = .returned (.bool true) ∧ ∃ p : Regrown, w'' = grow (redrawn w p.d) p.os := fun d os => Calls.regrown_of (((fun {u : World} (c : Chg (fun _ => False) w u) => equalD (hx.same c).dec (hy.same c).dec) (chg_of_below (below_regrown w d os))).mono fun e w' hh => ⟨hh.1, below_of_chg hh.2⟩)
  have M38 : ∀ (d : Nat) (os : Array Obj), Calls Tryz.prog 38 #[.map (some R.l), .map (some R2.l)] (grow (redrawn w d) os) fun e w'' => e = .returned (.bool true) ∧ ∃ p : Regrown, w'' = grow (redrawn w p.d) p.os := fun d os => Calls.regrown_of (((fun {u : World} (c : Chg (fun _ => False) w u) => equalL (hx.same c).las (hy.same c).las) (chg_of_below (below_regrown w d os))).mono fun e w' hh => ⟨hh.1, below_of_chg hh.2⟩)
  have M39 : ∀ (d : Nat) (os : Array Obj), Calls Tryz.prog 39 #[.map (some R.t), .map (some R2.t)] (grow (redrawn w d) os) fun e w'' => e = .returned (.bool true) ∧ ∃ p : Regrown, w'' = grow (redrawn w p.d) p.os := fun d os => Calls.regrown_of (((fun {u : World} (c : Chg (fun _ => False) w u) => equalT (hx.same c).tab (hy.same c).tab) (chg_of_below (below_regrown w d os))).mono fun e w' hh => ⟨hh.1, below_of_chg hh.2⟩)
  have M40 : ∀ (d : Nat) (os : Array Obj), Calls Tryz.prog 40 #[.map (some R.c), .map (some R2.c), .func (.func 41) #[] #[]] (grow (redrawn w d) os) fun e w'' => e = .returned (.bool true) ∧ ∃ p : Regrown, w'' = grow (redrawn w p.d) p.os := fun d os => Calls.regrown_of (((fun {u : World} (c : Chg (fun _ => False) w u) => equalC (hx.same c) (hy.same c)) (chg_of_below (below_regrown w d os))).mono fun e w' hh => ⟨hh.1, below_of_chg hh.2⟩)
  have x1 : w.cell? ⟨b, 1, none⟩ = some (.int .u64 (n.time : Nat)) := hx.c1
  have gx1 := fun p os => cell_regrown x1 p os
  have x2 : w.cell? ⟨b, 2, none⟩ = some (.int .u64 (n.uid : Nat)) := hx.c2
  have gx2 := fun p os => cell_regrown x2 p os
  have x3 : w.cell? ⟨b, 3, none⟩ = some (.int .u64 (n.mark : Nat)) := hx.c3
  have gx3 := fun p os => cell_regrown x3 p os
  have x4 : w.cell? ⟨b, 4, none⟩ = some (.map (some R.d)) := hx.c4
  have gx4 := fun p os => cell_regrown x4 p os
  have x5 : w.cell? ⟨b, 5, none⟩ = some (.map (some R.l)) := hx.c5
  have gx5 := fun p os => cell_regrown x5 p os
  have x6 : w.cell? ⟨b, 6, none⟩ = some (.map (some R.t)) := hx.c6
  have gx6 := fun p os => cell_regrown x6 p os
  have x7 : w.cell? ⟨b, 7, none⟩ = some (.map (some R.c)) := hx.c7
  have gx7 := fun p os => cell_regrown x7 p os
  have y1 : w.cell? ⟨c, 1, none⟩ = some (.int .u64 (n.time : Nat)) := hy.c1
  have gy1 := fun p os => cell_regrown y1 p os
  have y2 : w.cell? ⟨c, 2, none⟩ = some (.int .u64 (n.uid : Nat)) := hy.c2
  have gy2 := fun p os => cell_regrown y2 p os
  have y3 : w.cell? ⟨c, 3, none⟩ = some (.int .u64 (n.mark : Nat)) := hy.c3
  have gy3 := fun p os => cell_regrown y3 p os
  have y4 : w.cell? ⟨c, 4, none⟩ = some (.map (some R2.d)) := hy.c4
  have gy4 := fun p os => cell_regrown y4 p os
  have y5 : w.cell? ⟨c, 5, none⟩ = some (.map (some R2.l)) := hy.c5
  have gy5 := fun p os => cell_regrown y5 p os
  have y6 : w.cell? ⟨c, 6, none⟩ = some (.map (some R2.t)) := hy.c6
  have gy6 := fun p os => cell_regrown y6 p os
  have y7 : w.cell? ⟨c, 7, none⟩ = some (.map (some R2.c)) := hy.c7
  have gy7 := fun p os => cell_regrown y7 p os
  have v1 : ((n.time : Int) == (n.time : Int)) = true := by simp
  have v2 : ((n.uid : Int) == (n.uid : Int)) = true := by simp
  have v3 : ((n.mark : Int) == (n.mark : Int)) = true := by simp
  clear hx hy
  go_enter Tryz.func16, Tryz.ntmps16
  go_wp2_with fail
  refine wp_region_quiet_below (by kernel_rfl) (by kernel_rfl) ?_
  simp only [List.append_eq, List.cons_append, List.nil_append]
  repeat (go_big_quiet_step (first | (with_reducible exact N1 _ _) | (with_reducible exact N2 _ _) | (with_reducible exact M37 _ _) | (with_reducible exact M38 _ _) | (with_reducible exact M39 _ _) | (with_reducible exact M40 _ _)))
  refine wpQuiet_nil ?_
  intro _ hw'
  obtain ⟨⟨dq, osq⟩, hw''⟩ := hw'
  subst hw''
  have HC := Lib.hid (chg_of_below (below_regrown w dq osq))
  go_wp2_with fail
  go_ret
  exact ⟨rfl, HC.out⟩
end
end Go.Proofs.YtgmmglmokkcgeaaGreat
