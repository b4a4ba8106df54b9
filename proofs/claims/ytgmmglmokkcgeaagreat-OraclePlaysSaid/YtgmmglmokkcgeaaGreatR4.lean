/- Walks: what the document's oracle is asked: decided, Decision, Last, tablet, Tablet, Seen. -/
import Derived.Test.YtgmmglmokkcgeaaGreatR3
import Derived.Test.YtgmmglmokkcgeaaGreatB2
import Derived.Deep.CutBlock
import Derived.BigQuiet
namespace Go.Proofs.YtgmmglmokkcgeaaGreat
set_option linter.unusedVariables false
set_option linter.unusedSimpArgs false
set_option linter.unusedSectionVars false
open Go.RowKit Mk Go.Sort

theorem lk_drop {K V : Type} [DecidableEq K] {C : List (K × V)} {c : K} {j : Nat} (hj : j < C.length) : lk (C.drop j) c = if C[j].1 = c then some C[j].2 else lk (C.drop (j + 1)) c := by
  rw [List.drop_eq_getElem_cons hj]
  rfl
theorem lk_ne {K V : Type} [DecidableEq K] : ∀ {L : List (K × V)} {p : K × V} (_ : p ∈ L) {x : K} (_ : p.1 = x), lk L x ≠ none
  | q :: L, p, hp, x, e => by
    have hu : lk (q :: L) x = if q.1 = x then some q.2 else lk L x := rfl
    rw [hu]
    by_cases h : q.1 = x
    · rw [if_pos h]; simp
    · rw [if_neg h]
      rcases List.mem_cons.1 hp with rfl | hp
      · exact absurd e h
      · exact lk_ne hp e
section
variable {w w' : World} {b : Nat} {R : RV} {F G : Nat → Prop} {r : RM}
set_option maxRecDepth 100000 in
set_option maxHeartbeats 4000000 in
theorem rdecided_any (h : RRep w b R F r) (x : Nat) :
    Calls Tryz.prog 99 #[.pointer (some ⟨b, 0, none⟩), .int .u64 (x : Nat)] w fun e w' => e = .returned (.tuple #[.int .u64 ((lk r.d x).getD 0 : Nat), .bool (lk r.d x).isSome]) ∧ w' = w := by
  have H := Lib.hid h
  obtain ⟨vo, vc, hvv⟩ := sl_shape h.d
  have c2 : w.cell? ⟨b, 3, none⟩ = some (.slice vo r.d.length vc) := by rw [← hvv]; exact cell_of h.box rfl
  have hle := h.d.le
  obtain ⟨Z, HZ⟩ : ∃ Z, Hid (lk r.d x = Z) := ⟨_, Lib.hid rfl⟩
  rw [HZ.out]
  obtain ⟨n, hn⟩ : ∃ n, r.d.length = n := ⟨_, rfl⟩
  have HNN := Lib.hid hn
  have HVV := Lib.hid hvv
  rw [hn] at c2 hle
  clear h hn hvv
  simp only [maxLen] at hle
  go_enter Tryz.func99, Tryz.ntmps99
  go_wp2_with fail
  go_loopw [6] (fun i wr => ∃ j : Nat, i = .int .i64 j ∧ j ≤ n ∧ wr = w ∧ Hid (lk (r.d.drop j) x = Z)) (fun i _ => n - (intOf i).toNat)
  case atStart => exact ⟨0, rfl, Nat.zero_le _, rfl, HZ⟩
  case round =>
    obtain ⟨j, rfl, hj, rfl, HK⟩ := hrel
    by_cases hjn : j < n
    · have q1 : decide ((j : Int) < (n : Int)) = true := by simp; omega
      have hjC : j < r.d.length := by rw [HNN.out]; exact hjn
      obtain ⟨g, cap, hv, hg, d0, d1⟩ := H.out.d_at hjC
      rw [HVV.out, HNN.out] at hv
      injection hv with hv1 hv2 hv3
      subst hv1 hv3
      have hstep := lk_drop (c := x) hjC
      rw [HK.out] at hstep
      generalize r.d[j] = p at *
      obtain ⟨k, q⟩ := p
      simp only at d0 d1 hstep
      have l0 : (0 : Int) ≤ j := by omega
      have l1 : (j : Int) < n := by omega
      by_cases hk : k = x
      · have HE := Lib.hid (show Z = some q by rw [hstep, if_pos hk])
        have q2 : ((k : Int) == (x : Int)) = true := by simp; omega
        have q3 : decide ((k : Int) = (x : Int)) = true := by simp; omega
        subst hk
        clear hstep
        go_wp2_with fail
        go_ret2
        exact ⟨by rw [HE.out]; rfl, rfl⟩
      · have HE := Lib.hid (show lk (r.d.drop (j + 1)) x = Z by rw [hstep, if_neg hk])
        have q2 : ((k : Int) == (x : Int)) = false := by simp; omega
        have q3 : decide ((k : Int) = (x : Int)) = false := by simp; omega
        have q4 : decide (k = x) = false := decide_eq_false hk
        clear hstep
        go_wp2_with fail
        go_roundw
        case rel => exact ⟨j + 1, by go_num, by omega, trivial, HE⟩
        case measure => simp [intOf]; omega
    · have q1 : decide ((j : Int) < (n : Int)) = false := by simp; omega
      have HE := Lib.hid (show Z = none by rw [← HK.out, List.drop_eq_nil_of_le (by rw [HNN.out]; omega)]; rfl)
      go_wp2_with fail
      go_ret2
      exact ⟨by rw [HE.out]; rfl, rfl⟩
set_option maxRecDepth 100000 in
set_option maxHeartbeats 4000000 in
theorem rlastq_any (h : RRep w b R F r) (x : ByteArray) :
    Calls Tryz.prog 66 #[.pointer (some ⟨b, 0, none⟩), .string x] w fun e w' => e = .returned (.int .u64 ((lk r.k x).getD 0 : Nat)) ∧ w' = w := by
  have H := Lib.hid h
  obtain ⟨vo, vc, hvv⟩ := sl_shape h.k
  have c2 : w.cell? ⟨b, 4, none⟩ = some (.slice vo r.k.length vc) := by rw [← hvv]; exact cell_of h.box rfl
  have hle := h.k.le
  obtain ⟨Z, HZ⟩ : ∃ Z, Hid (lk r.k x = Z) := ⟨_, Lib.hid rfl⟩
  rw [HZ.out]
  obtain ⟨n, hn⟩ : ∃ n, r.k.length = n := ⟨_, rfl⟩
  have HNN := Lib.hid hn
  have HVV := Lib.hid hvv
  rw [hn] at c2 hle
  clear h hn hvv
  simp only [maxLen] at hle
  go_enter Tryz.func66, Tryz.ntmps66
  go_wp2_with fail
  go_loopw [5] (fun i wr => ∃ j : Nat, i = .int .i64 j ∧ j ≤ n ∧ wr = w ∧ Hid (lk (r.k.drop j) x = Z)) (fun i _ => n - (intOf i).toNat)
  case atStart => exact ⟨0, rfl, Nat.zero_le _, rfl, HZ⟩
  case round =>
    obtain ⟨j, rfl, hj, rfl, HK⟩ := hrel
    by_cases hjn : j < n
    · have q1 : decide ((j : Int) < (n : Int)) = true := by simp; omega
      have hjC : j < r.k.length := by rw [HNN.out]; exact hjn
      obtain ⟨g, cap, hv, hg, d0, d1⟩ := H.out.k_at hjC
      rw [HVV.out, HNN.out] at hv
      injection hv with hv1 hv2 hv3
      subst hv1 hv3
      have hstep := lk_drop (c := x) hjC
      rw [HK.out] at hstep
      generalize r.k[j] = p at *
      obtain ⟨k, q⟩ := p
      simp only at d0 d1 hstep
      have l0 : (0 : Int) ≤ j := by omega
      have l1 : (j : Int) < n := by omega
      by_cases hk : k = x
      · have HE := Lib.hid (show Z = some q by rw [hstep, if_pos hk])
        have q2 : (k.toList == x.toList) = true := by rw [hk]; simp
        subst hk
        clear hstep
        go_wp2_with fail
        go_ret
        exact ⟨by rw [HE.out]; rfl, rfl⟩
      · have HE := Lib.hid (show lk (r.k.drop (j + 1)) x = Z by rw [hstep, if_neg hk])
        have q2 : (k.toList == x.toList) = false := by rw [beq_eq_false_iff_ne]; exact fun e => hk (bytes_inj e)
        clear hstep
        go_wp2_with fail
        go_roundw
        case rel => exact ⟨j + 1, by go_num, by omega, trivial, HE⟩
        case measure => simp [intOf]; omega
    · have q1 : decide ((j : Int) < (n : Int)) = false := by simp; omega
      have HE := Lib.hid (show Z = none by rw [← HK.out, List.drop_eq_nil_of_le (by rw [HNN.out]; omega)]; rfl)
      go_wp2_with fail
      go_ret
      exact ⟨by rw [HE.out]; rfl, rfl⟩
set_option maxRecDepth 100000 in
set_option maxHeartbeats 4000000 in
theorem rdecision_any (h : RRep w b R F r) (x : Nat) :
    Calls Tryz.prog 65 #[.pointer (some ⟨b, 0, none⟩), .int .u64 (x : Nat)] w fun e w' => e = .returned (.tuple #[.int .u64 ((rdecisionM r x).1 : Nat), .bool (rdecisionM r x).2]) ∧ w' = w := by
  have D := Lib.hid (rdecided_any h x)
  have c2 : w.cell? ⟨b, 2, none⟩ = some (.int .u64 (r.mark : Nat)) := cell_of h.box rfl
  obtain ⟨Z, hZ⟩ : ∃ Z, rdecisionM r x = Z := ⟨_, rfl⟩
  rw [hZ]
  unfold rdecisionM at hZ
  generalize lk r.d x = L at *
  clear h
  cases L with
  | some v =>
    rw [if_neg (fun h => by cases h.1)] at hZ
    subst hZ
    simp only [Option.getD_some, Option.isSome_some] at D ⊢
    go_enter Tryz.func65, Tryz.ntmps65
    go_wp2_with fail
    refine D.out.mono ?_
    rintro e w1 ⟨rfl, rfl⟩
    go_wp2_with fail
    go_ret2
    exact ⟨rfl, rfl⟩
  | none =>
    simp only [Option.getD_none, Option.isSome_none] at D hZ
    by_cases h1 : x = 0
    · rw [if_neg (fun h => h.2.1 h1)] at hZ
      subst hZ
      have q1 : ((x : Int) != 0) = false := by rw [h1]; rfl
      have q2 : ((x : Int) == 0) = true := by rw [h1]; rfl
      have q4 : decide (x = 0) = true := decide_eq_true h1
      clear h1
      go_enter Tryz.func65, Tryz.ntmps65
      go_wp2_with fail
      refine D.out.mono ?_
      rintro e w1 ⟨rfl, rfl⟩
      go_wp2_with fail
      go_ret2
      exact ⟨rfl, rfl⟩
    · have q1 : ((x : Int) != 0) = true := by rw [bne_iff_ne]; omega
      have q0 : ((x : Int) == 0) = false := by rw [beq_eq_false_iff_ne]; omega
      have q4 : decide (x = 0) = false := decide_eq_false h1
      by_cases h2 : x < r.mark
      · rw [if_pos ⟨trivial, h1, h2⟩] at hZ
        subst hZ
        have q2 : decide ((x : Int) < (r.mark : Int)) = true := by simp; omega
        have q3 : decide (x < r.mark) = true := decide_eq_true h2
        clear h1 h2
        go_enter Tryz.func65, Tryz.ntmps65
        go_wp2_with fail
        refine D.out.mono ?_
        rintro e w1 ⟨rfl, rfl⟩
        go_wp2_with fail
        go_ret2
        exact ⟨rfl, rfl⟩
      · rw [if_neg (fun h => h2 h.2.2)] at hZ
        subst hZ
        have q2 : decide ((x : Int) < (r.mark : Int)) = false := by simp; omega
        have q3 : decide (x < r.mark) = false := decide_eq_false h2
        clear h1 h2
        go_enter Tryz.func65, Tryz.ntmps65
        go_wp2_with fail
        refine D.out.mono ?_
        rintro e w1 ⟨rfl, rfl⟩
        go_wp2_with fail
        go_ret2
        exact ⟨rfl, rfl⟩
/-- Where a predicate's tablet stands: nowhere. -/
theorem rtab_none (h : RRep w b R F r) (x : ByteArray) (hx : lk r.t x = none) :
    Calls Tryz.prog 104 #[.pointer (some ⟨b, 0, none⟩), .string x] w fun e w' => e = .returned (.int .i64 (-1)) ∧ w' = w := by
  have H := Lib.hid h
  have HX := Lib.hid (show ∀ p ∈ r.t, p.1 ≠ x from fun p hp e => by
    have := lk_ne hp e
    exact this hx)
  obtain ⟨vo, vc, hvv⟩ := sl_shape h.t
  have c2 : w.cell? ⟨b, 5, none⟩ = some (.slice vo r.t.length vc) := by rw [← hvv]; exact cell_of h.box rfl
  have hle := h.t.le
  obtain ⟨n, hn⟩ : ∃ n, r.t.length = n := ⟨_, rfl⟩
  have HNN := Lib.hid hn
  have HVV := Lib.hid hvv
  rw [hn] at c2 hle
  clear h hn hvv hx
  simp only [maxLen] at hle
  go_enter Tryz.func104, Tryz.ntmps104
  go_wp2_with fail
  go_loopw [5] (fun i wr => ∃ j : Nat, i = .int .i64 j ∧ j ≤ n ∧ wr = w) (fun i _ => n - (intOf i).toNat)
  case atStart => exact ⟨0, rfl, Nat.zero_le _, rfl⟩
  case round =>
    obtain ⟨j, rfl, hj, rfl⟩ := hrel
    by_cases hjn : j < n
    · have q1 : decide ((j : Int) < (n : Int)) = true := by simp; omega
      have hjC : j < r.t.length := by rw [HNN.out]; exact hjn
      obtain ⟨g, cap, hv, hg, d0, -⟩ := H.out.t_at hjC
      rw [HVV.out, HNN.out] at hv
      injection hv with hv1 hv2 hv3
      subst hv1 hv3
      have hk := HX.out r.t[j] (List.getElem_mem hjC)
      generalize r.t[j] = p at *
      obtain ⟨k, q⟩ := p
      simp only at d0 hk
      have l0 : (0 : Int) ≤ j := by omega
      have l1 : (j : Int) < n := by omega
      have q2 : (k.toList == x.toList) = false := by rw [beq_eq_false_iff_ne]; exact fun e => hk (bytes_inj e)
      clear hk
      go_wp2_with fail
      go_roundw
      case rel => exact ⟨j + 1, by go_num, by omega, trivial⟩
      case measure => simp [intOf]; omega
    · have q1 : decide ((j : Int) < (n : Int)) = false := by simp; omega
      go_wp2_with fail
      go_ret
      exact ⟨rfl, rfl⟩
/-- Where a predicate's tablet stands: at i. -/
theorem rtab_some (h : RRep w b R F r) (x : ByteArray) {i : Nat} (hi : i < r.t.length) (hx : r.t[i].1 = x) (hb : ∀ j (hj : j < i), r.t[j].1 ≠ x) :
    Calls Tryz.prog 104 #[.pointer (some ⟨b, 0, none⟩), .string x] w fun e w' => e = .returned (.int .i64 (i : Nat)) ∧ w' = w := by
  have H := Lib.hid h
  have HX := Lib.hid hx
  have HB := Lib.hid hb
  obtain ⟨vo, vc, hvv⟩ := sl_shape h.t
  have c2 : w.cell? ⟨b, 5, none⟩ = some (.slice vo r.t.length vc) := by rw [← hvv]; exact cell_of h.box rfl
  have hle := h.t.le
  obtain ⟨n, hn⟩ : ∃ n, r.t.length = n := ⟨_, rfl⟩
  have HNN := Lib.hid hn
  have HVV := Lib.hid hvv
  have HI := Lib.hid hi
  rw [hn] at c2 hle hi
  clear h hn hvv hx hb
  simp only [maxLen] at hle
  go_enter Tryz.func104, Tryz.ntmps104
  go_wp2_with fail
  go_loopw [5] (fun s wr => ∃ j : Nat, s = .int .i64 j ∧ j ≤ i ∧ wr = w) (fun s _ => n - (intOf s).toNat)
  case atStart => exact ⟨0, rfl, Nat.zero_le _, rfl⟩
  case round =>
    obtain ⟨j, rfl, hj, rfl⟩ := hrel
    have hjn : j < n := by omega
    have q1 : decide ((j : Int) < (n : Int)) = true := by simp; omega
    have hjC : j < r.t.length := by rw [HNN.out]; exact hjn
    obtain ⟨g, cap, hv, hg, d0, -⟩ := H.out.t_at hjC
    rw [HVV.out, HNN.out] at hv
    injection hv with hv1 hv2 hv3
    subst hv1 hv3
    have l0 : (0 : Int) ≤ j := by omega
    have l1 : (j : Int) < n := by omega
    by_cases hji : j < i
    · have hk := HB.out j hji
      generalize r.t[j] = p at *
      obtain ⟨k, q⟩ := p
      simp only at d0 hk
      have q2 : (k.toList == x.toList) = false := by rw [beq_eq_false_iff_ne]; exact fun e => hk (bytes_inj e)
      clear hk
      go_wp2_with fail
      go_roundw
      case rel => exact ⟨j + 1, by go_num, by omega, trivial⟩
      case measure => simp [intOf]; omega
    · obtain rfl : i = j := by omega
      have hk := HX.out
      rw [hk] at d0
      have q2 : (x.toList == x.toList) = true := by simp
      clear hk hji
      go_wp2_with fail
      go_ret
      exact ⟨rfl, rfl⟩
theorem tab_find {L : List (ByteArray × Tb)} (ha : Ris lessB L) {x : ByteArray} {t : Tb} (h : lk L x = some t) : ∃ (i : Nat) (hi : i < L.length), L[i] = (x, t) ∧ ∀ j (hj : j < i), L[j].1 ≠ x := by
  obtain ⟨i, hi, e⟩ := List.getElem_of_mem (lk_mem h)
  refine ⟨i, hi, e, fun j hj e2 => ?_⟩
  have := (List.pairwise_iff_getElem.1 ha) j i (by omega) hi hj
  rw [e, e2, lessB_ord.irr] at this
  cases this
end
end Go.Proofs.YtgmmglmokkcgeaaGreat
