/- The document's net: look, Peek, Len, Parted, Send, Double, Ticks. -/
import Derived.Test.YtpgioccbnkcjcaaP1
namespace Go.Proofs.Ytpgioccbnkcjcaa
open Go.RowKit Mk

section
variable {w : World} {x : Nat} {R : Lay} {F : Nat → Prop} {n : NetM}

theorem peek_pos {n : NetM} {i k j : Int} (hj : 0 ≤ j) (hm : (may n.ms.length i && may n.ms.length k) = true) {p : Nat} (hp : posL n.l (i, k) j.toNat = some p) : ∃ hl : p < n.l.length, peekM n i k j = (n.l[p].txt, 0) ∧ n.l[p].frm = i ∧ n.l[p].to = k ∧ dropL n.l (i, k) j.toNat = n.l.eraseIdx p := by
  obtain ⟨hl, hu, a, b, c, d⟩ := posL_some hp
  refine ⟨hl, ?_, a, b, d⟩
  unfold peekM
  rw [if_pos hm, if_neg (by omega), c]
  simp [List.getD, hu]
theorem peek_none {n : NetM} {i k j : Int} (hj : 0 ≤ j) (hm : (may n.ms.length i && may n.ms.length k) = true) (hp : posL n.l (i, k) j.toNat = none) : peekM n i k j = (⟨#[]⟩, 5) := by
  have := posL_none hp
  unfold peekM
  rw [if_pos hm, if_pos (by omega)]

set_option maxRecDepth 100000 in
theorem rlook_any (h : RefRep w x R F n) (i k j : Int) (hj : i64 j) :
    Calls Try.prog 51 #[.pointer (some ⟨x, 0, none⟩), .int .i64 i, .int .i64 k, .int .i64 j] w fun e w' => (∃ p : Int, e = .returned (.tuple #[.int .i64 p, .int .i64 (peekM n i k j).2]) ∧
      ((peekM n i k j).2 = 0 → ∃ (pn : Nat) (hp : pn < n.l.length), p = pn ∧ n.l[pn].frm = i ∧ n.l[pn].to = k ∧ n.l[pn].txt = (peekM n i k j).1 ∧ dropL n.l (i, k) j.toNat = n.l.eraseIdx pn)) ∧ w' = w := by
  have MI := Lib.hid (rmay_any h i)
  have MK := Lib.hid (rmay_any h k)
  have HF := Lib.hid (fun (u : Nat) (hu : (u : Int) ≤ 9223372036854775807) => rfind_any h i k u hu)
  clear h
  have hj1 := hj.1
  have hj2 := hj.2
  clear hj
  cases hi : may n.ms.length i
  · have hp : peekM n i k j = (⟨#[]⟩, 2) := by unfold peekM; rw [hi]; simp
    rw [hp]
    rw [hi] at MI
    clear hi
    go_enter Try.func51, Try.ntmps51
    go_wp2_with fail
    refine MI.out.mono ?_
    rintro e w' ⟨rfl, rfl⟩
    go_wp2
    go_ret2
    exact ⟨⟨_, rfl, fun h => absurd h (by decide)⟩, rfl⟩
  · cases hk : may n.ms.length k
    · have hp : peekM n i k j = (⟨#[]⟩, 2) := by unfold peekM; rw [hi, hk]; simp
      rw [hp]
      rw [hi] at MI
      rw [hk] at MK
      clear hi hk
      go_enter Try.func51, Try.ntmps51
      go_wp2_with fail
      refine MI.out.mono ?_
      rintro e w' ⟨rfl, rfl⟩
      go_wp2_with fail
      refine MK.out.mono ?_
      rintro e w' ⟨rfl, rfl⟩
      go_wp2
      go_ret2
      exact ⟨⟨_, rfl, fun h => absurd h (by decide)⟩, rfl⟩
    · have hm : (may n.ms.length i && may n.ms.length k) = true := by rw [hi, hk]; rfl
      rw [hi] at MI
      rw [hk] at MK
      by_cases h0 : 0 ≤ j
      · have hd0 : decide (0 ≤ j) = true := by simpa using h0
        obtain ⟨u, rfl⟩ : ∃ u : Nat, j = u := ⟨j.toNat, by omega⟩
        have HF2 := Lib.hid (HF.out u (by omega))
        clear HF
        unfold posI at HF2
        cases hp : posL n.l (i, k) u with
        | none =>
          have hpk := peek_none (n := n) (i := i) (k := k) h0 hm hp
          rw [hpk]
          rw [hp] at HF2
          clear hi hk hm hp hpk
          go_enter Try.func51, Try.ntmps51
          go_wp2_with fail
          refine MI.out.mono ?_
          rintro e w' ⟨rfl, rfl⟩
          go_wp2_with fail
          refine MK.out.mono ?_
          rintro e w' ⟨rfl, rfl⟩
          go_wp2_with fail
          refine HF2.out.mono ?_
          rintro e w' ⟨rfl, rfl⟩
          go_wp2
          go_ret2
          exact ⟨⟨_, rfl, fun h => absurd h (by decide)⟩, rfl⟩
        | some p =>
          obtain ⟨hl, hpk, ha, hb, hdr⟩ := peek_pos (n := n) (i := i) (k := k) h0 hm hp
          rw [hpk]
          rw [hp] at HF2
          have HX := Lib.hid (show ∃ (pn : Nat) (hp : pn < n.l.length), (p : Int) = pn ∧ n.l[pn].frm = i ∧ n.l[pn].to = k ∧ n.l[pn].txt = n.l[p].txt ∧ dropL n.l (i, k) (u : Int).toNat = n.l.eraseIdx pn from ⟨p, hl, rfl, ha, hb, rfl, hdr⟩)
          have hneg : decide ((p : Int) < 0) = false := by simp
          clear hi hk hm hp hpk ha hb hdr
          simp only at HF2
          generalize n.l[p].txt = T at *
          go_enter Try.func51, Try.ntmps51
          go_wp2_with fail
          refine MI.out.mono ?_
          rintro e w' ⟨rfl, rfl⟩
          go_wp2_with fail
          refine MK.out.mono ?_
          rintro e w' ⟨rfl, rfl⟩
          go_wp2_with fail
          refine HF2.out.mono ?_
          rintro e w' ⟨rfl, rfl⟩
          go_wp2
          go_ret2
          exact ⟨⟨_, rfl, fun h => HX.out⟩, rfl⟩
      · have hd0 : decide (0 ≤ j) = false := by simpa using h0
        have hp : peekM n i k j = (⟨#[]⟩, 5) := by unfold peekM; rw [if_pos hm, if_pos (by omega)]
        rw [hp]
        clear hi hk hm hp HF
        go_enter Try.func51, Try.ntmps51
        go_wp2_with fail
        refine MI.out.mono ?_
        rintro e w' ⟨rfl, rfl⟩
        go_wp2_with fail
        refine MK.out.mono ?_
        rintro e w' ⟨rfl, rfl⟩
        go_wp2
        go_ret2
        exact ⟨⟨_, rfl, fun h => absurd h (by decide)⟩, rfl⟩

set_option maxRecDepth 100000 in
theorem rpeek_any (h : RefRep w x R F n) (i k j : Int) (hj : i64 j) :
    Calls Try.prog 38 #[.pointer (some ⟨x, 0, none⟩), .int .i64 i, .int .i64 k, .int .i64 j] w fun e w' => e = .returned (.tuple #[.string (peekM n i k j).1, .int .i64 (peekM n i k j).2]) ∧ w' = w := by
  have HL := rlook_any h i k j hj
  have H := Lib.hid h
  have c1 := h.c1
  have he : (peekM n i k j).2 ≠ 0 → (peekM n i k j).1 = ⟨#[]⟩ := by
    intro h0
    unfold peekM at h0 ⊢
    split
    · split
      · rfl
      · simp_all
    · rfl
  obtain ⟨N, hN⟩ : ∃ N, n.l.length = N := ⟨_, rfl⟩
  rw [hN] at c1
  have HN := Lib.hid hN
  generalize (peekM n i k j).1 = T at *
  generalize (peekM n i k j).2 = c at *
  replace HL := Lib.hid HL
  have HE := Lib.hid he
  clear h hj hN he
  by_cases h0 : c = 0
  · subst h0
    go_enter Try.func38, Try.ntmps38
    go_wp2_with fail
    refine HL.out.mono ?_
    rintro e w' ⟨⟨p, rfl, hp⟩, rfl⟩
    obtain ⟨pn, hpl, rfl, -, -, ht, -⟩ := hp trivial
    obtain ⟨g, hlo, -, -, a2⟩ := H.out.msg hpl
    rw [hlo] at c1
    rw [ht] at a2
    have q0 : (0 : Int) ≤ pn := by omega
    have q1 : (pn : Int) < N := by have := HN.out; omega
    clear hp ht hlo
    go_wp2
    go_ret2
    exact ⟨rfl, rfl⟩
  · have hd : decide (c = 0) = false := by simpa using h0
    rw [HE.out h0]
    go_enter Try.func38, Try.ntmps38
    go_wp2_with fail
    refine HL.out.mono ?_
    rintro e w' ⟨⟨p, rfl, hp⟩, rfl⟩
    clear hp
    go_wp2
    go_ret2
    exact ⟨rfl, rfl⟩

theorem pos_lt {l : List Msg} {x : Lnk} {u : Nat} : (u < (q l x).length → 0 ≤ posI l x u) ∧ ((q l x).length ≤ u → posI l x u = -1) := by
  unfold posI
  cases hp : posL l x u with
  | none => exact ⟨fun h => by have := posL_none hp; omega, fun _ => rfl⟩
  | some k => obtain ⟨_, hu, _⟩ := posL_some hp; exact ⟨fun _ => by simp, fun h => by omega⟩

set_option maxRecDepth 100000 in
theorem rlen_any (h : RefRep w x R F n) (i k : Int) :
    Calls Try.prog 47 #[.pointer (some ⟨x, 0, none⟩), .int .i64 i, .int .i64 k] w fun e w' => e = .returned (.int .i64 (q n.l (i, k)).length) ∧ w' = w := by
  have hq : (q n.l (i, k)).length ≤ 16384 := by
    refine Nat.le_trans ?_ h.under
    simp only [q, List.length_map]
    exact List.length_filter_le _ _
  have HF := Lib.hid (fun (u : Nat) (hu : (u : Int) ≤ 9223372036854775807) => rfind_any h i k u hu)
  have HP := Lib.hid (fun u => pos_lt (l := n.l) (x := (i, k)) (u := u))
  generalize (q n.l (i, k)).length = m at *
  clear h
  go_enter Try.func47, Try.ntmps47
  go_wp2
  go_loop [7] (fun a => ∃ u : Nat, u ≤ m ∧ a = .int .i64 u) (fun a => m - (intOf a).toNat)
  case atStart => exact ⟨0, by omega, rfl⟩
  case round =>
    obtain ⟨u, hu, rfl⟩ := hrel
    have HF2 := Lib.hid (HF.out u (by omega))
    obtain ⟨P, hP⟩ : ∃ P, posI n.l (i, k) u = P := ⟨_, rfl⟩
    rw [hP] at HF2
    by_cases hlt : u < m
    · have hd : decide (0 ≤ P) = true := by have := (HP.out u).1 hlt; rw [hP] at this; simpa using this
      clear hP
      go_wp2_with fail
      refine HF2.out.mono ?_
      rintro e w' ⟨rfl, rfl⟩
      go_wp2
      go_round
      case rel => exact ⟨u + 1, by omega, by go_num⟩
      case measure => simp [intOf]; omega
    · have hum : u = m := by omega
      have hd : decide (0 ≤ P) = false := by have := (HP.out u).2 (by omega); rw [hP] at this; simp; omega
      subst hum
      clear hP
      go_wp2_with fail
      refine HF2.out.mono ?_
      rintro e w' ⟨rfl, rfl⟩
      go_wp2
      go_ret
      exact ⟨rfl, rfl⟩

theorem scell (h : RefRep w x R F n) {j : Nat} (hj : j < n.ms.length) : w.cell? ⟨R.sb, j + 1, none⟩ = some (.bool n.ms[j].side) := h.s.at (by simp [scells, hj])
theorem tcell (h : RefRep w x R F n) {j : Nat} (hj : j < n.ms.length) : w.cell? ⟨R.tb, j + 1, none⟩ = some (.int .i64 n.ms[j].ticks) := h.t.at (by simp [tcells, hj])
theorem dcell (h : RefRep w x R F n) {j : Nat} (hj : j < n.ms.length) : w.cell? ⟨R.db, j + 1, none⟩ = some (.int .u64 (n.ms[j].draws : Nat)) := h.d.at (by simp [dcells, hj])
theorem may_in {n : Nat} {i : Int} (h : may n i = true) : ∃ j : Nat, j < n ∧ i = (j : Int) + 1 ∧ (i - 1).toNat = j := by
  obtain ⟨a, b⟩ := may_good h
  exact ⟨(i - 1).toNat, by omega, by omega, rfl⟩

set_option maxRecDepth 100000 in
set_option maxHeartbeats 1000000 in
theorem rparted_any (h : RefRep w x R F n) (i k : Int) :
    Calls Try.prog 46 #[.pointer (some ⟨x, 0, none⟩), .int .i64 i, .int .i64 k] w fun e w' => e = .returned (.bool (partedM n.ms i k)) ∧ Chg (fun _ => False) w w' := by
  have MI := Lib.hid (fun m => rmay_any (h.stay (Chg.drewN w m) (fun _ _ f => f)) i)
  have MK := Lib.hid (fun m => rmay_any (h.stay (Chg.drewN w m) (fun _ _ f => f)) k)
  have c2 := h.c2
  have H := Lib.hid h
  clear h
  cases hi : may n.ms.length i
  · have hp : partedM n.ms i k = false := by simp [partedM, sideOf, hi]
    rw [hp]
    rw [hi] at MI
    clear hi hp
    go_enter Try.func46, Try.ntmps46
    go_wp2
    go_quiet (exact (MI.out _).mono (fun e w' h => ⟨h.1, _, h.2⟩))
    go_wp2
    go_ret
    exact ⟨rfl, Chg.drewN _ _⟩
  · cases hk : may n.ms.length k
    · have hp : partedM n.ms i k = false := by unfold partedM; cases sideOf n.ms i <;> simp [sideOf, hk]
      rw [hp]
      rw [hi] at MI
      rw [hk] at MK
      clear hi hk hp
      go_enter Try.func46, Try.ntmps46
      go_wp2
      go_quiet (first | (with_reducible refine (MI.out _).mono ?_); exact (fun e w' h => ⟨h.1, _, h.2⟩) | (with_reducible refine (MK.out _).mono ?_); exact (fun e w' h => ⟨h.1, _, h.2⟩))
      go_wp2
      go_ret
      exact ⟨rfl, Chg.drewN _ _⟩
    · obtain ⟨a, ha, rfl, ea⟩ := may_in hi
      obtain ⟨b, hb, rfl, eb⟩ := may_in hk
      have hp : partedM n.ms ((a : Int) + 1) ((b : Int) + 1) = (n.ms[a].side != n.ms[b].side) := by simp [partedM, sideOf, hi, hk, ea, eb, ha, hb]
      have s1 := scell H.out ha
      have s2 := scell H.out hb
      rw [hp]
      generalize n.ms[a].side = sa at *
      generalize n.ms[b].side = sb2 at *
      rw [hi] at MI
      rw [hk] at MK
      have l1 : (a : Int) + 1 < ((n.ms.length + 1 : Nat) : Int) := by omega
      have l2 : (b : Int) + 1 < ((n.ms.length + 1 : Nat) : Int) := by omega
      have l3 : (0 : Int) ≤ (a : Int) + 1 := by omega
      have l4 : (0 : Int) ≤ (b : Int) + 1 := by omega
      have l5 : ((a : Int) + 1).toNat = a + 1 := by omega
      have l6 : ((b : Int) + 1).toNat = b + 1 := by omega
      generalize R.sb = sbk at *
      generalize R.sc = sck at *
      generalize n.ms.length + 1 = M at *
      clear hi hk hp ea eb ha hb
      have HE := Lib.hid (show (sa != sb2) = !(sa == sb2) from rfl)
      rw [HE.out]
      go_enter Try.func46, Try.ntmps46
      go_wp2
      go_quiet (first | (with_reducible refine (MI.out _).mono ?_); exact (fun e w' h => ⟨h.1, _, h.2⟩) | (with_reducible refine (MK.out _).mono ?_); exact (fun e w' h => ⟨h.1, _, h.2⟩))
      go_wp2
      go_ret
      exact ⟨rfl, Chg.drewN _ _⟩

/-- The ticks of a machine, as both say them. -/
def ticksM (n : NetM) (i : Int) : Int := if may n.ms.length i then ((n.ms[(i - 1).toNat]?).map (·.ticks)).getD 0 else 0
theorem rticks_any (h : RefRep w x R F n) (i : Int) :
    Calls Try.prog 45 #[.pointer (some ⟨x, 0, none⟩), .int .i64 i] w fun e w' => e = .returned (.int .i64 (ticksM n i)) ∧ w' = w := by
  have MI := Lib.hid (rmay_any h i)
  have c3 := h.c3
  have H := Lib.hid h
  clear h
  unfold ticksM
  cases hi : may n.ms.length i
  · rw [hi] at MI
    clear hi
    go_enter Try.func45, Try.ntmps45
    go_wp2_with fail
    refine MI.out.mono ?_
    rintro e w' ⟨rfl, rfl⟩
    go_wp2
    go_ret
    exact ⟨rfl, rfl⟩
  · obtain ⟨a, ha, rfl, ea⟩ := may_in hi
    have t1 := tcell H.out ha
    rw [ea, List.getElem?_eq_getElem ha]
    simp only [Option.map_some, Option.getD_some, if_true]
    generalize n.ms[a].ticks = tk at *
    rw [hi] at MI
    have l1 : (a : Int) + 1 < ((n.ms.length + 1 : Nat) : Int) := by omega
    have l3 : (0 : Int) ≤ (a : Int) + 1 := by omega
    have l5 : ((a : Int) + 1).toNat = a + 1 := by omega
    generalize R.tb = tbk at *
    generalize R.tc = tck at *
    generalize n.ms.length + 1 = M at *
    clear hi ea ha
    go_enter Try.func45, Try.ntmps45
    go_wp2_with fail
    refine MI.out.mono ?_
    rintro e w' ⟨rfl, rfl⟩
    go_wp2
    go_ret
    exact ⟨rfl, rfl⟩
theorem ticks_any {w : World} {b r : Nat} {mb : MB} {L : List (Lnk × Value)} {F : Nat → Prop} {n : NetM} (h : NetRep w b r mb L F n) (i : Int) (hi : i64 i) :
    Calls Try.prog 26 #[.pointer (some ⟨b, 0, none⟩), .int .i64 i] w fun e w' => e = .returned (.int .i64 (ticksM n i)) ∧ w' = w := by
  have B := Lib.hid (at_any h.net i hi)
  have H := Lib.hid h
  unfold ticksM
  clear hi h
  cases hm : may n.ms.length i
  · rw [atv_out hm] at B
    clear hm
    go_enter Try.func26, Try.ntmps26
    go_wp2_with fail
    refine B.out.mono ?_
    rintro e w' ⟨rfl, rfl⟩
    go_wp2
    go_ret
    exact ⟨rfl, rfl⟩
  · obtain ⟨j, hj, rfl, ej, ea⟩ := atv_in (mb := mb) hm
    rw [ea] at B
    have c1 := (cell_mach H.out.mach hj).1
    rw [ej, List.getElem?_eq_getElem hj]
    simp only [Option.map_some, Option.getD_some, if_true]
    generalize n.ms[j].ticks = tk at *
    clear hm ej ea hj
    go_enter Try.func26, Try.ntmps26
    go_wp2_with fail
    refine B.out.mono ?_
    rintro e w' ⟨rfl, rfl⟩
    go_wp2
    go_ret
    exact ⟨rfl, rfl⟩
end
end Go.Proofs.Ytpgioccbnkcjcaa
