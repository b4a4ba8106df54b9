/- Walks: rising, lists. -/
import Derived.Test.YtgmmglmokkcgeaaGreatA1
import Derived.BigQuiet
import Derived.Lib.QuietBelow
namespace Go.Proofs.YtgmmglmokkcgeaaGreat
set_option linter.unusedVariables false
set_option linter.unusedSimpArgs false
open Go.RowKit Mk Go.Sort

theorem regrown_below {P : Program} {f : FuncId} {args : Array Value} {v : Value} (w : World)
    (h : ∀ u : World, Calls P f args u fun e w' => e = .returned v ∧ Below u.heap.size u w') :
    ∀ (d : Nat) (os : Array Obj), Calls P f args (grow (redrawn w d) os) fun e w'' => e = .returned v ∧ ∃ p : Regrown, w'' = grow (redrawn w p.d) p.os :=
  fun d os => Calls.regrown_of (h _)
theorem chg_of_below {w w' : World} (h : Below w.heap.size w w') : Chg (fun _ => False) w w' := ⟨h.os, h.tape, h.output, h.size, fun i hi _ => h.block i hi⟩
theorem below_of_chg {w w' : World} (h : Chg (fun _ => False) w w') : Below w.heap.size w w' := h.below (fun _ f => f.elim) (Nat.le_refl _)
/-- The slice has these texts. -/
structure StrsAt (w : World) (so : Option Addr) (xs : List ByteArray) : Prop where
  len : xs.length ≤ 9223372036854775807
  cell : ∀ i (h : i < xs.length), ∃ g o, so = some ⟨g, o, none⟩ ∧ g < w.heap.size ∧ w.cell? ⟨g, o + i, none⟩ = some (.string xs[i])
theorem StrsAt.stay {w w' : World} {so : Option Addr} {xs : List ByteArray} (h : StrsAt w so xs) (hs : ∀ g, g < w.heap.size → w'.heap[g]? = w.heap[g]?) (hz : w.heap.size ≤ w'.heap.size) : StrsAt w' so xs where
  len := h.len
  cell i hi := by
    obtain ⟨g, o, e, hg, hc⟩ := h.cell i hi
    exact ⟨g, o, e, by omega, (World.cell?_of_block (a := ⟨g, o + i, none⟩) (hs g hg)).trans hc⟩
theorem StrsAt.same {w w' : World} {so : Option Addr} {xs : List ByteArray} (h : StrsAt w so xs) (c : Chg (fun _ => False) w w') : StrsAt w' so xs := h.stay (fun g hg => c.block g hg (fun f => f)) c.size
/-- The slice has these needs. -/
structure NeedsAt (w : World) (so : Option Addr) (xs : List (ByteArray × Nat)) : Prop where
  len : xs.length ≤ 9223372036854775807
  cell : ∀ i (h : i < xs.length), ∃ g o, so = some ⟨g, o, none⟩ ∧ g < w.heap.size ∧ w.cell? ⟨g, o + i * 2, none⟩ = some (.string xs[i].1) ∧ w.cell? ⟨g, o + i * 2 + 1, none⟩ = some (.int .u64 (xs[i].2 : Nat))
  lim : ∀ x ∈ xs, x.2 < 18446744073709551616
  sz : ∀ x ∈ xs, x.1.size ≤ maxLen
theorem NeedsAt.stay {w w' : World} {so : Option Addr} {xs : List (ByteArray × Nat)} (h : NeedsAt w so xs) (hs : ∀ g, g < w.heap.size → w'.heap[g]? = w.heap[g]?) (hz : w.heap.size ≤ w'.heap.size) : NeedsAt w' so xs where
  len := h.len
  lim := h.lim
  sz := h.sz
  cell i hi := by
    obtain ⟨g, o, e, hg, hc, hd⟩ := h.cell i hi
    exact ⟨g, o, e, by omega, (World.cell?_of_block (a := ⟨g, o + i * 2, none⟩) (hs g hg)).trans hc, (World.cell?_of_block (a := ⟨g, o + i * 2 + 1, none⟩) (hs g hg)).trans hd⟩
theorem NeedsAt.same {w w' : World} {so : Option Addr} {xs : List (ByteArray × Nat)} (h : NeedsAt w so xs) (c : Chg (fun _ => False) w w') : NeedsAt w' so xs := h.stay (fun g hg => c.block g hg (fun f => f)) c.size
theorem Chg.drewN' (w : World) (m : Nat) : Chg (fun _ => False) w (w.drewN m) := ⟨rfl, rfl, rfl, Nat.le_refl _, fun _ _ _ => rfl⟩

theorem id71 (s : ByteArray) (w : World) : Calls Tryz.prog 107 #[.string s] w fun e w' => e = .returned (.string s) ∧ w' = w := by
  go_enter Tryz.func107, Tryz.ntmps107
  go_wp2
  go_ret
  exact ⟨rfl, rfl⟩
theorem id73 (s : ByteArray) (t : Int) (w : World) : Calls Tryz.prog 109 #[.agg #[.string s, .int .u64 t]] w fun e w' => e = .returned (.string s) ∧ w' = w.alloc (.cells #[.string s, .int .u64 t] 109) := by
  go_enter Tryz.func109, Tryz.ntmps109
  go_wp2
  go_ret
  exact ⟨rfl, rfl⟩
/-- A list rises, from its j-th on. -/
theorem rising_step {l : List ByteArray} {j : Nat} (h1 : 1 ≤ j) (h : j < l.length) : risingM (l.drop (j - 1)) = (lessB l[j - 1] l[j] && risingM (l.drop j)) := by
  have e1 := List.drop_eq_getElem_cons (l := l) (i := j - 1) (by omega)
  have e2 := List.drop_eq_getElem_cons (l := l) (i := j) h
  rw [show j - 1 + 1 = j by omega] at e1
  rw [e1, e2]
  rfl
theorem rising_end {l : List ByteArray} {j : Nat} (h : l.length ≤ j) : risingM (l.drop (j - 1)) = true := by
  have : (l.drop (j - 1)).length ≤ 1 := by rw [List.length_drop]; omega
  match hh : l.drop (j - 1), this with
  | [], _ => rfl
  | [_], _ => rfl

set_option maxRecDepth 100000 in
set_option maxHeartbeats 2000000 in
theorem rising_strs {w : World} {so : Option Addr} {sc : Nat} {xs : List ByteArray} (h : StrsAt w so xs) :
    Calls Tryz.prog 106 #[.slice so xs.length sc, .func (.func 107) #[] #[]] w fun e w' => e = .returned (.bool (risingM xs)) ∧ Chg (fun _ => False) w w' := by
  have H := Lib.hid h
  obtain ⟨N, hN⟩ : ∃ N, xs.length = N := ⟨_, rfl⟩
  have hlen := h.len
  rw [hN] at hlen ⊢
  have HN := Lib.hid hN
  obtain ⟨Rr, HR⟩ : ∃ b, Hid (risingM xs = b) := ⟨_, Lib.hid rfl⟩
  rw [HR.out]
  clear h hN
  go_enter Tryz.func106, Tryz.ntmps106
  go_wp2
  go_loopw [5] (fun i wr => ∃ j : Nat, i = .int .i64 j ∧ 1 ≤ j ∧ j ≤ N + 1 ∧ Hid (risingM xs = risingM (xs.drop (j - 1))) ∧ Hid (Chg (fun _ => False) w wr)) (fun i _ => N + 1 - (intOf i).toNat)
  case atStart => exact ⟨1, rfl, by omega, by omega, Lib.hid rfl, Lib.hid (Chg.refl _ _)⟩
  case round =>
    obtain ⟨j, rfl, hj1, hj, HP, HC⟩ := hrel
    by_cases hlt : j < N
    · have hd : decide ((j : Int) < N) = true := by simp; omega
      have hjl : j < xs.length := by rw [HN.out]; exact hlt
      obtain ⟨g, o, rfl, hg, a1⟩ := (H.out.same HC.out).cell j hjl
      obtain ⟨g', o', e', _, a0⟩ := (H.out.same HC.out).cell (j - 1) (by omega)
      simp only [Option.some.injEq, Addr.mk.injEq, and_true] at e'
      obtain ⟨rfl, rfl⟩ := e'
      have hst := rising_step hj1 hjl
      generalize xs[j] = y at *
      generalize xs[j - 1] = x at *
      have q0 : (0 : Int) ≤ (j : Int) - 1 := by omega
      have q1 : (j : Int) - 1 < N := by omega
      have q2 : (0 : Int) ≤ (j : Int) := by omega
      have q3 : (j : Int) < N := by omega
      have q4 : IntKind.i64.wrap ((j : Int) - 1) = (j : Int) - 1 := by simp only [IntKind.wrap, IntKind.bits, IntKind.signed]; simp; omega
      have q5 : ((j : Int) - 1).toNat = j - 1 := by omega
      have I1 := Lib.hid (fun m => id71 x (wr.drewN m))
      have I2 := Lib.hid (fun m => id71 y (wr.drewN m))
      have HST := Lib.hid hst
      clear hst
      go_wp2_with fail
      go_quiet (first | (with_reducible refine (I1.out _).mono ?_); exact (fun e w' h => ⟨h.1, _, h.2⟩) | (with_reducible refine (I2.out _).mono ?_); exact (fun e w' h => ⟨h.1, _, h.2⟩))
      have HC2 := Lib.hid (HC.out.trans (Chg.drewN' wr nq))
      clear I1 I2 a0 a1
      obtain ⟨bb, hbb⟩ : ∃ bb, Op.bytesLess x.toList y.toList = bb := ⟨_, rfl⟩
      have hbb' : lessB x y = bb := hbb
      rw [hbb]
      cases bb
      · have : Rr = false := by rw [← HR.out, HP.out, HST.out, hbb']; rfl
        subst this
        go_wp2
        go_ret
        exact ⟨rfl, HC2.out⟩
      · have HP2 : Hid (risingM xs = risingM (xs.drop (j + 1 - 1))) := Lib.hid (by rw [HP.out, HST.out, hbb', Nat.add_sub_cancel]; rfl)
        go_wp2
        go_roundw
        case rel => exact ⟨j + 1, by go_num, by omega, by omega, HP2, HC2⟩
        case measure => simp [intOf]; omega
    · have hd : decide ((j : Int) < N) = false := by simp; omega
      have : Rr = true := by rw [← HR.out, HP.out, rising_end (by rw [HN.out]; omega)]
      subst this
      go_wp2
      go_ret
      exact ⟨rfl, HC.out⟩
set_option maxRecDepth 100000 in
set_option maxHeartbeats 2000000 in
theorem rising_needs {w : World} {so : Option Addr} {sc : Nat} {xs : List (ByteArray × Nat)} (h : NeedsAt w so xs) :
    Calls Tryz.prog 108 #[.slice so xs.length sc, .func (.func 109) #[] #[]] w fun e w' => e = .returned (.bool (risingM (xs.map (·.1)))) ∧ Chg (fun _ => False) w w' := by
  have H := Lib.hid h
  obtain ⟨N, hN⟩ : ∃ N, xs.length = N := ⟨_, rfl⟩
  have hlen := h.len
  rw [hN] at hlen ⊢
  have HN := Lib.hid hN
  obtain ⟨Rr, HR⟩ : ∃ b, Hid (risingM (xs.map (·.1)) = b) := ⟨_, Lib.hid rfl⟩
  rw [HR.out]
  clear h hN
  go_enter Tryz.func108, Tryz.ntmps108
  go_wp2
  go_loopw [5] (fun i wr => ∃ j : Nat, i = .int .i64 j ∧ 1 ≤ j ∧ j ≤ N + 1 ∧ Hid (risingM (xs.map (·.1)) = risingM ((xs.map (·.1)).drop (j - 1))) ∧ Hid (Chg (fun _ => False) w wr)) (fun i _ => N + 1 - (intOf i).toNat)
  case atStart => exact ⟨1, rfl, by omega, by omega, Lib.hid rfl, Lib.hid (Chg.refl _ _)⟩
  case round =>
    obtain ⟨j, rfl, hj1, hj, HP, HC⟩ := hrel
    by_cases hlt : j < N
    · have hd : decide ((j : Int) < N) = true := by simp; omega
      have hjl : j < xs.length := by rw [HN.out]; exact hlt
      obtain ⟨g, o, rfl, hg, a1, b1⟩ := (H.out.same HC.out).cell j hjl
      obtain ⟨g', o', e', _, a0, b0⟩ := (H.out.same HC.out).cell (j - 1) (by omega)
      simp only [Option.some.injEq, Addr.mk.injEq, and_true] at e'
      obtain ⟨rfl, rfl⟩ := e'
      have hst := rising_step (l := xs.map (·.1)) hj1 (by simpa using hjl)
      simp only [List.getElem_map] at hst
      generalize xs[j].1 = y at *
      generalize xs[j - 1].1 = x at *
      generalize xs[j].2 = yt at *
      generalize xs[j - 1].2 = xt at *
      have q0 : (0 : Int) ≤ (j : Int) - 1 := by omega
      have q1 : (j : Int) - 1 < N := by omega
      have q2 : (0 : Int) ≤ (j : Int) := by omega
      have q3 : (j : Int) < N := by omega
      have q4 : IntKind.i64.wrap ((j : Int) - 1) = (j : Int) - 1 := by simp only [IntKind.wrap, IntKind.bits, IntKind.signed]; simp; omega
      have q5 : ((j : Int) - 1).toNat = j - 1 := by omega
      have q6 : (j - 1) * 2 = (j - 1) * 2 := rfl
      have I1 := regrown_below wr (fun u => (id73 x xt u).mono (fun e w' h => ⟨h.1, by rw [h.2]; exact (Below.refl _ _).alloc (Nat.le_refl _) _⟩))
      have I2 := regrown_below wr (fun u => (id73 y yt u).mono (fun e w' h => ⟨h.1, by rw [h.2]; exact (Below.refl _ _).alloc (Nat.le_refl _) _⟩))
      have c1 := fun p os => cell_regrown a0 p os
      have c2 := fun p os => cell_regrown b0 p os
      have c3 := fun p os => cell_regrown a1 p os
      have c4 := fun p os => cell_regrown b1 p os
      have HST := Lib.hid hst
      clear hst
      go_wp2_with fail
      refine wp_region_quiet_below (by kernel_rfl) (by kernel_rfl) ?_
      repeat (go_big_quiet_step (first | (with_reducible exact I1 _ _) | (with_reducible exact I2 _ _)))
      refine wpQuiet_nil ?_
      intro _ hw'
      obtain ⟨⟨dq, osq⟩, hw''⟩ := hw'
      subst hw''
      have HC2 := Lib.hid (HC.out.trans (chg_of_below (below_regrown wr dq osq)))
      clear I1 I2 a0 a1 b0 b1 c1 c2 c3 c4
      generalize grow (redrawn wr dq) osq = w5 at *
      obtain ⟨bb, hbb⟩ : ∃ bb, Op.bytesLess x.toList y.toList = bb := ⟨_, rfl⟩
      have hbb' : lessB x y = bb := hbb
      rw [hbb]
      cases bb
      · have : Rr = false := by rw [← HR.out, HP.out, HST.out, hbb']; rfl
        subst this
        go_wp2
        go_ret
        exact ⟨rfl, HC2.out⟩
      · have HP2 : Hid (risingM (xs.map (·.1)) = risingM ((xs.map (·.1)).drop (j + 1 - 1))) := Lib.hid (by rw [HP.out, HST.out, hbb', Nat.add_sub_cancel]; rfl)
        go_wp2
        go_roundw
        case rel => exact ⟨j + 1, by go_num, by omega, by omega, HP2, HC2⟩
        case measure => simp [intOf]; omega
    · have hd : decide ((j : Int) < N) = false := by simp; omega
      have : Rr = true := by rw [← HR.out, HP.out, rising_end (by simp only [List.length_map]; rw [HN.out]; omega)]
      subst this
      go_wp2
      go_ret
      exact ⟨rfl, HC.out⟩
end Go.Proofs.YtgmmglmokkcgeaaGreat
