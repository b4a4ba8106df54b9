/- Walks: the document's Bytes. -/
import Derived.Test.YtgmmglmokkcgeaaD7
import Derived.BigQuiet
namespace Go.Proofs.Ytgmmglmokkcgeaa
set_option linter.unusedVariables false
set_option linter.unusedSimpArgs false
open Go.RowKit Mk Go.Sort

theorem strNum (L : List UInt8) (x : Nat) : str L ++ numB x = str (L ++ Cod.num x) := (str_append L _).symm
theorem refnum_any (x : Nat) (hx : x < 18446744073709551616) (w : World) : Calls Try.prog 36 #[.int .u64 (x : Nat)] w fun e w' => e = .returned (.string (numB x)) ∧ Below w.heap.size w w' := by
  have N := Lib.hid (show Calls Try.prog 65 #[.int .u64 (x : Nat)] w fun e w' => e = .returned (.string (numB x)) ∧ Below w.heap.size w w' from rnumw_any x hx w)
  generalize numB x = s at *
  go_enter Try.func36, Try.ntmps36
  go_wp2_with fail
  refine N.out.mono ?_
  rintro e w1 ⟨rfl, hb⟩
  have HB := Lib.hid hb
  clear hb N
  go_wp2
  go_ret
  exact ⟨rfl, HB.out⟩
theorem reftext_any (t : ByteArray) (ht : t.size ≤ 1099511627776) (w : World) : Calls Try.prog 38 #[.string t] w fun e w' => e = .returned (.string (textB t)) ∧ Below w.heap.size w w' := rtextw_any t ht w
def textsL (l : List ByteArray) : List UInt8 := Cod.num l.length ++ l.flatMap textL
set_option maxRecDepth 100000 in
set_option maxHeartbeats 1000000 in
theorem texts_any {w : World} {so : Option Addr} {sc : Nat} {xs : List ByteArray} (h : StrsAt w so xs) (hk : xs.all keyP = true) (hl : xs.length ≤ 256) :
    Calls Try.prog 37 #[.slice so xs.length sc] w fun e w' => e = .returned (.string (str (textsL xs))) ∧ Below w.heap.size w w' := by
  have H := Lib.hid h
  have N := Lib.hid (show Calls Try.prog 65 #[.int .u64 (xs.length : Nat)] w fun e w' => e = .returned (.string (str (Cod.num xs.length))) ∧ Below w.heap.size w w' from rnumw_any xs.length (by omega) w)
  have wk : IntKind.u64.wrap ((xs.length : Nat) : Int) = (xs.length : Nat) := by simp only [IntKind.wrap, IntKind.bits, IntKind.signed]; simp; omega
  clear h
  go_enter Try.func37, Try.ntmps37
  go_wp2_with fail
  refine N.out.mono ?_
  rintro e w1 ⟨rfl, hb⟩
  have H0 : Hid (Chg (fun _ => False) w w1) := Lib.hid (chg_of_below hb)
  clear hb N
  have H1 : Hid (str (Cod.num xs.length) = str (Cod.num xs.length ++ (xs.take 0).flatMap textL)) := Lib.hid (by simp)
  go_wp2
  go_loopw [3, 4] (fun s i wr => ∃ (j : Nat) (S : ByteArray), j ≤ xs.length ∧ i = .int .i64 j ∧ s = .string S ∧ Hid (S = str (Cod.num xs.length ++ (xs.take j).flatMap textL)) ∧ Hid (Chg (fun _ => False) w wr)) (fun _ i _ => xs.length - (intOf i).toNat)
  case atStart => exact ⟨0, _, by omega, rfl, rfl, H1, H0⟩
  case round =>
    obtain ⟨j, S, hj, rfl, rfl, HS, HC⟩ := hrel
    clear H0 H1
    by_cases hlt : j < xs.length
    · have q : decide ((j : Int) < xs.length) = true := by simp; omega
      have q' : decide (j < xs.length) = true := by simpa using hlt
      obtain ⟨g, oo, hko, hg, a1⟩ := (H.out.same HC.out).cell j hlt
      have hsz : xs[j].size ≤ 16384 := by
        have := List.all_eq_true.1 hk xs[j] (List.getElem_mem hlt)
        unfold keyP at this; simp at this; exact this.2
      have hln := keys_len hk j
      have hn9 := num_len9 xs.length
      have hSs : S.size ≤ 1073741824 := by rw [HS.out, str_size]; simp only [List.length_append]; omega
      have htb := textB_size xs[j]
      have T := Lib.hid (reftext_any xs[j] (by omega) wr)
      have HS2 : Hid (S ++ textB xs[j] = str (Cod.num xs.length ++ (xs.take (j + 1)).flatMap textL)) := Lib.hid (by rw [HS.out, str_text, flat_snoc xs textL hlt, List.append_assoc])
      generalize textB xs[j] = u at *
      generalize xs[j] = x at *
      have hadd : ∀ v : World, (Op.stringOp .add S u).run Try.prog v = .ok (.string (S ++ u)) v := fun v => run_string_add_sum v S u (by omega)
      have l0 : (0 : Int) ≤ j := by omega
      have l1 : (j : Int) < xs.length := by omega
      clear HS hln hSs
      rw [hko]
      go_wp2_with fail
      refine T.out.mono ?_
      rintro e w3 ⟨rfl, hb⟩
      have HC2 := Lib.hid (HC.out.trans (chg_of_below hb))
      clear hb T
      go_wp2
      go_roundw
      case rel => exact ⟨j + 1, _, by omega, by go_num, rfl, HS2, HC2⟩
      case measure => simp [intOf]; omega
    · obtain rfl : j = xs.length := by omega
      have q : decide ((xs.length : Int) < xs.length) = false := by simp
      have q' : decide (xs.length < xs.length) = false := by simp
      have HF := Lib.hid (show S = str (textsL xs) by rw [HS.out, List.take_length]; rfl)
      go_wp2
      go_ret
      exact ⟨by rw [HF.out]; rfl, below_of_chg HC.out⟩
section
variable {w : World} {o : OpM} {l : OpL}
set_option maxRecDepth 100000 in
set_option maxHeartbeats 4000000 in
theorem rbytes_1 (h : OpAt w o l) (hm : mayM o = true) (hk : o.k = 1) :
    Calls Try.prog 20 #[.agg (opC o l)] w fun e w' => e = .returned (.string (str (bytesL o))) ∧ Chg (fun _ => False) w w' := by
  have hkm : kindM o = true := by unfold mayM at hm; simp at hm; exact hm.1
  have qk1 : (((o.k : Nat) : Int) == 1) = true := by rw [hk]; rfl
  have qk2 : (((o.k : Nat) : Int) == 2) = false := by rw [hk]; rfl
  have qk3 : (((o.k : Nat) : Int) == 3) = false := by rw [hk]; rfl
  have qk4 : (((o.k : Nat) : Int) == 4) = false := by rw [hk]; rfl
  have qk5 : (((o.k : Nat) : Int) == 5) = false := by rw [hk]; rfl
  have qk6 : (((o.k : Nat) : Int) == 6) = false := by rw [hk]; rfl
  have qk7 : (((o.k : Nat) : Int) == 7) = false := by rw [hk]; rfl
  have qk8 : (((o.k : Nat) : Int) == 8) = false := by rw [hk]; rfl
  have qk9 : (((o.k : Nat) : Int) == 9) = false := by rw [hk]; rfl
  have hk256 : o.k < 256 := h.k
  have hlim1 := h.n
  have hlim2 := h.st
  have hlim3 := h.g
  have hlim4 := h.to
  have hlim5 := h.at_
  obtain ⟨W1, HW1⟩ : ∃ W1, Hid ((w.alloc (.cells (opC o l) 34)).alloc (.cells #[.int .u8 (o.k : Nat)] 5) = W1) := ⟨_, Lib.hid rfl⟩
  have hcv : (convert 81 9 (.slice (some ⟨w.heap.size + 1, 0, none⟩) 1 1)).run Try.prog W1 = .ok (.string (str [UInt8.ofNat o.k])) W1 := one_conv o.k W1 _ (by
    rw [Nat.mod_eq_of_lt hk256, ← HW1.out]
    have := Go.heap_alloc_new (w.alloc (.cells (opC o l) 34)) (.cells #[.int .u8 (o.k : Nat)] 5)
    simp only [World.size_alloc] at this
    exact cell_of this rfl)
  have HC1 : Hid (Chg (fun _ => False) w W1) := by rw [← HW1.out]; exact Lib.hid (((Chg.refl _ _).alloc _).alloc _)
  have hkb : W1.heap[w.heap.size]? = some (.cells (opC o l) 34) := by rw [← HW1.out]; exact (Below.heap_alloc _ _ _ (by simp)).trans (Go.heap_alloc_new _ _)
  have HBX := Lib.hid hkb
  have H := Lib.hid h
  have k0 : W1.cell? ⟨w.heap.size, 0, none⟩ = some (.int .u8 (o.k : Nat)) := cell_of hkb rfl
  have k1 : W1.cell? ⟨w.heap.size, 1, none⟩ = some (.int .u32 (o.n : Nat)) := cell_of hkb rfl
  have kr0 : (w.alloc (.cells (opC o l) 34)).cell? ⟨w.heap.size, 0, none⟩ = some (.int .u8 (o.k : Nat)) := cell_of (Go.heap_alloc_new _ _) rfl
  have HK := Lib.hid hk
  have hw : IntKind.u64.wrap ((o.n : Nat) : Int) = (o.n : Nat) := by simp only [IntKind.wrap, IntKind.bits, IntKind.signed]; simp; omega
  have N := Lib.hid (refnum_any o.n (by omega) W1)
  have hnb := numB_size o.n
  have HF := Lib.hid (show str [UInt8.ofNat o.k] ++ numB o.n = str (bytesL o) by rw [strNum]; unfold bytesL bodyL; rw [HK.out]; rfl)
  have hadd : ∀ v : World, (Op.stringOp .add (str [UInt8.ofNat o.k]) (numB o.n)).run Try.prog v = .ok (.string (str [UInt8.ofNat o.k] ++ numB o.n)) v := fun v => run_string_add_sum v _ _ (by rw [str_size]; simp; omega)
  have hkr : ∀ i, i ≠ 0 → True := fun _ _ => trivial
  rw [← HW1.out] at hcv k0 k1
  generalize numB o.n = u at *
  generalize hs1 : str [UInt8.ofNat o.k] = s1 at *
  clear h hm hkm hk hkb
  go_enter Try.func20, Try.ntmps20
  go_wp2_with fail
  rw [HW1.out]
  refine N.out.mono ?_
  rintro e w3 ⟨rfl, hb⟩
  have HC := Lib.hid (HC1.out.trans (chg_of_below hb))
  clear hb N
  go_wp2
  go_ret
  exact ⟨by rw [HF.out]; rfl, HC.out⟩
set_option maxRecDepth 100000 in
set_option maxHeartbeats 4000000 in
theorem rbytes_2 (h : OpAt w o l) (hm : mayM o = true) (hk : o.k = 2) :
    Calls Try.prog 20 #[.agg (opC o l)] w fun e w' => e = .returned (.string (str (bytesL o))) ∧ Chg (fun _ => False) w w' := by
  have hkm : kindM o = true := by unfold mayM at hm; simp at hm; exact hm.1
  have qk1 : (((o.k : Nat) : Int) == 1) = false := by rw [hk]; rfl
  have qk2 : (((o.k : Nat) : Int) == 2) = true := by rw [hk]; rfl
  have qk3 : (((o.k : Nat) : Int) == 3) = false := by rw [hk]; rfl
  have qk4 : (((o.k : Nat) : Int) == 4) = false := by rw [hk]; rfl
  have qk5 : (((o.k : Nat) : Int) == 5) = false := by rw [hk]; rfl
  have qk6 : (((o.k : Nat) : Int) == 6) = false := by rw [hk]; rfl
  have qk7 : (((o.k : Nat) : Int) == 7) = false := by rw [hk]; rfl
  have qk8 : (((o.k : Nat) : Int) == 8) = false := by rw [hk]; rfl
  have qk9 : (((o.k : Nat) : Int) == 9) = false := by rw [hk]; rfl
  have hk256 : o.k < 256 := h.k
  have hlim1 := h.n
  have hlim2 := h.st
  have hlim3 := h.g
  have hlim4 := h.to
  have hlim5 := h.at_
  obtain ⟨W1, HW1⟩ : ∃ W1, Hid ((w.alloc (.cells (opC o l) 34)).alloc (.cells #[.int .u8 (o.k : Nat)] 5) = W1) := ⟨_, Lib.hid rfl⟩
  have hcv : (convert 81 9 (.slice (some ⟨w.heap.size + 1, 0, none⟩) 1 1)).run Try.prog W1 = .ok (.string (str [UInt8.ofNat o.k])) W1 := one_conv o.k W1 _ (by
    rw [Nat.mod_eq_of_lt hk256, ← HW1.out]
    have := Go.heap_alloc_new (w.alloc (.cells (opC o l) 34)) (.cells #[.int .u8 (o.k : Nat)] 5)
    simp only [World.size_alloc] at this
    exact cell_of this rfl)
  have HC1 : Hid (Chg (fun _ => False) w W1) := by rw [← HW1.out]; exact Lib.hid (((Chg.refl _ _).alloc _).alloc _)
  have hkb : W1.heap[w.heap.size]? = some (.cells (opC o l) 34) := by rw [← HW1.out]; exact (Below.heap_alloc _ _ _ (by simp)).trans (Go.heap_alloc_new _ _)
  have HBX := Lib.hid hkb
  have H := Lib.hid h
  have k0 : W1.cell? ⟨w.heap.size, 0, none⟩ = some (.int .u8 (o.k : Nat)) := cell_of hkb rfl
  have k1 : W1.cell? ⟨w.heap.size, 1, none⟩ = some (.int .u32 (o.n : Nat)) := cell_of hkb rfl
  have kr0 : (w.alloc (.cells (opC o l) 34)).cell? ⟨w.heap.size, 0, none⟩ = some (.int .u8 (o.k : Nat)) := cell_of (Go.heap_alloc_new _ _) rfl
  have HK := Lib.hid hk
  have hw : IntKind.u64.wrap ((o.n : Nat) : Int) = (o.n : Nat) := by simp only [IntKind.wrap, IntKind.bits, IntKind.signed]; simp; omega
  have N := Lib.hid (refnum_any o.n (by omega) W1)
  have hnb := numB_size o.n
  have HF := Lib.hid (show str [UInt8.ofNat o.k] ++ numB o.n = str (bytesL o) by rw [strNum]; unfold bytesL bodyL; rw [HK.out]; rfl)
  have hadd : ∀ v : World, (Op.stringOp .add (str [UInt8.ofNat o.k]) (numB o.n)).run Try.prog v = .ok (.string (str [UInt8.ofNat o.k] ++ numB o.n)) v := fun v => run_string_add_sum v _ _ (by rw [str_size]; simp; omega)
  have hkr : ∀ i, i ≠ 0 → True := fun _ _ => trivial
  rw [← HW1.out] at hcv k0 k1
  generalize numB o.n = u at *
  generalize hs1 : str [UInt8.ofNat o.k] = s1 at *
  clear h hm hkm hk hkb
  go_enter Try.func20, Try.ntmps20
  go_wp2_with fail
  rw [HW1.out]
  refine N.out.mono ?_
  rintro e w3 ⟨rfl, hb⟩
  have HC := Lib.hid (HC1.out.trans (chg_of_below hb))
  clear hb N
  go_wp2
  go_ret
  exact ⟨by rw [HF.out]; rfl, HC.out⟩
set_option maxRecDepth 100000 in
set_option maxHeartbeats 4000000 in
theorem rbytes_3 (h : OpAt w o l) (hm : mayM o = true) (hk : o.k = 3) :
    Calls Try.prog 20 #[.agg (opC o l)] w fun e w' => e = .returned (.string (str (bytesL o))) ∧ Chg (fun _ => False) w w' := by
  have hkm : kindM o = true := by unfold mayM at hm; simp at hm; exact hm.1
  have hli : o.keys.all keyP = true ∧ o.needs.all needP = true ∧ o.keys.length ≤ 256 ∧ o.needs.length ≤ 256 := by
    have h1 := hkm
    unfold kindM at h1
    rw [hk] at h1
    simp only [Bool.and_eq_true] at h1
    have h2 := h1.2
    rw [listsM_eq] at h2
    simp only [Bool.and_eq_true, decide_eq_true_eq] at h2
    exact ⟨h2.1.1.1.1.1.1, h2.1.1.1.1.1.2, h2.1.1.1.1.2, h2.1.1.2⟩
  have qk1 : (((o.k : Nat) : Int) == 1) = false := by rw [hk]; rfl
  have qk2 : (((o.k : Nat) : Int) == 2) = false := by rw [hk]; rfl
  have qk3 : (((o.k : Nat) : Int) == 3) = true := by rw [hk]; rfl
  have qk4 : (((o.k : Nat) : Int) == 4) = false := by rw [hk]; rfl
  have qk5 : (((o.k : Nat) : Int) == 5) = false := by rw [hk]; rfl
  have qk6 : (((o.k : Nat) : Int) == 6) = false := by rw [hk]; rfl
  have qk7 : (((o.k : Nat) : Int) == 7) = false := by rw [hk]; rfl
  have qk8 : (((o.k : Nat) : Int) == 8) = false := by rw [hk]; rfl
  have qk9 : (((o.k : Nat) : Int) == 9) = false := by rw [hk]; rfl
  have hk256 : o.k < 256 := h.k
  have hlim1 := h.n
  have hlim2 := h.st
  have hlim3 := h.g
  have hlim4 := h.to
  have hlim5 := h.at_
  obtain ⟨W1, HW1⟩ : ∃ W1, Hid ((w.alloc (.cells (opC o l) 34)).alloc (.cells #[.int .u8 (o.k : Nat)] 5) = W1) := ⟨_, Lib.hid rfl⟩
  have hcv : (convert 81 9 (.slice (some ⟨w.heap.size + 1, 0, none⟩) 1 1)).run Try.prog W1 = .ok (.string (str [UInt8.ofNat o.k])) W1 := one_conv o.k W1 _ (by
    rw [Nat.mod_eq_of_lt hk256, ← HW1.out]
    have := Go.heap_alloc_new (w.alloc (.cells (opC o l) 34)) (.cells #[.int .u8 (o.k : Nat)] 5)
    simp only [World.size_alloc] at this
    exact cell_of this rfl)
  have HC1 : Hid (Chg (fun _ => False) w W1) := by rw [← HW1.out]; exact Lib.hid (((Chg.refl _ _).alloc _).alloc _)
  have hkb : W1.heap[w.heap.size]? = some (.cells (opC o l) 34) := by rw [← HW1.out]; exact (Below.heap_alloc _ _ _ (by simp)).trans (Go.heap_alloc_new _ _)
  have HBX := Lib.hid hkb
  have H := Lib.hid h
  have k0 : W1.cell? ⟨w.heap.size, 0, none⟩ = some (.int .u8 (o.k : Nat)) := cell_of hkb rfl
  have k2 : W1.cell? ⟨w.heap.size, 2, none⟩ = some (.int .u64 (o.st : Nat)) := cell_of hkb rfl
  have k3 : W1.cell? ⟨w.heap.size, 3, none⟩ = some (.slice l.ko o.keys.length l.kc) := cell_of hkb rfl
  have k4 : W1.cell? ⟨w.heap.size, 4, none⟩ = some (.slice l.no o.needs.length l.nc) := cell_of hkb rfl
  have kr0 : (w.alloc (.cells (opC o l) 34)).cell? ⟨w.heap.size, 0, none⟩ = some (.int .u8 (o.k : Nat)) := cell_of (Go.heap_alloc_new _ _) rfl
  have HK := Lib.hid hk
  obtain ⟨hks, hns, hkl, hnl⟩ := hli
  have wn : IntKind.u64.wrap ((o.needs.length : Nat) : Int) = (o.needs.length : Nat) := by simp only [IntKind.wrap, IntKind.bits, IntKind.signed]; simp; omega
  have N1 := Lib.hid (regrown_below W1 (fun v => refnum_any o.st (by omega) v))
  have N2 := Lib.hid (regrown_below W1 (fun v => refnum_any o.needs.length (by omega) v))
  have T := Lib.hid (show ∀ (d : Nat) (os : Array Obj), Calls Try.prog 37 #[.slice l.ko o.keys.length l.kc] (grow (redrawn W1 d) os) fun e w'' => e = .returned (.string (str (textsL o.keys))) ∧ ∃ p : Regrown, w'' = grow (redrawn W1 p.d) p.os from fun d os => Calls.regrown_of (texts_any ((h.keys.same HC1.out).same (chg_of_below (below_regrown W1 d os))) hks hkl))
  have hnb1 := numB_size o.st
  have hnb2 := numB_size o.needs.length
  have hkle := keys_len hks o.keys.length
  rw [List.take_length] at hkle
  have hnk := num_len9 o.keys.length
  have htx : (str (textsL o.keys)).size ≤ 1073741824 := by rw [str_size]; unfold textsL; simp only [List.length_append]; omega
  obtain ⟨L0, hL0⟩ : ∃ L0, (([UInt8.ofNat o.k] ++ Cod.num o.st) ++ textsL o.keys) ++ Cod.num o.needs.length = L0 := ⟨_, rfl⟩
  have hL0s : L0.length ≤ 1073741824 := by rw [← hL0]; have := num_len9 o.st; have := num_len9 o.needs.length; unfold textsL; simp only [List.length_append, List.length_cons, List.length_nil]; omega
  have HL0 := Lib.hid (show ((str [UInt8.ofNat o.k] ++ numB o.st) ++ str (textsL o.keys)) ++ numB o.needs.length = str L0 by rw [← hL0, strNum, ← str_append, strNum])
  have HLB := Lib.hid (show bytesL o = L0 ++ o.needs.flatMap needL by rw [← hL0]; unfold bytesL bodyL textsL; rw [HK.out]; simp)
  have ha1 : ∀ v : World, (Op.stringOp .add (str [UInt8.ofNat o.k]) (numB o.st)).run Try.prog v = .ok (.string (str [UInt8.ofNat o.k] ++ numB o.st)) v := fun v => run_string_add_sum v _ _ (by rw [str_size]; simp; omega)
  have ha2 : ∀ v : World, (Op.stringOp .add (str [UInt8.ofNat o.k] ++ numB o.st) (str (textsL o.keys))).run Try.prog v = .ok (.string ((str [UInt8.ofNat o.k] ++ numB o.st) ++ str (textsL o.keys))) v := fun v => run_string_add_sum v _ _ (by rw [ByteArray.size_append, str_size [UInt8.ofNat o.k]]; simp; omega)
  have ha3 : ∀ v : World, (Op.stringOp .add ((str [UInt8.ofNat o.k] ++ numB o.st) ++ str (textsL o.keys)) (numB o.needs.length)).run Try.prog v = .ok (.string (((str [UInt8.ofNat o.k] ++ numB o.st) ++ str (textsL o.keys)) ++ numB o.needs.length)) v := fun v => run_string_add_sum v _ _ (by rw [ByteArray.size_append, ByteArray.size_append, str_size [UInt8.ofNat o.k]]; simp; omega)
  have r2 := fun p os => cell_regrown k2 p os
  have r3 := fun p os => cell_regrown k3 p os
  have r4 := fun p os => cell_regrown k4 p os
  clear hL0 htx hkle hnk hnb1 hnb2
  generalize numB o.st = u1 at *
  generalize numB o.needs.length = u3 at *
  generalize str (textsL o.keys) = u2 at *
  generalize hs1 : str [UInt8.ofNat o.k] = s1 at *
  generalize hs2 : s1 ++ u1 = s2 at *
  generalize hs3 : s2 ++ u2 = s3 at *
  generalize hs4 : s3 ++ u3 = s4 at *
  have k0' := k0
  have hcv' := hcv
  rw [← HW1.out] at hcv' k0'
  clear h hm hkm hk hkb hs1 hs2 hs3 hs4
  go_enter Try.func20, Try.ntmps20
  go_wp2_with fail
  rw [HW1.out]
  refine wp_region_quiet_below (by kernel_rfl) (by kernel_rfl) ?_
  repeat (go_big_quiet_step (first | (with_reducible exact N1.out _ _) | (with_reducible exact T.out _ _) | (with_reducible exact N2.out _ _)))
  refine wpQuiet_nil ?_
  intro _ hw'
  obtain ⟨⟨dq, osq⟩, hw''⟩ := hw'
  subst hw''
  have H0 := Lib.hid (show Chg (fun _ => False) W1 (grow (redrawn W1 dq) osq) from chg_of_below (below_regrown W1 dq osq))
  generalize grow (redrawn W1 dq) osq = W2 at *
  have HS0 : Hid (s4 = str (L0 ++ (o.needs.take 0).flatMap needL)) := Lib.hid (by rw [HL0.out]; simp)
  clear N1 N2 T r2 r3 r4 ha1 ha2 ha3 k0' hcv' hcv
  go_wp2
  go_loopw [3, 4] (fun s i wr => ∃ (j : Nat) (S : ByteArray), j ≤ o.needs.length ∧ i = .int .i64 j ∧ s = .string S ∧ Hid (S = str (L0 ++ (o.needs.take j).flatMap needL)) ∧ Hid (Chg (fun _ => False) W1 wr)) (fun _ i _ => o.needs.length - (intOf i).toNat)
  case atStart => exact ⟨0, _, by omega, rfl, rfl, HS0, H0⟩
  case round =>
    obtain ⟨j, S, hj, rfl, rfl, HS, HC⟩ := hrel
    clear H0 HS0
    have m4 : wr.cell? ⟨w.heap.size, 4, none⟩ = some (.slice l.no o.needs.length l.nc) := cell_of ((HC.out.block _ (Array.getElem?_eq_some_iff.1 HBX.out).1 (fun f => f)).trans HBX.out) rfl
    by_cases hlt : j < o.needs.length
    · have q : decide ((j : Int) < o.needs.length) = true := by simp; omega
      have q' : decide (j < o.needs.length) = true := by simpa using hlt
      obtain ⟨g, oo, hko, hg, a1, a2⟩ := ((H.out.needs.same HC1.out).same HC.out).cell j hlt
      have hx2 := H.out.needs.lim o.needs[j] (List.getElem_mem hlt)
      have hsz : o.needs[j].1.size ≤ 64 := by
        have := List.all_eq_true.1 hns o.needs[j] (List.getElem_mem hlt)
        unfold needP at this; simp only [Bool.and_eq_true] at this; exact pred_size this.1
      have hln2 := needs_len hns j
      have hSs : S.size ≤ 1073841824 := by rw [HS.out, str_size]; simp only [List.length_append]; omega
      have htb := textB_size o.needs[j].1
      have hnb := numB_size o.needs[j].2
      have T := Lib.hid (regrown_below wr (fun v => reftext_any o.needs[j].1 (by omega) v))
      have N := Lib.hid (regrown_below wr (fun v => refnum_any o.needs[j].2 (by omega) v))
      have HS2 : Hid ((S ++ textB o.needs[j].1) ++ numB o.needs[j].2 = str (L0 ++ (o.needs.take (j + 1)).flatMap needL)) := Lib.hid (by rw [HS.out, str_text, strNum, flat_snoc o.needs needL hlt]; simp [needL])
      have hadd : ∀ v : World, (Op.stringOp .add S (textB o.needs[j].1)).run Try.prog v = .ok (.string (S ++ textB o.needs[j].1)) v := fun v => run_string_add_sum v _ _ (by omega)
      have hadd2 : ∀ v : World, (Op.stringOp .add (S ++ textB o.needs[j].1) (numB o.needs[j].2)).run Try.prog v = .ok (.string ((S ++ textB o.needs[j].1) ++ numB o.needs[j].2)) v := fun v => run_string_add_sum v _ _ (by rw [ByteArray.size_append]; omega)
      have r1 := fun p os => cell_regrown a1 p os
      have r2 := fun p os => cell_regrown a2 p os
      have r4 := fun p os => cell_regrown m4 p os
      generalize textB o.needs[j].1 = u at *
      generalize numB o.needs[j].2 = v at *
      generalize o.needs[j].1 = xp at *
      generalize o.needs[j].2 = xt at *
      have l0 : (0 : Int) ≤ j := by omega
      have l1 : (j : Int) < o.needs.length := by omega
      clear HS hln2 hSs
      rw [hko] at r4 m4
      go_wp2_with fail
      refine wp_region_quiet_below (by kernel_rfl) (by kernel_rfl) ?_
      repeat (go_big_quiet_step (first | (with_reducible exact T.out _ _) | (with_reducible exact N.out _ _)))
      refine wpQuiet_nil ?_
      intro _ hw'
      obtain ⟨⟨dq, osq⟩, hw''⟩ := hw'
      subst hw''
      have HC2 := Lib.hid (HC.out.trans (chg_of_below (below_regrown wr dq osq)))
      clear T N r1 r2 r4
      generalize grow (redrawn wr dq) osq = W5 at *
      rw [← hko]
      go_wp2
      go_roundw
      case rel => exact ⟨j + 1, _, by omega, by go_num, rfl, HS2, HC2⟩
      case measure => simp [intOf]; omega
    · obtain rfl : j = o.needs.length := by omega
      have q : decide ((o.needs.length : Int) < o.needs.length) = false := by simp
      have q' : decide (o.needs.length < o.needs.length) = false := by simp
      have HF := Lib.hid (show S = str (bytesL o) by rw [HS.out, List.take_length, HLB.out])
      have HCF := Lib.hid (HC1.out.trans HC.out)
      go_wp2
      go_ret
      exact ⟨by rw [HF.out]; rfl, HCF.out⟩
set_option maxRecDepth 100000 in
set_option maxHeartbeats 4000000 in
theorem rbytes_4 (h : OpAt w o l) (hm : mayM o = true) (hk : o.k = 4) :
    Calls Try.prog 20 #[.agg (opC o l)] w fun e w' => e = .returned (.string (str (bytesL o))) ∧ Chg (fun _ => False) w w' := by
  have hkm : kindM o = true := by unfold mayM at hm; simp at hm; exact hm.1
  have qk1 : (((o.k : Nat) : Int) == 1) = false := by rw [hk]; rfl
  have qk2 : (((o.k : Nat) : Int) == 2) = false := by rw [hk]; rfl
  have qk3 : (((o.k : Nat) : Int) == 3) = false := by rw [hk]; rfl
  have qk4 : (((o.k : Nat) : Int) == 4) = true := by rw [hk]; rfl
  have qk5 : (((o.k : Nat) : Int) == 5) = false := by rw [hk]; rfl
  have qk6 : (((o.k : Nat) : Int) == 6) = false := by rw [hk]; rfl
  have qk7 : (((o.k : Nat) : Int) == 7) = false := by rw [hk]; rfl
  have qk8 : (((o.k : Nat) : Int) == 8) = false := by rw [hk]; rfl
  have qk9 : (((o.k : Nat) : Int) == 9) = false := by rw [hk]; rfl
  have hk256 : o.k < 256 := h.k
  have hlim1 := h.n
  have hlim2 := h.st
  have hlim3 := h.g
  have hlim4 := h.to
  have hlim5 := h.at_
  obtain ⟨W1, HW1⟩ : ∃ W1, Hid ((w.alloc (.cells (opC o l) 34)).alloc (.cells #[.int .u8 (o.k : Nat)] 5) = W1) := ⟨_, Lib.hid rfl⟩
  have hcv : (convert 81 9 (.slice (some ⟨w.heap.size + 1, 0, none⟩) 1 1)).run Try.prog W1 = .ok (.string (str [UInt8.ofNat o.k])) W1 := one_conv o.k W1 _ (by
    rw [Nat.mod_eq_of_lt hk256, ← HW1.out]
    have := Go.heap_alloc_new (w.alloc (.cells (opC o l) 34)) (.cells #[.int .u8 (o.k : Nat)] 5)
    simp only [World.size_alloc] at this
    exact cell_of this rfl)
  have HC1 : Hid (Chg (fun _ => False) w W1) := by rw [← HW1.out]; exact Lib.hid (((Chg.refl _ _).alloc _).alloc _)
  have hkb : W1.heap[w.heap.size]? = some (.cells (opC o l) 34) := by rw [← HW1.out]; exact (Below.heap_alloc _ _ _ (by simp)).trans (Go.heap_alloc_new _ _)
  have HBX := Lib.hid hkb
  have H := Lib.hid h
  have k0 : W1.cell? ⟨w.heap.size, 0, none⟩ = some (.int .u8 (o.k : Nat)) := cell_of hkb rfl
  have k2 : W1.cell? ⟨w.heap.size, 2, none⟩ = some (.int .u64 (o.st : Nat)) := cell_of hkb rfl
  have kr0 : (w.alloc (.cells (opC o l) 34)).cell? ⟨w.heap.size, 0, none⟩ = some (.int .u8 (o.k : Nat)) := cell_of (Go.heap_alloc_new _ _) rfl
  have HK := Lib.hid hk
  have N := Lib.hid (refnum_any o.st (by omega) W1)
  have hnb := numB_size o.st
  have HF := Lib.hid (show str [UInt8.ofNat o.k] ++ numB o.st = str (bytesL o) by rw [strNum]; unfold bytesL bodyL; rw [HK.out]; rfl)
  have hadd : ∀ v : World, (Op.stringOp .add (str [UInt8.ofNat o.k]) (numB o.st)).run Try.prog v = .ok (.string (str [UInt8.ofNat o.k] ++ numB o.st)) v := fun v => run_string_add_sum v _ _ (by rw [str_size]; simp; omega)
  have hkr : ∀ i, i ≠ 0 → True := fun _ _ => trivial
  rw [← HW1.out] at hcv k0 k2
  generalize numB o.st = u at *
  generalize hs1 : str [UInt8.ofNat o.k] = s1 at *
  clear h hm hkm hk hkb
  go_enter Try.func20, Try.ntmps20
  go_wp2_with fail
  rw [HW1.out]
  refine N.out.mono ?_
  rintro e w3 ⟨rfl, hb⟩
  have HC := Lib.hid (HC1.out.trans (chg_of_below hb))
  clear hb N
  go_wp2
  go_ret
  exact ⟨by rw [HF.out]; rfl, HC.out⟩
set_option maxRecDepth 100000 in
set_option maxHeartbeats 4000000 in
theorem rbytes_5 (h : OpAt w o l) (hm : mayM o = true) (hk : o.k = 5) :
    Calls Try.prog 20 #[.agg (opC o l)] w fun e w' => e = .returned (.string (str (bytesL o))) ∧ Chg (fun _ => False) w w' := by
  have hkm : kindM o = true := by unfold mayM at hm; simp at hm; exact hm.1
  have hpr : predOk o.pred = true := by have h1 := hkm; unfold kindM at h1; rw [hk] at h1; simp only [Bool.and_eq_true] at h1; exact h1.1
  have hps := pred_size hpr
  have qk1 : (((o.k : Nat) : Int) == 1) = false := by rw [hk]; rfl
  have qk2 : (((o.k : Nat) : Int) == 2) = false := by rw [hk]; rfl
  have qk3 : (((o.k : Nat) : Int) == 3) = false := by rw [hk]; rfl
  have qk4 : (((o.k : Nat) : Int) == 4) = false := by rw [hk]; rfl
  have qk5 : (((o.k : Nat) : Int) == 5) = true := by rw [hk]; rfl
  have qk6 : (((o.k : Nat) : Int) == 6) = false := by rw [hk]; rfl
  have qk7 : (((o.k : Nat) : Int) == 7) = false := by rw [hk]; rfl
  have qk8 : (((o.k : Nat) : Int) == 8) = false := by rw [hk]; rfl
  have qk9 : (((o.k : Nat) : Int) == 9) = false := by rw [hk]; rfl
  have hk256 : o.k < 256 := h.k
  have hlim1 := h.n
  have hlim2 := h.st
  have hlim3 := h.g
  have hlim4 := h.to
  have hlim5 := h.at_
  obtain ⟨W1, HW1⟩ : ∃ W1, Hid ((w.alloc (.cells (opC o l) 34)).alloc (.cells #[.int .u8 (o.k : Nat)] 5) = W1) := ⟨_, Lib.hid rfl⟩
  have hcv : (convert 81 9 (.slice (some ⟨w.heap.size + 1, 0, none⟩) 1 1)).run Try.prog W1 = .ok (.string (str [UInt8.ofNat o.k])) W1 := one_conv o.k W1 _ (by
    rw [Nat.mod_eq_of_lt hk256, ← HW1.out]
    have := Go.heap_alloc_new (w.alloc (.cells (opC o l) 34)) (.cells #[.int .u8 (o.k : Nat)] 5)
    simp only [World.size_alloc] at this
    exact cell_of this rfl)
  have HC1 : Hid (Chg (fun _ => False) w W1) := by rw [← HW1.out]; exact Lib.hid (((Chg.refl _ _).alloc _).alloc _)
  have hkb : W1.heap[w.heap.size]? = some (.cells (opC o l) 34) := by rw [← HW1.out]; exact (Below.heap_alloc _ _ _ (by simp)).trans (Go.heap_alloc_new _ _)
  have HBX := Lib.hid hkb
  have H := Lib.hid h
  have k0 : W1.cell? ⟨w.heap.size, 0, none⟩ = some (.int .u8 (o.k : Nat)) := cell_of hkb rfl
  have k5 : W1.cell? ⟨w.heap.size, 5, none⟩ = some (.string o.pred) := cell_of hkb rfl
  have k6 : W1.cell? ⟨w.heap.size, 6, none⟩ = some (.int .u32 (o.g : Nat)) := cell_of hkb rfl
  have kr0 : (w.alloc (.cells (opC o l) 34)).cell? ⟨w.heap.size, 0, none⟩ = some (.int .u8 (o.k : Nat)) := cell_of (Go.heap_alloc_new _ _) rfl
  have HK := Lib.hid hk
  have hw : IntKind.u64.wrap ((o.g : Nat) : Int) = (o.g : Nat) := by simp only [IntKind.wrap, IntKind.bits, IntKind.signed]; simp; omega
  have N := Lib.hid (regrown_below W1 (fun v => refnum_any o.g (by omega) v))
  have T := Lib.hid (regrown_below W1 (fun v => reftext_any o.pred (by omega) v))
  have hnb := numB_size o.g
  have htb := textB_size o.pred
  have HF := Lib.hid (show (str [UInt8.ofNat o.k] ++ textB o.pred) ++ numB o.g = str (bytesL o) by rw [str_text, strNum]; unfold bytesL bodyL; rw [HK.out]; rfl)
  have hadd : ∀ v : World, (Op.stringOp .add (str [UInt8.ofNat o.k]) (textB o.pred)).run Try.prog v = .ok (.string (str [UInt8.ofNat o.k] ++ textB o.pred)) v := fun v => run_string_add_sum v _ _ (by rw [str_size]; simp; omega)
  have hadd2 : ∀ v : World, (Op.stringOp .add (str [UInt8.ofNat o.k] ++ textB o.pred) (numB o.g)).run Try.prog v = .ok (.string ((str [UInt8.ofNat o.k] ++ textB o.pred) ++ numB o.g)) v := fun v => run_string_add_sum v _ _ (by rw [ByteArray.size_append, str_size]; simp; omega)
  have r5 := fun p os => cell_regrown k5 p os
  have r6 := fun p os => cell_regrown k6 p os
  generalize numB o.g = u at *
  generalize textB o.pred = tx at *
  generalize hs1 : str [UInt8.ofNat o.k] = s1 at *
  generalize hs2 : s1 ++ tx = s2 at *
  have k0' := k0
  have hcv' := hcv
  rw [← HW1.out] at hcv' k0'
  clear h hm hkm hk hkb
  go_enter Try.func20, Try.ntmps20
  go_wp2_with fail
  rw [HW1.out]
  refine wp_region_quiet_below (by kernel_rfl) (by kernel_rfl) ?_
  repeat (go_big_quiet_step (first | (with_reducible exact N.out _ _) | (with_reducible exact T.out _ _)))
  refine wpQuiet_nil ?_
  intro _ hw'
  obtain ⟨⟨dq, osq⟩, hw''⟩ := hw'
  subst hw''
  have HC := Lib.hid (HC1.out.trans (chg_of_below (below_regrown W1 dq osq)))
  go_wp2
  go_ret
  exact ⟨by rw [HF.out]; rfl, HC.out⟩
set_option maxRecDepth 100000 in
set_option maxHeartbeats 4000000 in
theorem rbytes_6 (h : OpAt w o l) (hm : mayM o = true) (hk : o.k = 6) :
    Calls Try.prog 20 #[.agg (opC o l)] w fun e w' => e = .returned (.string (str (bytesL o))) ∧ Chg (fun _ => False) w w' := by
  have hkm : kindM o = true := by unfold mayM at hm; simp at hm; exact hm.1
  have hpr : predOk o.pred = true := by have h1 := hkm; unfold kindM at h1; rw [hk] at h1; simp only [Bool.and_eq_true] at h1; exact h1.1
  have hps := pred_size hpr
  have qk1 : (((o.k : Nat) : Int) == 1) = false := by rw [hk]; rfl
  have qk2 : (((o.k : Nat) : Int) == 2) = false := by rw [hk]; rfl
  have qk3 : (((o.k : Nat) : Int) == 3) = false := by rw [hk]; rfl
  have qk4 : (((o.k : Nat) : Int) == 4) = false := by rw [hk]; rfl
  have qk5 : (((o.k : Nat) : Int) == 5) = false := by rw [hk]; rfl
  have qk6 : (((o.k : Nat) : Int) == 6) = true := by rw [hk]; rfl
  have qk7 : (((o.k : Nat) : Int) == 7) = false := by rw [hk]; rfl
  have qk8 : (((o.k : Nat) : Int) == 8) = false := by rw [hk]; rfl
  have qk9 : (((o.k : Nat) : Int) == 9) = false := by rw [hk]; rfl
  have hk256 : o.k < 256 := h.k
  have hlim1 := h.n
  have hlim2 := h.st
  have hlim3 := h.g
  have hlim4 := h.to
  have hlim5 := h.at_
  obtain ⟨W1, HW1⟩ : ∃ W1, Hid ((w.alloc (.cells (opC o l) 34)).alloc (.cells #[.int .u8 (o.k : Nat)] 5) = W1) := ⟨_, Lib.hid rfl⟩
  have hcv : (convert 81 9 (.slice (some ⟨w.heap.size + 1, 0, none⟩) 1 1)).run Try.prog W1 = .ok (.string (str [UInt8.ofNat o.k])) W1 := one_conv o.k W1 _ (by
    rw [Nat.mod_eq_of_lt hk256, ← HW1.out]
    have := Go.heap_alloc_new (w.alloc (.cells (opC o l) 34)) (.cells #[.int .u8 (o.k : Nat)] 5)
    simp only [World.size_alloc] at this
    exact cell_of this rfl)
  have HC1 : Hid (Chg (fun _ => False) w W1) := by rw [← HW1.out]; exact Lib.hid (((Chg.refl _ _).alloc _).alloc _)
  have hkb : W1.heap[w.heap.size]? = some (.cells (opC o l) 34) := by rw [← HW1.out]; exact (Below.heap_alloc _ _ _ (by simp)).trans (Go.heap_alloc_new _ _)
  have HBX := Lib.hid hkb
  have H := Lib.hid h
  have k0 : W1.cell? ⟨w.heap.size, 0, none⟩ = some (.int .u8 (o.k : Nat)) := cell_of hkb rfl
  have k5 : W1.cell? ⟨w.heap.size, 5, none⟩ = some (.string o.pred) := cell_of hkb rfl
  have k7 : W1.cell? ⟨w.heap.size, 7, none⟩ = some (.int .u32 (o.to : Nat)) := cell_of hkb rfl
  have kr0 : (w.alloc (.cells (opC o l) 34)).cell? ⟨w.heap.size, 0, none⟩ = some (.int .u8 (o.k : Nat)) := cell_of (Go.heap_alloc_new _ _) rfl
  have HK := Lib.hid hk
  have hw : IntKind.u64.wrap ((o.to : Nat) : Int) = (o.to : Nat) := by simp only [IntKind.wrap, IntKind.bits, IntKind.signed]; simp; omega
  have N := Lib.hid (regrown_below W1 (fun v => refnum_any o.to (by omega) v))
  have T := Lib.hid (regrown_below W1 (fun v => reftext_any o.pred (by omega) v))
  have hnb := numB_size o.to
  have htb := textB_size o.pred
  have HF := Lib.hid (show (str [UInt8.ofNat o.k] ++ textB o.pred) ++ numB o.to = str (bytesL o) by rw [str_text, strNum]; unfold bytesL bodyL; rw [HK.out]; rfl)
  have hadd : ∀ v : World, (Op.stringOp .add (str [UInt8.ofNat o.k]) (textB o.pred)).run Try.prog v = .ok (.string (str [UInt8.ofNat o.k] ++ textB o.pred)) v := fun v => run_string_add_sum v _ _ (by rw [str_size]; simp; omega)
  have hadd2 : ∀ v : World, (Op.stringOp .add (str [UInt8.ofNat o.k] ++ textB o.pred) (numB o.to)).run Try.prog v = .ok (.string ((str [UInt8.ofNat o.k] ++ textB o.pred) ++ numB o.to)) v := fun v => run_string_add_sum v _ _ (by rw [ByteArray.size_append, str_size]; simp; omega)
  have r5 := fun p os => cell_regrown k5 p os
  have r7 := fun p os => cell_regrown k7 p os
  generalize numB o.to = u at *
  generalize textB o.pred = tx at *
  generalize hs1 : str [UInt8.ofNat o.k] = s1 at *
  generalize hs2 : s1 ++ tx = s2 at *
  have k0' := k0
  have hcv' := hcv
  rw [← HW1.out] at hcv' k0'
  clear h hm hkm hk hkb
  go_enter Try.func20, Try.ntmps20
  go_wp2_with fail
  rw [HW1.out]
  refine wp_region_quiet_below (by kernel_rfl) (by kernel_rfl) ?_
  repeat (go_big_quiet_step (first | (with_reducible exact N.out _ _) | (with_reducible exact T.out _ _)))
  refine wpQuiet_nil ?_
  intro _ hw'
  obtain ⟨⟨dq, osq⟩, hw''⟩ := hw'
  subst hw''
  have HC := Lib.hid (HC1.out.trans (chg_of_below (below_regrown W1 dq osq)))
  go_wp2
  go_ret
  exact ⟨by rw [HF.out]; rfl, HC.out⟩
set_option maxRecDepth 100000 in
set_option maxHeartbeats 4000000 in
theorem rbytes_7 (h : OpAt w o l) (hm : mayM o = true) (hk : o.k = 7) :
    Calls Try.prog 20 #[.agg (opC o l)] w fun e w' => e = .returned (.string (str (bytesL o))) ∧ Chg (fun _ => False) w w' := by
  have hkm : kindM o = true := by unfold mayM at hm; simp at hm; exact hm.1
  have hpr : predOk o.pred = true := by have h1 := hkm; unfold kindM at h1; rw [hk] at h1; simp only [Bool.and_eq_true] at h1; exact h1.1
  have hps := pred_size hpr
  have qk1 : (((o.k : Nat) : Int) == 1) = false := by rw [hk]; rfl
  have qk2 : (((o.k : Nat) : Int) == 2) = false := by rw [hk]; rfl
  have qk3 : (((o.k : Nat) : Int) == 3) = false := by rw [hk]; rfl
  have qk4 : (((o.k : Nat) : Int) == 4) = false := by rw [hk]; rfl
  have qk5 : (((o.k : Nat) : Int) == 5) = false := by rw [hk]; rfl
  have qk6 : (((o.k : Nat) : Int) == 6) = false := by rw [hk]; rfl
  have qk7 : (((o.k : Nat) : Int) == 7) = true := by rw [hk]; rfl
  have qk8 : (((o.k : Nat) : Int) == 8) = false := by rw [hk]; rfl
  have qk9 : (((o.k : Nat) : Int) == 9) = false := by rw [hk]; rfl
  have hk256 : o.k < 256 := h.k
  have hlim1 := h.n
  have hlim2 := h.st
  have hlim3 := h.g
  have hlim4 := h.to
  have hlim5 := h.at_
  obtain ⟨W1, HW1⟩ : ∃ W1, Hid ((w.alloc (.cells (opC o l) 34)).alloc (.cells #[.int .u8 (o.k : Nat)] 5) = W1) := ⟨_, Lib.hid rfl⟩
  have hcv : (convert 81 9 (.slice (some ⟨w.heap.size + 1, 0, none⟩) 1 1)).run Try.prog W1 = .ok (.string (str [UInt8.ofNat o.k])) W1 := one_conv o.k W1 _ (by
    rw [Nat.mod_eq_of_lt hk256, ← HW1.out]
    have := Go.heap_alloc_new (w.alloc (.cells (opC o l) 34)) (.cells #[.int .u8 (o.k : Nat)] 5)
    simp only [World.size_alloc] at this
    exact cell_of this rfl)
  have HC1 : Hid (Chg (fun _ => False) w W1) := by rw [← HW1.out]; exact Lib.hid (((Chg.refl _ _).alloc _).alloc _)
  have hkb : W1.heap[w.heap.size]? = some (.cells (opC o l) 34) := by rw [← HW1.out]; exact (Below.heap_alloc _ _ _ (by simp)).trans (Go.heap_alloc_new _ _)
  have HBX := Lib.hid hkb
  have H := Lib.hid h
  have k0 : W1.cell? ⟨w.heap.size, 0, none⟩ = some (.int .u8 (o.k : Nat)) := cell_of hkb rfl
  have k5 : W1.cell? ⟨w.heap.size, 5, none⟩ = some (.string o.pred) := cell_of hkb rfl
  have k8 : W1.cell? ⟨w.heap.size, 8, none⟩ = some (.int .u64 (o.at_ : Nat)) := cell_of hkb rfl
  have kr0 : (w.alloc (.cells (opC o l) 34)).cell? ⟨w.heap.size, 0, none⟩ = some (.int .u8 (o.k : Nat)) := cell_of (Go.heap_alloc_new _ _) rfl
  have HK := Lib.hid hk
  have N := Lib.hid (regrown_below W1 (fun v => refnum_any o.at_ (by omega) v))
  have T := Lib.hid (regrown_below W1 (fun v => reftext_any o.pred (by omega) v))
  have hnb := numB_size o.at_
  have htb := textB_size o.pred
  have HF := Lib.hid (show (str [UInt8.ofNat o.k] ++ textB o.pred) ++ numB o.at_ = str (bytesL o) by rw [str_text, strNum]; unfold bytesL bodyL; rw [HK.out]; rfl)
  have hadd : ∀ v : World, (Op.stringOp .add (str [UInt8.ofNat o.k]) (textB o.pred)).run Try.prog v = .ok (.string (str [UInt8.ofNat o.k] ++ textB o.pred)) v := fun v => run_string_add_sum v _ _ (by rw [str_size]; simp; omega)
  have hadd2 : ∀ v : World, (Op.stringOp .add (str [UInt8.ofNat o.k] ++ textB o.pred) (numB o.at_)).run Try.prog v = .ok (.string ((str [UInt8.ofNat o.k] ++ textB o.pred) ++ numB o.at_)) v := fun v => run_string_add_sum v _ _ (by rw [ByteArray.size_append, str_size]; simp; omega)
  have r5 := fun p os => cell_regrown k5 p os
  have r8 := fun p os => cell_regrown k8 p os
  generalize numB o.at_ = u at *
  generalize textB o.pred = tx at *
  generalize hs1 : str [UInt8.ofNat o.k] = s1 at *
  generalize hs2 : s1 ++ tx = s2 at *
  have k0' := k0
  have hcv' := hcv
  rw [← HW1.out] at hcv' k0'
  clear h hm hkm hk hkb
  go_enter Try.func20, Try.ntmps20
  go_wp2_with fail
  rw [HW1.out]
  refine wp_region_quiet_below (by kernel_rfl) (by kernel_rfl) ?_
  repeat (go_big_quiet_step (first | (with_reducible exact N.out _ _) | (with_reducible exact T.out _ _)))
  refine wpQuiet_nil ?_
  intro _ hw'
  obtain ⟨⟨dq, osq⟩, hw''⟩ := hw'
  subst hw''
  have HC := Lib.hid (HC1.out.trans (chg_of_below (below_regrown W1 dq osq)))
  go_wp2
  go_ret
  exact ⟨by rw [HF.out]; rfl, HC.out⟩
set_option maxRecDepth 100000 in
set_option maxHeartbeats 4000000 in
theorem rbytes_8 (h : OpAt w o l) (hm : mayM o = true) (hk : o.k = 8) :
    Calls Try.prog 20 #[.agg (opC o l)] w fun e w' => e = .returned (.string (str (bytesL o))) ∧ Chg (fun _ => False) w w' := by
  have hkm : kindM o = true := by unfold mayM at hm; simp at hm; exact hm.1
  have hpr : predOk o.pred = true := by have h1 := hkm; unfold kindM at h1; rw [hk] at h1; simp only [Bool.and_eq_true] at h1; exact h1.1
  have hps := pred_size hpr
  have qk1 : (((o.k : Nat) : Int) == 1) = false := by rw [hk]; rfl
  have qk2 : (((o.k : Nat) : Int) == 2) = false := by rw [hk]; rfl
  have qk3 : (((o.k : Nat) : Int) == 3) = false := by rw [hk]; rfl
  have qk4 : (((o.k : Nat) : Int) == 4) = false := by rw [hk]; rfl
  have qk5 : (((o.k : Nat) : Int) == 5) = false := by rw [hk]; rfl
  have qk6 : (((o.k : Nat) : Int) == 6) = false := by rw [hk]; rfl
  have qk7 : (((o.k : Nat) : Int) == 7) = false := by rw [hk]; rfl
  have qk8 : (((o.k : Nat) : Int) == 8) = true := by rw [hk]; rfl
  have qk9 : (((o.k : Nat) : Int) == 9) = false := by rw [hk]; rfl
  have hk256 : o.k < 256 := h.k
  have hlim1 := h.n
  have hlim2 := h.st
  have hlim3 := h.g
  have hlim4 := h.to
  have hlim5 := h.at_
  obtain ⟨W1, HW1⟩ : ∃ W1, Hid ((w.alloc (.cells (opC o l) 34)).alloc (.cells #[.int .u8 (o.k : Nat)] 5) = W1) := ⟨_, Lib.hid rfl⟩
  have hcv : (convert 81 9 (.slice (some ⟨w.heap.size + 1, 0, none⟩) 1 1)).run Try.prog W1 = .ok (.string (str [UInt8.ofNat o.k])) W1 := one_conv o.k W1 _ (by
    rw [Nat.mod_eq_of_lt hk256, ← HW1.out]
    have := Go.heap_alloc_new (w.alloc (.cells (opC o l) 34)) (.cells #[.int .u8 (o.k : Nat)] 5)
    simp only [World.size_alloc] at this
    exact cell_of this rfl)
  have HC1 : Hid (Chg (fun _ => False) w W1) := by rw [← HW1.out]; exact Lib.hid (((Chg.refl _ _).alloc _).alloc _)
  have hkb : W1.heap[w.heap.size]? = some (.cells (opC o l) 34) := by rw [← HW1.out]; exact (Below.heap_alloc _ _ _ (by simp)).trans (Go.heap_alloc_new _ _)
  have HBX := Lib.hid hkb
  have H := Lib.hid h
  have k0 : W1.cell? ⟨w.heap.size, 0, none⟩ = some (.int .u8 (o.k : Nat)) := cell_of hkb rfl
  have k5 : W1.cell? ⟨w.heap.size, 5, none⟩ = some (.string o.pred) := cell_of hkb rfl
  have k8 : W1.cell? ⟨w.heap.size, 8, none⟩ = some (.int .u64 (o.at_ : Nat)) := cell_of hkb rfl
  have kr0 : (w.alloc (.cells (opC o l) 34)).cell? ⟨w.heap.size, 0, none⟩ = some (.int .u8 (o.k : Nat)) := cell_of (Go.heap_alloc_new _ _) rfl
  have HK := Lib.hid hk
  have N := Lib.hid (regrown_below W1 (fun v => refnum_any o.at_ (by omega) v))
  have T := Lib.hid (regrown_below W1 (fun v => reftext_any o.pred (by omega) v))
  have hnb := numB_size o.at_
  have htb := textB_size o.pred
  have HF := Lib.hid (show (str [UInt8.ofNat o.k] ++ textB o.pred) ++ numB o.at_ = str (bytesL o) by rw [str_text, strNum]; unfold bytesL bodyL; rw [HK.out]; rfl)
  have hadd : ∀ v : World, (Op.stringOp .add (str [UInt8.ofNat o.k]) (textB o.pred)).run Try.prog v = .ok (.string (str [UInt8.ofNat o.k] ++ textB o.pred)) v := fun v => run_string_add_sum v _ _ (by rw [str_size]; simp; omega)
  have hadd2 : ∀ v : World, (Op.stringOp .add (str [UInt8.ofNat o.k] ++ textB o.pred) (numB o.at_)).run Try.prog v = .ok (.string ((str [UInt8.ofNat o.k] ++ textB o.pred) ++ numB o.at_)) v := fun v => run_string_add_sum v _ _ (by rw [ByteArray.size_append, str_size]; simp; omega)
  have r5 := fun p os => cell_regrown k5 p os
  have r8 := fun p os => cell_regrown k8 p os
  generalize numB o.at_ = u at *
  generalize textB o.pred = tx at *
  generalize hs1 : str [UInt8.ofNat o.k] = s1 at *
  generalize hs2 : s1 ++ tx = s2 at *
  have k0' := k0
  have hcv' := hcv
  rw [← HW1.out] at hcv' k0'
  clear h hm hkm hk hkb
  go_enter Try.func20, Try.ntmps20
  go_wp2_with fail
  rw [HW1.out]
  refine wp_region_quiet_below (by kernel_rfl) (by kernel_rfl) ?_
  repeat (go_big_quiet_step (first | (with_reducible exact N.out _ _) | (with_reducible exact T.out _ _)))
  refine wpQuiet_nil ?_
  intro _ hw'
  obtain ⟨⟨dq, osq⟩, hw''⟩ := hw'
  subst hw''
  have HC := Lib.hid (HC1.out.trans (chg_of_below (below_regrown W1 dq osq)))
  go_wp2
  go_ret
  exact ⟨by rw [HF.out]; rfl, HC.out⟩
set_option maxRecDepth 100000 in
set_option maxHeartbeats 4000000 in
theorem rbytes_9 (h : OpAt w o l) (hm : mayM o = true) (hk : o.k = 9) :
    Calls Try.prog 20 #[.agg (opC o l)] w fun e w' => e = .returned (.string (str (bytesL o))) ∧ Chg (fun _ => False) w w' := by
  have hkm : kindM o = true := by unfold mayM at hm; simp at hm; exact hm.1
  have qk1 : (((o.k : Nat) : Int) == 1) = false := by rw [hk]; rfl
  have qk2 : (((o.k : Nat) : Int) == 2) = false := by rw [hk]; rfl
  have qk3 : (((o.k : Nat) : Int) == 3) = false := by rw [hk]; rfl
  have qk4 : (((o.k : Nat) : Int) == 4) = false := by rw [hk]; rfl
  have qk5 : (((o.k : Nat) : Int) == 5) = false := by rw [hk]; rfl
  have qk6 : (((o.k : Nat) : Int) == 6) = false := by rw [hk]; rfl
  have qk7 : (((o.k : Nat) : Int) == 7) = false := by rw [hk]; rfl
  have qk8 : (((o.k : Nat) : Int) == 8) = false := by rw [hk]; rfl
  have qk9 : (((o.k : Nat) : Int) == 9) = true := by rw [hk]; rfl
  have hk256 : o.k < 256 := h.k
  have hlim1 := h.n
  have hlim2 := h.st
  have hlim3 := h.g
  have hlim4 := h.to
  have hlim5 := h.at_
  obtain ⟨W1, HW1⟩ : ∃ W1, Hid ((w.alloc (.cells (opC o l) 34)).alloc (.cells #[.int .u8 (o.k : Nat)] 5) = W1) := ⟨_, Lib.hid rfl⟩
  have hcv : (convert 81 9 (.slice (some ⟨w.heap.size + 1, 0, none⟩) 1 1)).run Try.prog W1 = .ok (.string (str [UInt8.ofNat o.k])) W1 := one_conv o.k W1 _ (by
    rw [Nat.mod_eq_of_lt hk256, ← HW1.out]
    have := Go.heap_alloc_new (w.alloc (.cells (opC o l) 34)) (.cells #[.int .u8 (o.k : Nat)] 5)
    simp only [World.size_alloc] at this
    exact cell_of this rfl)
  have HC1 : Hid (Chg (fun _ => False) w W1) := by rw [← HW1.out]; exact Lib.hid (((Chg.refl _ _).alloc _).alloc _)
  have hkb : W1.heap[w.heap.size]? = some (.cells (opC o l) 34) := by rw [← HW1.out]; exact (Below.heap_alloc _ _ _ (by simp)).trans (Go.heap_alloc_new _ _)
  have HBX := Lib.hid hkb
  have H := Lib.hid h
  have k0 : W1.cell? ⟨w.heap.size, 0, none⟩ = some (.int .u8 (o.k : Nat)) := cell_of hkb rfl
  have k8 : W1.cell? ⟨w.heap.size, 8, none⟩ = some (.int .u64 (o.at_ : Nat)) := cell_of hkb rfl
  have kr0 : (w.alloc (.cells (opC o l) 34)).cell? ⟨w.heap.size, 0, none⟩ = some (.int .u8 (o.k : Nat)) := cell_of (Go.heap_alloc_new _ _) rfl
  have HK := Lib.hid hk
  have N := Lib.hid (refnum_any o.at_ (by omega) W1)
  have hnb := numB_size o.at_
  have HF := Lib.hid (show str [UInt8.ofNat o.k] ++ numB o.at_ = str (bytesL o) by rw [strNum]; unfold bytesL bodyL; rw [HK.out]; rfl)
  have hadd : ∀ v : World, (Op.stringOp .add (str [UInt8.ofNat o.k]) (numB o.at_)).run Try.prog v = .ok (.string (str [UInt8.ofNat o.k] ++ numB o.at_)) v := fun v => run_string_add_sum v _ _ (by rw [str_size]; simp; omega)
  have hkr : ∀ i, i ≠ 0 → True := fun _ _ => trivial
  rw [← HW1.out] at hcv k0 k8
  generalize numB o.at_ = u at *
  generalize hs1 : str [UInt8.ofNat o.k] = s1 at *
  clear h hm hkm hk hkb
  go_enter Try.func20, Try.ntmps20
  go_wp2_with fail
  rw [HW1.out]
  refine N.out.mono ?_
  rintro e w3 ⟨rfl, hb⟩
  have HC := Lib.hid (HC1.out.trans (chg_of_below hb))
  clear hb N
  go_wp2
  go_ret
  exact ⟨by rw [HF.out]; rfl, HC.out⟩
theorem rbytes_any (h : OpAt w o l) (hm : mayM o = true) :
    Calls Try.prog 20 #[.agg (opC o l)] w fun e w' => e = .returned (.string (str (bytesL o))) ∧ Chg (fun _ => False) w w' := by
  have hkm : kindM o = true := by unfold mayM at hm; simp at hm; exact hm.1
  rcases kind_cases hkm with hk | hk | hk | hk | hk | hk | hk | hk | hk
  · exact rbytes_1 h hm hk
  · exact rbytes_2 h hm hk
  · exact rbytes_3 h hm hk
  · exact rbytes_4 h hm hk
  · exact rbytes_5 h hm hk
  · exact rbytes_6 h hm hk
  · exact rbytes_7 h hm hk
  · exact rbytes_8 h hm hk
  · exact rbytes_9 h hm hk
end
end Go.Proofs.Ytgmmglmokkcgeaa
