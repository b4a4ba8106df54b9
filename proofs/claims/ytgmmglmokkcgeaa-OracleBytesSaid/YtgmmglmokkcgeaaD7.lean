/- Walks: Bytes of a command. -/
import Derived.Test.YtgmmglmokkcgeaaD6
namespace Go.Proofs.Ytgmmglmokkcgeaa
set_option linter.unusedVariables false
set_option linter.unusedSimpArgs false
open Go.RowKit Mk Go.Sort

def textL (t : ByteArray) : List UInt8 := Cod.text t.data.toList
def needL (x : ByteArray × Nat) : List UInt8 := textL x.1 ++ Cod.num x.2
def bodyL (o : OpM) : List UInt8 := match o.k with
  | 1 | 2 => Cod.num o.n
  | 3 => Cod.num o.st ++ Cod.num o.keys.length ++ o.keys.flatMap textL ++ Cod.num o.needs.length ++ o.needs.flatMap needL
  | 4 => Cod.num o.st
  | 5 => textL o.pred ++ Cod.num o.g
  | 6 => textL o.pred ++ Cod.num o.to
  | 7 | 8 => textL o.pred ++ Cod.num o.at_
  | 9 => Cod.num o.at_
  | _ => []
def bytesL (o : OpM) : List UInt8 := UInt8.ofNat o.k :: bodyL o
/-- A command's bytes; nothing of one that may not be. -/
def bytesM (o : OpM) : ByteArray := if mayM o then str (bytesL o) else ⟨#[]⟩
theorem textL_len (t : ByteArray) : (textL t).length ≤ 9 + t.size := textB_size t
theorem num_len9 (x : Nat) : (Cod.num x).length ≤ 9 := num_size x
theorem str_text (L : List UInt8) (t : ByteArray) : str L ++ textB t = str (L ++ textL t) := (str_append L _).symm
theorem str_nums (L : List UInt8) (l : List Nat) : str L ++ numsB l = str (L ++ l.flatMap Cod.num) := (str_append L _).symm
theorem keys_len {l : List ByteArray} (h : l.all keyP = true) (j : Nat) : ((l.take j).flatMap textL).length ≤ j * 16393 := by
  induction l generalizing j with
  | nil => simp
  | cons k l ih =>
    rw [List.all_cons, Bool.and_eq_true] at h
    cases j with
    | zero => simp
    | succ j =>
      have h1 := ih h.2 j
      have h2 := textL_len k
      have h3 : k.size ≤ 16384 := by have := h.1; unfold keyP at this; simp at this; exact this.2
      rw [List.take_succ_cons, List.flatMap_cons, List.length_append]
      omega
theorem needs_len {l : List (ByteArray × Nat)} (h : l.all needP = true) (j : Nat) : ((l.take j).flatMap needL).length ≤ j * 82 := by
  induction l generalizing j with
  | nil => simp
  | cons k l ih =>
    rw [List.all_cons, Bool.and_eq_true] at h
    cases j with
    | zero => simp
    | succ j =>
      have h1 := ih h.2 j
      have h2 := textL_len k.1
      have h3 : k.1.size ≤ 64 := by have := h.1; unfold needP predOk at this; simp at this; exact this.1.1.1.2
      have h4 := num_len9 k.2
      rw [List.take_succ_cons, List.flatMap_cons, List.length_append]
      simp only [needL, List.length_append]
      omega
theorem pred_size {s : ByteArray} (h : predOk s = true) : s.size ≤ 64 := by unfold predOk at h; simp at h; exact h.1.1.2
theorem flat_snoc {α : Type} (l : List α) (f : α → List UInt8) {j : Nat} (h : j < l.length) : (l.take (j + 1)).flatMap f = (l.take j).flatMap f ++ f l[j] := by
  rw [List.take_add_one, List.getElem?_eq_getElem h, List.flatMap_append]
  simp
/-- In Bytes: the command's box, and the writer. -/
structure ByAt (w : World) (kb wb : Nat) (o : OpM) (l : OpL) (L : List UInt8) (W : World) : Prop where
  box : W.heap[kb]? = some (.cells (opC o l) 34)
  wr : WrAt W wb (str L)
  op : OpAt w o l
  chg : Chg (fun _ => False) w W
  new : w.heap.size ≤ wb
section
variable {w W : World} {kb wb : Nat} {o : OpM} {l : OpL} {L : List UInt8}
theorem ByAt.stay (h : ByAt w kb wb o l L W) {W' : World} (c : Chg (fun _ => False) W W') : ByAt w kb wb o l L W' :=
  ⟨(c.block kb (Array.getElem?_eq_some_iff.1 h.box).1 (fun f => f)).trans h.box, h.wr.stay c, h.op, h.chg.trans c, h.new⟩
theorem ByAt.next (h : ByAt w kb wb o l L W) {W' : World} {L' : List UInt8} (hw : WrAt W' wb (str L')) (c : Chg (fun g => g = wb) W W') : ByAt w kb wb o l L' W' := by
  have hne : kb ≠ wb := fun e => by have h1 := h.box; have h2 := h.wr; unfold WrAt at h2; rw [e, h2] at h1; simp at h1
  have hc : Chg (fun _ => False) w W' := h.chg.trans' c (fun i e => Or.inr (by rw [e]; exact h.new))
  exact ⟨(c.block kb (Array.getElem?_eq_some_iff.1 h.box).1 hne).trans h.box, hw, h.op, hc, h.new⟩
theorem ByAt.cells (h : ByAt w kb wb o l L W) : W.cell? ⟨kb, 0, none⟩ = some (.int .u8 (o.k : Nat)) ∧ W.cell? ⟨kb, 1, none⟩ = some (.int .u32 (o.n : Nat)) ∧ W.cell? ⟨kb, 2, none⟩ = some (.int .u64 (o.st : Nat)) ∧ W.cell? ⟨kb, 3, none⟩ = some (.slice l.ko o.keys.length l.kc) ∧ W.cell? ⟨kb, 4, none⟩ = some (.slice l.no o.needs.length l.nc) ∧
    W.cell? ⟨kb, 5, none⟩ = some (.string o.pred) ∧ W.cell? ⟨kb, 6, none⟩ = some (.int .u32 (o.g : Nat)) ∧ W.cell? ⟨kb, 7, none⟩ = some (.int .u32 (o.to : Nat)) ∧ W.cell? ⟨kb, 8, none⟩ = some (.int .u64 (o.at_ : Nat)) :=
  ⟨cell_of h.box rfl, cell_of h.box rfl, cell_of h.box rfl, cell_of h.box rfl, cell_of h.box rfl, cell_of h.box rfl, cell_of h.box rfl, cell_of h.box rfl, cell_of h.box rfl⟩
theorem ByAt.text (h : ByAt w kb wb o l L W) (t : ByteArray) (hL : L.length ≤ 1073741824) (ht : t.size ≤ 1073741824) : Calls Try.prog 32 #[.pointer (some ⟨wb, 0, none⟩), .string t] W fun e W' => e = .returned (.tuple #[]) ∧ ByAt w kb wb o l (L ++ textL t) W' := by
  refine (wtext_any h.wr t (by rw [str_size]; omega) (by omega)).mono ?_
  rintro e W' ⟨rfl, h1, h2⟩
  rw [str_text] at h1
  exact ⟨rfl, h.next h1 h2⟩
theorem ByAt.nums (h : ByAt w kb wb o l L W) {a : Nat} (hza : W.heap.size = a) (xs : List Nat) (hn : xs.length ≤ 2) (hx : ∀ x ∈ xs, x < 18446744073709551616) (hL : L.length ≤ 1073741824) :
    Calls Try.prog 31 #[.pointer (some ⟨wb, 0, none⟩), .slice (some ⟨a, 0, none⟩) xs.length xs.length] (W.alloc (.cells (xs.map fun x => Value.int .u64 (x : Nat)).toArray 30)) fun e W' => e = .returned (.tuple #[]) ∧ ByAt w kb wb o l (L ++ xs.flatMap Cod.num) W' := by
  subst hza
  have k := h.stay ((Chg.refl _ W).alloc (.cells (xs.map fun x => Value.int .u64 (x : Nat)).toArray 30))
  have hN : NumsAt (W.alloc (.cells (xs.map fun x => Value.int .u64 (x : Nat)).toArray 30)) (.slice (some ⟨W.heap.size, 0, none⟩) xs.length xs.length) xs :=
    ⟨by simp, Or.inr ⟨W.heap.size, xs.length, (xs.map fun x => Value.int .u64 (x : Nat)).toArray, rfl, Go.heap_alloc_new _ _, Nat.le_refl _, by simp only [maxLen]; omega, by simp, by simp only [List.toList_toArray, Nat.mul_one]; exact List.take_of_length_le (by simp)⟩⟩
  refine (wnum_any k.wr hN hx (by rw [str_size]; omega) (by omega)).mono ?_
  rintro e W' ⟨rfl, h1, h2⟩
  rw [str_nums] at h1
  exact ⟨rfl, k.next h1 h2⟩
theorem ByAt.num (h : ByAt w kb wb o l L W) {a : Nat} (hza : W.heap.size = a) (x : Nat) (hx : x < 18446744073709551616) (hL : L.length ≤ 1073741824) :
    Calls Try.prog 31 #[.pointer (some ⟨wb, 0, none⟩), .slice (some ⟨a, 0, none⟩) 1 1] (W.alloc (.cells #[.int .u64 (x : Nat)] 30)) fun e W' => e = .returned (.tuple #[]) ∧ ByAt w kb wb o l (L ++ Cod.num x) W' := by
  have := h.nums hza [x] (by simp) (by simpa using hx) hL
  simpa using this
theorem ByAt.num2 (h : ByAt w kb wb o l L W) {a : Nat} (hza : W.heap.size = a) (x y : Nat) (hx : x < 18446744073709551616) (hy : y < 18446744073709551616) (hL : L.length ≤ 1073741824) :
    Calls Try.prog 31 #[.pointer (some ⟨wb, 0, none⟩), .slice (some ⟨a, 0, none⟩) 2 2] (W.alloc (.cells #[.int .u64 (x : Nat), .int .u64 (y : Nat)] 30)) fun e W' => e = .returned (.tuple #[]) ∧ ByAt w kb wb o l (L ++ (Cod.num x ++ Cod.num y)) W' := by
  have := h.nums hza [x, y] (by simp) (by intro z hz; simp at hz; rcases hz with rfl | rfl; exact hx; exact hy) hL
  simpa using this
end

theorem kind_cases {o : OpM} (h : kindM o = true) : o.k = 1 ∨ o.k = 2 ∨ o.k = 3 ∨ o.k = 4 ∨ o.k = 5 ∨ o.k = 6 ∨ o.k = 7 ∨ o.k = 8 ∨ o.k = 9 := by
  unfold kindM at h
  split at h <;> simp_all
section
variable {w : World} {o : OpM} {l : OpL}
theorem bytes_start (h : OpAt w o l) {W1 : World} (hc : Chg (fun _ => False) (w.alloc (.cells (opC o l) 34)) W1) (s : ByteArray) (hs : s = str [UInt8.ofNat o.k]) :
    ByAt w w.heap.size (W1.heap.size + 1) o l [UInt8.ofNat o.k] ((W1.alloc (.cells #[.int .u8 (o.k : Nat)] 5)).alloc (.cells #[.string s] 83)) := by
  subst hs
  have c0 : Chg (fun _ => False) w (w.alloc (.cells (opC o l) 34)) := (Chg.refl _ _).alloc _
  have c2 : Chg (fun _ => False) W1 ((W1.alloc (.cells #[.int .u8 (o.k : Nat)] 5)).alloc (.cells #[.string (str [UInt8.ofNat o.k])] 83)) := ((Chg.refl _ _).alloc _).alloc _
  have hb : (w.alloc (.cells (opC o l) 34)).heap[w.heap.size]? = some (.cells (opC o l) 34) := Go.heap_alloc_new _ _
  have hl := (Array.getElem?_eq_some_iff.1 hb).1
  refine ⟨(c2.block _ (Nat.lt_of_lt_of_le hl hc.size) (fun f => f)).trans ((hc.block _ hl (fun f => f)).trans hb), ?_, h, (c0.trans hc).trans c2, ?_⟩
  · have := Go.heap_alloc_new (W1.alloc (.cells #[.int .u8 (o.k : Nat)] 5)) (.cells #[.string (str [UInt8.ofNat o.k])] 83)
    unfold WrAt
    simpa using this
  · have := hc.size
    have := c0.size
    omega
set_option maxRecDepth 100000 in
set_option maxHeartbeats 4000000 in
theorem bytes_1 (h : OpAt w o l) (hm : mayM o = true) (hk : o.k = 1) :
    Calls Try.prog 18 #[.agg (opC o l)] w fun e w' => e = .returned (.tuple #[.string (bytesM o), .int .i64 0]) ∧ Chg (fun _ => False) w w' := by
  have MY := Lib.hid (show Calls Try.prog 23 #[.agg (opC o l)] (w.alloc (.cells (opC o l) 34)) fun e w' => e = .returned (.int .i64 0) ∧ Chg (fun _ => False) (w.alloc (.cells (opC o l) 34)) w' from by
    have := may_any (h.same (w' := w.alloc (.cells (opC o l) 34)) ((Chg.refl _ _).alloc _))
    rw [hm] at this
    exact this)
  have HBY := Lib.hid (show bytesM o = str (bytesL o) by unfold bytesM; rw [if_pos hm])
  have hkm : kindM o = true := by unfold mayM at hm; simp at hm; exact hm.1
  have hkd : 1 ≤ o.n ∧ o.n ≤ 4096 := by have h1 := hkm; unfold kindM at h1; rw [hk] at h1; simpa using h1
  have hkc : ∀ i v, (opC o l)[i]? = some v → (w.alloc (.cells (opC o l) 34)).cell? ⟨w.heap.size, i, none⟩ = some v := fun i v hv => cell_of (Go.heap_alloc_new _ _) hv
  have HST := Lib.hid (fun (W1 : World) hc s hs => bytes_start h (W1 := W1) hc s hs)
  have hk256 : o.k < 256 := h.k
  have qk1 : (((o.k : Nat) : Int) == 1) = true := by rw [hk]; rfl
  have qk2 : (((o.k : Nat) : Int) == 2) = false := by rw [hk]; rfl
  have qk3 : (((o.k : Nat) : Int) == 3) = false := by rw [hk]; rfl
  have qk4 : (((o.k : Nat) : Int) == 4) = false := by rw [hk]; rfl
  have qk5 : (((o.k : Nat) : Int) == 5) = false := by rw [hk]; rfl
  have qk6 : (((o.k : Nat) : Int) == 6) = false := by rw [hk]; rfl
  have qk7 : (((o.k : Nat) : Int) == 7) = false := by rw [hk]; rfl
  have qk8 : (((o.k : Nat) : Int) == 8) = false := by rw [hk]; rfl
  have qk9 : (((o.k : Nat) : Int) == 9) = false := by rw [hk]; rfl
  have HKX0 := Lib.hid (fun (W1 : World) (hc : Chg (fun _ => False) (w.alloc (.cells (opC o l) 34)) W1) => show ∀ (i : Nat) (v : Value), (opC o l)[i]? = some v → W1.cell? ⟨w.heap.size, i, none⟩ = some v from fun i v hv => (World.cell?_of_block (a := ⟨w.heap.size, i, none⟩) (hc.block _ (by simp) (fun f => f))).trans (hkc i v hv))
  have HCV := Lib.hid (fun (v : World) (g : Nat) (hh : v.cell? ⟨g, 0, none⟩ = some (.int .u8 (o.k : Nat))) => show (convert 81 9 (.slice (some ⟨g, 0, none⟩) 1 1)).run Try.prog v = .ok (.string (str [UInt8.ofNat o.k])) v from one_conv o.k v g (by rw [Nat.mod_eq_of_lt hk256]; exact hh))
  have HK := Lib.hid hk
  clear h hm hkm hkc hk
  go_enter Try.func18, Try.ntmps18
  go_wp2_with fail
  refine MY.out.mono ?_
  rintro e W1 ⟨rfl, hc⟩
  have HKX := Lib.hid (HKX0.out W1 hc)
  have hkl : w.heap.size < W1.heap.size := by have := hc.size; simp only [World.size_alloc] at this; omega
  have hkl2 : w.heap.size < W1.heap.size + 1 := by omega
  have hcv := HCV.out (W1.alloc (.cells #[.int .u8 (o.k : Nat)] 5)) W1.heap.size (cell_of (Go.heap_alloc_new _ _) rfl)
  have HB := Lib.hid (HST.out W1 hc _ rfl)
  obtain ⟨wb, HWB⟩ : ∃ wb, Hid (W1.heap.size + 1 = wb) := ⟨_, Lib.hid rfl⟩
  obtain ⟨W4, HW4⟩ : ∃ W4, Hid ((W1.alloc (.cells #[.int .u8 (o.k : Nat)] 5)).alloc (.cells #[.string (str [UInt8.ofNat o.k])] 83) = W4) := ⟨_, Lib.hid rfl⟩
  rw [HWB.out, HW4.out] at HB
  have hza : W4.heap.size = wb + 1 := by rw [← HW4.out, ← HWB.out]; simp
  clear hc MY HST HKX0 HCV
  obtain ⟨hn1, hn2⟩ := hkd
  have hn3 := HB.out.op.n
  have hw : IntKind.u64.wrap ((o.n : Nat) : Int) = (o.n : Nat) := by simp only [IntKind.wrap, IntKind.bits, IntKind.signed]; simp; omega
  have C1 := Lib.hid (HB.out.num hza (o.n) (by omega) (by simp))
  have k0 := HKX.out 0 _ rfl
  have k1 := HKX.out 1 _ rfl
  clear HB
  go_wp2_with fail
  rw [HW4.out]
  try rw [HWB.out]
  refine (C1.out).mono ?_
  rintro e W5 ⟨rfl, hB⟩
  have HB := Lib.hid hB
  clear hB C1 k0 k1

  have HF := Lib.hid (show ByAt w w.heap.size wb o l (bytesL o) W5 from by
    have e : bytesL o = [UInt8.ofNat o.k] ++ Cod.num o.n := by unfold bytesL bodyL; rw [HK.out]; simp
    rw [e]; exact HB.out)
  have u0 : W5.cell? ⟨wb, 0, none⟩ = some (.string (str (bytesL o))) := cell_of HF.out.wr rfl
  clear HB
  go_wp2
  go_ret2
  exact ⟨by rw [HBY.out]; rfl, HF.out.chg⟩
set_option maxRecDepth 100000 in
set_option maxHeartbeats 4000000 in
theorem bytes_2 (h : OpAt w o l) (hm : mayM o = true) (hk : o.k = 2) :
    Calls Try.prog 18 #[.agg (opC o l)] w fun e w' => e = .returned (.tuple #[.string (bytesM o), .int .i64 0]) ∧ Chg (fun _ => False) w w' := by
  have MY := Lib.hid (show Calls Try.prog 23 #[.agg (opC o l)] (w.alloc (.cells (opC o l) 34)) fun e w' => e = .returned (.int .i64 0) ∧ Chg (fun _ => False) (w.alloc (.cells (opC o l) 34)) w' from by
    have := may_any (h.same (w' := w.alloc (.cells (opC o l) 34)) ((Chg.refl _ _).alloc _))
    rw [hm] at this
    exact this)
  have HBY := Lib.hid (show bytesM o = str (bytesL o) by unfold bytesM; rw [if_pos hm])
  have hkm : kindM o = true := by unfold mayM at hm; simp at hm; exact hm.1
  have hkd : 1 ≤ o.n ∧ o.n ≤ 4096 := by have h1 := hkm; unfold kindM at h1; rw [hk] at h1; simpa using h1
  have hkc : ∀ i v, (opC o l)[i]? = some v → (w.alloc (.cells (opC o l) 34)).cell? ⟨w.heap.size, i, none⟩ = some v := fun i v hv => cell_of (Go.heap_alloc_new _ _) hv
  have HST := Lib.hid (fun (W1 : World) hc s hs => bytes_start h (W1 := W1) hc s hs)
  have hk256 : o.k < 256 := h.k
  have qk1 : (((o.k : Nat) : Int) == 1) = false := by rw [hk]; rfl
  have qk2 : (((o.k : Nat) : Int) == 2) = true := by rw [hk]; rfl
  have qk3 : (((o.k : Nat) : Int) == 3) = false := by rw [hk]; rfl
  have qk4 : (((o.k : Nat) : Int) == 4) = false := by rw [hk]; rfl
  have qk5 : (((o.k : Nat) : Int) == 5) = false := by rw [hk]; rfl
  have qk6 : (((o.k : Nat) : Int) == 6) = false := by rw [hk]; rfl
  have qk7 : (((o.k : Nat) : Int) == 7) = false := by rw [hk]; rfl
  have qk8 : (((o.k : Nat) : Int) == 8) = false := by rw [hk]; rfl
  have qk9 : (((o.k : Nat) : Int) == 9) = false := by rw [hk]; rfl
  have HKX0 := Lib.hid (fun (W1 : World) (hc : Chg (fun _ => False) (w.alloc (.cells (opC o l) 34)) W1) => show ∀ (i : Nat) (v : Value), (opC o l)[i]? = some v → W1.cell? ⟨w.heap.size, i, none⟩ = some v from fun i v hv => (World.cell?_of_block (a := ⟨w.heap.size, i, none⟩) (hc.block _ (by simp) (fun f => f))).trans (hkc i v hv))
  have HCV := Lib.hid (fun (v : World) (g : Nat) (hh : v.cell? ⟨g, 0, none⟩ = some (.int .u8 (o.k : Nat))) => show (convert 81 9 (.slice (some ⟨g, 0, none⟩) 1 1)).run Try.prog v = .ok (.string (str [UInt8.ofNat o.k])) v from one_conv o.k v g (by rw [Nat.mod_eq_of_lt hk256]; exact hh))
  have HK := Lib.hid hk
  clear h hm hkm hkc hk
  go_enter Try.func18, Try.ntmps18
  go_wp2_with fail
  refine MY.out.mono ?_
  rintro e W1 ⟨rfl, hc⟩
  have HKX := Lib.hid (HKX0.out W1 hc)
  have hkl : w.heap.size < W1.heap.size := by have := hc.size; simp only [World.size_alloc] at this; omega
  have hkl2 : w.heap.size < W1.heap.size + 1 := by omega
  have hcv := HCV.out (W1.alloc (.cells #[.int .u8 (o.k : Nat)] 5)) W1.heap.size (cell_of (Go.heap_alloc_new _ _) rfl)
  have HB := Lib.hid (HST.out W1 hc _ rfl)
  obtain ⟨wb, HWB⟩ : ∃ wb, Hid (W1.heap.size + 1 = wb) := ⟨_, Lib.hid rfl⟩
  obtain ⟨W4, HW4⟩ : ∃ W4, Hid ((W1.alloc (.cells #[.int .u8 (o.k : Nat)] 5)).alloc (.cells #[.string (str [UInt8.ofNat o.k])] 83) = W4) := ⟨_, Lib.hid rfl⟩
  rw [HWB.out, HW4.out] at HB
  have hza : W4.heap.size = wb + 1 := by rw [← HW4.out, ← HWB.out]; simp
  clear hc MY HST HKX0 HCV
  obtain ⟨hn1, hn2⟩ := hkd
  have hn3 := HB.out.op.n
  have hw : IntKind.u64.wrap ((o.n : Nat) : Int) = (o.n : Nat) := by simp only [IntKind.wrap, IntKind.bits, IntKind.signed]; simp; omega
  have C1 := Lib.hid (HB.out.num hza (o.n) (by omega) (by simp))
  have k0 := HKX.out 0 _ rfl
  have k1 := HKX.out 1 _ rfl
  clear HB
  go_wp2_with fail
  rw [HW4.out]
  try rw [HWB.out]
  refine (C1.out).mono ?_
  rintro e W5 ⟨rfl, hB⟩
  have HB := Lib.hid hB
  clear hB C1 k0 k1

  have HF := Lib.hid (show ByAt w w.heap.size wb o l (bytesL o) W5 from by
    have e : bytesL o = [UInt8.ofNat o.k] ++ Cod.num o.n := by unfold bytesL bodyL; rw [HK.out]; simp
    rw [e]; exact HB.out)
  have u0 : W5.cell? ⟨wb, 0, none⟩ = some (.string (str (bytesL o))) := cell_of HF.out.wr rfl
  clear HB
  go_wp2
  go_ret2
  exact ⟨by rw [HBY.out]; rfl, HF.out.chg⟩
set_option maxRecDepth 100000 in
set_option maxHeartbeats 4000000 in
theorem bytes_3 (h : OpAt w o l) (hm : mayM o = true) (hk : o.k = 3) :
    Calls Try.prog 18 #[.agg (opC o l)] w fun e w' => e = .returned (.tuple #[.string (bytesM o), .int .i64 0]) ∧ Chg (fun _ => False) w w' := by
  have MY := Lib.hid (show Calls Try.prog 23 #[.agg (opC o l)] (w.alloc (.cells (opC o l) 34)) fun e w' => e = .returned (.int .i64 0) ∧ Chg (fun _ => False) (w.alloc (.cells (opC o l) 34)) w' from by
    have := may_any (h.same (w' := w.alloc (.cells (opC o l) 34)) ((Chg.refl _ _).alloc _))
    rw [hm] at this
    exact this)
  have HBY := Lib.hid (show bytesM o = str (bytesL o) by unfold bytesM; rw [if_pos hm])
  have hkm : kindM o = true := by unfold mayM at hm; simp at hm; exact hm.1
  have hli : o.keys.all keyP = true ∧ o.needs.all needP = true ∧ o.keys.length ≤ 256 ∧ o.needs.length ≤ 256 := by
    have h1 := hkm
    unfold kindM at h1
    rw [hk] at h1
    simp only [Bool.and_eq_true] at h1
    have h2 := h1.2
    rw [listsM_eq] at h2
    simp only [Bool.and_eq_true, decide_eq_true_eq] at h2
    exact ⟨h2.1.1.1.1.1.1, h2.1.1.1.1.1.2, h2.1.1.1.1.2, h2.1.1.2⟩
  have hkc : ∀ i v, (opC o l)[i]? = some v → (w.alloc (.cells (opC o l) 34)).cell? ⟨w.heap.size, i, none⟩ = some v := fun i v hv => cell_of (Go.heap_alloc_new _ _) hv
  have HST := Lib.hid (fun (W1 : World) hc s hs => bytes_start h (W1 := W1) hc s hs)
  have hk256 : o.k < 256 := h.k
  have qk1 : (((o.k : Nat) : Int) == 1) = false := by rw [hk]; rfl
  have qk2 : (((o.k : Nat) : Int) == 2) = false := by rw [hk]; rfl
  have qk3 : (((o.k : Nat) : Int) == 3) = true := by rw [hk]; rfl
  have qk4 : (((o.k : Nat) : Int) == 4) = false := by rw [hk]; rfl
  have qk5 : (((o.k : Nat) : Int) == 5) = false := by rw [hk]; rfl
  have qk6 : (((o.k : Nat) : Int) == 6) = false := by rw [hk]; rfl
  have qk7 : (((o.k : Nat) : Int) == 7) = false := by rw [hk]; rfl
  have qk8 : (((o.k : Nat) : Int) == 8) = false := by rw [hk]; rfl
  have qk9 : (((o.k : Nat) : Int) == 9) = false := by rw [hk]; rfl
  have HKX0 := Lib.hid (fun (W1 : World) (hc : Chg (fun _ => False) (w.alloc (.cells (opC o l) 34)) W1) => show ∀ (i : Nat) (v : Value), (opC o l)[i]? = some v → W1.cell? ⟨w.heap.size, i, none⟩ = some v from fun i v hv => (World.cell?_of_block (a := ⟨w.heap.size, i, none⟩) (hc.block _ (by simp) (fun f => f))).trans (hkc i v hv))
  have HCV := Lib.hid (fun (v : World) (g : Nat) (hh : v.cell? ⟨g, 0, none⟩ = some (.int .u8 (o.k : Nat))) => show (convert 81 9 (.slice (some ⟨g, 0, none⟩) 1 1)).run Try.prog v = .ok (.string (str [UInt8.ofNat o.k])) v from one_conv o.k v g (by rw [Nat.mod_eq_of_lt hk256]; exact hh))
  have HK := Lib.hid hk
  clear h hm hkm hkc hk
  go_enter Try.func18, Try.ntmps18
  go_wp2_with fail
  refine MY.out.mono ?_
  rintro e W1 ⟨rfl, hc⟩
  have HKX := Lib.hid (HKX0.out W1 hc)
  have hkl : w.heap.size < W1.heap.size := by have := hc.size; simp only [World.size_alloc] at this; omega
  have hkl2 : w.heap.size < W1.heap.size + 1 := by omega
  have hcv := HCV.out (W1.alloc (.cells #[.int .u8 (o.k : Nat)] 5)) W1.heap.size (cell_of (Go.heap_alloc_new _ _) rfl)
  have HB := Lib.hid (HST.out W1 hc _ rfl)
  obtain ⟨wb, HWB⟩ : ∃ wb, Hid (W1.heap.size + 1 = wb) := ⟨_, Lib.hid rfl⟩
  obtain ⟨W4, HW4⟩ : ∃ W4, Hid ((W1.alloc (.cells #[.int .u8 (o.k : Nat)] 5)).alloc (.cells #[.string (str [UInt8.ofNat o.k])] 83) = W4) := ⟨_, Lib.hid rfl⟩
  rw [HWB.out, HW4.out] at HB
  have hza : W4.heap.size = wb + 1 := by rw [← HW4.out, ← HWB.out]; simp
  clear hc MY HST HKX0 HCV
  have hst := HB.out.op.st

  have hks : o.keys.all keyP = true := hli.1
  have hns : o.needs.all needP = true := hli.2.1
  have hkl : o.keys.length ≤ 256 := hli.2.2.1
  have hnl : o.needs.length ≤ 256 := hli.2.2.2
  have wk : IntKind.u64.wrap ((o.keys.length : Nat) : Int) = (o.keys.length : Nat) := by simp only [IntKind.wrap, IntKind.bits, IntKind.signed]; simp; omega
  have wn : IntKind.u64.wrap ((o.needs.length : Nat) : Int) = (o.needs.length : Nat) := by simp only [IntKind.wrap, IntKind.bits, IntKind.signed]; simp; omega
  have hn1 := num_len9 o.st
  have hn2 := num_len9 o.keys.length
  have hn3 := num_len9 o.needs.length
  have C1 := Lib.hid (HB.out.num2 hza o.st o.keys.length (by omega) (by omega) (by simp))
  have k0 := HKX.out 0 _ rfl
  have k2 := HKX.out 2 _ rfl
  have k3 := HKX.out 3 _ rfl
  clear HB
  go_wp2_with fail
  rw [HW4.out]
  try rw [HWB.out]
  refine (C1.out).mono ?_
  rintro e W5 ⟨rfl, hB⟩
  have HB := Lib.hid hB
  have H0 : Hid (ByAt w w.heap.size wb o l (([UInt8.ofNat o.k] ++ (Cod.num o.st ++ Cod.num o.keys.length)) ++ (o.keys.take 0).flatMap textL) W5) := Lib.hid (by simpa using hB)
  have m3 := HB.out.cells.2.2.2.1

  clear hB C1 k0 k2 k3 HB
  go_wp2
  go_loopw [46] (fun i wr => ∃ j : Nat, j ≤ o.keys.length ∧ i = .int .i64 j ∧ Hid (ByAt w w.heap.size wb o l (([UInt8.ofNat o.k] ++ (Cod.num o.st ++ Cod.num o.keys.length)) ++ (o.keys.take j).flatMap textL) wr)) (fun i _ => o.keys.length - (intOf i).toNat)
  case atStart => exact ⟨0, by omega, rfl, H0⟩
  case round =>
    obtain ⟨j, hj, rfl, HB⟩ := hrel
    clear H0 m3
    by_cases hlt : j < o.keys.length
    · have q : decide ((j : Int) < o.keys.length) = true := by simp; omega
      have q' : decide (j < o.keys.length) = true := by simpa using hlt
      obtain ⟨g, oo, hko, hg, a1⟩ := (HB.out.op.keys.same HB.out.chg).cell j hlt
      have hsz : o.keys[j].size ≤ 16384 := by
        have := List.all_eq_true.1 hks o.keys[j] (List.getElem_mem hlt)
        unfold keyP at this; simp at this; exact this.2
      have hln := keys_len hks j
      have C1 := HB.out.text o.keys[j] (by simp only [List.length_append, List.length_cons, List.length_nil]; omega) (by omega)
      rw [List.append_assoc, ← flat_snoc o.keys textL hlt] at C1
      have C1 := Lib.hid C1
      generalize o.keys[j] = xj at *
      have l0 : (0 : Int) ≤ j := by omega
      have l1 : (j : Int) < o.keys.length := by omega
      clear HB
      rw [hko]
      go_wp2_with fail
      refine C1.out.mono ?_
      rintro e W6 ⟨rfl, hB⟩
      have HB := Lib.hid hB
      clear hB C1
      go_wp2
      go_roundw
      case rel => exact ⟨j + 1, by omega, by go_num, HB⟩
      case measure => simp [intOf]; omega
    · obtain rfl : j = o.keys.length := by omega
      have q : decide ((o.keys.length : Int) < o.keys.length) = false := by simp
      have q' : decide (o.keys.length < o.keys.length) = false := by simp
      have hln := keys_len hks o.keys.length
      rw [List.take_length] at hln
      have hB := HB.out
      rw [List.take_length] at hB
      have HB := Lib.hid hB
      have C1 := Lib.hid (HB.out.num rfl o.needs.length (by omega) (by simp only [List.length_append, List.length_cons, List.length_nil]; omega))
      have k4 := HB.out.cells.2.2.2.2.1
      clear hB HB
      go_wp2_with fail
      refine C1.out.mono ?_
      rintro e W6 ⟨rfl, hB⟩
      have HB := Lib.hid hB
      have H0 : Hid (ByAt w w.heap.size wb o l (((([UInt8.ofNat o.k] ++ (Cod.num o.st ++ Cod.num o.keys.length)) ++ o.keys.flatMap textL) ++ Cod.num o.needs.length) ++ (o.needs.take 0).flatMap needL) W6) := Lib.hid (by simpa using hB)
      have m4 := HB.out.cells.2.2.2.2.1
      clear hB HB C1 k4
      go_wp2
      go_loopw [64] (fun i wr => ∃ j : Nat, j ≤ o.needs.length ∧ i = .int .i64 j ∧ Hid (ByAt w w.heap.size wb o l (((([UInt8.ofNat o.k] ++ (Cod.num o.st ++ Cod.num o.keys.length)) ++ o.keys.flatMap textL) ++ Cod.num o.needs.length) ++ (o.needs.take j).flatMap needL) wr)) (fun i _ => o.needs.length - (intOf i).toNat)
      case atStart => exact ⟨0, by omega, rfl, H0⟩
      case round =>
        obtain ⟨j, hj, rfl, HB⟩ := hrel
        clear H0 m4
        by_cases hlt : j < o.needs.length
        · have q : decide ((j : Int) < o.needs.length) = true := by simp; omega
          have q' : decide (j < o.needs.length) = true := by simpa using hlt
          obtain ⟨g, oo, hko, hg, a1, a2⟩ := (HB.out.op.needs.same HB.out.chg).cell j hlt
          have hx2 := HB.out.op.needs.lim o.needs[j] (List.getElem_mem hlt)
          have hsz : o.needs[j].1.size ≤ 64 := by
            have := List.all_eq_true.1 hns o.needs[j] (List.getElem_mem hlt)
            unfold needP at this; simp only [Bool.and_eq_true] at this; exact pred_size this.1
          have hln2 := needs_len hns j
          have hB2 := HB.out.stay ((Chg.refl _ wr).alloc (.cells #[.string o.needs[j].1, .int .u64 (o.needs[j].2 : Nat)] 50))
          have hnb : (wr.alloc (.cells #[.string o.needs[j].1, .int .u64 (o.needs[j].2 : Nat)] 50)).heap[wr.heap.size]? = some (.cells #[.string o.needs[j].1, .int .u64 (o.needs[j].2 : Nat)] 50) := Go.heap_alloc_new _ _
          have hne : wr.heap.size ≠ wb := fun e => by have := HB.out.wr.lt; omega
          obtain ⟨V, HV⟩ : ∃ V, Hid (wr.alloc (.cells #[.string o.needs[j].1, .int .u64 (o.needs[j].2 : Nat)] 50) = V) := ⟨_, Lib.hid rfl⟩
          rw [HV.out] at hB2 hnb
          obtain ⟨nb, HNB⟩ : ∃ nb, Hid (wr.heap.size = nb) := ⟨_, Lib.hid rfl⟩
          rw [HNB.out] at hnb hne
          have b0 : V.cell? ⟨nb, 0, none⟩ = some (.string o.needs[j].1) := cell_of hnb rfl
          have C1 := HB.out
          have C1 := hB2.wr
          have D1 := Lib.hid (wtext_any hB2.wr o.needs[j].1 (by rw [str_size]; simp only [List.length_append, List.length_cons, List.length_nil]; omega) (by omega))
          rw [str_text] at D1
          have hsn := flat_snoc o.needs needL hlt
          have HSN := Lib.hid hsn
          have HB2 := Lib.hid hB2
          have HNBC := Lib.hid hnb
          have hnbl := (Array.getElem?_eq_some_iff.1 hnb).1
          have htl := textL_len o.needs[j].1
          unfold needL at hsn
          have HSN : Hid ((o.needs.take (j + 1)).flatMap needL = (o.needs.take j).flatMap needL ++ (textL o.needs[j].1 ++ Cod.num o.needs[j].2)) := HSN
          generalize o.needs[j].1 = xp at *
          generalize o.needs[j].2 = xt at *
          have l0 : (0 : Int) ≤ j := by omega
          have l1 : (j : Int) < o.needs.length := by omega
          clear HB hB2 hnb C1 hsn
          rw [hko]
          go_wp2_with fail
          rw [HV.out, HNB.out]
          refine D1.out.mono ?_
          rintro e W7 ⟨rfl, h1, h2⟩
          have HB3 := Lib.hid (HB2.out.next h1 h2)
          have b1 : W7.cell? ⟨nb, 1, none⟩ = some (.int .u64 (xt : Nat)) := cell_of ((h2.block nb hnbl hne).trans HNBC.out) rfl
          have C2 := HB3.out.num rfl xt hx2 (by simp only [List.length_append, List.length_cons, List.length_nil]; omega)
          rw [List.append_assoc, List.append_assoc, ← HSN.out] at C2
          have C2 := Lib.hid C2
          clear h1 h2 D1 HB2
          go_wp2_with fail
          refine C2.out.mono ?_
          rintro e W8 ⟨rfl, hB⟩
          have HB := Lib.hid hB
          clear hB C2 HB3 b1
          go_wp2
          go_roundw
          case rel => exact ⟨j + 1, by omega, by go_num, HB⟩
          case measure => simp [intOf]; omega
        · obtain rfl : j = o.needs.length := by omega
          have q : decide ((o.needs.length : Int) < o.needs.length) = false := by simp
          have q' : decide (o.needs.length < o.needs.length) = false := by simp
          have HF := Lib.hid (show ByAt w w.heap.size wb o l (bytesL o) wr from by
            have := HB.out
            rw [List.take_length] at this
            have e : bytesL o = (((([UInt8.ofNat o.k] ++ (Cod.num o.st ++ Cod.num o.keys.length)) ++ o.keys.flatMap textL) ++ Cod.num o.needs.length) ++ o.needs.flatMap needL) := by unfold bytesL bodyL; rw [HK.out]; simp
            rw [e]; exact this)
          have u0 : wr.cell? ⟨wb, 0, none⟩ = some (.string (str (bytesL o))) := cell_of HF.out.wr rfl
          clear HB
          go_wp2
          go_ret2
          exact ⟨by rw [HBY.out]; rfl, HF.out.chg⟩
set_option maxRecDepth 100000 in
set_option maxHeartbeats 4000000 in
theorem bytes_4 (h : OpAt w o l) (hm : mayM o = true) (hk : o.k = 4) :
    Calls Try.prog 18 #[.agg (opC o l)] w fun e w' => e = .returned (.tuple #[.string (bytesM o), .int .i64 0]) ∧ Chg (fun _ => False) w w' := by
  have MY := Lib.hid (show Calls Try.prog 23 #[.agg (opC o l)] (w.alloc (.cells (opC o l) 34)) fun e w' => e = .returned (.int .i64 0) ∧ Chg (fun _ => False) (w.alloc (.cells (opC o l) 34)) w' from by
    have := may_any (h.same (w' := w.alloc (.cells (opC o l) 34)) ((Chg.refl _ _).alloc _))
    rw [hm] at this
    exact this)
  have HBY := Lib.hid (show bytesM o = str (bytesL o) by unfold bytesM; rw [if_pos hm])
  have hkm : kindM o = true := by unfold mayM at hm; simp at hm; exact hm.1
  have hkc : ∀ i v, (opC o l)[i]? = some v → (w.alloc (.cells (opC o l) 34)).cell? ⟨w.heap.size, i, none⟩ = some v := fun i v hv => cell_of (Go.heap_alloc_new _ _) hv
  have HST := Lib.hid (fun (W1 : World) hc s hs => bytes_start h (W1 := W1) hc s hs)
  have hk256 : o.k < 256 := h.k
  have qk1 : (((o.k : Nat) : Int) == 1) = false := by rw [hk]; rfl
  have qk2 : (((o.k : Nat) : Int) == 2) = false := by rw [hk]; rfl
  have qk3 : (((o.k : Nat) : Int) == 3) = false := by rw [hk]; rfl
  have qk4 : (((o.k : Nat) : Int) == 4) = true := by rw [hk]; rfl
  have qk5 : (((o.k : Nat) : Int) == 5) = false := by rw [hk]; rfl
  have qk6 : (((o.k : Nat) : Int) == 6) = false := by rw [hk]; rfl
  have qk7 : (((o.k : Nat) : Int) == 7) = false := by rw [hk]; rfl
  have qk8 : (((o.k : Nat) : Int) == 8) = false := by rw [hk]; rfl
  have qk9 : (((o.k : Nat) : Int) == 9) = false := by rw [hk]; rfl
  have HKX0 := Lib.hid (fun (W1 : World) (hc : Chg (fun _ => False) (w.alloc (.cells (opC o l) 34)) W1) => show ∀ (i : Nat) (v : Value), (opC o l)[i]? = some v → W1.cell? ⟨w.heap.size, i, none⟩ = some v from fun i v hv => (World.cell?_of_block (a := ⟨w.heap.size, i, none⟩) (hc.block _ (by simp) (fun f => f))).trans (hkc i v hv))
  have HCV := Lib.hid (fun (v : World) (g : Nat) (hh : v.cell? ⟨g, 0, none⟩ = some (.int .u8 (o.k : Nat))) => show (convert 81 9 (.slice (some ⟨g, 0, none⟩) 1 1)).run Try.prog v = .ok (.string (str [UInt8.ofNat o.k])) v from one_conv o.k v g (by rw [Nat.mod_eq_of_lt hk256]; exact hh))
  have HK := Lib.hid hk
  clear h hm hkm hkc hk
  go_enter Try.func18, Try.ntmps18
  go_wp2_with fail
  refine MY.out.mono ?_
  rintro e W1 ⟨rfl, hc⟩
  have HKX := Lib.hid (HKX0.out W1 hc)
  have hkl : w.heap.size < W1.heap.size := by have := hc.size; simp only [World.size_alloc] at this; omega
  have hkl2 : w.heap.size < W1.heap.size + 1 := by omega
  have hcv := HCV.out (W1.alloc (.cells #[.int .u8 (o.k : Nat)] 5)) W1.heap.size (cell_of (Go.heap_alloc_new _ _) rfl)
  have HB := Lib.hid (HST.out W1 hc _ rfl)
  obtain ⟨wb, HWB⟩ : ∃ wb, Hid (W1.heap.size + 1 = wb) := ⟨_, Lib.hid rfl⟩
  obtain ⟨W4, HW4⟩ : ∃ W4, Hid ((W1.alloc (.cells #[.int .u8 (o.k : Nat)] 5)).alloc (.cells #[.string (str [UInt8.ofNat o.k])] 83) = W4) := ⟨_, Lib.hid rfl⟩
  rw [HWB.out, HW4.out] at HB
  have hza : W4.heap.size = wb + 1 := by rw [← HW4.out, ← HWB.out]; simp
  clear hc MY HST HKX0 HCV
  have hst := HB.out.op.st
  have C1 := Lib.hid (HB.out.num hza (o.st) (by omega) (by simp))
  have k0 := HKX.out 0 _ rfl
  have k2 := HKX.out 2 _ rfl
  clear HB
  go_wp2_with fail
  rw [HW4.out]
  try rw [HWB.out]
  refine (C1.out).mono ?_
  rintro e W5 ⟨rfl, hB⟩
  have HB := Lib.hid hB
  clear hB C1 k0 k2

  have HF := Lib.hid (show ByAt w w.heap.size wb o l (bytesL o) W5 from by
    have e : bytesL o = [UInt8.ofNat o.k] ++ Cod.num o.st := by unfold bytesL bodyL; rw [HK.out]; simp
    rw [e]; exact HB.out)
  have u0 : W5.cell? ⟨wb, 0, none⟩ = some (.string (str (bytesL o))) := cell_of HF.out.wr rfl
  clear HB
  go_wp2
  go_ret2
  exact ⟨by rw [HBY.out]; rfl, HF.out.chg⟩
set_option maxRecDepth 100000 in
set_option maxHeartbeats 4000000 in
theorem bytes_5 (h : OpAt w o l) (hm : mayM o = true) (hk : o.k = 5) :
    Calls Try.prog 18 #[.agg (opC o l)] w fun e w' => e = .returned (.tuple #[.string (bytesM o), .int .i64 0]) ∧ Chg (fun _ => False) w w' := by
  have MY := Lib.hid (show Calls Try.prog 23 #[.agg (opC o l)] (w.alloc (.cells (opC o l) 34)) fun e w' => e = .returned (.int .i64 0) ∧ Chg (fun _ => False) (w.alloc (.cells (opC o l) 34)) w' from by
    have := may_any (h.same (w' := w.alloc (.cells (opC o l) 34)) ((Chg.refl _ _).alloc _))
    rw [hm] at this
    exact this)
  have HBY := Lib.hid (show bytesM o = str (bytesL o) by unfold bytesM; rw [if_pos hm])
  have hkm : kindM o = true := by unfold mayM at hm; simp at hm; exact hm.1
  have hkd : predOk o.pred = true ∧ True := by have h1 := hkm; unfold kindM at h1; rw [hk] at h1; simp only [Bool.and_eq_true] at h1; exact ⟨h1.1, trivial⟩
  have hkc : ∀ i v, (opC o l)[i]? = some v → (w.alloc (.cells (opC o l) 34)).cell? ⟨w.heap.size, i, none⟩ = some v := fun i v hv => cell_of (Go.heap_alloc_new _ _) hv
  have HST := Lib.hid (fun (W1 : World) hc s hs => bytes_start h (W1 := W1) hc s hs)
  have hk256 : o.k < 256 := h.k
  have qk1 : (((o.k : Nat) : Int) == 1) = false := by rw [hk]; rfl
  have qk2 : (((o.k : Nat) : Int) == 2) = false := by rw [hk]; rfl
  have qk3 : (((o.k : Nat) : Int) == 3) = false := by rw [hk]; rfl
  have qk4 : (((o.k : Nat) : Int) == 4) = false := by rw [hk]; rfl
  have qk5 : (((o.k : Nat) : Int) == 5) = true := by rw [hk]; rfl
  have qk6 : (((o.k : Nat) : Int) == 6) = false := by rw [hk]; rfl
  have qk7 : (((o.k : Nat) : Int) == 7) = false := by rw [hk]; rfl
  have qk8 : (((o.k : Nat) : Int) == 8) = false := by rw [hk]; rfl
  have qk9 : (((o.k : Nat) : Int) == 9) = false := by rw [hk]; rfl
  have HKX0 := Lib.hid (fun (W1 : World) (hc : Chg (fun _ => False) (w.alloc (.cells (opC o l) 34)) W1) => show ∀ (i : Nat) (v : Value), (opC o l)[i]? = some v → W1.cell? ⟨w.heap.size, i, none⟩ = some v from fun i v hv => (World.cell?_of_block (a := ⟨w.heap.size, i, none⟩) (hc.block _ (by simp) (fun f => f))).trans (hkc i v hv))
  have HCV := Lib.hid (fun (v : World) (g : Nat) (hh : v.cell? ⟨g, 0, none⟩ = some (.int .u8 (o.k : Nat))) => show (convert 81 9 (.slice (some ⟨g, 0, none⟩) 1 1)).run Try.prog v = .ok (.string (str [UInt8.ofNat o.k])) v from one_conv o.k v g (by rw [Nat.mod_eq_of_lt hk256]; exact hh))
  have HK := Lib.hid hk
  clear h hm hkm hkc hk
  go_enter Try.func18, Try.ntmps18
  go_wp2_with fail
  refine MY.out.mono ?_
  rintro e W1 ⟨rfl, hc⟩
  have HKX := Lib.hid (HKX0.out W1 hc)
  have hkl : w.heap.size < W1.heap.size := by have := hc.size; simp only [World.size_alloc] at this; omega
  have hkl2 : w.heap.size < W1.heap.size + 1 := by omega
  have hcv := HCV.out (W1.alloc (.cells #[.int .u8 (o.k : Nat)] 5)) W1.heap.size (cell_of (Go.heap_alloc_new _ _) rfl)
  have HB := Lib.hid (HST.out W1 hc _ rfl)
  obtain ⟨wb, HWB⟩ : ∃ wb, Hid (W1.heap.size + 1 = wb) := ⟨_, Lib.hid rfl⟩
  obtain ⟨W4, HW4⟩ : ∃ W4, Hid ((W1.alloc (.cells #[.int .u8 (o.k : Nat)] 5)).alloc (.cells #[.string (str [UInt8.ofNat o.k])] 83) = W4) := ⟨_, Lib.hid rfl⟩
  rw [HWB.out, HW4.out] at HB
  have hza : W4.heap.size = wb + 1 := by rw [← HW4.out, ← HWB.out]; simp
  clear hc MY HST HKX0 HCV
  have hpr := hkd.1
  have hst := HB.out.op.g
  have hw : IntKind.u64.wrap ((o.g : Nat) : Int) = (o.g : Nat) := by simp only [IntKind.wrap, IntKind.bits, IntKind.signed]; simp; omega
  have hps := pred_size hpr
  have C1 := Lib.hid (HB.out.text o.pred (by simp) (by omega))
  have k0 := HKX.out 0 _ rfl
  have k5 := HKX.out 5 _ rfl
  clear HB
  go_wp2_with fail
  rw [HW4.out]
  try rw [HWB.out]
  refine (C1.out).mono ?_
  rintro e W5 ⟨rfl, hB⟩
  have HB := Lib.hid hB
  have htl := textL_len o.pred
  have C2 := Lib.hid (HB.out.num rfl (o.g) (by omega) (by simp; omega))
  have m6 := HB.out.cells.2.2.2.2.2.2.1
  clear hB C1 k0 k5 HB
  go_wp2_with fail
  refine (C2.out).mono ?_
  rintro e W6 ⟨rfl, hB⟩
  have HB := Lib.hid hB
  clear hB C2 m6

  have HF := Lib.hid (show ByAt w w.heap.size wb o l (bytesL o) W6 from by
    have e : bytesL o = ([UInt8.ofNat o.k] ++ textL o.pred) ++ Cod.num o.g := by unfold bytesL bodyL; rw [HK.out]; simp
    rw [e]; exact HB.out)
  have u0 : W6.cell? ⟨wb, 0, none⟩ = some (.string (str (bytesL o))) := cell_of HF.out.wr rfl
  clear HB
  go_wp2
  go_ret2
  exact ⟨by rw [HBY.out]; rfl, HF.out.chg⟩
set_option maxRecDepth 100000 in
set_option maxHeartbeats 4000000 in
theorem bytes_6 (h : OpAt w o l) (hm : mayM o = true) (hk : o.k = 6) :
    Calls Try.prog 18 #[.agg (opC o l)] w fun e w' => e = .returned (.tuple #[.string (bytesM o), .int .i64 0]) ∧ Chg (fun _ => False) w w' := by
  have MY := Lib.hid (show Calls Try.prog 23 #[.agg (opC o l)] (w.alloc (.cells (opC o l) 34)) fun e w' => e = .returned (.int .i64 0) ∧ Chg (fun _ => False) (w.alloc (.cells (opC o l) 34)) w' from by
    have := may_any (h.same (w' := w.alloc (.cells (opC o l) 34)) ((Chg.refl _ _).alloc _))
    rw [hm] at this
    exact this)
  have HBY := Lib.hid (show bytesM o = str (bytesL o) by unfold bytesM; rw [if_pos hm])
  have hkm : kindM o = true := by unfold mayM at hm; simp at hm; exact hm.1
  have hkd : predOk o.pred = true ∧ True := by have h1 := hkm; unfold kindM at h1; rw [hk] at h1; simp only [Bool.and_eq_true] at h1; exact ⟨h1.1, trivial⟩
  have hkc : ∀ i v, (opC o l)[i]? = some v → (w.alloc (.cells (opC o l) 34)).cell? ⟨w.heap.size, i, none⟩ = some v := fun i v hv => cell_of (Go.heap_alloc_new _ _) hv
  have HST := Lib.hid (fun (W1 : World) hc s hs => bytes_start h (W1 := W1) hc s hs)
  have hk256 : o.k < 256 := h.k
  have qk1 : (((o.k : Nat) : Int) == 1) = false := by rw [hk]; rfl
  have qk2 : (((o.k : Nat) : Int) == 2) = false := by rw [hk]; rfl
  have qk3 : (((o.k : Nat) : Int) == 3) = false := by rw [hk]; rfl
  have qk4 : (((o.k : Nat) : Int) == 4) = false := by rw [hk]; rfl
  have qk5 : (((o.k : Nat) : Int) == 5) = false := by rw [hk]; rfl
  have qk6 : (((o.k : Nat) : Int) == 6) = true := by rw [hk]; rfl
  have qk7 : (((o.k : Nat) : Int) == 7) = false := by rw [hk]; rfl
  have qk8 : (((o.k : Nat) : Int) == 8) = false := by rw [hk]; rfl
  have qk9 : (((o.k : Nat) : Int) == 9) = false := by rw [hk]; rfl
  have HKX0 := Lib.hid (fun (W1 : World) (hc : Chg (fun _ => False) (w.alloc (.cells (opC o l) 34)) W1) => show ∀ (i : Nat) (v : Value), (opC o l)[i]? = some v → W1.cell? ⟨w.heap.size, i, none⟩ = some v from fun i v hv => (World.cell?_of_block (a := ⟨w.heap.size, i, none⟩) (hc.block _ (by simp) (fun f => f))).trans (hkc i v hv))
  have HCV := Lib.hid (fun (v : World) (g : Nat) (hh : v.cell? ⟨g, 0, none⟩ = some (.int .u8 (o.k : Nat))) => show (convert 81 9 (.slice (some ⟨g, 0, none⟩) 1 1)).run Try.prog v = .ok (.string (str [UInt8.ofNat o.k])) v from one_conv o.k v g (by rw [Nat.mod_eq_of_lt hk256]; exact hh))
  have HK := Lib.hid hk
  clear h hm hkm hkc hk
  go_enter Try.func18, Try.ntmps18
  go_wp2_with fail
  refine MY.out.mono ?_
  rintro e W1 ⟨rfl, hc⟩
  have HKX := Lib.hid (HKX0.out W1 hc)
  have hkl : w.heap.size < W1.heap.size := by have := hc.size; simp only [World.size_alloc] at this; omega
  have hkl2 : w.heap.size < W1.heap.size + 1 := by omega
  have hcv := HCV.out (W1.alloc (.cells #[.int .u8 (o.k : Nat)] 5)) W1.heap.size (cell_of (Go.heap_alloc_new _ _) rfl)
  have HB := Lib.hid (HST.out W1 hc _ rfl)
  obtain ⟨wb, HWB⟩ : ∃ wb, Hid (W1.heap.size + 1 = wb) := ⟨_, Lib.hid rfl⟩
  obtain ⟨W4, HW4⟩ : ∃ W4, Hid ((W1.alloc (.cells #[.int .u8 (o.k : Nat)] 5)).alloc (.cells #[.string (str [UInt8.ofNat o.k])] 83) = W4) := ⟨_, Lib.hid rfl⟩
  rw [HWB.out, HW4.out] at HB
  have hza : W4.heap.size = wb + 1 := by rw [← HW4.out, ← HWB.out]; simp
  clear hc MY HST HKX0 HCV
  have hpr := hkd.1
  have hst := HB.out.op.to
  have hw : IntKind.u64.wrap ((o.to : Nat) : Int) = (o.to : Nat) := by simp only [IntKind.wrap, IntKind.bits, IntKind.signed]; simp; omega
  have hps := pred_size hpr
  have C1 := Lib.hid (HB.out.text o.pred (by simp) (by omega))
  have k0 := HKX.out 0 _ rfl
  have k5 := HKX.out 5 _ rfl
  clear HB
  go_wp2_with fail
  rw [HW4.out]
  try rw [HWB.out]
  refine (C1.out).mono ?_
  rintro e W5 ⟨rfl, hB⟩
  have HB := Lib.hid hB
  have htl := textL_len o.pred
  have C2 := Lib.hid (HB.out.num rfl (o.to) (by omega) (by simp; omega))
  have m7 := HB.out.cells.2.2.2.2.2.2.2.1
  clear hB C1 k0 k5 HB
  go_wp2_with fail
  refine (C2.out).mono ?_
  rintro e W6 ⟨rfl, hB⟩
  have HB := Lib.hid hB
  clear hB C2 m7

  have HF := Lib.hid (show ByAt w w.heap.size wb o l (bytesL o) W6 from by
    have e : bytesL o = ([UInt8.ofNat o.k] ++ textL o.pred) ++ Cod.num o.to := by unfold bytesL bodyL; rw [HK.out]; simp
    rw [e]; exact HB.out)
  have u0 : W6.cell? ⟨wb, 0, none⟩ = some (.string (str (bytesL o))) := cell_of HF.out.wr rfl
  clear HB
  go_wp2
  go_ret2
  exact ⟨by rw [HBY.out]; rfl, HF.out.chg⟩
set_option maxRecDepth 100000 in
set_option maxHeartbeats 4000000 in
theorem bytes_7 (h : OpAt w o l) (hm : mayM o = true) (hk : o.k = 7) :
    Calls Try.prog 18 #[.agg (opC o l)] w fun e w' => e = .returned (.tuple #[.string (bytesM o), .int .i64 0]) ∧ Chg (fun _ => False) w w' := by
  have MY := Lib.hid (show Calls Try.prog 23 #[.agg (opC o l)] (w.alloc (.cells (opC o l) 34)) fun e w' => e = .returned (.int .i64 0) ∧ Chg (fun _ => False) (w.alloc (.cells (opC o l) 34)) w' from by
    have := may_any (h.same (w' := w.alloc (.cells (opC o l) 34)) ((Chg.refl _ _).alloc _))
    rw [hm] at this
    exact this)
  have HBY := Lib.hid (show bytesM o = str (bytesL o) by unfold bytesM; rw [if_pos hm])
  have hkm : kindM o = true := by unfold mayM at hm; simp at hm; exact hm.1
  have hkd : predOk o.pred = true ∧ True := by have h1 := hkm; unfold kindM at h1; rw [hk] at h1; simp only [Bool.and_eq_true] at h1; exact ⟨h1.1, trivial⟩
  have hkc : ∀ i v, (opC o l)[i]? = some v → (w.alloc (.cells (opC o l) 34)).cell? ⟨w.heap.size, i, none⟩ = some v := fun i v hv => cell_of (Go.heap_alloc_new _ _) hv
  have HST := Lib.hid (fun (W1 : World) hc s hs => bytes_start h (W1 := W1) hc s hs)
  have hk256 : o.k < 256 := h.k
  have qk1 : (((o.k : Nat) : Int) == 1) = false := by rw [hk]; rfl
  have qk2 : (((o.k : Nat) : Int) == 2) = false := by rw [hk]; rfl
  have qk3 : (((o.k : Nat) : Int) == 3) = false := by rw [hk]; rfl
  have qk4 : (((o.k : Nat) : Int) == 4) = false := by rw [hk]; rfl
  have qk5 : (((o.k : Nat) : Int) == 5) = false := by rw [hk]; rfl
  have qk6 : (((o.k : Nat) : Int) == 6) = false := by rw [hk]; rfl
  have qk7 : (((o.k : Nat) : Int) == 7) = true := by rw [hk]; rfl
  have qk8 : (((o.k : Nat) : Int) == 8) = false := by rw [hk]; rfl
  have qk9 : (((o.k : Nat) : Int) == 9) = false := by rw [hk]; rfl
  have HKX0 := Lib.hid (fun (W1 : World) (hc : Chg (fun _ => False) (w.alloc (.cells (opC o l) 34)) W1) => show ∀ (i : Nat) (v : Value), (opC o l)[i]? = some v → W1.cell? ⟨w.heap.size, i, none⟩ = some v from fun i v hv => (World.cell?_of_block (a := ⟨w.heap.size, i, none⟩) (hc.block _ (by simp) (fun f => f))).trans (hkc i v hv))
  have HCV := Lib.hid (fun (v : World) (g : Nat) (hh : v.cell? ⟨g, 0, none⟩ = some (.int .u8 (o.k : Nat))) => show (convert 81 9 (.slice (some ⟨g, 0, none⟩) 1 1)).run Try.prog v = .ok (.string (str [UInt8.ofNat o.k])) v from one_conv o.k v g (by rw [Nat.mod_eq_of_lt hk256]; exact hh))
  have HK := Lib.hid hk
  clear h hm hkm hkc hk
  go_enter Try.func18, Try.ntmps18
  go_wp2_with fail
  refine MY.out.mono ?_
  rintro e W1 ⟨rfl, hc⟩
  have HKX := Lib.hid (HKX0.out W1 hc)
  have hkl : w.heap.size < W1.heap.size := by have := hc.size; simp only [World.size_alloc] at this; omega
  have hkl2 : w.heap.size < W1.heap.size + 1 := by omega
  have hcv := HCV.out (W1.alloc (.cells #[.int .u8 (o.k : Nat)] 5)) W1.heap.size (cell_of (Go.heap_alloc_new _ _) rfl)
  have HB := Lib.hid (HST.out W1 hc _ rfl)
  obtain ⟨wb, HWB⟩ : ∃ wb, Hid (W1.heap.size + 1 = wb) := ⟨_, Lib.hid rfl⟩
  obtain ⟨W4, HW4⟩ : ∃ W4, Hid ((W1.alloc (.cells #[.int .u8 (o.k : Nat)] 5)).alloc (.cells #[.string (str [UInt8.ofNat o.k])] 83) = W4) := ⟨_, Lib.hid rfl⟩
  rw [HWB.out, HW4.out] at HB
  have hza : W4.heap.size = wb + 1 := by rw [← HW4.out, ← HWB.out]; simp
  clear hc MY HST HKX0 HCV
  have hpr := hkd.1
  have hst := HB.out.op.at_
  have hps := pred_size hpr
  have C1 := Lib.hid (HB.out.text o.pred (by simp) (by omega))
  have k0 := HKX.out 0 _ rfl
  have k5 := HKX.out 5 _ rfl
  clear HB
  go_wp2_with fail
  rw [HW4.out]
  try rw [HWB.out]
  refine (C1.out).mono ?_
  rintro e W5 ⟨rfl, hB⟩
  have HB := Lib.hid hB
  have htl := textL_len o.pred
  have C2 := Lib.hid (HB.out.num rfl (o.at_) (by omega) (by simp; omega))
  have m8 := HB.out.cells.2.2.2.2.2.2.2.2
  clear hB C1 k0 k5 HB
  go_wp2_with fail
  refine (C2.out).mono ?_
  rintro e W6 ⟨rfl, hB⟩
  have HB := Lib.hid hB
  clear hB C2 m8

  have HF := Lib.hid (show ByAt w w.heap.size wb o l (bytesL o) W6 from by
    have e : bytesL o = ([UInt8.ofNat o.k] ++ textL o.pred) ++ Cod.num o.at_ := by unfold bytesL bodyL; rw [HK.out]; simp
    rw [e]; exact HB.out)
  have u0 : W6.cell? ⟨wb, 0, none⟩ = some (.string (str (bytesL o))) := cell_of HF.out.wr rfl
  clear HB
  go_wp2
  go_ret2
  exact ⟨by rw [HBY.out]; rfl, HF.out.chg⟩
set_option maxRecDepth 100000 in
set_option maxHeartbeats 4000000 in
theorem bytes_8 (h : OpAt w o l) (hm : mayM o = true) (hk : o.k = 8) :
    Calls Try.prog 18 #[.agg (opC o l)] w fun e w' => e = .returned (.tuple #[.string (bytesM o), .int .i64 0]) ∧ Chg (fun _ => False) w w' := by
  have MY := Lib.hid (show Calls Try.prog 23 #[.agg (opC o l)] (w.alloc (.cells (opC o l) 34)) fun e w' => e = .returned (.int .i64 0) ∧ Chg (fun _ => False) (w.alloc (.cells (opC o l) 34)) w' from by
    have := may_any (h.same (w' := w.alloc (.cells (opC o l) 34)) ((Chg.refl _ _).alloc _))
    rw [hm] at this
    exact this)
  have HBY := Lib.hid (show bytesM o = str (bytesL o) by unfold bytesM; rw [if_pos hm])
  have hkm : kindM o = true := by unfold mayM at hm; simp at hm; exact hm.1
  have hkd : predOk o.pred = true ∧ True := by have h1 := hkm; unfold kindM at h1; rw [hk] at h1; simp only [Bool.and_eq_true] at h1; exact ⟨h1.1, trivial⟩
  have hkc : ∀ i v, (opC o l)[i]? = some v → (w.alloc (.cells (opC o l) 34)).cell? ⟨w.heap.size, i, none⟩ = some v := fun i v hv => cell_of (Go.heap_alloc_new _ _) hv
  have HST := Lib.hid (fun (W1 : World) hc s hs => bytes_start h (W1 := W1) hc s hs)
  have hk256 : o.k < 256 := h.k
  have qk1 : (((o.k : Nat) : Int) == 1) = false := by rw [hk]; rfl
  have qk2 : (((o.k : Nat) : Int) == 2) = false := by rw [hk]; rfl
  have qk3 : (((o.k : Nat) : Int) == 3) = false := by rw [hk]; rfl
  have qk4 : (((o.k : Nat) : Int) == 4) = false := by rw [hk]; rfl
  have qk5 : (((o.k : Nat) : Int) == 5) = false := by rw [hk]; rfl
  have qk6 : (((o.k : Nat) : Int) == 6) = false := by rw [hk]; rfl
  have qk7 : (((o.k : Nat) : Int) == 7) = false := by rw [hk]; rfl
  have qk8 : (((o.k : Nat) : Int) == 8) = true := by rw [hk]; rfl
  have qk9 : (((o.k : Nat) : Int) == 9) = false := by rw [hk]; rfl
  have HKX0 := Lib.hid (fun (W1 : World) (hc : Chg (fun _ => False) (w.alloc (.cells (opC o l) 34)) W1) => show ∀ (i : Nat) (v : Value), (opC o l)[i]? = some v → W1.cell? ⟨w.heap.size, i, none⟩ = some v from fun i v hv => (World.cell?_of_block (a := ⟨w.heap.size, i, none⟩) (hc.block _ (by simp) (fun f => f))).trans (hkc i v hv))
  have HCV := Lib.hid (fun (v : World) (g : Nat) (hh : v.cell? ⟨g, 0, none⟩ = some (.int .u8 (o.k : Nat))) => show (convert 81 9 (.slice (some ⟨g, 0, none⟩) 1 1)).run Try.prog v = .ok (.string (str [UInt8.ofNat o.k])) v from one_conv o.k v g (by rw [Nat.mod_eq_of_lt hk256]; exact hh))
  have HK := Lib.hid hk
  clear h hm hkm hkc hk
  go_enter Try.func18, Try.ntmps18
  go_wp2_with fail
  refine MY.out.mono ?_
  rintro e W1 ⟨rfl, hc⟩
  have HKX := Lib.hid (HKX0.out W1 hc)
  have hkl : w.heap.size < W1.heap.size := by have := hc.size; simp only [World.size_alloc] at this; omega
  have hkl2 : w.heap.size < W1.heap.size + 1 := by omega
  have hcv := HCV.out (W1.alloc (.cells #[.int .u8 (o.k : Nat)] 5)) W1.heap.size (cell_of (Go.heap_alloc_new _ _) rfl)
  have HB := Lib.hid (HST.out W1 hc _ rfl)
  obtain ⟨wb, HWB⟩ : ∃ wb, Hid (W1.heap.size + 1 = wb) := ⟨_, Lib.hid rfl⟩
  obtain ⟨W4, HW4⟩ : ∃ W4, Hid ((W1.alloc (.cells #[.int .u8 (o.k : Nat)] 5)).alloc (.cells #[.string (str [UInt8.ofNat o.k])] 83) = W4) := ⟨_, Lib.hid rfl⟩
  rw [HWB.out, HW4.out] at HB
  have hza : W4.heap.size = wb + 1 := by rw [← HW4.out, ← HWB.out]; simp
  clear hc MY HST HKX0 HCV
  have hpr := hkd.1
  have hst := HB.out.op.at_
  have hps := pred_size hpr
  have C1 := Lib.hid (HB.out.text o.pred (by simp) (by omega))
  have k0 := HKX.out 0 _ rfl
  have k5 := HKX.out 5 _ rfl
  clear HB
  go_wp2_with fail
  rw [HW4.out]
  try rw [HWB.out]
  refine (C1.out).mono ?_
  rintro e W5 ⟨rfl, hB⟩
  have HB := Lib.hid hB
  have htl := textL_len o.pred
  have C2 := Lib.hid (HB.out.num rfl (o.at_) (by omega) (by simp; omega))
  have m8 := HB.out.cells.2.2.2.2.2.2.2.2
  clear hB C1 k0 k5 HB
  go_wp2_with fail
  refine (C2.out).mono ?_
  rintro e W6 ⟨rfl, hB⟩
  have HB := Lib.hid hB
  clear hB C2 m8

  have HF := Lib.hid (show ByAt w w.heap.size wb o l (bytesL o) W6 from by
    have e : bytesL o = ([UInt8.ofNat o.k] ++ textL o.pred) ++ Cod.num o.at_ := by unfold bytesL bodyL; rw [HK.out]; simp
    rw [e]; exact HB.out)
  have u0 : W6.cell? ⟨wb, 0, none⟩ = some (.string (str (bytesL o))) := cell_of HF.out.wr rfl
  clear HB
  go_wp2
  go_ret2
  exact ⟨by rw [HBY.out]; rfl, HF.out.chg⟩
set_option maxRecDepth 100000 in
set_option maxHeartbeats 4000000 in
theorem bytes_9 (h : OpAt w o l) (hm : mayM o = true) (hk : o.k = 9) :
    Calls Try.prog 18 #[.agg (opC o l)] w fun e w' => e = .returned (.tuple #[.string (bytesM o), .int .i64 0]) ∧ Chg (fun _ => False) w w' := by
  have MY := Lib.hid (show Calls Try.prog 23 #[.agg (opC o l)] (w.alloc (.cells (opC o l) 34)) fun e w' => e = .returned (.int .i64 0) ∧ Chg (fun _ => False) (w.alloc (.cells (opC o l) 34)) w' from by
    have := may_any (h.same (w' := w.alloc (.cells (opC o l) 34)) ((Chg.refl _ _).alloc _))
    rw [hm] at this
    exact this)
  have HBY := Lib.hid (show bytesM o = str (bytesL o) by unfold bytesM; rw [if_pos hm])
  have hkm : kindM o = true := by unfold mayM at hm; simp at hm; exact hm.1
  have hkc : ∀ i v, (opC o l)[i]? = some v → (w.alloc (.cells (opC o l) 34)).cell? ⟨w.heap.size, i, none⟩ = some v := fun i v hv => cell_of (Go.heap_alloc_new _ _) hv
  have HST := Lib.hid (fun (W1 : World) hc s hs => bytes_start h (W1 := W1) hc s hs)
  have hk256 : o.k < 256 := h.k
  have qk1 : (((o.k : Nat) : Int) == 1) = false := by rw [hk]; rfl
  have qk2 : (((o.k : Nat) : Int) == 2) = false := by rw [hk]; rfl
  have qk3 : (((o.k : Nat) : Int) == 3) = false := by rw [hk]; rfl
  have qk4 : (((o.k : Nat) : Int) == 4) = false := by rw [hk]; rfl
  have qk5 : (((o.k : Nat) : Int) == 5) = false := by rw [hk]; rfl
  have qk6 : (((o.k : Nat) : Int) == 6) = false := by rw [hk]; rfl
  have qk7 : (((o.k : Nat) : Int) == 7) = false := by rw [hk]; rfl
  have qk8 : (((o.k : Nat) : Int) == 8) = false := by rw [hk]; rfl
  have qk9 : (((o.k : Nat) : Int) == 9) = true := by rw [hk]; rfl
  have HKX0 := Lib.hid (fun (W1 : World) (hc : Chg (fun _ => False) (w.alloc (.cells (opC o l) 34)) W1) => show ∀ (i : Nat) (v : Value), (opC o l)[i]? = some v → W1.cell? ⟨w.heap.size, i, none⟩ = some v from fun i v hv => (World.cell?_of_block (a := ⟨w.heap.size, i, none⟩) (hc.block _ (by simp) (fun f => f))).trans (hkc i v hv))
  have HCV := Lib.hid (fun (v : World) (g : Nat) (hh : v.cell? ⟨g, 0, none⟩ = some (.int .u8 (o.k : Nat))) => show (convert 81 9 (.slice (some ⟨g, 0, none⟩) 1 1)).run Try.prog v = .ok (.string (str [UInt8.ofNat o.k])) v from one_conv o.k v g (by rw [Nat.mod_eq_of_lt hk256]; exact hh))
  have HK := Lib.hid hk
  clear h hm hkm hkc hk
  go_enter Try.func18, Try.ntmps18
  go_wp2_with fail
  refine MY.out.mono ?_
  rintro e W1 ⟨rfl, hc⟩
  have HKX := Lib.hid (HKX0.out W1 hc)
  have hkl : w.heap.size < W1.heap.size := by have := hc.size; simp only [World.size_alloc] at this; omega
  have hkl2 : w.heap.size < W1.heap.size + 1 := by omega
  have hcv := HCV.out (W1.alloc (.cells #[.int .u8 (o.k : Nat)] 5)) W1.heap.size (cell_of (Go.heap_alloc_new _ _) rfl)
  have HB := Lib.hid (HST.out W1 hc _ rfl)
  obtain ⟨wb, HWB⟩ : ∃ wb, Hid (W1.heap.size + 1 = wb) := ⟨_, Lib.hid rfl⟩
  obtain ⟨W4, HW4⟩ : ∃ W4, Hid ((W1.alloc (.cells #[.int .u8 (o.k : Nat)] 5)).alloc (.cells #[.string (str [UInt8.ofNat o.k])] 83) = W4) := ⟨_, Lib.hid rfl⟩
  rw [HWB.out, HW4.out] at HB
  have hza : W4.heap.size = wb + 1 := by rw [← HW4.out, ← HWB.out]; simp
  clear hc MY HST HKX0 HCV
  have hst := HB.out.op.at_
  have C1 := Lib.hid (HB.out.num hza (o.at_) (by omega) (by simp))
  have k0 := HKX.out 0 _ rfl
  have k8 := HKX.out 8 _ rfl
  clear HB
  go_wp2_with fail
  rw [HW4.out]
  try rw [HWB.out]
  refine (C1.out).mono ?_
  rintro e W5 ⟨rfl, hB⟩
  have HB := Lib.hid hB
  clear hB C1 k0 k8

  have HF := Lib.hid (show ByAt w w.heap.size wb o l (bytesL o) W5 from by
    have e : bytesL o = [UInt8.ofNat o.k] ++ Cod.num o.at_ := by unfold bytesL bodyL; rw [HK.out]; simp
    rw [e]; exact HB.out)
  have u0 : W5.cell? ⟨wb, 0, none⟩ = some (.string (str (bytesL o))) := cell_of HF.out.wr rfl
  clear HB
  go_wp2
  go_ret2
  exact ⟨by rw [HBY.out]; rfl, HF.out.chg⟩
theorem bytes_no (h : OpAt w o l) (hm : mayM o = false) :
    Calls Try.prog 18 #[.agg (opC o l)] w fun e w' => e = .returned (.tuple #[.string (bytesM o), .int .i64 200]) ∧ Chg (fun _ => False) w w' := by
  have MY := Lib.hid (show Calls Try.prog 23 #[.agg (opC o l)] (w.alloc (.cells (opC o l) 34)) fun e w' => e = .returned (.int .i64 200) ∧ Chg (fun _ => False) (w.alloc (.cells (opC o l) 34)) w' from by
    have := may_any (h.same (w' := w.alloc (.cells (opC o l) 34)) ((Chg.refl _ _).alloc _))
    rw [hm] at this
    exact this)
  have HBY := Lib.hid (show bytesM o = ⟨#[]⟩ by unfold bytesM; rw [hm]; rfl)
  have HC0 := Lib.hid (show Chg (fun _ => False) w (w.alloc (.cells (opC o l) 34)) from (Chg.refl _ _).alloc _)
  clear h hm
  go_enter Try.func18, Try.ntmps18
  go_wp2_with fail
  refine MY.out.mono ?_
  rintro e W1 ⟨rfl, hc⟩
  have HC := Lib.hid (HC0.out.trans hc)
  clear hc MY
  go_wp2
  go_ret2
  exact ⟨by rw [HBY.out]; rfl, HC.out⟩
theorem bytes_any (h : OpAt w o l) :
    Calls Try.prog 18 #[.agg (opC o l)] w fun e w' => e = .returned (.tuple #[.string (bytesM o), .int .i64 (if mayM o then 0 else 200)]) ∧ Chg (fun _ => False) w w' := by
  cases hm : mayM o
  · exact bytes_no h hm
  · have hkm : kindM o = true := by unfold mayM at hm; simp at hm; exact hm.1
    rcases kind_cases hkm with hk | hk | hk | hk | hk | hk | hk | hk | hk
    · exact bytes_1 h hm hk
    · exact bytes_2 h hm hk
    · exact bytes_3 h hm hk
    · exact bytes_4 h hm hk
    · exact bytes_5 h hm hk
    · exact bytes_6 h hm hk
    · exact bytes_7 h hm hk
    · exact bytes_8 h hm hk
    · exact bytes_9 h hm hk
end
end Go.Proofs.Ytgmmglmokkcgeaa
