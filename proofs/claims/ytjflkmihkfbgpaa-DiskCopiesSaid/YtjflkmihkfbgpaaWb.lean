/- The walk of DiskKeeps. -/
import Derived.Test.YtjflkmihkfbgpaaWa
namespace Go.Proofs.Ytjflkmihkfbgpaa
open Go.RowKit Mk Go.Sort

def nF : ByteArray := ⟨#[102]⟩
def nG : ByteArray := ⟨#[103]⟩
def RM : Nat := 1048576

section
variable {x y : ByteArray}
theorem keeps1 (h : x.size + y.size ≤ 16384) : writeM (newM 1048576) nF x = (⟨1048576, [(nF, x)], [], [(.wr nF, x)]⟩, 0) := by
  have h1 : named nF = true := by rfl
  have h2 : fitsM (newM 1048576) nF x.size = true := by
    simp [fitsM, newM, tot, byt, lk]
    omega
  unfold writeM
  rw [h1, h2]
  rfl
theorem keeps2 (h : x.size + y.size ≤ 16384) : appendM ⟨1048576, [(nF, x)], [(nF, x)], []⟩ nF y = (⟨1048576, [(nF, x ++ y)], [(nF, x)], [(.app nF, y)]⟩, 0) := by
  have h1 : named nF = true := by rfl
  have h0 : byt [(nF, x)] nF = x := by simp [byt, lk]
  have h2 : fitsM ⟨1048576, [(nF, x)], [(nF, x)], []⟩ nF (x.size + y.size) = true := by
    simp [fitsM, tot, byt, lk]
    omega
  unfold appendM
  rw [h1]
  simp only [h0, h2]
  simp [putM, act, byt, lk, upd]
theorem nFG : ¬ nF = nG := by decide
theorem keeps3 (h : x.size + y.size ≤ 16384) : appendM ⟨1048576, [(nF, x ++ y)], [(nF, x)], [(.app nF, y)]⟩ nG y = (⟨1048576, [(nF, x ++ y), (nG, y)], [(nF, x)], [(.app nF, y), (.app nG, y)]⟩, 0) := by
  have h1 : named nG = true := by rfl
  have h0 : byt [(nF, x ++ y)] nG = ByteArray.empty := by simp [byt, lk, nFG]
  have h2 : fitsM ⟨1048576, [(nF, x ++ y)], [(nF, x)], [(.app nF, y)]⟩ nG (ByteArray.empty.size + y.size) = true := by
    simp [fitsM, tot, byt, lk, nFG]
    omega
  unfold appendM
  rw [h1]
  simp only [h0, h2]
  simp [putM, act, byt, lk, upd, nFG]
theorem crash0 (t : Nat) : crash [(nF, x)] [(.app nF, y), (.app nG, y)] 0 t = [(nF, x ++ y.extract 0 (min t y.size))] := by
  by_cases h : min t y.size = 0
  · simp [crash, tear, acts, h]
  · simp [crash, tear, acts, h, act, upd, byt, lk]
theorem crash1 (t : Nat) : crash [(nF, x)] [(.app nF, y), (.app nG, y)] 1 t = if min t y.size = 0 then [(nF, x ++ y)] else [(nF, x ++ y), (nG, y.extract 0 (min t y.size))] := by
  by_cases h : min t y.size = 0
  · rw [if_pos h]; simp [crash, tear, acts, h, act, upd, byt, lk]
  · rw [if_neg h]; simp [crash, tear, acts, h, act, upd, byt, lk, nFG]
theorem crash2 (t : Nat) : crash [(nF, x)] [(.app nF, y), (.app nG, y)] 2 t = [(nF, x ++ y), (nG, y)] := by
  simp [crash, acts, act, upd, byt, lk, nFG]
theorem read1 (L : Files) (K : Files) (T : List Thing) (R : Nat) : readM ⟨R, (nF, x) :: L, K, T⟩ nF = (x, 0) := by
  have h1 : named nF = true := by rfl
  simp [readM, ableM, h1, byt, lk]
theorem read2 (K : Files) (T : List Thing) (R : Nat) : readM ⟨R, [(nF, x)], K, T⟩ nG = (⟨#[]⟩, 5) := by
  have h1 : named nG = true := by rfl
  simp [readM, ableM, h1, byt, lk, nFG]
theorem read3 (K : Files) (T : List Thing) (R : Nat) : readM ⟨R, [(nF, x), (nG, y)], K, T⟩ nG = (y, 0) := by
  have h1 : named nG = true := by rfl
  simp [readM, ableM, h1, byt, lk, nFG]
end

theorem i64_and65535 (n : Int) : bits .and .i64 n 65535 = n % 65536 := by
  have h127 : (BitVec.ofInt 64 65535).toNat = 2 ^ 16 - 1 := by decide
  have key : (BitVec.ofInt 64 n &&& BitVec.ofInt 64 65535).toNat = (n % ((2 ^ 64 : Nat) : Int)).toNat % 2 ^ 16 := by
    rw [BitVec.toNat_and, BitVec.toNat_ofInt, h127, Nat.and_two_pow_sub_one_eq_mod]
  show IntKind.i64.wrap ((BitVec.ofInt 64 n &&& BitVec.ofInt 64 65535).toNat : Nat) = n % 65536
  rw [key, IntKind.wrap_i64]
  omega

set_option maxRecDepth 100000 in
set_option maxHeartbeats 4000000 in
theorem walkDiskKeeps (x y : ByteArray) (a2 a3 : Int) (w0 : x.size ≤ 140737488351232) (w1 : y.size ≤ 140737488351232) (w2 : (Lit.int .i64 a2).wf = true) (w3 : (Lit.int .i64 a3).wf = true) (w : World) :
    Calls Try.prog 3 #[.string x, .string y, .int .i64 a2, .int .i64 a3] w fun e w' => e = .returned (.bool true) ∧ Below w.heap.size w w' := by
  have A := Lib.hid alive_any
  by_cases hbig : 16384 < x.size + y.size
  · have q1 : decide ((16384 : Int) < (x.size : Int) + y.size) = true := by simp; omega
    have q2 : decide ((16384 : Nat) < x.size + y.size) = true := by simp; omega
    go_enter Try.func3, Try.ntmps3
    go_wp2_with fail
    refine (A.out _).mono ?_
    rintro e w1 ⟨rfl, hb⟩
    go_wp2
    go_ret
    exact ⟨rfl, hb⟩
  · have q1 : decide ((16384 : Int) < (x.size : Int) + y.size) = false := by simp; omega
    have q2 : decide ((16384 : Nat) < x.size + y.size) = false := by simp; omega
    have hxy : x.size + y.size ≤ 16384 := by omega
    have HXY := Lib.hid hxy
    have hba := i64_and65535 a2
    have hbt := i64_and65535 a3
    obtain ⟨pa, hpa⟩ : ∃ pa : Nat, a2 % 65536 = pa := ⟨(a2 % 65536).toNat, by omega⟩
    obtain ⟨pn, hpn⟩ : ∃ pn : Nat, a3 % 65536 = pn := ⟨(a3 % 65536).toNat, by omega⟩
    have hpn2 : pn < 65536 := by omega
    rw [hpa] at hba
    rw [hpn] at hbt
    have htm : (pa : Int).tmod 3 = ((pa % 3 : Nat) : Int) := by rw [Int.tmod_eq_emod_of_nonneg (by omega)]; omega
    have hj3 : pa % 3 < 3 := by omega
    generalize pa % 3 = j at *
    clear hpa hpn
    obtain ⟨n, hn⟩ : ∃ n, min pn y.size = n := ⟨_, rfl⟩
    have hmin : (if y.size < pn then (y.size : Int) else (pn : Int)) = n := by split <;> omega
    have hny : n ≤ y.size := by omega
    obtain ⟨Y, hY⟩ : ∃ Y, y.extract 0 n = Y := ⟨_, rfl⟩
    have hYs : Y.size ≤ 16384 := by rw [← hY, ByteArray.size_extract]; omega
    obtain ⟨xY, hxY⟩ : ∃ E, x ++ Y = E := ⟨_, rfl⟩
    obtain ⟨E, hE⟩ : ∃ E, x ++ y = E := ⟨_, rfl⟩
    have K1 := Lib.hid (keeps1 (x := x) (y := y) hxy)
    have K2 := Lib.hid (keeps2 (x := x) (y := y) hxy)
    have K3 := Lib.hid (keeps3 (x := x) (y := y) hxy)
    have HN := Lib.hid hn
    have hsx : x.size ≤ 16384 := by omega
    have hsy : y.size ≤ 16384 := by omega
    clear w0 w1 w2 w3 hbig hn
    rcases (show j = 0 ∨ j = 1 ∨ j = 2 by omega) with rfl | rfl | rfl
    · have HC := Lib.hid (crash0 (x := x) (y := y) pn)
      rw [HN.out, hY, hxY] at HC
      go_enter Try.func3, Try.ntmps3
      go_wp2_with fail
      refine (live_new w 1048576 (by omega) (by omega)).mono ?_
      rintro e w1 ⟨b, rfl, h1⟩
      go_wp2_with fail
      refine (live_write h1.out nF x (by omega) K1.out).mono ?_
      rintro e w2 ⟨rfl, h2⟩
      clear h1 K1
      go_wp2_with fail
      refine (live_sync h2.out).mono ?_
      rintro e w3 ⟨rfl, h3⟩
      clear h2
      go_wp2_with fail
      refine (live_append h3.out nF y (by omega) K2.out).mono ?_
      rintro e w4 ⟨rfl, h4⟩
      clear h3 K2
      go_wp2_with fail
      refine (live_append h4.out nG y (by omega) K3.out).mono ?_
      rintro e w5 ⟨rfl, h5⟩
      clear h4 K3
      go_wp2_with fail
      refine (live_crash h5.out 0 pn (by simp) (by omega) HC.out).mono ?_
      rintro e w6 ⟨rfl, h6⟩
      clear h5 HC
      go_wp2_with fail
      refine (live_read h6.out nF (read1 [] _ _ _)).mono ?_
      rintro e w7 ⟨rfl, h7⟩
      clear h6
      go_wp2_with fail
      refine (live_read h7.out nG (read2 _ _ _)).mono ?_
      rintro e w8 ⟨rfl, h8⟩
      clear h7
      go_wp2_with fail
      refine (A.out _).mono ?_
      rintro e w9 ⟨rfl, h9⟩
      go_wp2
      go_ret
      exact ⟨rfl, h8.out.below.trans (h9.mono h8.out.below.size)⟩
    · have HC := Lib.hid (crash1 (x := x) (y := y) pn)
      rw [HN.out, hY, hE] at HC
      by_cases hz : n = 0
      · have hz1 : decide ((n : Int) = 0) = true := by simp; omega
        have hz2 : decide (n = 0) = true := by simp; omega
        rw [if_pos hz] at HC
        go_enter Try.func3, Try.ntmps3
        go_wp2_with fail
        refine (live_new w 1048576 (by omega) (by omega)).mono ?_
        rintro e w1 ⟨b, rfl, h1⟩
        go_wp2_with fail
        refine (live_write h1.out nF x (by omega) K1.out).mono ?_
        rintro e w2 ⟨rfl, h2⟩
        clear h1 K1
        go_wp2_with fail
        refine (live_sync h2.out).mono ?_
        rintro e w3 ⟨rfl, h3⟩
        clear h2
        go_wp2_with fail
        refine (live_append h3.out nF y (by omega) K2.out).mono ?_
        rintro e w4 ⟨rfl, h4⟩
        clear h3 K2
        go_wp2_with fail
        refine (live_append h4.out nG y (by omega) K3.out).mono ?_
        rintro e w5 ⟨rfl, h5⟩
        clear h4 K3
        go_wp2_with fail
        refine (live_crash h5.out 1 pn (by simp) (by omega) HC.out).mono ?_
        rintro e w6 ⟨rfl, h6⟩
        clear h5 HC
        go_wp2_with fail
        refine (live_read h6.out nF (read1 [] _ _ _)).mono ?_
        rintro e w7 ⟨rfl, h7⟩
        clear h6
        go_wp2_with fail
        refine (live_read h7.out nG (read2 _ _ _)).mono ?_
        rintro e w8 ⟨rfl, h8⟩
        clear h7
        go_wp2_with fail
        refine (A.out _).mono ?_
        rintro e w9 ⟨rfl, h9⟩
        go_wp2
        go_ret
        exact ⟨rfl, h8.out.below.trans (h9.mono h8.out.below.size)⟩
      · have hz1 : decide ((n : Int) = 0) = false := by simp; omega
        have hz2 : decide (n = 0) = false := by simp; omega
        rw [if_neg hz] at HC
        go_enter Try.func3, Try.ntmps3
        go_wp2_with fail
        refine (live_new w 1048576 (by omega) (by omega)).mono ?_
        rintro e w1 ⟨b, rfl, h1⟩
        go_wp2_with fail
        refine (live_write h1.out nF x (by omega) K1.out).mono ?_
        rintro e w2 ⟨rfl, h2⟩
        clear h1 K1
        go_wp2_with fail
        refine (live_sync h2.out).mono ?_
        rintro e w3 ⟨rfl, h3⟩
        clear h2
        go_wp2_with fail
        refine (live_append h3.out nF y (by omega) K2.out).mono ?_
        rintro e w4 ⟨rfl, h4⟩
        clear h3 K2
        go_wp2_with fail
        refine (live_append h4.out nG y (by omega) K3.out).mono ?_
        rintro e w5 ⟨rfl, h5⟩
        clear h4 K3
        go_wp2_with fail
        refine (live_crash h5.out 1 pn (by simp) (by omega) HC.out).mono ?_
        rintro e w6 ⟨rfl, h6⟩
        clear h5 HC
        go_wp2_with fail
        refine (live_read h6.out nF (read1 [(nG, Y)] _ _ _)).mono ?_
        rintro e w7 ⟨rfl, h7⟩
        clear h6
        go_wp2_with fail
        refine (live_read h7.out nG (read3 _ _ _)).mono ?_
        rintro e w8 ⟨rfl, h8⟩
        clear h7
        go_wp2_with fail
        refine (A.out _).mono ?_
        rintro e w9 ⟨rfl, h9⟩
        go_wp2
        go_ret
        exact ⟨rfl, h8.out.below.trans (h9.mono h8.out.below.size)⟩
    · have HC := Lib.hid (crash2 (x := x) (y := y) pn)
      rw [hE] at HC
      go_enter Try.func3, Try.ntmps3
      go_wp2_with fail
      refine (live_new w 1048576 (by omega) (by omega)).mono ?_
      rintro e w1 ⟨b, rfl, h1⟩
      go_wp2_with fail
      refine (live_write h1.out nF x (by omega) K1.out).mono ?_
      rintro e w2 ⟨rfl, h2⟩
      clear h1 K1
      go_wp2_with fail
      refine (live_sync h2.out).mono ?_
      rintro e w3 ⟨rfl, h3⟩
      clear h2
      go_wp2_with fail
      refine (live_append h3.out nF y (by omega) K2.out).mono ?_
      rintro e w4 ⟨rfl, h4⟩
      clear h3 K2
      go_wp2_with fail
      refine (live_append h4.out nG y (by omega) K3.out).mono ?_
      rintro e w5 ⟨rfl, h5⟩
      clear h4 K3
      go_wp2_with fail
      refine (live_crash h5.out 2 pn (by simp) (by omega) HC.out).mono ?_
      rintro e w6 ⟨rfl, h6⟩
      clear h5 HC
      go_wp2_with fail
      refine (live_read h6.out nF (read1 [(nG, y)] _ _ _)).mono ?_
      rintro e w7 ⟨rfl, h7⟩
      clear h6
      go_wp2_with fail
      refine (live_read h7.out nG (read3 _ _ _)).mono ?_
      rintro e w8 ⟨rfl, h8⟩
      clear h7
      go_wp2_with fail
      refine (A.out _).mono ?_
      rintro e w9 ⟨rfl, h9⟩
      go_wp2
      go_ret
      exact ⟨rfl, h8.out.below.trans (h9.mono h8.out.below.size)⟩
end Go.Proofs.Ytjflkmihkfbgpaa
