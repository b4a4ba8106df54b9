/- The walk of CrcNotices. -/
import Derived.Test.YtgibkalcfdgklaaW6
namespace Go.Proofs.Ytgibkalcfdgklaa
open Go.RowKit

/-- A row of cells in a block, none of them frozen. -/
structure Row (w : World) (b : Nat) (vs : List Value) : Prop where
  cell : ∀ j v, vs[j]? = some v → w.cell? ⟨b, j, none⟩ = some v
  free : ∀ j, j < vs.length → w.frozen? ⟨b, j, none⟩ = false

theorem Row.get {w : World} {b : Nat} {vs : List Value} (h : Row w b vs) {j : Nat} (hj : j < vs.length) : w.cell? ⟨b, j, none⟩ = some vs[j] :=
  h.cell j _ (List.getElem?_eq_getElem hj)

theorem cell?_setCell_same {w : World} {a : Addr} {u v : Value} (hs : a.spot = none) (h : w.cell? a = some u) : (w.setCell a v).cell? a = some v := by
  obtain ⟨ab, ao, sp⟩ := a
  obtain rfl : sp = none := hs
  unfold World.cell? at h ⊢
  simp only [World.setCell, Array.getElem?_modify]
  simp only [if_true]
  cases hw : w.heap[ab]? with
  | none => simp [hw] at h
  | some o =>
    rw [hw] at h
    cases o with
    | cells c e f =>
      have h1 : c[ao]? = some u := by simpa using h
      have hlt := (Array.getElem?_eq_some_iff.1 h1).1
      simp [Array.getElem?_setIfInBounds, hlt]
    | _ => simp at h

theorem cell?_setCell_ne {w : World} {a p : Addr} {v : Value} (h : p.block ≠ a.block ∨ p.off ≠ a.off) : (w.setCell a v).cell? p = w.cell? p := by
  unfold World.cell?
  simp only [World.setCell, Array.getElem?_modify]
  by_cases hb : a.block = p.block
  · have ho : p.off ≠ a.off := by
      rcases h with h | h
      · exact absurd hb.symm h
      · exact h
    rw [if_pos hb]
    cases hw : w.heap[p.block]? with
    | none => simp
    | some o =>
      cases o <;> simp
      split
      · rfl
      · split
        · rfl
        · rw [Array.getElem?_setIfInBounds]
          rw [if_neg (fun e => ho e.symm)]
  · rw [if_neg hb]

theorem Row.set {w : World} {b : Nat} {vs : List Value} (h : Row w b vs) {i : Nat} (hi : i < vs.length) (v : Value) : Row (w.setCell ⟨b, i, none⟩ v) b (vs.set i v) := by
  refine ⟨fun j u hj => ?_, fun j hj => ?_⟩
  · rw [List.getElem?_set] at hj
    by_cases e : i = j
    · subst e
      simp [hi] at hj
      subst hj
      exact cell?_setCell_same rfl (h.get hi)
    · simp [e] at hj
      rw [cell?_setCell_ne (.inr (by simp; omega))]
      exact h.cell j u hj
  · rw [World.frozen?_setCell]
    exact h.free j (by simpa using hj)

/-- What '[]byte(s)' lays is a row. -/
theorem Row.bytes (w : World) (s : ByteArray) (c : Nat) (x : Nat × Nat) (hx : s.size ≤ x.1) (e : TypeId) : Row (w.alloc (.cells (bytesRow s c) e x)) w.heap.size (s.data.toList.map B) := by
  have hh : (w.alloc (.cells (bytesRow s c) e x)).heap[w.heap.size]? = some (.cells (bytesRow s c) e x) := heap_alloc_new w _
  refine ⟨fun j v hj => ?_, fun j hj => ?_⟩
  · unfold World.cell?
    rw [hh]
    have hl : j < s.data.size := by
      have := (List.getElem?_eq_some_iff.1 hj).1
      simpa using this
    simp only [Option.isSome_none, Bool.false_eq_true, if_false]
    unfold bytesRow
    rw [Array.getElem?_append_left (by simpa using hl)]
    simp [Array.getElem?_eq_getElem hl] at hj ⊢
    exact hj
  · unfold World.frozen?
    rw [hh]
    simp at hj ⊢
    intro; omega

theorem and_i64 (a : Int) (b : Nat) (hb : b < 9223372036854775808) : ∃ m : Nat, m ≤ b ∧ bits .and .i64 a b = m := by
  refine ⟨(BitVec.ofInt 64 a &&& BitVec.ofInt 64 (b : Int)).toNat, ?_, ?_⟩
  · rw [BitVec.toNat_and]
    refine Nat.le_trans Nat.and_le_right ?_
    rw [BitVec.ofInt_natCast, BitVec.toNat_ofNat]
    exact Nat.mod_le _ _
  · show IntKind.i64.wrap ((BitVec.ofInt 64 a &&& BitVec.ofInt 64 (b : Int)).toNat : Int) = _
    refine IntWalk.i64_in _ ⟨by omega, ?_⟩
    have : (BitVec.ofInt 64 a &&& BitVec.ofInt 64 (b : Int)).toNat ≤ b := by
      rw [BitVec.toNat_and]
      refine Nat.le_trans Nat.and_le_right ?_
      rw [BitVec.ofInt_natCast, BitVec.toNat_ofNat]
      exact Nat.mod_le _ _
    omega

/-- The text with the first k of five bytes turned. -/
def flips (l : List UInt8) (at' X : Nat) : Nat → List UInt8
  | 0 => l
  | k + 1 => (flips l at' X k).set (at' + k) ((flips l at' X k).getD (at' + k) 0 ^^^ UInt8.ofNat (X / 256 ^ k))

theorem flips_len (l : List UInt8) (at' X k : Nat) : (flips l at' X k).length = l.length := by
  induction k with
  | zero => rfl
  | succ k ih => simp [flips, ih]

theorem flips_get (l : List UInt8) (at' X k j : Nat) (hl : at' + k ≤ l.length) (hj : j < l.length) :
    (flips l at' X k)[j]? = some (if at' ≤ j ∧ j < at' + k then l[j] ^^^ UInt8.ofNat (X / 256 ^ (j - at')) else l[j]) := by
  induction k with
  | zero => simp [flips, List.getElem?_eq_getElem hj]; intro; omega
  | succ k ih =>
    have ih := ih (by omega)
    have hlen := flips_len l at' X k
    rw [flips, List.getElem?_set]
    by_cases e : at' + k = j
    · have h1 : (flips l at' X k).getD (at' + k) 0 = l[j] := by
        rw [List.getD_eq_getElem?_getD, e, ih, if_neg (by omega)]; rfl
      rw [if_pos e, if_pos (by rw [hlen]; omega), h1, if_pos (by omega), show j - at' = k by omega]
    · rw [if_neg e, ih]
      congr 1
      by_cases h : at' ≤ j ∧ j < at' + k
      · rw [if_pos h, if_pos (by omega)]
      · rw [if_neg h, if_neg (by omega)]

theorem bytesOf_get (k X i : Nat) (h : i < k) : (Crc.bytesOf k X)[i]? = some (X / 256 ^ i % 256) := by
  induction k generalizing X i with
  | zero => omega
  | succ k ih =>
    cases i with
    | zero => simp [Crc.bytesOf]
    | succ i =>
      rw [Crc.bytesOf, List.getElem?_cons_succ, ih _ _ (by omega), Nat.div_div_eq_div_mul, Nat.pow_succ, Nat.mul_comm]
theorem bytesOf_len (k X : Nat) : (Crc.bytesOf k X).length = k := by
  induction k generalizing X with
  | zero => rfl
  | succ k ih => simp [Crc.bytesOf, ih]

theorem nat_xor_xor (a b : Nat) : a ^^^ (a ^^^ b) = b := by rw [← Nat.xor_assoc, Nat.xor_self, Nat.zero_xor]

theorem flips_diff (l : List UInt8) (p X : Nat) (hl : p + 5 ≤ l.length) :
    List.zipWith (· ^^^ ·) (l.map UInt8.toNat) ((flips l p X 5).map UInt8.toNat) = List.replicate p 0 ++ (Crc.bytesOf 5 X ++ List.replicate (l.length - (p + 5)) 0) := by
  apply List.ext_getElem?
  intro j
  by_cases hj : j < l.length
  · have hf := flips_get l p X 5 j hl hj
    rw [List.getElem?_zipWith]
    rw [List.getElem?_map, List.getElem?_map, hf, List.getElem?_eq_getElem hj]
    simp only [Option.map_some]
    by_cases h1 : j < p
    · rw [if_neg (by omega), List.getElem?_append_left (by simpa using h1), List.getElem?_replicate, if_pos h1, Nat.xor_self]
    · rw [List.getElem?_append_right (by simpa using h1), List.length_replicate]
      by_cases h2 : j < p + 5
      · rw [if_pos (by omega), List.getElem?_append_left (by rw [bytesOf_len]; omega), bytesOf_get _ _ _ (by omega)]
        rw [UInt8.toNat_xor, nat_xor_xor]
        simp
      · rw [if_neg (by omega), List.getElem?_append_right (by rw [bytesOf_len]; omega), bytesOf_len, List.getElem?_replicate, if_pos (by omega), Nat.xor_self]
  · have e1 : (List.zipWith (· ^^^ ·) (l.map UInt8.toNat) ((flips l p X 5).map UInt8.toNat))[j]? = none := by
      apply List.getElem?_eq_none; simp [flips_len]; omega
    rw [e1]; symm
    apply List.getElem?_eq_none; simp [bytesOf_len]; omega

/-- The plain law. -/
theorem notices (l : List UInt8) (p n sh : Nat) (hl : p + 5 ≤ l.length) (hn : n < 4294967296) (h0 : 0 < n) (hs : sh ≤ 7) :
    Crc.more 0 (flips l p (n * 2 ^ sh) 5) ≠ Crc.more 0 l := by
  intro h
  unfold Crc.more at h
  have h1 : Crc.feed (0 ^^^ Crc.ones) (flips l p (n * 2 ^ sh) 5) = Crc.feed (0 ^^^ Crc.ones) l := by
    have := congrArg (· ^^^ Crc.ones) h
    simpa only [Crc.xx] using this
  rw [Crc.feed_eq, Crc.feed_eq] at h1
  have h2 := Crc.feedN_xor (0 ^^^ Crc.ones) (0 ^^^ Crc.ones) (l.map UInt8.toNat) ((flips l p (n * 2 ^ sh) 5).map UInt8.toNat) (by simp [flips_len])
  rw [h1, Nat.xor_self, Nat.xor_self, flips_diff l p _ hl, Crc.feedN_append, Crc.feedN_append, Crc.feedN_zeros, Crc.feedN_zeros] at h2
  rw [show Crc.shift 0 p = 0 from Crc.iter_zero _] at h2
  have hb := Crc.burst n sh hn (by omega) (by omega)
  refine hb (Crc.iter_eq_zero (r := Crc.feedN 0 (Crc.bytesOf 5 (n * 2 ^ sh))) _ ?_ h2.symm)
  have : ∀ (k X r : Nat), r < 4294967296 → Crc.feedN r (Crc.bytesOf k X) < 4294967296 := by
    intro k
    induction k with
    | zero => intro X r hr; exact hr
    | succ k ih => intro X r hr; exact ih _ _ (Crc.step_lt hr (by omega))
  exact this 5 _ 0 (by decide)

theorem flip_val (c : UInt8) (X k : Nat) : bits .xor .u8 (c.toNat : Int) ((X : Int) / 2 ^ (8 * k) % 256) = ((c ^^^ UInt8.ofNat (X / 256 ^ k)).toNat : Int) := by
  have hp : (2 : Nat) ^ (8 * k) = 256 ^ k := by rw [Nat.pow_mul]
  have e : ((X : Int) / 2 ^ (8 * k) % 256) = ((X / 256 ^ k % 256 : Nat) : Int) := by
    rw [← hp]; simp
  rw [e, u8_xor_nat _ _ c.toNat_lt (Nat.mod_lt _ (by decide)), UInt8.toNat_xor]
  simp

theorem flips_next (l : List UInt8) (p X k : Nat) (c : UInt8) (h : (flips l p X k)[p + k]? = some c) :
    (flips l p X (k + 1)).map B = ((flips l p X k).map B).set (p + k) (B (c ^^^ UInt8.ofNat (X / 256 ^ k))) := by
  rw [flips, List.map_set, List.getD_eq_getElem?_getD, h]; rfl

set_option maxHeartbeats 1000000 in
theorem walkCrcNotices (a0 : ByteArray) (a1 : Int) (a2 : Int) (w0 : a0.size ≤ 140737488351232) (w1 : (Lit.int .i64 a1).wf = true) (w2 : (Lit.int .u32 a2).wf = true) (w : World) :
    Calls Try.prog 5 #[.string a0, .int .i64 a1, .int .u32 a2] w fun e w' => e = .returned (.bool true) ∧ Below w.heap.size w w' := by
  obtain ⟨n, hn, rfl⟩ := u32_of w2
  have hs : a0.size ≤ maxLen := by unfold maxLen; omega
  by_cases hsmall : a0.size < 5
  · go_enter Try.func5, Try.ntmps5
    go_wp2_with fail
    refine (alive_any _).mono ?_
    rintro e w4 ⟨rfl, hb4⟩
    go_wp2_with fail
    go_ret
    exact ⟨rfl, hb4⟩
  by_cases hz : n = 0
  · subst hz
    have h5 : 5 ≤ a0.size := by omega
    go_enter Try.func5, Try.ntmps5
    go_wp2_with fail
    refine (alive_any _).mono ?_
    rintro e w4 ⟨rfl, hb4⟩
    go_wp2_with fail
    go_ret
    exact ⟨rfl, hb4⟩
  · have h5 : 5 ≤ a0.size := by omega
    have hn0 : 0 < n := by omega
    clear hsmall hz
    obtain ⟨sh, hsh, e1⟩ : ∃ m : Nat, m ≤ 7 ∧ bits .and .i64 a1 7 = m := and_i64 a1 7 (by decide)
    obtain ⟨m, hm, e2⟩ : ∃ m : Nat, m ≤ 16777215 ∧ bits .and .i64 (a1 / 8) 16777215 = m := and_i64 (a1 / 8) 16777215 (by decide)
    have hn0' : ((n : Int) == 0) = false := by simp; omega
    have hcv := run_bytes_of_string (P := Try.prog) w 9 33 5 a0 Try.underlying9 Try.underlying33 Try.underlying5
    obtain ⟨p, hp, e3⟩ : ∃ p : Nat, p + 5 ≤ a0.size ∧ (m : Int) % ((a0.size : Int) - 4) = p := by
      refine ⟨m % (a0.size - 4), ?_, ?_⟩
      · have := Nat.mod_lt m (show 0 < a0.size - 4 by omega); omega
      · rw [Int.natCast_emod, Int.natCast_sub (by omega)]; rfl
    have hpow : 2 ^ sh ≤ 2 ^ 7 := Nat.pow_le_pow_right (by decide) hsh
    have hXlt : n * 2 ^ sh < 4294967296 * 128 := Nat.lt_of_le_of_lt (Nat.mul_le_mul_left n hpow) (by omega)
    have e4 : IntKind.u64.wrap ((n : Int) * 2 ^ sh) = ((n * 2 ^ sh : Nat) : Int) := by
      rw [Int.natCast_mul, Int.natCast_pow]
      refine IntWalk.u64_in _ ?_
      have : ((n : Int) * 2 ^ sh) = ((n * 2 ^ sh : Nat) : Int) := by rw [Int.natCast_mul, Int.natCast_pow]; rfl
      rw [this]; omega
    have HN := Lib.hid (notices a0.data.toList p n sh (by rw [len_eq]; exact hp) hn hn0 hsh)
    obtain ⟨X, hX⟩ : ∃ X, n * 2 ^ sh = X := ⟨_, rfl⟩
    rw [hX] at hXlt e4 HN
    clear hX hpow
    go_enter Try.func5, Try.ntmps5
    go_wp2_with fail
    rw [e3]
    clear e1 e2 e3 e4
    have hrow := Row.bytes w a0 (grownCap w a0.size 0 5) ((bytesRow a0 (grownCap w a0.size 0 5)).size, (bytesRow a0 (grownCap w a0.size 0 5)).size + 1) (by simp [bytesRow]) 5
    go_loopw [10] (fun i wr => ∃ k : Nat, k ≤ 5 ∧ i = .int .i64 k ∧ Row wr w.heap.size ((flips a0.data.toList p X k).map B) ∧ Below w.heap.size w wr) (fun i _ => 5 - (intOf i).toNat)
    case atStart => exact ⟨0, by omega, rfl, ⟨hrow.cell, hrow.free⟩, ((Below.refl _ _).alloc (Nat.le_refl _) _).drew⟩
    case round =>
      clear hrow hcv
      obtain ⟨k, hk, rfl, hrow, hbel⟩ := hrel
      have hln := flips_len a0.data.toList p X k
      have hlz : a0.data.toList.length = a0.size := len_eq a0
      by_cases hlt : k < 5
      · obtain ⟨c, hc⟩ : ∃ c, (flips a0.data.toList p X k)[p + k]? = some c := ⟨_, List.getElem?_eq_getElem (by rw [hln, hlz]; omega)⟩
        have hcell := hrow.cell (p + k) (B c) (by simp [hc])
        have hfree := hrow.free (p + k) (by simp [hln]; omega)
        have hcl := c.toNat_lt
        simp only [B] at hcell
        have hset := hrow.set (i := p + k) (by simp [hln]; omega) (B (c ^^^ UInt8.ofNat (X / 256 ^ k)))
        rw [← flips_next _ _ _ _ _ hc, B, ← flip_val] at hset
        have HR := Lib.hid hset
        clear hln hlz hrow hc hset
        go_wp2
        go_roundw
        case rel => exact ⟨k + 1, by omega, by go_num, HR.out, hbel.setCell (Nat.le_refl _) _⟩
        case measure => simp [intOf]; omega
      · have hk5 : k = 5 := by omega
        subst hk5
        rw [hlz] at hln
        have hcv := run_convert_bytes_back (P := Try.prog) wr 33 9 5 ⟨w.heap.size, 0, none⟩ (grownCap w a0.size 0 5) (flips a0.data.toList p X 5) Try.underlying33 Try.underlying5 Try.underlying9 (fun j hj => by
          have := hrow.cell j (B (flips a0.data.toList p X 5)[j]) (by simp [List.getElem?_eq_getElem hj])
          by_cases h0 : j = 0
          · subst h0; exact this
          · simpa [Addr.add, h0, B] using this)
        rw [hln] at hcv
        have hs5 : (⟨(flips a0.data.toList p X 5).toArray⟩ : ByteArray).size ≤ maxLen := by rw [str_size, hln]; exact hs
        have hne : ((Crc.more 0 (flips a0.data.toList p X 5) : Int) != (Crc.more 0 a0.data.toList : Int)) = true := by
          have := HN.out
          simp; omega
        clear hln hlz hrow
        go_wp2_with fail
        refine (of_any _ hs5 _).mono ?_
        rintro e w' ⟨rfl, rfl⟩
        go_wp2_with fail
        refine (of_any _ hs _).mono ?_
        rintro e w' ⟨rfl, rfl⟩
        go_wp2_with fail
        refine (alive_any _).mono ?_
        rintro e w4 ⟨rfl, hb4⟩
        go_wp2_with fail
        go_ret
        exact ⟨rfl, hbel.trans (hb4.mono hbel.size)⟩
end Go.Proofs.Ytgibkalcfdgklaa
