/- Walks: Frame, of both. -/
import Derived.Test.YtlpianjighhelaaDoorC9
namespace Go.Proofs.YtlpianjighhelaaDoor
open Go.RowKit Mk

def frameV (l : List UInt8) : Value := if 16777216 < l.length then .tuple #[.string ⟨#[]⟩, .int .i64 4] else .tuple #[.string (str (Cod.hdr l ++ l)), .int .i64 0]
theorem head_conv {g : Nat} (v : World) (b0 b1 b2 b3 b4 b5 b6 b7 : UInt8) (h : v.heap[g]? = some (.cells #[.int .u8 (b0.toNat : Int), .int .u8 (b1.toNat : Int), .int .u8 (b2.toNat : Int), .int .u8 (b3.toNat : Int), .int .u8 (b4.toNat : Int), .int .u8 (b5.toNat : Int), .int .u8 (b6.toNat : Int), .int .u8 (b7.toNat : Int)] 58 (0, 0))) :
    (convert 55 9 (.slice (some ⟨g, 0, none⟩) 8 8)).run Tryd.prog v = .ok (.string (str [b0, b1, b2, b3, b4, b5, b6, b7])) v := by
  have := run_convert_bytes_back (P := Tryd.prog) v 55 9 5 ⟨g, 0, none⟩ 8 [b0, b1, b2, b3, b4, b5, b6, b7] Tryd.underlying55 Tryd.underlying5 Tryd.underlying9 (fun i hi => by
    have hi' : i < 8 := hi
    have hcl : v.cell? ⟨g, i, none⟩ = some (B [b0, b1, b2, b3, b4, b5, b6, b7][i]) := cell_of h (by
      match i, hi' with
      | 0, _ | 1, _ | 2, _ | 3, _ | 4, _ | 5, _ | 6, _ | 7, _ => rfl)
    by_cases h0 : i = 0
    · subst h0; exact hcl
    · simpa [Addr.add, h0, B] using hcl)
  exact this

set_option maxRecDepth 100000 in
set_option maxHeartbeats 1000000 in
theorem frame_any (s : ByteArray) (hs : s.size ≤ maxLen) (w : World) :
    Calls Tryd.prog 13 #[.string s] w fun e w' => e = .returned (frameV s.data.toList) ∧ Below w.heap.size w w' := by
  unfold maxLen at hs
  unfold frameV
  rw [len_list]
  by_cases hbig : 16777216 < s.size
  · rw [if_pos hbig]
    have q : decide ((16777216 : Int) < s.size) = true := by simp; omega
    go_enter Tryd.func13, Tryd.ntmps13
    go_wp2
    go_ret2
    exact ⟨rfl, Below.refl _ _⟩
  · rw [if_neg hbig]
    have q : decide ((16777216 : Int) < s.size) = false := by simp; omega
    have M := made_any s (by omega) w
    have hl := Cod.hdr_len s.data.toList
    have HT := Lib.hid (show ∀ l, l = Cod.hdr s.data.toList → str l ++ s = str (Cod.hdr s.data.toList ++ s.data.toList) from fun l hl => by
      subst hl
      apply ByteArray.ext
      apply Array.ext'
      simp [str])
    obtain ⟨b0, b1, b2, b3, b4, b5, b6, b7, hbl⟩ := eight_list _ hl
    replace HT := Lib.hid (HT.out _ hbl.symm)
    rw [hbl] at M
    have HM : Hid (Calls Tryd.prog 34 #[.string s] w fun e w' => e = .returned (.agg #[.int .u8 (b0.toNat : Int), .int .u8 (b1.toNat : Int), .int .u8 (b2.toNat : Int), .int .u8 (b3.toNat : Int), .int .u8 (b4.toNat : Int), .int .u8 (b5.toNat : Int), .int .u8 (b6.toNat : Int), .int .u8 (b7.toNat : Int)]) ∧ Below w.heap.size w w') := M
    clear M hbl hl
    generalize str (Cod.hdr s.data.toList ++ s.data.toList) = R at *
    have hX : (str [b0, b1, b2, b3, b4, b5, b6, b7]).size = 8 := rfl
    have HC := Lib.hid (fun (v : World) => head_conv (g := v.heap.size) (v.alloc (.cells #[.int .u8 (b0.toNat : Int), .int .u8 (b1.toNat : Int), .int .u8 (b2.toNat : Int), .int .u8 (b3.toNat : Int), .int .u8 (b4.toNat : Int), .int .u8 (b5.toNat : Int), .int .u8 (b6.toNat : Int), .int .u8 (b7.toNat : Int)] 58)) b0 b1 b2 b3 b4 b5 b6 b7 (Go.heap_alloc_new _ _))
    generalize str [b0, b1, b2, b3, b4, b5, b6, b7] = X at *
    have k1 : ¬ 9223372036854775807 < X.size + s.size := by omega
    go_enter Tryd.func13, Tryd.ntmps13
    go_wp2_with fail
    refine HM.out.mono ?_
    rintro e w' ⟨rfl, hb⟩
    have SA := slice58_all w'.heap.size
    have hcv := HC.out w'
    have HB := Lib.hid hb
    clear hb
    go_wp2
    go_ret2
    exact ⟨by rw [← HT.out]; rfl, HB.out.alloc HB.out.size _⟩

set_option maxRecDepth 100000 in
set_option maxHeartbeats 1000000 in
theorem rframe_any (s : ByteArray) (hs : s.size ≤ maxLen) (w : World) :
    Calls Tryd.prog 14 #[.string s] w fun e w' => e = .returned (frameV s.data.toList) ∧ Below w.heap.size w w' := by
  unfold maxLen at hs
  unfold frameV
  rw [len_list]
  by_cases hbig : 16777216 < s.size
  · rw [if_pos hbig]
    have q : decide ((16777216 : Int) < s.size) = true := by simp; omega
    go_enter Tryd.func14, Tryd.ntmps14
    go_wp2
    go_ret2
    exact ⟨rfl, Below.refl _ _⟩
  · rw [if_neg hbig]
    have q : decide ((16777216 : Int) < s.size) = false := by simp; omega
    have F1 := Lib.hid (fixed_any s.size 4 (by omega) (by decide) w)
    obtain ⟨k, hk⟩ : ∃ k, Crc.more 0 (Cod.beL 4 s.size ++ s.data.toList) = k := ⟨_, rfl⟩
    have hkl : k < 4294967296 := by rw [← hk]; exact Crc.more_lt _ (by decide)
    have F2 := Lib.hid (fun w => fixed_any k 4 (by omega) (by decide) w)
    have hX : (str (Cod.beL 4 s.size)).size = 4 := Cod.beL_len 4 s.size
    have hY : (str (Cod.beL 4 k)).size = 4 := Cod.beL_len 4 k
    have O : ∀ w, Calls Tryd.prog 36 #[.string (str (Cod.beL 4 s.size) ++ s)] w fun e w' => e = .returned (.int .u32 (k : Nat)) ∧ w = w' := by
      have := fun w => rof_any (str (Cod.beL 4 s.size) ++ s) (by rw [ByteArray.size_append]; unfold maxLen; omega) w
      have e : (str (Cod.beL 4 s.size) ++ s).data.toList = Cod.beL 4 s.size ++ s.data.toList := by simp [str]
      rw [e, hk] at this
      exact this
    have HO := Lib.hid O
    have HT := Lib.hid (show str (Cod.beL 4 s.size) ++ str (Cod.beL 4 k) ++ s = str (Cod.hdr s.data.toList ++ s.data.toList) by
      unfold Cod.hdr
      rw [len_list, hk]
      apply ByteArray.ext
      apply Array.ext'
      simp [str])
    clear O hk
    generalize str (Cod.hdr s.data.toList ++ s.data.toList) = R at *
    generalize str (Cod.beL 4 s.size) = X at *
    generalize str (Cod.beL 4 k) = Y at *
    have k1 : ¬ 9223372036854775807 < X.size + s.size := by omega
    have k2 : ¬ 9223372036854775807 < X.size + Y.size := by omega
    have k3 : ¬ 9223372036854775807 < (X ++ Y).size + s.size := by rw [ByteArray.size_append]; omega
    go_enter Tryd.func14, Tryd.ntmps14
    go_wp2_with fail
    refine F1.out.mono ?_
    rintro e w1 ⟨rfl, hb1⟩
    have B1 := Lib.hid hb1
    clear hb1
    go_wp2_with fail
    refine (HO.out _).mono ?_
    rintro e w2 ⟨rfl, rfl⟩
    go_wp2_with fail
    refine (F2.out _).mono ?_
    rintro e w2 ⟨rfl, hb2⟩
    have B2 := Lib.hid (B1.out.trans (hb2.mono B1.out.size))
    clear hb2
    go_wp2
    go_ret2
    exact ⟨by rw [← HT.out]; rfl, B2.out⟩
end Go.Proofs.YtlpianjighhelaaDoor
