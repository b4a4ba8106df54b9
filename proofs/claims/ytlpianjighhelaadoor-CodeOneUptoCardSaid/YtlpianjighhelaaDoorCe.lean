/- Walks: the document's ReadKey. -/
import Derived.Test.YtlpianjighhelaaDoorCc
namespace Go.Proofs.YtlpianjighhelaaDoor
open Go.RowKit Mk

theorem drop_at (s : ByteArray) (k : Nat) (h : k < s.size) : s.data.toList.drop k = s[k] :: s.data.toList.drop (k + 1) := by
  rw [List.drop_eq_getElem_cons (by rw [len_list]; exact h)]; rfl
theorem rkey_on1 {acc : List UInt8} {s : ByteArray} {k : Nat} (h : k < s.size) (h0 : s[k].toNat ≠ 0) : rkeyV acc (s.data.toList.drop k) = rkeyV (acc ++ [s[k]]) (s.data.toList.drop (k + 1)) := by
  unfold rkeyV
  rw [drop_at s k h, Cod.rkey_one (fun e => h0 (by rw [e]; rfl))]
theorem rkey_last {acc : List UInt8} {s : ByteArray} {k : Nat} (h : k < s.size) (hl : k + 1 = s.size) : rkeyV acc (s.data.toList.drop k) = .tuple #[.string ⟨#[]⟩, .string ⟨#[]⟩, .int .i64 20] := by
  unfold rkeyV
  rw [drop_at s k h, List.drop_of_length_le (by rw [len_list]; omega)]
  rfl
theorem rkey_over {acc : List UInt8} {s : ByteArray} : rkeyV acc (s.data.toList.drop s.size) = .tuple #[.string ⟨#[]⟩, .string ⟨#[]⟩, .int .i64 20] := by
  unfold rkeyV
  rw [List.drop_of_length_le (by rw [len_list]; exact Nat.le_refl _)]
  rfl
theorem u8_eq {c d : UInt8} (h : c.toNat = d.toNat) : c = d := UInt8.toNat_inj.1 h
theorem rkey_two {acc : List UInt8} {s : ByteArray} {k : Nat} (h1 : k + 1 < s.size) (h0 : s[k].toNat = 0) :
    (s[k + 1].toNat = 1 → rkeyV acc (s.data.toList.drop k) = .tuple #[.string (str acc), .string (s.extract (k + 1 + 1) s.size), .int .i64 0]) ∧
    (s[k + 1].toNat ≠ 1 → s[k + 1].toNat ≠ 255 → rkeyV acc (s.data.toList.drop k) = .tuple #[.string ⟨#[]⟩, .string ⟨#[]⟩, .int .i64 21]) ∧
    (s[k + 1].toNat = 255 → rkeyV acc (s.data.toList.drop k) = rkeyV (acc ++ [0]) (s.data.toList.drop (k + 1 + 1))) := by
  have e0 : s[k] = 0 := u8_eq (by simpa using h0)
  have er : s.extract (k + 1 + 1) s.size = str (s.data.toList.drop (k + 1 + 1)) := by
    rw [str_extract, List.take_of_length_le (by rw [List.length_drop, len_list]; omega)]
  unfold rkeyV
  rw [drop_at s k (by omega), drop_at s (k + 1) h1, e0]
  refine ⟨fun h => ?_, fun ha hb => ?_, fun h => ?_⟩
  · rw [u8_eq (show s[k + 1].toNat = (1 : UInt8).toNat from h), Cod.rkey, if_neg (by simp), if_pos rfl, er]; rfl
  · rw [Cod.rkey, if_neg (by simp), if_neg (fun e => ha (by rw [e]; rfl)), if_neg (fun e => hb (by rw [e]; rfl))]; rfl
  · rw [u8_eq (show s[k + 1].toNat = (255 : UInt8).toNat from h), Cod.rkey, if_neg (by simp), if_neg (by decide), if_pos rfl]
theorem BS.text {w : World} {L : List UInt8} {v : Value} {wr : World} (H : BS w L v wr) : (convert 55 9 v).run Tryd.prog wr = .ok (.string (str L)) wr := by
  by_cases h0 : 0 < L.length
  · exact H.back h0
  · have hL : L = [] := List.eq_nil_of_length_eq_zero (by omega)
    subst hL
    obtain ⟨ao, n, cap, rfl⟩ := H.shape
    cases ao with
    | none => exact run_convert_bytes_nil (P := Tryd.prog) wr 55 5 Tryd.underlying55 Tryd.underlying5 n cap 9 Tryd.underlying9
    | some a =>
      rcases H.sl.2 with ⟨e, -⟩ | ⟨g, cap', cur, e, -⟩
      · cases e
      · cases e
        exact run_convert_bytes_back (P := Tryd.prog) wr 55 9 5 ⟨g, 0, none⟩ _ [] Tryd.underlying55 Tryd.underlying5 Tryd.underlying9 (fun i hi => absurd hi (by simp))

set_option maxRecDepth 100000 in
set_option maxHeartbeats 2000000 in
theorem rreadKey_any (s : ByteArray) (hs : s.size ≤ 140737488351232) (w : World) :
    Calls Tryd.prog 29 #[.string s] w fun e w' => e = .returned (rkeyV [] s.data.toList) ∧ Below w.heap.size w w' := by
  obtain ⟨i5, z5, hi5, hz5, hsz5, hby5, hzs5⟩ := info5b
  obtain ⟨R, hR⟩ : ∃ R, rkeyV [] s.data.toList = R := ⟨_, rfl⟩
  rw [hR]
  have HR := Lib.hid hR
  clear hR
  go_enter Tryd.func29, Tryd.ntmps29
  go_wp2
  go_loopw [5, 6] (fun b i wr => ∃ (k : Nat) (ao : Option Addr) (n cap : Nat) (acc : List UInt8), k ≤ s.size ∧ b = .slice ao n cap ∧ i = .int .i64 k ∧ acc.length ≤ k ∧ Hid (BS w acc (.slice ao n cap) wr ∧ rkeyV acc (s.data.toList.drop k) = R)) (fun _ i _ => s.size - (intOf i).toNat)
  case atStart => exact ⟨0, none, 0, 0, [], by omega, rfl, rfl, by simp, Lib.hid ⟨BS.nil _ _ (Below.refl _ _), by simpa using HR.out⟩⟩
  case round =>
    obtain ⟨k, ao, n, cap, acc, hk, rfl, rfl, hacc, HS⟩ := hrel
    by_cases hlt : k < s.size
    · have hd : decide (k < s.size) = true := by simpa using hlt
      by_cases h0 : s[k].toNat = 0
      · have hz : ((s[k].toNat : Nat) : Int) = 0 := by omega
        by_cases hl : k + 1 = s.size
        · have q1 : decide ((k : Int) + 1 = s.size) = true := by simp; omega
          have HE := Lib.hid (rkey_last (acc := acc) hlt hl)
          go_wp2
          go_ret3
          exact ⟨by rw [← HS.out.2, HE.out]; rfl, HS.out.1.below⟩
        · have q1 : decide ((k : Int) + 1 = s.size) = false := by simp; omega
          have hi1 : k + 1 < s.size := by omega
          obtain ⟨E1, E2, E3⟩ := rkey_two (acc := acc) hi1 h0
          by_cases hone : s[k + 1].toNat = 1
          · have q2 : ((s[k + 1].toNat : Nat) : Int) = 1 := by omega
            have HE := Lib.hid (E1 hone)
            have hi2 : k + 1 + 1 ≤ s.size := by omega
            have hcv : ∀ m, (convert 55 9 (.slice ao n cap)).run Tryd.prog (wr.drewN m) = .ok (.string (str acc)) (wr.drewN m) := fun m => (HS.out.1.stay (below_drewN _ _)).text
            clear E1 E2 E3
            go_wp2
            go_quiet (fail)
            go_wp2
            go_ret3
            exact ⟨by rw [← HS.out.2, HE.out]; rfl, HS.out.1.below.trans ((below_drewN _ _).mono HS.out.1.below.size)⟩
          · by_cases h255 : s[k + 1].toNat = 255
            · have q2 : ((s[k + 1].toNat : Nat) : Int) = 255 := by omega
              have HE := Lib.hid (E3 h255)
              have H1 := Lib.hid (HS.out.1.alloc (.cells #[.int .u8 0] 5))
              clear E1 E2 E3
              go_wp2_with (refine wpList_append_sl (by rfl) _ _ 55 (by rfl) 5 i5 z5 1 1 Tryd.underlying55 hi5 hz5 hsz5 hby5 hzs5 (by decide) (.slice ao n cap) acc.length (acc.map B) (by rfl) H1.out.sl (some ⟨wr.heap.size, 0, none⟩) 1 1 [.int .u8 0] (by rfl) (by rfl) (fun _ => ⟨_, rfl, cell_new_one (Go.heap_alloc_new _ _)⟩) (fun h => absurd h (by decide)) (by simp [Value.oneCell']) (by simp only [maxLen]; omega) (by omega) ?_; intro v' w2 hsl hgrow hat; have H2 := H1.out.grown (c := 0) hsl hgrow hat; obtain ⟨ao2, n2, cap2, rfl⟩ := H2.shape; have H5 := Lib.hid H2; clear hsl hgrow hat H1 H2)
              go_round
              case rel => exact ⟨k + 1 + 1, ao2, n2, cap2, acc ++ [0], by omega, rfl, by go_num, by simp; omega, Lib.hid ⟨H5.out, by rw [← HE.out]; exact HS.out.2⟩⟩
              case measure => simp [intOf]; omega
            · have q2 : decide ((s[k + 1].toNat : Int) = 1) = false := by simp; omega
              have q3 : decide ((s[k + 1].toNat : Int) = 255) = false := by simp; omega
              have HE := Lib.hid (E2 hone h255)
              clear E1 E2 E3
              go_wp2
              go_ret3
              exact ⟨by rw [← HS.out.2, HE.out]; rfl, HS.out.1.below⟩
      · have q0 : decide ((s[k].toNat : Int) = 0) = false := by simp; omega
        have HE := Lib.hid (rkey_on1 (acc := acc) hlt h0)
        have H1 := Lib.hid (HS.out.1.alloc (.cells #[.int .u8 (s[k].toNat : Int)] 5))
        go_wp2_with (refine wpList_append_sl (by rfl) _ _ 55 (by rfl) 5 i5 z5 1 1 Tryd.underlying55 hi5 hz5 hsz5 hby5 hzs5 (by decide) (.slice ao n cap) acc.length (acc.map B) (by rfl) H1.out.sl (some ⟨wr.heap.size, 0, none⟩) 1 1 [.int .u8 (s[k].toNat : Int)] (by rfl) (by rfl) (fun _ => ⟨_, rfl, cell_new_one (Go.heap_alloc_new _ _)⟩) (fun h => absurd h (by decide)) (by simp [Value.oneCell']) (by simp only [maxLen]; omega) (by omega) ?_; intro v' w2 hsl hgrow hat; have H2 := H1.out.grown (c := s[k]) hsl hgrow hat; obtain ⟨ao2, n2, cap2, rfl⟩ := H2.shape; have H5 := Lib.hid H2; clear hsl hgrow hat H1 H2)
        go_round
        case rel => exact ⟨k + 1, ao2, n2, cap2, acc ++ [s[k]], by omega, rfl, by go_num, by simp; omega, Lib.hid ⟨H5.out, by rw [← HE.out]; exact HS.out.2⟩⟩
        case measure => simp [intOf]; omega
    · have hke : k = s.size := by omega
      subst hke
      have hd : decide (s.size < s.size) = false := by simp
      have HE := Lib.hid (rkey_over (acc := acc) (s := s))
      go_wp2
      go_ret3
      exact ⟨by rw [← HS.out.2, HE.out]; rfl, HS.out.1.below⟩
end Go.Proofs.YtlpianjighhelaaDoor
