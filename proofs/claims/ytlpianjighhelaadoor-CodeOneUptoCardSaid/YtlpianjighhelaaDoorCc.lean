/- Walks: ReadKey. -/
import Derived.Test.YtlpianjighhelaaDoorCb
import Derived.Test.YtlpianjighhelaaDoorRK
import Derived.Deep.RegionHeld3
namespace Go.Proofs.YtlpianjighhelaaDoor
open Go.RowKit
open Go.Lib (byteCells)

def rkeyV (acc l : List UInt8) : Value := .tuple #[.string (str (Cod.rkey acc l).1), .string (str (Cod.rkey acc l).2.1), .int .i64 ((Cod.rkey acc l).2.2 : Nat)]
def strLen : Value → Nat
  | .string s => s.size
  | _ => 0
theorem index0 (S : ByteArray) (w : World) : Calls Tryd.prog 38 #[.string S, .int .u8 0] w fun e w' => e = .returned (.int .i64 (Lib.indexByte S.data.toList 0)) ∧ w' = w := Tryd.strings_IndexByte S 0 w

theorem cells_join (acc : List UInt8) (S : ByteArray) (i : Nat) : byteCells acc ++ Lib.strCells (S.extract 0 i) = byteCells (acc ++ S.data.toList.take i) := by
  have e : (S.extract 0 i).data.toList = S.data.toList.take i := by rw [str_extract]; simp
  unfold Lib.strCells byteCells
  rw [e, List.map_append]
theorem cells_zero (L : List UInt8) : byteCells L ++ [Value.int .u8 0] = byteCells (L ++ [0]) := by simp [byteCells]

set_option maxRecDepth 100000 in
set_option maxHeartbeats 2000000 in
theorem readKey_fit (s : ByteArray) (hs : s.size ≤ maxLen) (hfit : s.size ≤ 140737488351232 ∨ ((Cod.rkey [] s.data.toList).2.2 = 0 ∧ (Cod.rkey [] s.data.toList).1.length ≤ 140737488351232)) (w : World) :
    Calls Tryd.prog 23 #[.string s] w fun e w' => e = .returned (rkeyV [] s.data.toList) ∧ Below w.heap.size w w' := by
  unfold maxLen at hs
  obtain ⟨R, hR⟩ : ∃ R, rkeyV [] s.data.toList = R := ⟨_, rfl⟩
  rw [hR]
  obtain ⟨K, hK⟩ : ∃ K, Cod.rkey [] s.data.toList = K := ⟨_, rfl⟩
  have HK := Lib.hid hK
  rw [hK] at hfit
  clear hK
  have HF := Lib.hid (Lib.fresh_isBuilder 66 5 w)
  have HB0 := Lib.hid ((Below.refl w.heap.size w).alloc (Nat.le_refl _) (.cells #[.pointer none, .slice none 0 0] 66))
  have HR := Lib.hid hR
  clear hR
  go_enter Tryd.func23, Tryd.ntmps23
  go_wp2
  go_loopw [0] (fun sv wr => ∃ (S : ByteArray) (acc : List UInt8), sv = .string S ∧ S.size + acc.length ≤ s.size ∧ Hid (Lib.IsBuilder 66 5 w.heap.size w.heap.size (byteCells acc) wr ∧ Below w.heap.size w wr ∧ rkeyV acc S.data.toList = R ∧ Cod.rkey acc S.data.toList = K)) (fun sv _ => strLen sv)
  case atStart => exact ⟨s, [], rfl, by simp, Lib.hid ⟨HF.out, HB0.out, HR.out, HK.out⟩⟩
  case round =>
    obtain ⟨S, acc, rfl, hsz, HS⟩ := hrel
    have IX := index0 S
    have hge := Lib.indexByte_ge S.data.toList 0
    obtain ⟨I, hI⟩ : ∃ I, Lib.indexByte S.data.toList 0 = I := ⟨_, rfl⟩
    rw [hI] at IX hge
    by_cases h1 : I = -1
    · subst h1
      have HE := Lib.hid (show rkeyV acc S.data.toList = .tuple #[.string ⟨#[]⟩, .string ⟨#[]⟩, .int .i64 20] by unfold rkeyV; rw [Cod.rkey_none _ _ hI]; rfl)
      clear hge hI
      go_wp2_with fail
      refine (IX _).mono ?_
      rintro e w' ⟨rfl, rfl⟩
      go_wp2
      go_ret3
      exact ⟨by rw [← HS.out.2.2.1, HE.out]; rfl, HS.out.2.1⟩
    · obtain ⟨i, rfl⟩ : ∃ i : Nat, I = i := ⟨I.toNat, by omega⟩
      clear h1 hge
      have hlt := (Cod.cut_at hI).2.2
      rw [len_list] at hlt
      have d0 : decide ((i : Int) < 0) = false := by simp
      by_cases h2 : i + 1 = S.size
      · have d1 : ((i : Int) + 1 == S.size) = true := by simp; omega
        have HE := Lib.hid (show rkeyV acc S.data.toList = .tuple #[.string ⟨#[]⟩, .string ⟨#[]⟩, .int .i64 20] by unfold rkeyV; rw [Cod.rkey_end hI (by rw [len_list]; exact h2)]; rfl)
        clear hI
        go_wp2_with fail
        refine (IX _).mono ?_
        rintro e w' ⟨rfl, rfl⟩
        go_wp2
        go_ret3
        exact ⟨by rw [← HS.out.2.2.1, HE.out]; rfl, HS.out.2.1⟩
      · have d1 : ((i : Int) + 1 == S.size) = false := by rw [beq_eq_false_iff_ne]; omega
        have hi1 : i + 1 < S.size := by omega
        obtain ⟨d, hd⟩ : ∃ d, S[i + 1] = d := ⟨_, rfl⟩
        have hd' : S.data.toList[i + 1]? = some d := by rw [← hd, List.getElem?_eq_getElem (by rw [len_list]; exact hi1)]; rfl
        go_wp2_with fail
        refine (IX _).mono ?_
        rintro e w' ⟨rfl, rfl⟩
        have hT : S.data.toList.take i = S.data.toList.take i := rfl
        have hacc : (byteCells acc).length = acc.length := by simp [byteCells]
        have hroom : acc.length + i ≤ 140737488351232 ∧ (d = 255 → acc.length + i + 1 ≤ 140737488351232) := by
          rcases hfit with h | ⟨h, h'⟩
          · exact ⟨by omega, fun _ => by omega⟩
          · have e := HS.out.2.2.2
            have := Cod.rkey_room hI hd' (by rw [e]; exact h)
            rw [e] at this
            exact ⟨by omega, fun h => by have := this.2 h; omega⟩
        have WS := Tryd.Builder_WriteString w.heap.size w.heap.size (byteCells acc) (S.extract 0 i) w' HS.out.1 (by rw [hacc, ByteArray.size_extract]; omega) HS.out.2.1.size
        rw [cells_join] at WS
        have hLen : (acc ++ S.data.toList.take i).length = acc.length + i := by rw [List.length_append, List.length_take, len_list, Nat.min_eq_left (by omega)]
        have E1 := fun h : d = 1 => Cod.rkey_stop (acc := acc) hI (by rw [hd', h])
        have E2 := fun h : d = 255 => Cod.rkey_on (acc := acc) hI (by rw [hd', h])
        have E3 := Cod.rkey_bad (acc := acc) hI hd'
        obtain ⟨L, hL⟩ : ∃ L, acc ++ S.data.toList.take i = L := ⟨_, rfl⟩
        rw [hL] at WS hLen E1 E2
        have er : S.extract (i + 2) S.size = str (S.data.toList.drop (i + 2)) := by
          rw [str_extract, List.take_of_length_le (by rw [List.length_drop, len_list]; omega)]
        clear hT hacc hI hL
        go_wp2_with fail
        refine WS.mono ?_
        rintro e w2 ⟨rfl, hbd, hb2⟩
        have HB2 := Lib.hid hbd
        have K2 := Lib.hid (HS.out.2.1.trans hb2)
        clear WS hbd hb2
        by_cases h1 : d.toNat = 1
        · have e1 : d = 1 := UInt8.toNat_inj.1 (by simpa using h1)
          have HE := Lib.hid (show rkeyV acc S.data.toList = .tuple #[.string (str L), .string (S.extract (i + 2) S.size), .int .i64 0] by unfold rkeyV; rw [E1 e1, er]; rfl)
          have STR := Lib.hid (Tryd.Builder_String_any w.heap.size w.heap.size L w2.drew (Or.inr HB2.out.drew) K2.out.size)
          have KB : Below w.heap.size w w2.drew := K2.out.trans ⟨rfl, rfl, rfl, Nat.le_refl _, fun _ _ => rfl⟩
          have q1 : ((S[i + 1].toNat : Nat) : Int) = 1 := by rw [hd]; omega
          have g1 : IntKind.i64.wrap ((i : Int) + 2) = (i : Int) + 2 := by simp only [IntKind.wrap, IntKind.bits, IntKind.signed]; simp; omega
          have g2 : (0 : Int) ≤ (i : Int) + 2 := by omega
          have g3 : (i : Int) + 2 ≤ S.size := by omega
          have g4 : ((i : Int) + 2).toNat = i + 2 := by omega
          clear E1 E2 E3 hd' er
          go_wp2
          go_region_held3 (fun v => Below w.heap.size w v) (first | assumption | go_keep) (first | (go_at_call 40; refine STR.out.mono ?_; rintro e w3 ⟨rfl, hb3⟩; have hB3 := Below.trans (by assumption) hb3))
          go_wp2
          go_ret3
          exact ⟨by rw [← HS.out.2.2.1, HE.out]; rfl, by assumption⟩
        · by_cases h255 : d.toNat = 255
          · have e1 : d = 255 := UInt8.toNat_inj.1 (by simpa using h255)
            have HE := Lib.hid (show rkeyV acc S.data.toList = rkeyV (L ++ [0]) (S.extract (i + 2) S.size).data.toList by unfold rkeyV; rw [E2 e1, er])
            have HE2 := Lib.hid (show Cod.rkey acc S.data.toList = Cod.rkey (L ++ [0]) (S.extract (i + 2) S.size).data.toList by rw [E2 e1, er])
            have WB := Tryd.Builder_WriteByte w.heap.size w.heap.size (byteCells L) 0 w2 (Or.inr HB2.out) (by have := hroom.2 e1; simp [byteCells]; omega) K2.out.size
            rw [cells_zero] at WB
            have q1 : ((S[i + 1].toNat : Nat) : Int) = 255 := by rw [hd]; omega
            have hz : (S.extract (i + 2) S.size).size = S.size - (i + 2) := by rw [ByteArray.size_extract]; omega
            clear E1 E2 E3 hd' er
            go_wp2_with fail
            refine WB.mono ?_
            rintro e w3 ⟨rfl, hbd, hb3⟩
            have H3 := Lib.hid (show Lib.IsBuilder 66 5 w.heap.size w.heap.size (byteCells (L ++ [0])) w3 ∧ Below w.heap.size w w3 ∧ rkeyV (L ++ [0]) (S.extract (i + 2) S.size).data.toList = R ∧ Cod.rkey (L ++ [0]) (S.extract (i + 2) S.size).data.toList = K from ⟨Or.inr hbd, K2.out.trans hb3, HE.out.symm.trans HS.out.2.2.1, HE2.out.symm.trans HS.out.2.2.2⟩)
            clear WB hbd hb3
            go_wp2
            go_round
            case rel => exact ⟨S.extract (i + 2) S.size, L ++ [0], rfl, by rw [hz]; simp; omega, H3⟩
            case measure => show (S.extract (i + 2) S.size).size < S.size; omega
          · have HE := Lib.hid (show rkeyV acc S.data.toList = .tuple #[.string ⟨#[]⟩, .string ⟨#[]⟩, .int .i64 21] by unfold rkeyV; rw [E3 (fun e => h1 (by rw [e]; rfl)) (fun e => h255 (by rw [e]; rfl))]; rfl)
            have q1 : decide ((S[i + 1].toNat : Int) = 1) = false := by rw [hd]; simp; omega
            have q2 : decide ((S[i + 1].toNat : Int) = 255) = false := by rw [hd]; simp; omega
            clear E1 E2 E3 hd' er
            go_wp2
            go_ret3
            exact ⟨by rw [← HS.out.2.2.1, HE.out]; rfl, K2.out⟩
theorem readKey_any (s : ByteArray) (hs : s.size ≤ 140737488351232) (w : World) :
    Calls Tryd.prog 23 #[.string s] w fun e w' => e = .returned (rkeyV [] s.data.toList) ∧ Below w.heap.size w w' := readKey_fit s (by unfold maxLen; omega) (Or.inl hs) w
end Go.Proofs.YtlpianjighhelaaDoor
