/- Walks: Key, alive. -/
import Derived.Test.YtlpianjighhelaaDoorC7
import Derived.Test.YtlpianjighhelaaDoorShelf
namespace Go.Proofs.YtlpianjighhelaaDoor
open Go.RowKit

/-- What internal/bytealg.MaxLen holds. -/
def MaxC (m : Int) (w : World) : Prop := w.cell? ⟨0, 0, none⟩ = some (.int .i64 m)
theorem max_of {w : World} (h : w.ShapedOpen Tryd.prog) : ∃ m, MaxC m w := Tryd.laysM155.s1_3 w h
theorem MaxC.stay {m : Int} {w w' : World} {B : Nat} (h : MaxC m w) (hb : Below B w w') (h0 : 0 < B) : MaxC m w' := (hb.cell (p := ⟨0, 0, none⟩) h0).trans h
theorem MaxC.lt {m : Int} {w : World} (h : MaxC m w) : 0 < w.heap.size := by
  unfold MaxC World.cell? at h
  by_cases h0 : 0 < w.heap.size
  · exact h0
  · simp [Array.getElem?_eq_none (show w.heap.size ≤ 0 by omega)] at h

theorem replace_any (s : ByteArray) (m : Int) (w : World) (hm : MaxC m w) (hs : s.size < 4294967281) :
    Calls Tryd.prog 33 #[.string s, .string ⟨#[0]⟩, .string ⟨#[0, 255]⟩] w fun e w' => e = .returned (.string (str (Cod.keyB s.data.toList))) ∧ Below w.heap.size w w' := by
  have c := Any.strings_ReplaceAll { Tryd.laysM155 with } Tryd.Builder_Extra_M155 s ⟨#[0]⟩ ⟨#[0, 255]⟩ m w hs hm (by decide) (by
    have h1 := Lib.count_le s.data.toList [0]
    rw [len_list] at h1
    have h2 : Lib.countB s ⟨#[0]⟩ ≤ s.size + 1 := h1
    have h3 : (⟨#[0, 255]⟩ : ByteArray).size = 2 := rfl
    rw [h3]
    omega)
  have e : Lib.replaceAll s.data.toList (⟨#[0]⟩ : ByteArray).data.toList (⟨#[0, 255]⟩ : ByteArray).data.toList = Cod.keyB s.data.toList := Cod.rep_all _
  rw [e] at c
  exact c

theorem key_any (s : ByteArray) (m : Int) (w : World) (hm : MaxC m w) (hs : s.size < 4294967281) :
    Calls Tryd.prog 11 #[.string s] w fun e w' => e = .returned (.string (str (Cod.key s.data.toList))) ∧ Below w.heap.size w w' := by
  have F := Lib.hid (replace_any s m w hm hs)
  have HE := Lib.hid (show str (Cod.keyB s.data.toList) ++ (⟨#[0, 1]⟩ : ByteArray) = str (Cod.key s.data.toList) by
    unfold Cod.key
    apply ByteArray.ext
    apply Array.ext'
    simp [str])
  have hz : (str (Cod.keyB s.data.toList)).size ≤ 2 * s.size := by
    show (Cod.keyB s.data.toList).length ≤ _
    have := Cod.keyB_len s.data.toList
    rwa [len_list] at this
  generalize str (Cod.keyB s.data.toList) = X at *
  have h2 : (⟨#[0, 1]⟩ : ByteArray).size = 2 := rfl
  have k1 : ¬ 9223372036854775807 < X.size + 2 := by omega
  go_enter Tryd.func11, Tryd.ntmps11
  go_wp2_with fail
  refine F.out.mono ?_
  rintro e w' ⟨rfl, hb⟩
  go_wp2
  go_ret
  exact ⟨by rw [← HE.out]; rfl, hb⟩

theorem alive_any (m : Int) (w : World) (hm : MaxC m w) :
    Calls Tryd.prog 12 #[] w fun e w' => e = .returned (.bool true) ∧ Below w.heap.size w w' := by
  have R := readNum_any ⟨#[1, 0]⟩ (by decide) w
  have e1 : rnumV (⟨#[1, 0]⟩ : ByteArray).data.toList = .tuple #[.int .u64 0, .string ⟨#[]⟩, .int .i64 21] := by rfl
  rw [e1] at R
  have N := Lib.hid (fun w => num_any 256 (by decide) w)
  have e2 : (⟨(Cod.num 256).toArray⟩ : ByteArray) = ⟨#[2, 1, 0]⟩ := by rfl
  rw [e2] at N
  have K := Lib.hid (fun w hm => key_any ⟨#[97, 0, 98]⟩ m w hm (by decide))
  have e3 : str (Cod.key (⟨#[97, 0, 98]⟩ : ByteArray).data.toList) = ⟨#[97, 0, 255, 98, 0, 1]⟩ := by rfl
  rw [e3] at K
  have T := Lib.hid (fun w => text_any ⟨#[97, 98]⟩ (by decide) w)
  have e4 : str (Cod.text (⟨#[97, 98]⟩ : ByteArray).data.toList) = ⟨#[1, 2, 97, 98]⟩ := by rfl
  rw [e4] at T
  have HM := Lib.hid hm
  have q1 : ((⟨#[2, 1, 0]⟩ : ByteArray).toList == (⟨#[2, 1, 0]⟩ : ByteArray).toList) = true := by simp
  have q2 : ((⟨#[97, 0, 255, 98, 0, 1]⟩ : ByteArray).toList == (⟨#[97, 0, 255, 98, 0, 1]⟩ : ByteArray).toList) = true := by simp
  have q3 : ((⟨#[1, 2, 97, 98]⟩ : ByteArray).toList == (⟨#[1, 2, 97, 98]⟩ : ByteArray).toList) = true := by simp
  clear hm e1 e2 e3 e4
  have h0 := HM.out.lt
  go_enter Tryd.func12, Tryd.ntmps12
  go_wp2_with fail
  refine R.mono ?_
  rintro e w1 ⟨rfl, hb1⟩
  have HM1 := Lib.hid (HM.out.stay hb1 h0)
  go_wp2_with fail
  refine (N.out _).mono ?_
  rintro e w2 ⟨rfl, hb2⟩
  have HM2 := Lib.hid (HM1.out.stay hb2 HM1.out.lt)
  go_wp2_with fail
  refine (K.out _ HM2.out).mono ?_
  rintro e w3 ⟨rfl, hb3⟩
  go_wp2_with fail
  refine (T.out _).mono ?_
  rintro e w4 ⟨rfl, hb4⟩
  have k1 := hb1.trans (hb2.mono hb1.size)
  have k2 := k1.trans (hb3.mono k1.size)
  have k3 := Lib.hid (k2.trans (hb4.mono k2.size))
  clear hb1 hb2 hb3 hb4 k1 k2
  go_wp2
  go_ret
  exact ⟨rfl, k3.out⟩
end Go.Proofs.YtlpianjighhelaaDoor
