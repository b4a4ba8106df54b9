/- Walks: a loop that a law made; alive; ApplyCommands. -/
import Derived.Test.YtcaemfogknaioaaD3
namespace Go.Proofs.Ytcaemfogknaioaa
open Go.RowKit Mk Go.Sort

/-- A loop that was made since w. -/
structure Live (w : World) (b S : Nat) (m : LoopM) (w' : World) : Prop where
  is : LoopIs w' b (fun g => w.heap.size ≤ g) S m
  below : Below w.heap.size w w'

section
variable {w w1 : World} {b S : Nat} {m : LoopM}
theorem Live.to {S' : Nat} {m' : LoopM} {w2 : World} (h : Live w b S m w1) (t : To w1 b (fun g => w.heap.size ≤ g) S' m' w2) : Live w b S' m' w2 :=
  ⟨t.is, h.below.trans (t.chg.below (fun _ h => h) h.below.size)⟩
theorem Live.same {w2 : World} (h : Live w b S m w1) (c : Below w1.heap.size w1 w2) : Live w b S m w2 :=
  ⟨h.is.stay (chg_of_below c) (fun _ _ f => f), h.below.trans (c.mono h.below.size)⟩

theorem live_new (s : ByteArray) (hs : s.size ≤ 1099511627776) (w : World) :
    Calls Try.prog 13 #[.string s, .func (.func 14) #[] #[]] w fun e w' => ∃ b, e = .returned (.pointer (some ⟨b, 0, none⟩)) ∧ Hid (Live w b s.size ⟨s, 0, []⟩ w') := by
  refine (new_any s hs w).mono ?_
  rintro e w' ⟨b, rfl, h, c⟩
  exact ⟨b, rfl, Lib.hid ⟨h, below_of_chg c⟩⟩
theorem live_apply (h : Live w b S m w1) (idx tm kd : Nat) (data : ByteArray) (mo : Option Addr) (ml mc : Nat) (hi : idx < 18446744073709551616) (hd : data.size ≤ 1073741824) (hS : S + data.size ≤ 1099511627776) {m' : LoopM} {a : ByteArray} {c : Nat} (hm : applyM m idx kd data = (m', a, c)) :
    Calls Try.prog 16 #[.pointer (some ⟨b, 0, none⟩), .int .u64 idx, .agg #[.int .u64 tm, .int .u8 kd, .string data, .slice mo ml mc]] w1 fun e w' => e = .returned (.tuple #[.string a, .int .i64 c]) ∧ Hid (Live w b (S + data.size) m' w') := by
  refine (apply_any h.is idx tm kd data mo ml mc hi hd hS).mono ?_
  rintro e w' ⟨rfl, t⟩
  rw [hm] at t ⊢
  exact ⟨rfl, Lib.hid (h.to t)⟩
theorem live_index (h : Live w b S m w1) : Calls Try.prog 17 #[.pointer (some ⟨b, 0, none⟩)] w1 fun e w' => e = .returned (.int .u64 m.index) ∧ w' = w1 := index_any h.is
theorem live_state (h : Live w b S m w1) : Calls Try.prog 18 #[.pointer (some ⟨b, 0, none⟩)] w1 fun e w' => e = .returned (.string m.state) ∧ w' = w1 := state_any h.is
end

def c71 : ByteArray := ⟨#[1, 7, 1, 1, 1, 3, 97, 98, 99]⟩
def mA : LoopM := ⟨⟨#[97, 98, 99]⟩, 1, [(7, (1, ⟨#[0, 97, 98, 99]⟩))]⟩
theorem alive1 : cmdV 7 1 [97, 98, 99] = .tuple #[.string c71, .int .i64 0] := by rfl
theorem alive2 : applyM ⟨⟨#[]⟩, 0, []⟩ 1 0 c71 = (mA, ⟨#[0, 97, 98, 99]⟩, 0) := by rfl
theorem alive3 : applyM mA 2 0 c71 = (⟨mA.state, 2, mA.clients⟩, ⟨#[0, 97, 98, 99]⟩, 0) := by rfl
theorem alive4 : applyM ⟨mA.state, 2, mA.clients⟩ 9 0 c71 = (⟨mA.state, 2, mA.clients⟩, ⟨#[]⟩, 2) := by rfl

set_option maxRecDepth 100000 in
theorem alive_any (w : World) : Calls Try.prog 8 #[] w fun e w' => e = .returned (.bool true) ∧ Below w.heap.size w w' := by
  have hst : mA.state.toList = [97, 98, 99] := by rw [ByteArray.toList_eq]; rfl
  have C := Lib.hid (fun w => command_any 7 1 ⟨#[97, 98, 99]⟩ (by decide) (by decide) (by decide) w)
  rw [show (⟨#[97, 98, 99]⟩ : ByteArray).data.toList = [97, 98, 99] from rfl, alive1] at C
  go_enter Try.func8, Try.ntmps8
  go_wp2_with fail
  refine (live_new ⟨#[]⟩ (by decide) w).mono ?_
  rintro e w1 ⟨b, rfl, h1⟩
  go_wp2_with fail
  refine (C.out w1).mono ?_
  rintro e w2 ⟨rfl, b2⟩
  have h2 := Lib.hid (h1.out.same b2)
  clear h1 b2 C
  go_wp2_with fail
  refine (live_apply h2.out 1 1 0 c71 none 0 0 (by decide) (by decide) (by decide) alive2).mono ?_
  rintro e w3 ⟨rfl, h3⟩
  clear h2
  go_wp2_with fail
  refine (live_apply h3.out 2 1 0 c71 none 0 0 (by decide) (by decide) (by decide) alive3).mono ?_
  rintro e w4 ⟨rfl, h4⟩
  clear h3
  go_wp2_with fail
  refine (live_apply h4.out 9 1 0 c71 none 0 0 (by decide) (by decide) (by decide) alive4).mono ?_
  rintro e w5 ⟨rfl, h5⟩
  clear h4
  go_wp2_with fail
  refine (live_state h5.out).mono ?_
  rintro e w6 ⟨rfl, rfl⟩
  go_wp2_with fail
  refine (live_index h5.out).mono ?_
  rintro e w7 ⟨rfl, rfl⟩
  go_wp2
  go_ret
  exact ⟨rfl, h5.out.below⟩

theorem u64_of {a : Int} (h : (Lit.int .u64 a).wf = true) : ∃ c : Nat, c < 18446744073709551616 ∧ a = c := by
  simp [Lit.wf, IntKind.min, IntKind.max, IntKind.bits, IntKind.signed] at h
  exact ⟨a.toNat, by omega, by omega⟩
theorem cmdV_tuple (c n : Nat) (d : List UInt8) : ∃ (s : ByteArray) (e : Nat), cmdV c n d = .tuple #[.string s, .int .i64 e] ∧ (e = 0 ∨ e = 2 ∨ e = 4) ∧ (e = 0 → s = str (Cod.cmd c n d) ∧ 0 < c ∧ 0 < n ∧ (Cod.cmd c n d).length ≤ 1048576) := by
  unfold cmdV
  split
  · exact ⟨_, 2, rfl, by omega, by omega⟩
  · split
    · exact ⟨_, 4, rfl, by omega, by omega⟩
    · exact ⟨_, 0, rfl, by omega, fun _ => ⟨rfl, by omega, by omega, by omega⟩⟩
theorem rcmdV_tuple (l : List UInt8) : ∃ (x y : Nat) (d : ByteArray) (e : Nat), rcmdV l = .tuple #[.int .u64 x, .int .u64 y, .string d, .int .i64 e] := by
  unfold rcmdV
  split
  · exact ⟨_, _, _, 0, rfl⟩
  · exact ⟨0, 0, _, 150, rfl⟩

set_option maxRecDepth 100000 in
set_option maxHeartbeats 4000000 in
theorem walkApplyCommands (a0 a1 : Int) (a2 a3 : ByteArray) (w0 : (Lit.int .u64 a0).wf = true) (w1 : (Lit.int .u64 a1).wf = true) (w2 : a2.size ≤ 140737488351232) (w3 : a3.size ≤ 140737488351232) (w : World) :
    Calls Try.prog 3 #[.int .u64 a0, .int .u64 a1, .string a2, .string a3] w fun e w' => e = .returned (.bool true) ∧ Below w.heap.size w w' := by
  have A := Lib.hid alive_any
  by_cases hbig : 2097152 < a2.size
  · have q1 : decide ((2097152 : Int) < a2.size) = true := by simp; omega
    go_enter Try.func3, Try.ntmps3
    go_wp2_with fail
    refine (A.out _).mono ?_
    rintro e w1 ⟨rfl, hb⟩
    go_wp2
    go_ret
    exact ⟨rfl, hb⟩
  · have q1 : decide ((2097152 : Int) < a2.size) = false := by simp; omega
    obtain ⟨c, hc, rfl⟩ := u64_of w0
    obtain ⟨n, hn, rfl⟩ := u64_of w1
    have C1 := Lib.hid (fun w => command_any c n a2 hc hn (by omega) w)
    have C2 := Lib.hid (fun w => rcommand_any c n a2 hc hn (by omega) w)
    have R1 := Lib.hid (fun w => readCommand_any a3 (by unfold maxLen; omega) w)
    have R2 := Lib.hid (fun w => rreadCommand_any a3 (by unfold maxLen; omega) w)
    obtain ⟨s, e, hcv, he, hok⟩ := cmdV_tuple c n a2.data.toList
    obtain ⟨x, y, d, g, hrv⟩ := rcmdV_tuple a3.data.toList
    rw [hcv] at C1 C2
    rw [hrv] at R1 R2
    by_cases h0 : e = 0
    · obtain ⟨hs, hcp, hnp, hlen⟩ := hok h0
      have hr := Cod.rcmd_cmd c n a2.data.toList ⟨hcp, hc⟩ ⟨hnp, hn⟩ hlen
      have hss : s.size ≤ 1048576 := by rw [hs]; exact hlen
      have R3 := Lib.hid (fun w => readCommand_any s (by unfold maxLen; omega) w)
      have hrv2 : rcmdV s.data.toList = .tuple #[.int .u64 c, .int .u64 n, .string a2, .int .i64 0] := by
        rw [hs]
        show rcmdV (Cod.cmd c n a2.data.toList) = _
        unfold rcmdV
        rw [hr]
      rw [hrv2] at R3
      subst h0
      clear hs hok he hr hrv2 hlen hcv hrv w0 w1 w2 w3 hbig
      go_enter Try.func3, Try.ntmps3
      go_wp2_with fail
      refine (C1.out _).mono ?_
      rintro e w1 ⟨rfl, b1⟩
      go_wp2_with fail
      refine (C2.out _).mono ?_
      rintro e w2 ⟨rfl, b2⟩
      go_wp2_with fail
      refine (R1.out _).mono ?_
      rintro e w3 ⟨rfl, b3⟩
      have b0 := Lib.hid (b1.trans ((b2.trans (b3.mono b2.size)).mono b1.size))
      clear b1 b2 b3
      go_wp2_with fail
      refine (R2.out _).mono ?_
      rintro e w3' ⟨rfl, b3⟩
      have b := Lib.hid (b0.out.trans (b3.mono b0.out.size))
      clear b0 b3
      go_wp2_with fail
      refine (R3.out _).mono ?_
      rintro e w4 ⟨rfl, b4⟩
      have b' := Lib.hid (b.out.trans (b4.mono b.out.size))
      clear b b4
      go_wp2_with fail
      refine (A.out _).mono ?_
      rintro e w5 ⟨rfl, b5⟩
      go_wp2
      go_ret
      exact ⟨rfl, b'.out.trans (b5.mono b'.out.size)⟩
    · have q2 : ((e : Int) != 0) = true := by rw [bne_iff_ne]; omega
      clear hok he hcv hrv w0 w1 w2 w3 hbig
      go_enter Try.func3, Try.ntmps3
      go_wp2_with fail
      refine (C1.out _).mono ?_
      rintro e w1 ⟨rfl, b1⟩
      go_wp2_with fail
      refine (C2.out _).mono ?_
      rintro e w2 ⟨rfl, b2⟩
      go_wp2_with fail
      refine (R1.out _).mono ?_
      rintro e w3 ⟨rfl, b3⟩
      go_wp2_with fail
      refine (R2.out _).mono ?_
      rintro e w4 ⟨rfl, b4⟩
      have b := Lib.hid (b1.trans ((b2.trans ((b3.trans (b4.mono b3.size)).mono b2.size)).mono b1.size))
      clear b1 b2 b3 b4
      go_wp2_with fail
      refine (A.out _).mono ?_
      rintro e w5 ⟨rfl, b5⟩
      go_wp2
      go_ret
      exact ⟨rfl, b.out.trans (b5.mono b.out.size)⟩
end Go.Proofs.Ytcaemfogknaioaa
