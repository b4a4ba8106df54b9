/- DiskCopies: the walk. -/
import Derived.Test.YtjflkmihkfbgpaaY6
import Derived.Test.YtjflkmihkfbgpaaZ2
import Derived.Test.YtjflkmihkfbgpaaZ5
import Derived.Test.YtjflkmihkfbgpaaZ7
namespace Go.Proofs.Ytjflkmihkfbgpaa
open Go.RowKit Mk Go.Sort
set_option linter.unusedVariables false
set_option linter.unusedSimpArgs false
/-- Both disks, and their copies. -/
structure Both (w : World) (b x c y S S2 : Nat) (wr : World) : Prop where
  ex : ∃ n1 d r d' r', DiskIs wr b (fun g => w.heap.size ≤ g ∧ g < n1) S d ∧ RIs wr x (fun g => w.heap.size ≤ g ∧ g < n1) S r ∧ Like d r ∧ Two n1 wr c y S2 d' r' ∧ w.heap.size ≤ n1 ∧ n1 ≤ wr.heap.size
  chg : Chg (fun _ => False) w wr
section
variable {w wr w1 : World} {b x c y S S2 S' : Nat}
theorem Both.larger (h : Both w b x c y S S2 wr) (hS : S2 ≤ S') (h' : S' ≤ 1099511627776) : Both w b x c y S S' wr := by
  obtain ⟨⟨n1, d, r, d', r', h1, h2, h3, T, h4⟩, c⟩ := h
  exact ⟨⟨n1, d, r, d', r', h1, h2, h3, T.larger hS h', h4⟩, c⟩
theorem Both.same (h : Both w b x c y S S2 wr) (cg : Chg (fun _ => False) wr w1) : Both w b x c y S S2 w1 := by
  obtain ⟨⟨n1, d, r, d', r', h1, h2, h3, T, h4, h5⟩, c⟩ := h
  exact ⟨⟨n1, d, r, d', r', h1.same cg, h2.stay cg (fun _ _ f => f), h3, T.same cg, h4, Nat.le_trans h5 cg.size⟩, c.trans cg⟩
theorem Both.does (h : Both w b x c y S S2 wr) (z : StepV) (hz : z.ok) (hS : S2 + z.t.size + 1 ≤ 1099511627776) :
    Calls Try.prog 15 #[.pointer (some ⟨c, 0, none⟩), .pointer (some ⟨y, 0, none⟩), .agg #[.int .i64 z.d, .string z.n, .string z.t, .int .i64 z.k, .int .i64 z.m]] wr fun e w' => e = .returned (.bool true) ∧ Both w b x c y S (S2 + z.t.size + 1) w' := by
  obtain ⟨⟨n1, d, r, d', r', h1, h2, h3, T, h4, h5⟩, cg⟩ := h
  refine (step_any T (xd := z.d) (nm := z.n) hS hz.k.2 hz.m.2 h5).mono ?_
  rintro e w' ⟨rfl, d2, r2, hP⟩
  refine ⟨rfl, ⟨n1, d, r, d2, r2, h1.stay hP.chg (fun i hi f => by omega) hP.keep, h2.stay hP.chg (fun i hi f => by omega), h3, hP.two, h4, Nat.le_trans h5 hP.chg.size⟩, cg.trans' hP.chg (fun g f => Or.inr (Nat.le_trans h4 f))⟩
theorem One.copy (h : One w b x S wr) : Calls Try.prog 20 #[.pointer (some ⟨b, 0, none⟩)] wr fun e w1 => ∃ c, e = .returned (.pointer (some ⟨c, 0, none⟩)) ∧ Calls Try.prog 21 #[.pointer (some ⟨x, 0, none⟩)] w1 fun e w2 => ∃ y, e = .returned (.pointer (some ⟨y, 0, none⟩)) ∧ Both w b x c y S S w2 ∧
    Calls Try.prog 22 #[.pointer (some ⟨c, 0, none⟩), .pointer (some ⟨b, 0, none⟩)] w2 fun e w3 => e = .returned (.bool true) ∧ Both w b x c y S S w3 := by
  obtain ⟨⟨d, r, T⟩, cg⟩ := h
  obtain ⟨FA, FB, TT⟩ := T.side
  obtain ⟨r1, r2, v, ts, hd⟩ := T.a
  refine (dcopy_any hd).mono ?_
  rintro e w1 ⟨c, rfl, hc, c1⟩
  refine ⟨c, rfl, ?_⟩
  refine (rcopy_any (T.rr.stay c1 (fun _ _ f => f))).mono ?_
  rintro e w2 ⟨y, rfl, hy, c2⟩
  have z1 := c1.size
  have z2 := c2.size
  have hB : Both w b x c y S S w2 := by
    refine ⟨⟨wr.heap.size, d, r, d, r, ?_, ?_, T.like, ⟨hc.same c2, hy.foot (fun g hg => by omega), T.like⟩, cg.size, by omega⟩, (cg.trans c1).trans c2⟩
    · exact ((TT.a.same c1).same c2).foot TT.la
    · exact ((TT.rr.stay c1 (fun _ _ f => f)).stay c2 (fun _ _ f => f)).foot TT.lb
  refine ⟨y, rfl, hB, ?_⟩
  refine (dsame_any (hc.same c2) ((T.a.same c1).same c2)).mono ?_
  rintro e w3 ⟨rfl, c3⟩
  rw [like_self T.like]
  exact ⟨rfl, hB.same c3⟩
theorem Both.one (h : Both w b x c y S S2 wr) : Calls Try.prog 19 #[.pointer (some ⟨b, 0, none⟩), .pointer (some ⟨x, 0, none⟩)] wr fun e w' => e = .returned (.bool true) ∧ Both w b x c y S S2 w' := by
  have h' := h
  obtain ⟨⟨n1, d, r, d', r', h1, h2, h3, T, h4, h5⟩, cg⟩ := h
  exact (stands_any (n0 := w.heap.size) ⟨h1.foot (fun g hg => hg.1), h2.foot (fun g hg => hg.1), h3⟩).mono fun e w' hh => ⟨hh.1, h'.same hh.2⟩
theorem Both.two (h : Both w b x c y S S2 wr) : Calls Try.prog 19 #[.pointer (some ⟨c, 0, none⟩), .pointer (some ⟨y, 0, none⟩)] wr fun e w' => e = .returned (.bool true) ∧ Both w b x c y S S2 w' := by
  have h' := h
  obtain ⟨⟨n1, d, r, d', r', h1, h2, h3, T, h4, h5⟩, cg⟩ := h
  exact (stands_any T).mono fun e w' hh => ⟨hh.1, h'.same hh.2⟩
theorem Both.asks (h : Both w b x c y S S2 wr) : ∃ z : Bool, Hid (Calls Try.prog 22 #[.pointer (some ⟨c, 0, none⟩), .pointer (some ⟨b, 0, none⟩)] wr fun e w' => e = .returned (.bool z) ∧ Chg (fun _ => False) wr w') ∧
    Hid (∀ v, Chg (fun _ => False) wr v → Calls Try.prog 23 #[.pointer (some ⟨y, 0, none⟩), .pointer (some ⟨x, 0, none⟩)] v fun e w' => e = .returned (.bool z) ∧ Chg (fun _ => False) w w') := by
  obtain ⟨⟨n1, d, r, d', r', h1, h2, h3, T, h4, h5⟩, cg⟩ := h
  refine ⟨sameM d' d, Lib.hid (dsame_any T.a h1), Lib.hid (fun v cv => ?_)⟩
  refine (rsame_any (T.rr.stay cv (fun _ _ f => f)) (h2.stay cv (fun _ _ f => f))).mono ?_
  rintro e w' ⟨rfl, c3⟩
  rw [like_same T.like h3]
  exact ⟨rfl, (cg.trans cv).trans c3⟩
end
set_option maxRecDepth 100000 in
set_option maxHeartbeats 8000000 in
theorem copies_any (w : World) (room : Int) (hr1 : room ≤ 9223372036854775807) (hr2 : -9223372036854775808 ≤ room) (v1 v2 : Value) (h1 : ∃ len f, stepsAt w v1 len f) (h2 : ∃ len f, stepsAt w v2 len f) :
    Calls Try.prog 5 #[.int .i64 room, v1, v2] w fun e w' => e = .returned (.bool true) ∧ Below w.heap.size w w' := by
  obtain ⟨len1, f1, hv1⟩ := h1
  obtain ⟨ao1, cap1, rfl⟩ := hv1.1
  obtain ⟨len2, f2, hv2⟩ := h2
  obtain ⟨ao2, cap2, rfl⟩ := hv2.1
  have HV1 := Lib.hid hv1
  have HV2 := Lib.hid hv2
  have hlm1 : len1 ≤ 9223372036854775807 := hv1.2.1
  have hlm2 : len2 ≤ 9223372036854775807 := hv2.2.1
  have A := Lib.hid (new_any w room hr1 hr2)
  have B := Lib.hid (fun v => rnew_any v room hr1)
  clear hv1 hv2 hr1 hr2
  go_enter Try.func5, Try.ntmps5
  go_wp2_with fail
  refine A.out.mono ?_
  rintro e w1 ⟨b, rfl, hn, hc⟩
  go_wp2_with fail
  refine (B.out w1).mono ?_
  rintro e w2 ⟨x, rfl, hx, hc2⟩
  have H0 := Lib.hid (One.begin hn hc hx (chg_of_below hc2))
  clear hn hc hx hc2 A B
  go_wp2
  go_loopw [9] (fun i wr => ∃ k : Nat, k ≤ 50 ∧ k ≤ len1 ∧ i = .int .i64 k ∧ Hid (One w b x (k * 4097) wr)) (fun i _ => 50 - (intOf i).toNat)
  case atStart => exact ⟨0, by omega, by omega, rfl, H0⟩
  case round =>
    obtain ⟨k, k1, kl, rfl, HS⟩ := hrel
    clear H0
    by_cases hlt : k < len1
    · have hd : decide ((k : Int) < len1) = true := by simp; omega
      by_cases h100 : k < 50
      · have hd2 : decide ((k : Int) < 50) = true := by simp; omega
        obtain ⟨g, o, rfl, hgs, c0, c1, c2, c3, c4⟩ := HV1.out.load hlt (fun g hg => HS.out.chg.block g hg (fun h => h))
        have hok := (HV1.out.2.2 k hlt).1
        have hb0 : (0 : Int) ≤ k := by omega
        have hb1 : (k : Int) < len1 := by omega
        by_cases htx : (f1 k).t.size < 4096
        · have hd3 : decide (((f1 k).t.size : Int) < 4096) = true := by simp; omega
          have DD := Lib.hid ((HS.out.does (f1 k) hok (by omega)).mono (fun e w' hh => show e = .returned (.bool true) ∧ One w b x ((k + 1) * 4097) w' from ⟨hh.1, hh.2.larger (by omega) (by omega)⟩))
          generalize (f1 k).d = yd at *
          generalize (f1 k).n = yn at *
          generalize (f1 k).t = yt at *
          generalize (f1 k).k = yk at *
          generalize (f1 k).m = ym at *
          clear htx hok
          go_wp2_with fail
          refine DD.out.mono ?_
          rintro e w5 ⟨rfl, hO⟩
          have HO := Lib.hid hO
          clear hO DD
          go_wp2
          go_roundw
          case rel => exact ⟨k + 1, by omega, by omega, by go_num, HO⟩
          case measure => simp [intOf]; omega
        · have hd3 : decide (((f1 k).t.size : Int) < 4096) = false := by simp; omega
          have HN := Lib.hid (show One w b x ((k + 1) * 4097) wr from HS.out.larger (by omega) (by omega))
          clear htx hok
          go_wp2
          go_roundw
          case rel => exact ⟨k + 1, by omega, by omega, by go_num, HN⟩
          case measure => simp [intOf]; omega
      · have hd2 : decide ((k : Int) < 50) = false := by simp; omega
        go_wp2_with fail
        refine HS.out.copy.mono ?_
        rintro e w3 ⟨c, rfl, hK⟩
        go_wp2_with fail
        refine hK.mono ?_
        rintro e w4 ⟨y, rfl, hB4, hK4⟩
        clear hK
        go_wp2_with fail
        refine hK4.mono ?_
        rintro e w5 ⟨rfl, hB5⟩
        obtain ⟨n0, d0, r0, d1, r1, q1, q2, q3, q4, q5, q6⟩ := hB5.ex
        have HB5 : Hid (Both w b x c y (50 * 4097) (50 * 4097 + 0 * 4097) w5) := Lib.hid ⟨⟨n0, d0, r0, d1, r1, q1.larger (by omega) (by omega), q2.larger (by omega) (by omega), q3, q4.larger (by omega) (by omega), q5, q6⟩, hB5.chg⟩
        clear hB4 hK4 hB5 q1 q2 q3 q4 q5 q6
        go_wp2
        go_loopw [12] (fun i wr => ∃ j : Nat, j ≤ 50 ∧ j ≤ len2 ∧ i = .int .i64 j ∧ Hid (Both w b x c y (50 * 4097) (50 * 4097 + j * 4097) wr)) (fun i _ => 50 - (intOf i).toNat)
        case atStart => exact ⟨0, by omega, by omega, rfl, HB5⟩
        case round =>
          obtain ⟨j, j1, jl, rfl, HB⟩ := hrel
          clear HB5
          by_cases hlt : j < len2
          · have hd : decide ((j : Int) < len2) = true := by simp; omega
            by_cases h100 : j < 50
            · have hd2 : decide ((j : Int) < 50) = true := by simp; omega
              obtain ⟨g, o, rfl, hgs, c0, c1, c2, c3, c4⟩ := HV2.out.load hlt (fun g hg => HB.out.chg.block g hg (fun h => h))
              have hok := (HV2.out.2.2 j hlt).1
              have hb0 : (0 : Int) ≤ j := by omega
              have hb1 : (j : Int) < len2 := by omega
              by_cases htx : (f2 j).t.size < 4096
              · have hd3 : decide (((f2 j).t.size : Int) < 4096) = true := by simp; omega
                have DD := Lib.hid ((HB.out.does (f2 j) hok (by omega)).mono (fun e w' hh => show e = .returned (.bool true) ∧ Both w b x c y (50 * 4097) (50 * 4097 + (j + 1) * 4097) w' from ⟨hh.1, hh.2.larger (by omega) (by omega)⟩))
                generalize (f2 j).d = yd at *
                generalize (f2 j).n = yn at *
                generalize (f2 j).t = yt at *
                generalize (f2 j).k = yk at *
                generalize (f2 j).m = ym at *
                clear htx hok
                go_wp2_with fail
                refine DD.out.mono ?_
                rintro e w5 ⟨rfl, hO⟩
                have HO := Lib.hid hO
                clear hO DD
                go_wp2
                go_roundw
                case rel => exact ⟨j + 1, by omega, by omega, by go_num, HO⟩
                case measure => simp [intOf]; omega
              · have hd3 : decide (((f2 j).t.size : Int) < 4096) = false := by simp; omega
                have HN := Lib.hid (show Both w b x c y (50 * 4097) (50 * 4097 + (j + 1) * 4097) wr from HB.out.larger (by omega) (by omega))
                clear htx hok
                go_wp2
                go_roundw
                case rel => exact ⟨j + 1, by omega, by omega, by go_num, HN⟩
                case measure => simp [intOf]; omega
            · have hd2 : decide ((j : Int) < 50) = false := by simp; omega
              go_wp2_with fail
              refine HB.out.one.mono ?_
              rintro e w6 ⟨rfl, hB6⟩
              have HB6 := Lib.hid hB6
              clear hB6
              go_wp2_with fail
              refine HB6.out.two.mono ?_
              rintro e w7 ⟨rfl, hB7⟩
              obtain ⟨z, HA, HR⟩ := hB7.asks
              clear hB7
              go_wp2_with fail
              refine HA.out.mono ?_
              rintro e w8 ⟨rfl, hC8⟩
              have R8 := Lib.hid (HR.out w8 hC8)
              clear hC8 HA HR
              go_wp2_with fail
              refine R8.out.mono ?_
              rintro e w9 ⟨rfl, hC9⟩
              have HC9 := Lib.hid hC9
              clear hC9 R8
              have qz : (z == z) = true := by cases z <;> rfl
              go_wp2_with fail
              refine (alive_any w9).mono ?_
              rintro e w10 ⟨rfl, hC10⟩
              have HC10 := Lib.hid (HC9.out.trans (chg_of_below hC10))
              clear hC10
              go_wp2
              go_ret
              exact ⟨rfl, HC10.out.below (fun _ h => absurd h (fun h => h)) (Nat.le_refl _)⟩
          · have hd : decide ((j : Int) < len2) = false := by simp; omega
            go_wp2_with fail
            refine HB.out.one.mono ?_
            rintro e w6 ⟨rfl, hB6⟩
            have HB6 := Lib.hid hB6
            clear hB6
            go_wp2_with fail
            refine HB6.out.two.mono ?_
            rintro e w7 ⟨rfl, hB7⟩
            obtain ⟨z, HA, HR⟩ := hB7.asks
            clear hB7
            go_wp2_with fail
            refine HA.out.mono ?_
            rintro e w8 ⟨rfl, hC8⟩
            have R8 := Lib.hid (HR.out w8 hC8)
            clear hC8 HA HR
            go_wp2_with fail
            refine R8.out.mono ?_
            rintro e w9 ⟨rfl, hC9⟩
            have HC9 := Lib.hid hC9
            clear hC9 R8
            have qz : (z == z) = true := by cases z <;> rfl
            go_wp2_with fail
            refine (alive_any w9).mono ?_
            rintro e w10 ⟨rfl, hC10⟩
            have HC10 := Lib.hid (HC9.out.trans (chg_of_below hC10))
            clear hC10
            go_wp2
            go_ret
            exact ⟨rfl, HC10.out.below (fun _ h => absurd h (fun h => h)) (Nat.le_refl _)⟩
    · have hd : decide ((k : Int) < len1) = false := by simp; omega
      go_wp2_with fail
      refine HS.out.copy.mono ?_
      rintro e w3 ⟨c, rfl, hK⟩
      go_wp2_with fail
      refine hK.mono ?_
      rintro e w4 ⟨y, rfl, hB4, hK4⟩
      clear hK
      go_wp2_with fail
      refine hK4.mono ?_
      rintro e w5 ⟨rfl, hB5⟩
      obtain ⟨n0, d0, r0, d1, r1, q1, q2, q3, q4, q5, q6⟩ := hB5.ex
      have HB5 : Hid (Both w b x c y (50 * 4097) (50 * 4097 + 0 * 4097) w5) := Lib.hid ⟨⟨n0, d0, r0, d1, r1, q1.larger (by omega) (by omega), q2.larger (by omega) (by omega), q3, q4.larger (by omega) (by omega), q5, q6⟩, hB5.chg⟩
      clear hB4 hK4 hB5 q1 q2 q3 q4 q5 q6
      go_wp2
      go_loopw [12] (fun i wr => ∃ j : Nat, j ≤ 50 ∧ j ≤ len2 ∧ i = .int .i64 j ∧ Hid (Both w b x c y (50 * 4097) (50 * 4097 + j * 4097) wr)) (fun i _ => 50 - (intOf i).toNat)
      case atStart => exact ⟨0, by omega, by omega, rfl, HB5⟩
      case round =>
        obtain ⟨j, j1, jl, rfl, HB⟩ := hrel
        clear HB5
        by_cases hlt : j < len2
        · have hd : decide ((j : Int) < len2) = true := by simp; omega
          by_cases h100 : j < 50
          · have hd2 : decide ((j : Int) < 50) = true := by simp; omega
            obtain ⟨g, o, rfl, hgs, c0, c1, c2, c3, c4⟩ := HV2.out.load hlt (fun g hg => HB.out.chg.block g hg (fun h => h))
            have hok := (HV2.out.2.2 j hlt).1
            have hb0 : (0 : Int) ≤ j := by omega
            have hb1 : (j : Int) < len2 := by omega
            by_cases htx : (f2 j).t.size < 4096
            · have hd3 : decide (((f2 j).t.size : Int) < 4096) = true := by simp; omega
              have DD := Lib.hid ((HB.out.does (f2 j) hok (by omega)).mono (fun e w' hh => show e = .returned (.bool true) ∧ Both w b x c y (50 * 4097) (50 * 4097 + (j + 1) * 4097) w' from ⟨hh.1, hh.2.larger (by omega) (by omega)⟩))
              generalize (f2 j).d = yd at *
              generalize (f2 j).n = yn at *
              generalize (f2 j).t = yt at *
              generalize (f2 j).k = yk at *
              generalize (f2 j).m = ym at *
              clear htx hok
              go_wp2_with fail
              refine DD.out.mono ?_
              rintro e w5 ⟨rfl, hO⟩
              have HO := Lib.hid hO
              clear hO DD
              go_wp2
              go_roundw
              case rel => exact ⟨j + 1, by omega, by omega, by go_num, HO⟩
              case measure => simp [intOf]; omega
            · have hd3 : decide (((f2 j).t.size : Int) < 4096) = false := by simp; omega
              have HN := Lib.hid (show Both w b x c y (50 * 4097) (50 * 4097 + (j + 1) * 4097) wr from HB.out.larger (by omega) (by omega))
              clear htx hok
              go_wp2
              go_roundw
              case rel => exact ⟨j + 1, by omega, by omega, by go_num, HN⟩
              case measure => simp [intOf]; omega
          · have hd2 : decide ((j : Int) < 50) = false := by simp; omega
            go_wp2_with fail
            refine HB.out.one.mono ?_
            rintro e w6 ⟨rfl, hB6⟩
            have HB6 := Lib.hid hB6
            clear hB6
            go_wp2_with fail
            refine HB6.out.two.mono ?_
            rintro e w7 ⟨rfl, hB7⟩
            obtain ⟨z, HA, HR⟩ := hB7.asks
            clear hB7
            go_wp2_with fail
            refine HA.out.mono ?_
            rintro e w8 ⟨rfl, hC8⟩
            have R8 := Lib.hid (HR.out w8 hC8)
            clear hC8 HA HR
            go_wp2_with fail
            refine R8.out.mono ?_
            rintro e w9 ⟨rfl, hC9⟩
            have HC9 := Lib.hid hC9
            clear hC9 R8
            have qz : (z == z) = true := by cases z <;> rfl
            go_wp2_with fail
            refine (alive_any w9).mono ?_
            rintro e w10 ⟨rfl, hC10⟩
            have HC10 := Lib.hid (HC9.out.trans (chg_of_below hC10))
            clear hC10
            go_wp2
            go_ret
            exact ⟨rfl, HC10.out.below (fun _ h => absurd h (fun h => h)) (Nat.le_refl _)⟩
        · have hd : decide ((j : Int) < len2) = false := by simp; omega
          go_wp2_with fail
          refine HB.out.one.mono ?_
          rintro e w6 ⟨rfl, hB6⟩
          have HB6 := Lib.hid hB6
          clear hB6
          go_wp2_with fail
          refine HB6.out.two.mono ?_
          rintro e w7 ⟨rfl, hB7⟩
          obtain ⟨z, HA, HR⟩ := hB7.asks
          clear hB7
          go_wp2_with fail
          refine HA.out.mono ?_
          rintro e w8 ⟨rfl, hC8⟩
          have R8 := Lib.hid (HR.out w8 hC8)
          clear hC8 HA HR
          go_wp2_with fail
          refine R8.out.mono ?_
          rintro e w9 ⟨rfl, hC9⟩
          have HC9 := Lib.hid hC9
          clear hC9 R8
          have qz : (z == z) = true := by cases z <;> rfl
          go_wp2_with fail
          refine (alive_any w9).mono ?_
          rintro e w10 ⟨rfl, hC10⟩
          have HC10 := Lib.hid (HC9.out.trans (chg_of_below hC10))
          clear hC10
          go_wp2
          go_ret
          exact ⟨rfl, HC10.out.below (fun _ h => absurd h (fun h => h)) (Nat.le_refl _)⟩
theorem openT32' {H : Type} {enc : TypeId × Value → H} {w : World} {base : Nat} {spare : Nat → Bool} {held : Bool} {v : Value} {d : DataW H} {p : List MemPlace} (hv1 : v.cells.toList = [v])
    (h : DataW.Trod enc Try.prog w base spare held 32 v d p) : ∃ len f, stepsAt w v len f := open_steps hv1 h
end Go.Proofs.Ytjflkmihkfbgpaa
