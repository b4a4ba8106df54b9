/- DiskPlays: the walk. -/
import Derived.Test.YtjflkmihkfbgpaaY4
import Derived.Test.YtjflkmihkfbgpaaY5
import Derived.Deep.RegionWith
namespace Go.Proofs.Ytjflkmihkfbgpaa
open Go.RowKit Mk Go.Sort
set_option linter.unusedVariables false
set_option linter.unusedSimpArgs false
/-- Both disks, made by the law itself. -/
structure One (w : World) (b x S : Nat) (wr : World) : Prop where
  ex : ∃ d r, Two w.heap.size wr b x S d r
  chg : Chg (fun _ => False) w wr
section
variable {w wr w1 : World} {b x S S' : Nat}
theorem One.larger (h : One w b x S wr) (hS : S ≤ S') (h' : S' ≤ 1099511627776) : One w b x S' wr := by
  obtain ⟨⟨d, r, T⟩, c⟩ := h; exact ⟨⟨d, r, T.larger hS h'⟩, c⟩
theorem One.same (h : One w b x S wr) (c : Chg (fun _ => False) wr w1) : One w b x S w1 := by
  obtain ⟨⟨d, r, T⟩, c0⟩ := h; exact ⟨⟨d, r, T.same c⟩, c0.trans c⟩
theorem One.does (h : One w b x S wr) (y : StepV) (hy : y.ok) (hS : S + y.t.size + 1 ≤ 1099511627776) :
    Calls Try.prog 15 #[.pointer (some ⟨b, 0, none⟩), .pointer (some ⟨x, 0, none⟩), .agg #[.int .i64 y.d, .string y.n, .string y.t, .int .i64 y.k, .int .i64 y.m]] wr fun e w' => e = .returned (.bool true) ∧ One w b x (S + y.t.size + 1) w' := by
  obtain ⟨⟨d, r, T⟩, c⟩ := h
  refine (step_any T (xd := y.d) (nm := y.n) hS hy.k.2 hy.m.2 c.size).mono ?_
  rintro e w' ⟨rfl, d', r', hP⟩
  exact ⟨rfl, ⟨d', r', hP.two⟩, c.trans' hP.chg (fun g f => Or.inr f)⟩
/-- What is asked of both behind a call. -/
theorem One.see (h : One w b x S wr) : ∃ (t n : Nat) (oo : Option Addr) (oc : Nat), t ≤ 1099511627776 ∧ n ≤ 1099511627776 ∧ (Calls Try.prog 16 #[.pointer (some ⟨b, 0, none⟩)] wr fun e w' => e = .returned (.int .i64 t) ∧ Chg (fun _ => False) wr w') ∧
    ∀ v, Chg (fun _ => False) wr v → (Calls Try.prog 17 #[.pointer (some ⟨x, 0, none⟩)] v fun e w' => e = .returned (.int .i64 t) ∧ w' = v) ∧ (Calls Try.prog 18 #[.pointer (some ⟨b, 0, none⟩)] v fun e w' => e = .returned (.int .i64 n) ∧ w' = v) ∧ v.cell? ⟨x, 2, none⟩ = some (.slice oo n oc) := by
  obtain ⟨⟨d, r, T⟩, c⟩ := h
  have hl := T.lim
  have T' := T
  obtain ⟨⟨r1, r2, v, ts, ha⟩, ⟨kv, ov, nv, hr⟩, hlk⟩ := T
  obtain ⟨oo, oc, rfl⟩ := sl_shape hr.o
  refine ⟨tot d.now, r.T.length, oo, oc, Nat.le_trans ha.size.1 hl, ?_, used_any ha, fun v cv => ⟨?_, ?_, ?_⟩⟩
  · rw [hlk.things]; exact Nat.le_trans ha.len hl
  · rw [← hlk.tot]; exact rused_any (T'.same cv).rr
  · rw [hlk.things]; exact loose_any (T'.same cv).a
  · exact (hr.below (below_of_chg cv)).cells.2.2.1
theorem One.stands (h : One w b x S wr) : Calls Try.prog 19 #[.pointer (some ⟨b, 0, none⟩), .pointer (some ⟨x, 0, none⟩)] wr fun e w' => e = .returned (.bool true) ∧ One w b x S w' := by
  have h' := h
  obtain ⟨⟨d, r, T⟩, c⟩ := h
  exact (stands_any T).mono fun e w' hh => ⟨hh.1, h'.same hh.2⟩
theorem One.begin {room : Int} (hn : DiskIs w1 b (fun g => w.heap.size ≤ g) 0 (newM room)) (h1 : Chg (fun _ => False) w w1) (hx : RIs wr x (fun g => w1.heap.size ≤ g) 0 (rnewM room)) (h2 : Chg (fun _ => False) w1 wr) : One w b x 0 wr :=
  ⟨⟨newM room, rnewM room, ⟨hn.same h2, hx.foot (fun g hg => Nat.le_trans h1.size hg), like_new room⟩⟩, h1.trans h2⟩
end
set_option maxRecDepth 100000 in
set_option maxHeartbeats 8000000 in
theorem plays_any (w : World) (room : Int) (hr1 : room ≤ 9223372036854775807) (hr2 : -9223372036854775808 ≤ room) (v1 : Value) (h1 : ∃ len f, stepsAt w v1 len f) :
    Calls Try.prog 4 #[.int .i64 room, v1] w fun e w' => e = .returned (.bool true) ∧ Below w.heap.size w w' := by
  obtain ⟨len, f, hv⟩ := h1
  obtain ⟨ao, cap, rfl⟩ := hv.1
  have HV := Lib.hid hv
  have hlm : len ≤ 9223372036854775807 := hv.2.1
  have A := Lib.hid (new_any w room hr1 hr2)
  have B := Lib.hid (fun v => rnew_any v room hr1)
  clear hv hr1 hr2
  go_enter Try.func4, Try.ntmps4
  go_wp2_with fail
  refine A.out.mono ?_
  rintro e w1 ⟨b, rfl, hn, hc⟩
  go_wp2_with fail
  refine (B.out w1).mono ?_
  rintro e w2 ⟨x, rfl, hx, hc2⟩
  have H0 := Lib.hid (One.begin hn hc hx (chg_of_below hc2))
  clear hn hc hx hc2 A B
  go_wp2
  go_loopw [7] (fun i wr => ∃ k : Nat, k ≤ 120 ∧ k ≤ len ∧ i = .int .i64 k ∧ Hid (One w b x (k * 16385) wr)) (fun i _ => 120 - (intOf i).toNat)
  case atStart => exact ⟨0, by omega, by omega, rfl, H0⟩
  case round =>
    obtain ⟨k, k1, kl, rfl, HS⟩ := hrel
    clear H0
    by_cases hlt : k < len
    · have hd : decide ((k : Int) < len) = true := by simp; omega
      by_cases h100 : k < 120
      · have hd2 : decide ((k : Int) < 120) = true := by simp; omega
        obtain ⟨g, o, rfl, hgs, c0, c1, c2, c3, c4⟩ := HV.out.load hlt (fun g hg => HS.out.chg.block g hg (fun h => h))
        have hok := (HV.out.2.2 k hlt).1
        have hb0 : (0 : Int) ≤ k := by omega
        have hb1 : (k : Int) < len := by omega
        by_cases htx : 16384 < (f k).t.size
        · have hd3 : decide ((16384 : Int) < (f k).t.size) = true := by simp; omega
          have HN := Lib.hid (HS.out.larger (S' := (k + 1) * 16385) (by omega) (by omega))
          clear htx hok
          go_wp2
          go_roundw
          case rel => exact ⟨k + 1, by omega, by omega, by go_num, HN⟩
          case measure => simp [intOf]; omega
        · have hd3 : decide ((16384 : Int) < (f k).t.size) = false := by simp; omega
          have DD := Lib.hid (((HS.out.same (Chg.refl _ wr).drew).does (f k) hok (by omega)).mono (fun e w' hh => show e = .returned (.bool true) ∧ One w b x ((k + 1) * 16385) w' from ⟨hh.1, hh.2.larger (by omega) (by omega)⟩))
          generalize (f k).d = yd at *
          generalize (f k).n = yn at *
          generalize (f k).t = yt at *
          generalize (f k).k = yk at *
          generalize (f k).m = ym at *
          clear htx hok
          go_wp2_with fail
          go_region_with (first | (go_at_call 15; with_reducible refine DD.out.mono ?_; rintro e w5 ⟨rfl, hO⟩; obtain ⟨tt, nn, oo, oc, z1, z2, s1, s2⟩ := hO.see; have HO := Lib.hid hO; have S1 := Lib.hid s1; have S2 := Lib.hid s2; have hb5 := ((hO.chg.block g hgs (fun f => f)).trans (HS.out.chg.block g hgs (fun f => f)).symm); have p0 := (World.cell?_of_block (a := ⟨g, o + k * 5, none⟩) (hb5)).trans c0; have p1 := (World.cell?_of_block (a := ⟨g, o + k * 5 + 1, none⟩) (hb5)).trans c1; have p2 := (World.cell?_of_block (a := ⟨g, o + k * 5 + 2, none⟩) (hb5)).trans c2; have p3 := (World.cell?_of_block (a := ⟨g, o + k * 5 + 3, none⟩) (hb5)).trans c3; have p4 := (World.cell?_of_block (a := ⟨g, o + k * 5 + 4, none⟩) (hb5)).trans c4; clear hO s1 s2 hb5) | (go_at_call 16; with_reducible refine S1.out.mono ?_; rintro e w6 ⟨rfl, hC6⟩; have hO6 := HO.out.same hC6; have HO6 := Lib.hid hO6; have HC6 := Lib.hid hC6; have x2 := (S2.out w6 hC6).2.2; have hb6 := ((hO6.chg.block g hgs (fun f => f)).trans (HO.out.chg.block g hgs (fun f => f)).symm); have q0 := (World.cell?_of_block (a := ⟨g, o + k * 5, none⟩) (hb6)).trans p0; have q1 := (World.cell?_of_block (a := ⟨g, o + k * 5 + 1, none⟩) (hb6)).trans p1; have q2 := (World.cell?_of_block (a := ⟨g, o + k * 5 + 2, none⟩) (hb6)).trans p2; have q3 := (World.cell?_of_block (a := ⟨g, o + k * 5 + 3, none⟩) (hb6)).trans p3; have q4 := (World.cell?_of_block (a := ⟨g, o + k * 5 + 4, none⟩) (hb6)).trans p4; clear hO6 hC6 hb6) | (go_at_call 17; with_reducible refine (S2.out w6 HC6.out).1.mono ?_; rintro e w7 ⟨rfl, hw7⟩; subst w7) | (go_at_call 17; with_reducible refine (S2.out w5 (Chg.refl _ _)).1.mono ?_; rintro e w7 ⟨rfl, hw7⟩; subst w7) | (go_at_call 18; with_reducible refine (S2.out w6 HC6.out).2.1.mono ?_; rintro e w7 ⟨rfl, hw7⟩; subst w7))
          all_goals
            go_wp2
            go_roundw
            case rel => exact ⟨k + 1, by omega, by omega, by go_num, HO6⟩
            case measure => simp [intOf]; omega
      · have hd2 : decide ((k : Int) < 120) = false := by simp; omega
        go_wp2_with fail
        refine HS.out.stands.mono ?_
        rintro e w8 ⟨rfl, hO8⟩
        have HO8 := Lib.hid hO8
        clear hO8
        go_wp2_with fail
        refine (alive_any w8).mono ?_
        rintro e w9 ⟨rfl, hC9⟩
        have HC9 := Lib.hid (HO8.out.chg.trans (chg_of_below hC9))
        clear hC9
        go_wp2
        go_ret
        exact ⟨rfl, HC9.out.below (fun _ h => absurd h (fun h => h)) (Nat.le_refl _)⟩
    · have hd : decide ((k : Int) < len) = false := by simp; omega
      go_wp2_with fail
      refine HS.out.stands.mono ?_
      rintro e w8 ⟨rfl, hO8⟩
      have HO8 := Lib.hid hO8
      clear hO8
      go_wp2_with fail
      refine (alive_any w8).mono ?_
      rintro e w9 ⟨rfl, hC9⟩
      have HC9 := Lib.hid (HO8.out.chg.trans (chg_of_below hC9))
      clear hC9
      go_wp2
      go_ret
      exact ⟨rfl, HC9.out.below (fun _ h => absurd h (fun h => h)) (Nat.le_refl _)⟩
end Go.Proofs.Ytjflkmihkfbgpaa
