/- NetPlays: the walk. -/
import Derived.Test.YtpgioccbnkcjcaaQ7
import Derived.Test.YtpgioccbnkcjcaaNc
import Derived.Test.YtpgioccbnkcjcaaN9
namespace Go.Proofs.Ytpgioccbnkcjcaa
open Go.RowKit Mk
def sidesOk (w : World) (len : Nat) (f : Nat → StepV) : Prop := ∀ i, i < len → ∃ xs, xs.length = (f i).sl ∧ IntsAt w (f i).so xs ∧ ((f i).so = none → (f i).sc = 0) ∧ (f i).sl * 8 ≤ reachBytes
structure One (w : World) (b x : Nat) (wr : World) : Prop where
  ex : ∃ Fa Fb n, Two wr b x Fa Fb n ∧ ∀ g, Fa g ∨ Fb g → w.heap.size ≤ g
  chg : Chg (fun _ => False) w wr
structure Both (w : World) (b x c y : Nat) (wr : World) : Prop where
  ex : ∃ Fa Fb n Fc Fd n', Two wr b x Fa Fb n ∧ Two wr c y Fc Fd n' ∧ (∀ g, Fa g ∨ Fb g → w.heap.size ≤ g) ∧ (∀ g, Fc g ∨ Fd g → w.heap.size ≤ g) ∧ ∀ g, Fc g ∨ Fd g → ¬ (Fa g ∨ Fb g)
  chg : Chg (fun _ => False) w wr
section
variable {w wr w1 : World} {b x c y : Nat} {xd xa xb xn : Int} {xt : ByteArray} {so : Option Addr} {ls sc : Nat} {xs : List Int}
theorem IntsAt.old (h : IntsAt w so xs) {g o : Nat} (e : so = some ⟨g, o, none⟩) (h0 : 0 < xs.length) : g < w.heap.size := by
  obtain ⟨g2, o2, e2, h2, _⟩ := h.cell 0 h0
  rw [e] at e2
  cases e2
  exact h2
theorem One.does (h : One w b x wr) (ha : i64 xa) (hb : i64 xb) (hn : i64 xn) (hl : xs.length = ls) (hI : IntsAt w so xs) (hz : so = none → sc = 0) (hby : ls * 8 ≤ reachBytes) :
    Calls Try.prog 21 #[.pointer (some ⟨b, 0, none⟩), .pointer (some ⟨x, 0, none⟩), .agg #[.int .i64 xd, .int .i64 xa, .int .i64 xb, .int .i64 xn, .string xt, .slice so ls sc]] wr fun e w' => e = .returned (.bool true) ∧ One w b x w' := by
  obtain ⟨⟨Fa, Fb, n, T, hF⟩, hc⟩ := h
  have hI' : IntsAt wr so xs := hI.stay (fun g hg => hc.block g hg (fun f => f)) hc.size
  refine (does_any T (xd := xd) (xt := xt) ha hb hn hl hI' hz hby (fun g o e h0 => ?_)).mono ?_
  · have := hI.old e h0
    exact ⟨fun f => by have := hF g (Or.inl f); omega, fun f => by have := hF g (Or.inr f); omega⟩
  · rintro e w' ⟨rfl, ⟨Fa', Fb', n', T', h1, h2⟩, h3⟩
    refine ⟨rfl, ⟨Fa', Fb', n', T', ?_⟩, ?_⟩
    · rintro g (h | h)
      · rcases h1 g h with h | h
        · exact hF g (Or.inl h)
        · exact Nat.le_trans hc.size h
      · rcases h2 g h with h | h
        · exact hF g (Or.inr h)
        · exact Nat.le_trans hc.size h
    · exact hc.trans' h3 (fun g f => Or.inr (hF g f))
theorem Both.does (h : Both w b x c y wr) (ha : i64 xa) (hb : i64 xb) (hn : i64 xn) (hl : xs.length = ls) (hI : IntsAt w so xs) (hz : so = none → sc = 0) (hby : ls * 8 ≤ reachBytes) :
    Calls Try.prog 21 #[.pointer (some ⟨c, 0, none⟩), .pointer (some ⟨y, 0, none⟩), .agg #[.int .i64 xd, .int .i64 xa, .int .i64 xb, .int .i64 xn, .string xt, .slice so ls sc]] wr fun e w' => e = .returned (.bool true) ∧ Both w b x c y w' := by
  obtain ⟨⟨Fa, Fb, n, Fc, Fd, m, T, T2, hF, hF2, hsep⟩, hc⟩ := h
  have hI' : IntsAt wr so xs := hI.stay (fun g hg => hc.block g hg (fun f => f)) hc.size
  refine (does_any T2 (xd := xd) (xt := xt) ha hb hn hl hI' hz hby (fun g o e h0 => ?_)).mono ?_
  · have := hI.old e h0
    exact ⟨fun f => by have := hF2 g (Or.inl f); omega, fun f => by have := hF2 g (Or.inr f); omega⟩
  · rintro e w' ⟨rfl, ⟨Fa', Fb', n', T', h1, h2⟩, h3⟩
    have hk : ∀ g, Fa' g ∨ Fb' g → (Fc g ∨ Fd g) ∨ wr.heap.size ≤ g := by
      rintro g (h | h)
      · exact (h1 g h).imp Or.inl id
      · exact (h2 g h).imp Or.inr id
    refine ⟨rfl, ⟨Fa, Fb, n, Fa', Fb', n', T.stay h3 (fun g hg f => hsep g f hg), T', hF, ?_, ?_⟩, ?_⟩
    · intro g hg
      rcases hk g hg with h | h
      · exact hF2 g h
      · exact Nat.le_trans hc.size h
    · intro g hg f
      rcases hk g hg with h | h
      · exact hsep g h f
      · have := T.lt g f; omega
    · exact hc.trans' h3 (fun g f => Or.inr (hF2 g f))
theorem One.begin {m seed : Nat} (hn : NetIs w1 b (fun g => w.heap.size ≤ g) (newM m seed)) (h1 : Chg (fun _ => False) w w1) (hx : RefIs wr x (fun g => w1.heap.size ≤ g) (newM m seed)) (h2 : Chg (fun _ => False) w1 wr) : One w b x wr := by
  refine ⟨⟨fun g => w.heap.size ≤ g ∧ g < w1.heap.size, fun g => w1.heap.size ≤ g ∧ g < wr.heap.size, newM m seed, ⟨hn.tight.stay h2 (fun _ _ f => f), hx.tight, fun g h h' => by omega, ?_, ?_⟩, ?_⟩, h1.trans h2⟩
  · have := h2.size
    rintro g (h | h) <;> omega
  · intro mm hm
    obtain ⟨j, hj, e⟩ := List.getElem_of_mem hm
    have := msN_get m seed m j hj
    have e' : (msN m seed m)[j] = mm := e
    rw [this] at e'
    subst e'
    simp only
    split
    · simp only [u64]; omega
    · omega
  · have := h1.size
    rintro g (h | h) <;> omega
theorem One.net (h : One w b x wr) : ∃ r mb L F n, NetRep wr b r mb L F n := by
  obtain ⟨⟨Fa, Fb, n, T, _⟩, _⟩ := h
  obtain ⟨r, mb, L, h⟩ := T.a
  exact ⟨r, mb, L, Fa, n, h⟩
theorem One.copy (h : One w b x wr) : Calls Try.prog 22 #[.pointer (some ⟨b, 0, none⟩)] wr fun e w1 => ∃ c, e = .returned (.pointer (some ⟨c, 0, none⟩)) ∧ Chg (fun _ => False) w w1 ∧ Calls Try.prog 23 #[.pointer (some ⟨x, 0, none⟩)] w1 fun e w2 => ∃ y, e = .returned (.pointer (some ⟨y, 0, none⟩)) ∧ Both w b x c y w2 := by
  obtain ⟨⟨Fa, Fb, n, T, hF⟩, hc⟩ := h
  obtain ⟨r, mb, L, hR⟩ := T.a
  refine (ncopy_any hR).mono ?_
  rintro e w1 ⟨c, rfl, hn, h1⟩
  refine ⟨c, rfl, hc.trans h1, ?_⟩
  obtain ⟨R, hX⟩ := T.r.stay h1 (fun _ _ f => f)
  refine (rcopy_any hX).mono ?_
  rintro e w2 ⟨y, rfl, hy, h2⟩
  have hs := hc.size
  have hs1 := h1.size
  have hs2 := h2.size
  refine ⟨y, rfl, ⟨Fa, Fb, n, fun g => wr.heap.size ≤ g ∧ g < w1.heap.size, fun g => w1.heap.size ≤ g ∧ g < w2.heap.size, n, (T.same h1).same h2, ⟨hn.tight.stay h2 (fun _ _ f => f), hy.tight, fun g h h' => by omega, ?_, T.lim⟩, hF, ?_, ?_⟩, (hc.trans h1).trans h2⟩
  · rintro g (h | h) <;> omega
  · rintro g (h | h) <;> omega
  · intro g h f
    have := T.lt g f
    omega
theorem Both.one (h : Both w b x c y wr) : Calls Try.prog 24 #[.pointer (some ⟨b, 0, none⟩), .pointer (some ⟨x, 0, none⟩)] wr fun e w1 => e = .returned (.bool true) ∧ Both w b x c y w1 := by
  obtain ⟨⟨Fa, Fb, n, Fc, Fd, m, T, T2, hF, hF2, hsep⟩, hc⟩ := h
  obtain ⟨r, mb, L, hR⟩ := T.a
  obtain ⟨R, hX⟩ := T.r
  refine (stands_any hR hX).mono ?_
  rintro e w1 ⟨rfl, h1⟩
  exact ⟨rfl, ⟨Fa, Fb, n, Fc, Fd, m, T.same h1, T2.same h1, hF, hF2, hsep⟩, hc.trans h1⟩
theorem Both.two (h : Both w b x c y wr) : Calls Try.prog 24 #[.pointer (some ⟨c, 0, none⟩), .pointer (some ⟨y, 0, none⟩)] wr fun e w1 => e = .returned (.bool true) ∧ Chg (fun _ => False) w w1 := by
  obtain ⟨⟨Fa, Fb, n, Fc, Fd, m, T, T2, hF, hF2, hsep⟩, hc⟩ := h
  obtain ⟨r, mb, L, hR⟩ := T2.a
  obtain ⟨R, hX⟩ := T2.r
  refine (stands_any hR hX).mono ?_
  rintro e w1 ⟨rfl, h1⟩
  exact ⟨rfl, hc.trans h1⟩
end
theorem plays_bad (w : World) (N : Int) (seed : Nat) (v1 v2 : Value) (hN : i64 N) (h : N < 1 ∨ 64 < N) :
    Calls Try.prog 6 #[.int .i64 N, .int .u64 seed, v1, v2] w fun e w' => e = .returned (.bool true) ∧ Chg (fun _ => False) w w' := by
  have A := Lib.hid (new_bad w N seed hN h)
  have B := Lib.hid (rnew_bad w N seed h)
  have C := Lib.hid (alive_any w)
  clear hN h
  go_enter Try.func6, Try.ntmps6
  go_wp2_with fail
  refine A.out.mono ?_
  rintro e w1 ⟨rfl, rfl⟩
  go_wp2_with fail
  refine B.out.mono ?_
  rintro e w1 ⟨rfl, rfl⟩
  go_wp2_with fail
  refine C.out.mono ?_
  rintro e w1 ⟨rfl, h1⟩
  have H1 := Lib.hid h1
  clear h1
  go_wp2
  go_ret
  exact ⟨rfl, H1.out⟩
set_option maxRecDepth 100000 in
set_option maxHeartbeats 8000000 in
theorem plays_good (w : World) (m : Nat) (seed : Nat) (hm1 : 1 ≤ m) (hm : m ≤ 64) (hs : seed < 18446744073709551616) (ao1 : Option Addr) (cap1 len1 : Nat) (f1 : Nat → StepV) (hv1 : stepsAt w (.slice ao1 len1 cap1) len1 f1) (hsd1 : sidesOk w len1 f1) (ao2 : Option Addr) (cap2 len2 : Nat) (f2 : Nat → StepV) (hv2 : stepsAt w (.slice ao2 len2 cap2) len2 f2) (hsd2 : sidesOk w len2 f2) :
    Calls Try.prog 6 #[.int .i64 m, .int .u64 seed, .slice ao1 len1 cap1, .slice ao2 len2 cap2] w fun e w' => e = .returned (.bool true) ∧ Chg (fun _ => False) w w' := by
  have HV1 := Lib.hid hv1
  have HV2 := Lib.hid hv2
  have HSD1 := Lib.hid hsd1
  have HSD2 := Lib.hid hsd2
  have hlm1 : len1 ≤ 9223372036854775807 := hv1.2.1
  have hlm2 : len2 ≤ 9223372036854775807 := hv2.2.1
  have A := Lib.hid (new_any w m seed hm1 hm hs)
  have B := Lib.hid (fun v => rnew_any v m seed hm1 hm hs)
  clear hv1 hv2 hsd1 hsd2 hm1 hm hs
  go_enter Try.func6, Try.ntmps6
  go_wp2_with fail
  refine A.out.mono ?_
  rintro e w1 ⟨b, rfl, hn, hc⟩
  go_wp2_with fail
  refine (B.out w1).mono ?_
  rintro e w2 ⟨x, rfl, hx, hc2⟩
  have H0 := Lib.hid (One.begin hn hc hx hc2)
  clear hn hc hx hc2 A B
  go_wp2
  go_loopw [13] (fun i wr => ∃ k : Nat, k ≤ 100 ∧ k ≤ len1 ∧ i = .int .i64 k ∧ Hid (One w b x wr)) (fun i _ => 100 - (intOf i).toNat)
  case atStart => exact ⟨0, by omega, by omega, rfl, H0⟩
  case round =>
    obtain ⟨k, k1, kl, rfl, HS⟩ := hrel
    clear H0
    by_cases hlt : k < len1
    · have hd : decide ((k : Int) < len1) = true := by simp; omega
      by_cases h100 : k < 100
      · have hd2 : decide ((k : Int) < 100) = true := by simp; omega
        obtain ⟨g, o, rfl, hgs, c0, c1, c2, c3, c4, c5⟩ := HV1.out.load hlt (fun g hg => HS.out.chg.block g hg (fun h => h))
        have hok := (HV1.out.2.2 k hlt).1
        have ha := hok.a
        have hb := hok.b
        have hn := hok.n
        obtain ⟨xs, hxl, hxs, hxz, hxb⟩ := HSD1.out k hlt
        have DD := Lib.hid (HS.out.does (xd := (f1 k).d) (xt := (f1 k).s) ha hb hn hxl hxs hxz hxb)
        generalize (f1 k).d = xd at *
        generalize (f1 k).a = xa at *
        generalize (f1 k).b = xb at *
        generalize (f1 k).n = xn at *
        generalize (f1 k).s = xt at *
        generalize (f1 k).so = so at *
        generalize (f1 k).sc = sc at *
        generalize (f1 k).sl = sln at *
        have hb0 : (0 : Int) ≤ k := by omega
        have hb1 : (k : Int) < len1 := by omega
        clear hok hxl hxs hxz hxb ha hb hn
        by_cases htx : xt.size < 4096
        · have hd3 : decide ((xt.size : Int) < 4096) = true := by simp; omega
          clear htx
          go_wp2_with fail
          refine DD.out.mono ?_
          rintro e w5 ⟨rfl, hO⟩
          have HO := Lib.hid hO
          clear hO DD
          go_wp2
          go_roundw
          case rel => exact ⟨k + 1, by omega, by omega, by go_num, HO⟩
          case measure => simp [intOf]; omega
        · have hd3 : decide ((xt.size : Int) < 4096) = false := by simp; omega
          clear htx
          go_wp2
          go_roundw
          case rel => exact ⟨k + 1, by omega, by omega, by go_num, HS⟩
          case measure => simp [intOf]; omega
      · have hd2 : decide ((k : Int) < 100) = false := by simp; omega
        go_wp2_with fail
        refine HS.out.copy.mono ?_
        rintro e w3 ⟨c, rfl, -, hK⟩
        go_wp2_with fail
        refine hK.mono ?_
        rintro e w4 ⟨y, rfl, hB4⟩
        have HB4 := Lib.hid hB4
        clear hB4 hK
        go_wp2
        go_loopw [16] (fun i wr => ∃ j : Nat, j ≤ 40 ∧ j ≤ len2 ∧ i = .int .i64 j ∧ Hid (Both w b x c y wr)) (fun i _ => 40 - (intOf i).toNat)
        case atStart => exact ⟨0, by omega, by omega, rfl, HB4⟩
        case round =>
          obtain ⟨j, j1, jl, rfl, HB⟩ := hrel
          clear HB4
          by_cases hlt : j < len2
          · have hd : decide ((j : Int) < len2) = true := by simp; omega
            by_cases h100 : j < 40
            · have hd2 : decide ((j : Int) < 40) = true := by simp; omega
              obtain ⟨g, o, rfl, hgs, c0, c1, c2, c3, c4, c5⟩ := HV2.out.load hlt (fun g hg => HB.out.chg.block g hg (fun h => h))
              have hok := (HV2.out.2.2 j hlt).1
              have ha := hok.a
              have hb := hok.b
              have hn := hok.n
              obtain ⟨xs, hxl, hxs, hxz, hxb⟩ := HSD2.out j hlt
              have DD := Lib.hid (HB.out.does (xd := (f2 j).d) (xt := (f2 j).s) ha hb hn hxl hxs hxz hxb)
              generalize (f2 j).d = xd at *
              generalize (f2 j).a = xa at *
              generalize (f2 j).b = xb at *
              generalize (f2 j).n = xn at *
              generalize (f2 j).s = xt at *
              generalize (f2 j).so = so at *
              generalize (f2 j).sc = sc at *
              generalize (f2 j).sl = sln at *
              have hb0 : (0 : Int) ≤ j := by omega
              have hb1 : (j : Int) < len2 := by omega
              clear hok hxl hxs hxz hxb ha hb hn
              by_cases htx : xt.size < 4096
              · have hd3 : decide ((xt.size : Int) < 4096) = true := by simp; omega
                clear htx
                go_wp2_with fail
                refine DD.out.mono ?_
                rintro e w5 ⟨rfl, hO⟩
                have HO := Lib.hid hO
                clear hO DD
                go_wp2
                go_roundw
                case rel => exact ⟨j + 1, by omega, by omega, by go_num, HO⟩
                case measure => simp [intOf]; omega
              · have hd3 : decide ((xt.size : Int) < 4096) = false := by simp; omega
                clear htx
                go_wp2
                go_roundw
                case rel => exact ⟨j + 1, by omega, by omega, by go_num, HB⟩
                case measure => simp [intOf]; omega
            · have hd2 : decide ((j : Int) < 40) = false := by simp; omega
              go_wp2_with fail
              refine HB.out.one.mono ?_
              rintro e w6 ⟨rfl, hB6⟩
              have HB6 := Lib.hid hB6
              clear hB6
              go_wp2_with fail
              refine HB6.out.two.mono ?_
              rintro e w7 ⟨rfl, hC7⟩
              have HC7 := Lib.hid hC7
              clear hC7
              go_wp2_with fail
              refine (alive_any w7).mono ?_
              rintro e w8 ⟨rfl, hC8⟩
              have HC8 := Lib.hid (HC7.out.trans hC8)
              clear hC8
              go_wp2
              go_ret
              exact ⟨rfl, HC8.out⟩
          · have hd : decide ((j : Int) < len2) = false := by simp; omega
            go_wp2_with fail
            refine HB.out.one.mono ?_
            rintro e w6 ⟨rfl, hB6⟩
            have HB6 := Lib.hid hB6
            clear hB6
            go_wp2_with fail
            refine HB6.out.two.mono ?_
            rintro e w7 ⟨rfl, hC7⟩
            have HC7 := Lib.hid hC7
            clear hC7
            go_wp2_with fail
            refine (alive_any w7).mono ?_
            rintro e w8 ⟨rfl, hC8⟩
            have HC8 := Lib.hid (HC7.out.trans hC8)
            clear hC8
            go_wp2
            go_ret
            exact ⟨rfl, HC8.out⟩
    · have hd : decide ((k : Int) < len1) = false := by simp; omega
      go_wp2_with fail
      refine HS.out.copy.mono ?_
      rintro e w3 ⟨c, rfl, -, hK⟩
      go_wp2_with fail
      refine hK.mono ?_
      rintro e w4 ⟨y, rfl, hB4⟩
      have HB4 := Lib.hid hB4
      clear hB4 hK
      go_wp2
      go_loopw [16] (fun i wr => ∃ j : Nat, j ≤ 40 ∧ j ≤ len2 ∧ i = .int .i64 j ∧ Hid (Both w b x c y wr)) (fun i _ => 40 - (intOf i).toNat)
      case atStart => exact ⟨0, by omega, by omega, rfl, HB4⟩
      case round =>
        obtain ⟨j, j1, jl, rfl, HB⟩ := hrel
        clear HB4
        by_cases hlt : j < len2
        · have hd : decide ((j : Int) < len2) = true := by simp; omega
          by_cases h100 : j < 40
          · have hd2 : decide ((j : Int) < 40) = true := by simp; omega
            obtain ⟨g, o, rfl, hgs, c0, c1, c2, c3, c4, c5⟩ := HV2.out.load hlt (fun g hg => HB.out.chg.block g hg (fun h => h))
            have hok := (HV2.out.2.2 j hlt).1
            have ha := hok.a
            have hb := hok.b
            have hn := hok.n
            obtain ⟨xs, hxl, hxs, hxz, hxb⟩ := HSD2.out j hlt
            have DD := Lib.hid (HB.out.does (xd := (f2 j).d) (xt := (f2 j).s) ha hb hn hxl hxs hxz hxb)
            generalize (f2 j).d = xd at *
            generalize (f2 j).a = xa at *
            generalize (f2 j).b = xb at *
            generalize (f2 j).n = xn at *
            generalize (f2 j).s = xt at *
            generalize (f2 j).so = so at *
            generalize (f2 j).sc = sc at *
            generalize (f2 j).sl = sln at *
            have hb0 : (0 : Int) ≤ j := by omega
            have hb1 : (j : Int) < len2 := by omega
            clear hok hxl hxs hxz hxb ha hb hn
            by_cases htx : xt.size < 4096
            · have hd3 : decide ((xt.size : Int) < 4096) = true := by simp; omega
              clear htx
              go_wp2_with fail
              refine DD.out.mono ?_
              rintro e w5 ⟨rfl, hO⟩
              have HO := Lib.hid hO
              clear hO DD
              go_wp2
              go_roundw
              case rel => exact ⟨j + 1, by omega, by omega, by go_num, HO⟩
              case measure => simp [intOf]; omega
            · have hd3 : decide ((xt.size : Int) < 4096) = false := by simp; omega
              clear htx
              go_wp2
              go_roundw
              case rel => exact ⟨j + 1, by omega, by omega, by go_num, HB⟩
              case measure => simp [intOf]; omega
          · have hd2 : decide ((j : Int) < 40) = false := by simp; omega
            go_wp2_with fail
            refine HB.out.one.mono ?_
            rintro e w6 ⟨rfl, hB6⟩
            have HB6 := Lib.hid hB6
            clear hB6
            go_wp2_with fail
            refine HB6.out.two.mono ?_
            rintro e w7 ⟨rfl, hC7⟩
            have HC7 := Lib.hid hC7
            clear hC7
            go_wp2_with fail
            refine (alive_any w7).mono ?_
            rintro e w8 ⟨rfl, hC8⟩
            have HC8 := Lib.hid (HC7.out.trans hC8)
            clear hC8
            go_wp2
            go_ret
            exact ⟨rfl, HC8.out⟩
        · have hd : decide ((j : Int) < len2) = false := by simp; omega
          go_wp2_with fail
          refine HB.out.one.mono ?_
          rintro e w6 ⟨rfl, hB6⟩
          have HB6 := Lib.hid hB6
          clear hB6
          go_wp2_with fail
          refine HB6.out.two.mono ?_
          rintro e w7 ⟨rfl, hC7⟩
          have HC7 := Lib.hid hC7
          clear hC7
          go_wp2_with fail
          refine (alive_any w7).mono ?_
          rintro e w8 ⟨rfl, hC8⟩
          have HC8 := Lib.hid (HC7.out.trans hC8)
          clear hC8
          go_wp2
          go_ret
          exact ⟨rfl, HC8.out⟩
theorem plays_any (w : World) (N : Int) (seed : Nat) (hN : i64 N) (hs : seed < 18446744073709551616) (v1 v2 : Value) (h1 : ∃ len f, stepsAt w v1 len f ∧ sidesOk w len f) (h2 : ∃ len f, stepsAt w v2 len f ∧ sidesOk w len f) :
    Calls Try.prog 6 #[.int .i64 N, .int .u64 seed, v1, v2] w fun e w' => e = .returned (.bool true) ∧ Below w.heap.size w w' := by
  obtain ⟨len1, f1, a1, s1⟩ := h1
  obtain ⟨len2, f2, a2, s2⟩ := h2
  obtain ⟨ao1, cap1, rfl⟩ := a1.1
  obtain ⟨ao2, cap2, rfl⟩ := a2.1
  have key : Calls Try.prog 6 #[.int .i64 N, .int .u64 seed, .slice ao1 len1 cap1, .slice ao2 len2 cap2] w fun e w' => e = .returned (.bool true) ∧ Chg (fun _ => False) w w' := by
    by_cases hb : N < 1 ∨ 64 < N
    · exact plays_bad w N seed _ _ hN hb
    · obtain ⟨m, rfl⟩ : ∃ m : Nat, N = m := ⟨N.toNat, by omega⟩
      exact plays_good w m seed (by omega) (by omega) hs ao1 cap1 len1 f1 a1 s1 ao2 cap2 len2 f2 a2 s2
  exact key.mono fun e w' h => ⟨h.1, h.2.below (fun _ h => absurd h (fun h => h)) (Nat.le_refl _)⟩
end Go.Proofs.Ytpgioccbnkcjcaa
