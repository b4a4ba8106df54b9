/- Walks: commands in a list; are they few? -/
import Derived.Test.YtgmmglmokkcgeaaGreatAf
import Derived.Deep.Slices
import Derived.Deep.SlicePairs
import Derived.Deep.MidRow
import Derived.ChangeArms
import Derived.SizedLaws
namespace Go.Proofs.YtgmmglmokkcgeaaGreat
set_option linter.unusedVariables false
set_option linter.unusedSimpArgs false
open Go.RowKit Mk Go.Sort

/-- The slice has these commands. -/
structure OpsAt (w : World) (so : Option Addr) (L : List (OpM × OpL)) : Prop where
  len : L.length ≤ 9223372036854775807
  cell : ∀ i (h : i < L.length), ∃ g o, so = some ⟨g, o, none⟩ ∧ g < w.heap.size ∧ ∀ c v, (opC L[i].1 L[i].2)[c]? = some v → w.cell? ⟨g, o + i * 9 + c, none⟩ = some v
  ops : ∀ p ∈ L, OpAt w p.1 p.2 ∧ p.1.pred.size ≤ maxLen
theorem OpsAt.stay {w w' : World} {so : Option Addr} {L : List (OpM × OpL)} (h : OpsAt w so L) (c : Chg (fun _ => False) w w') : OpsAt w' so L where
  len := h.len
  cell i hi := by
    obtain ⟨g, o, e, hg, hc⟩ := h.cell i hi
    exact ⟨g, o, e, Nat.lt_of_lt_of_le hg c.size, fun k v hv => (World.cell?_of_block (a := ⟨g, o + i * 9 + k, none⟩) (c.block g hg (fun f => f))).trans (hc k v hv)⟩
  ops p hp := ⟨(h.ops p hp).1.same c, (h.ops p hp).2⟩

set_option maxRecDepth 100000 in
set_option maxHeartbeats 4000000 in
theorem small_any {w : World} {so : Option Addr} {n cp : Nat} {L : List (OpM × OpL)} (h : OpsAt w so L) (hl : L.length = n) :
    Calls Tryz.prog 19 #[.slice so n cp] w fun e w' => ∃ z, e = .returned (.bool z) ∧ (z = true → n ≤ 100) ∧ Chg (fun _ => False) w w' := by
  have H := Lib.hid h
  have HL := Lib.hid hl
  have ln := h.len
  rw [hl] at ln
  clear h hl
  go_enter Tryz.func19, Tryz.ntmps19
  go_wp2
  go_loopw [3, 4] (fun v i wr => ∃ (z : Int) (j : Nat), v = .int .i64 z ∧ i = .int .i64 j ∧ j ≤ n ∧ j ≤ 200 ∧ Hid (Chg (fun _ => False) w wr)) (fun v i _ => n - (intOf i).toNat)
  case atStart => exact ⟨0, 0, rfl, rfl, by omega, by omega, Lib.hid (Chg.refl _ _)⟩
  case round =>
    obtain ⟨z, j, rfl, rfl, hj, hj2, HC⟩ := hrel
    generalize wr = W1 at *
    by_cases hlt : j < n
    · have hd : decide ((j : Int) < n) = true := decide_eq_true (by omega)
      by_cases hl2 : j < 200
      · have hd2 : decide ((j : Int) < 200) = true := decide_eq_true (by omega)
        have hjL : j < L.length := by rw [HL.out]; exact hlt
        obtain ⟨g, o, rfl, hg, hc⟩ := (H.out.stay HC.out).cell j hjL
        have HO := Lib.hid (H.out.stay HC.out).ops
        have HO' := Lib.hid (HO.out _ (List.getElem_mem hjL)).1
        obtain ⟨p, hp⟩ : ∃ p, L[j] = p := ⟨_, rfl⟩
        rw [hp] at hc HO'
        obtain ⟨K, hK⟩ : ∃ K, p.1.keys.length = K := ⟨_, rfl⟩
        obtain ⟨N, hN⟩ : ∃ N, p.1.needs.length = N := ⟨_, rfl⟩
        unfold opC at hc
        rw [hK, hN] at hc
        have c3 : W1.cell? ⟨g, o + j * 9 + 3, none⟩ = some (.slice p.2.ko K p.2.kc) := hc 3 _ rfl
        have c4 : W1.cell? ⟨g, o + j * 9 + 4, none⟩ = some (.slice p.2.no N p.2.nc) := hc 4 _ rfl
        have c5 : W1.cell? ⟨g, o + j * 9 + 5, none⟩ = some (.string p.1.pred) := hc 5 _ rfl
        have HK := Lib.hid hK
        have HN := Lib.hid hN
        have KS := Lib.hid HO'.out.keys
        have NS := Lib.hid HO'.out.needs
        have lk := KS.out.len
        have lnn := NS.out.len
        rw [hK] at lk
        rw [hN] at lnn
        have l1 : (j : Int) < n := by omega
        have l0 : (0 : Int) ≤ j := by omega
        clear hc hp hK hN HO'
        generalize p.1.pred = pr at *
        generalize p.2.kc = kc at *
        generalize p.2.nc = nc at *
        generalize p.2.ko = ko at *
        generalize p.2.no = no at *
        generalize p.1.keys = ks at *
        generalize p.1.needs = ns at *
        go_wp2
        go_region
        have c3 := Lib.hid c3
        have c4 := Lib.hid c4
        have c5 := Lib.hid c5
        go_wp2
        go_loopw [3, 5] (fun v i wq => ∃ (z : Int) (k : Nat), v = .int .i64 z ∧ i = .int .i64 k ∧ k ≤ 300 ∧ Hid (Chg (fun _ => False) W1 wq)) (fun v i _ => 300 - (intOf i).toNat)
        case atStart => exact ⟨_, 0, rfl, rfl, by omega, Lib.hid (Chg.refl _ _).drew⟩
        case round =>
          obtain ⟨y, k, rfl, rfl, hk, HC2⟩ := hrel
          have e3 := (World.cell?_of_block (a := ⟨g, o + j * 9 + 3, none⟩) (HC2.out.block g hg (fun f => f))).trans c3.out
          by_cases hkl : k < K
          · have d3 : decide ((k : Int) < K) = true := decide_eq_true (by omega)
            by_cases hk3 : k < 300
            · have d4 : decide ((k : Int) < 300) = true := decide_eq_true (by omega)
              obtain ⟨g2, o2, rfl, hg2, hc2⟩ := KS.out.cell k (by rw [HK.out]; exact hkl)
              have e4 := (World.cell?_of_block (a := ⟨g2, o2 + k, none⟩) (HC2.out.block g2 hg2 (fun f => f))).trans hc2
              have l3 : (k : Int) < K := by omega
              have l2 : (0 : Int) ≤ k := by omega
              generalize ks[k]'_ = x at *
              go_wp2
              go_round
              case rel => exact ⟨_, k + 1, rfl, by go_num, by omega, HC2⟩
              case measure => simp [intOf]; omega
            · have d4 : decide ((k : Int) < 300) = false := decide_eq_false (by omega)
              go_wp2
              go_loopw [3, 6] (fun v i wq => ∃ (z : Int) (k : Nat), v = .int .i64 z ∧ i = .int .i64 k ∧ k ≤ 300 ∧ Hid (Chg (fun _ => False) W1 wq)) (fun v i _ => 300 - (intOf i).toNat)
              case atStart => exact ⟨_, 0, rfl, rfl, by omega, HC2⟩
              case round =>
                clear HC2 e3
                obtain ⟨y, k, rfl, rfl, hk, HC2⟩ := hrel
                have e3 := (World.cell?_of_block (a := ⟨g, o + j * 9 + 4, none⟩) (HC2.out.block g hg (fun f => f))).trans c4.out
                by_cases hkl : k < N
                · have d3 : decide ((k : Int) < N) = true := decide_eq_true (by omega)
                  by_cases hk3 : k < 300
                  · have d4 : decide ((k : Int) < 300) = true := decide_eq_true (by omega)
                    obtain ⟨g2, o2, rfl, hg2, hc2, -⟩ := NS.out.cell k (by rw [HN.out]; exact hkl)
                    have e4 := (World.cell?_of_block (a := ⟨g2, o2 + k * 2, none⟩) (HC2.out.block g2 hg2 (fun f => f))).trans hc2
                    have l3 : (k : Int) < N := by omega
                    have l2 : (0 : Int) ≤ k := by omega
                    generalize (ns[k]'_).1 = x at *
                    go_wp2
                    go_round
                    case rel => exact ⟨_, k + 1, rfl, by go_num, by omega, HC2⟩
                    case measure => simp [intOf]; omega
                  · have d4 : decide ((k : Int) < 300) = false := decide_eq_false (by omega)
                    go_wp2
                    go_round
                    case rel => exact ⟨_, j + 1, rfl, by go_num, by omega, by omega, Lib.hid (HC.out.trans HC2.out)⟩
                    case measure => simp [intOf]; omega
                · have d3 : decide ((k : Int) < N) = false := decide_eq_false (by omega)
                  go_wp2
                  go_round
                  case rel => exact ⟨_, j + 1, rfl, by go_num, by omega, by omega, Lib.hid (HC.out.trans HC2.out)⟩
                  case measure => simp [intOf]; omega
          · have d3 : decide ((k : Int) < K) = false := decide_eq_false (by omega)
            go_wp2
            go_loopw [3, 6] (fun v i wq => ∃ (z : Int) (k : Nat), v = .int .i64 z ∧ i = .int .i64 k ∧ k ≤ 300 ∧ Hid (Chg (fun _ => False) W1 wq)) (fun v i _ => 300 - (intOf i).toNat)
            case atStart => exact ⟨_, 0, rfl, rfl, by omega, HC2⟩
            case round =>
              clear HC2 e3
              obtain ⟨y, k, rfl, rfl, hk, HC2⟩ := hrel
              have e3 := (World.cell?_of_block (a := ⟨g, o + j * 9 + 4, none⟩) (HC2.out.block g hg (fun f => f))).trans c4.out
              by_cases hkl : k < N
              · have d3 : decide ((k : Int) < N) = true := decide_eq_true (by omega)
                by_cases hk3 : k < 300
                · have d4 : decide ((k : Int) < 300) = true := decide_eq_true (by omega)
                  obtain ⟨g2, o2, rfl, hg2, hc2, -⟩ := NS.out.cell k (by rw [HN.out]; exact hkl)
                  have e4 := (World.cell?_of_block (a := ⟨g2, o2 + k * 2, none⟩) (HC2.out.block g2 hg2 (fun f => f))).trans hc2
                  have l3 : (k : Int) < N := by omega
                  have l2 : (0 : Int) ≤ k := by omega
                  generalize (ns[k]'_).1 = x at *
                  go_wp2
                  go_round
                  case rel => exact ⟨_, k + 1, rfl, by go_num, by omega, HC2⟩
                  case measure => simp [intOf]; omega
                · have d4 : decide ((k : Int) < 300) = false := decide_eq_false (by omega)
                  go_wp2
                  go_round
                  case rel => exact ⟨_, j + 1, rfl, by go_num, by omega, by omega, Lib.hid (HC.out.trans HC2.out)⟩
                  case measure => simp [intOf]; omega
              · have d3 : decide ((k : Int) < N) = false := decide_eq_false (by omega)
                go_wp2
                go_round
                case rel => exact ⟨_, j + 1, rfl, by go_num, by omega, by omega, Lib.hid (HC.out.trans HC2.out)⟩
                case measure => simp [intOf]; omega
      · have hd2 : decide ((j : Int) < 200) = false := decide_eq_false (by omega)
        by_cases h100 : n ≤ 100
        · have d5 : decide ((n : Int) ≤ 100) = true := decide_eq_true (by omega)
          by_cases hz : z ≤ 30000
          · have d6 : decide (z ≤ 30000) = true := decide_eq_true hz
            go_wp2
            go_ret
            first | exact ⟨_, rfl, fun _ => h100, HC.out⟩ | exact ⟨h100, HC.out⟩ | exact HC.out | exact ⟨Or.inl rfl, HC.out⟩ | exact ⟨Or.inr ⟨rfl, h100⟩, HC.out⟩ | exact Or.inl ⟨rfl, HC.out⟩ | exact Or.inr ⟨rfl, h100, HC.out⟩ | trace_state
          · have d6 : decide (z ≤ 30000) = false := decide_eq_false hz
            go_wp2
            go_ret
            first | exact ⟨_, rfl, fun _ => h100, HC.out⟩ | exact ⟨h100, HC.out⟩ | exact HC.out | exact ⟨Or.inl rfl, HC.out⟩ | exact ⟨Or.inr ⟨rfl, h100⟩, HC.out⟩ | exact Or.inl ⟨rfl, HC.out⟩ | exact Or.inr ⟨rfl, h100, HC.out⟩ | trace_state
        · have d5 : decide ((n : Int) ≤ 100) = false := decide_eq_false (by omega)
          go_wp2
          go_ret
          first | exact ⟨_, rfl, (fun e => by cases e), HC.out⟩ | exact HC.out | exact ⟨Or.inl rfl, HC.out⟩ | exact Or.inl ⟨rfl, HC.out⟩ | trace_state
    · have hd : decide ((j : Int) < n) = false := decide_eq_false (by omega)
      by_cases h100 : n ≤ 100
      · have d5 : decide ((n : Int) ≤ 100) = true := decide_eq_true (by omega)
        by_cases hz : z ≤ 30000
        · have d6 : decide (z ≤ 30000) = true := decide_eq_true hz
          go_wp2
          go_ret
          first | exact ⟨_, rfl, fun _ => h100, HC.out⟩ | exact ⟨h100, HC.out⟩ | exact HC.out | exact ⟨Or.inl rfl, HC.out⟩ | exact ⟨Or.inr ⟨rfl, h100⟩, HC.out⟩ | exact Or.inl ⟨rfl, HC.out⟩ | exact Or.inr ⟨rfl, h100, HC.out⟩ | trace_state
        · have d6 : decide (z ≤ 30000) = false := decide_eq_false hz
          go_wp2
          go_ret
          first | exact ⟨_, rfl, fun _ => h100, HC.out⟩ | exact ⟨h100, HC.out⟩ | exact HC.out | exact ⟨Or.inl rfl, HC.out⟩ | exact ⟨Or.inr ⟨rfl, h100⟩, HC.out⟩ | exact Or.inl ⟨rfl, HC.out⟩ | exact Or.inr ⟨rfl, h100, HC.out⟩ | trace_state
      · have d5 : decide ((n : Int) ≤ 100) = false := decide_eq_false (by omega)
        go_wp2
        go_ret
        first | exact ⟨_, rfl, (fun e => by cases e), HC.out⟩ | exact HC.out | exact ⟨Or.inl rfl, HC.out⟩ | exact Or.inl ⟨rfl, HC.out⟩ | trace_state
end Go.Proofs.YtgmmglmokkcgeaaGreat
/- The commands that come in. -/
namespace Go.Proofs.YtgmmglmokkcgeaaGreat
set_option linter.unusedVariables false
set_option linter.unusedSimpArgs false
open Go.RowKit Mk Go.Sort

theorem choose_list {α : Type} {n : Nat} {P : Nat → α → Prop} (h : ∀ i, i < n → ∃ x, P i x) : ∃ xs : List α, xs.length = n ∧ ∀ i (hi : i < xs.length), P i xs[i] := by
  refine ⟨List.ofFn (fun i : Fin n => Classical.choose (h i i.2)), by simp, fun i hi => ?_⟩
  rw [List.getElem_ofFn]
  exact Classical.choose_spec (h i (by simpa using hi))
theorem cells9 : Tryz.prog.cellsOf 9 = 1 := by kernel_rfl
theorem cells50 : Tryz.prog.cellsOf 109 = 2 := by kernel_rfl
theorem cells34 : Tryz.prog.cellsOf 28 = 9 := by kernel_rfl
theorem cells28 : Tryz.prog.cellsOf 22 = 1 := by kernel_rfl
theorem cells29 : Tryz.prog.cellsOf 23 = 1 := by kernel_rfl
theorem cells30 : Tryz.prog.cellsOf 24 = 1 := by kernel_rfl
theorem cells31 : Tryz.prog.cellsOf 25 = 1 := by kernel_rfl
theorem cells32 : Tryz.prog.cellsOf 26 = 1 := by kernel_rfl
theorem spot_none {w : World} {a : Addr} {v : Value} (h : w.cell? a = some v) : a.spot = none := by
  unfold World.cell? at h
  split at h
  · split at h
    · cases h
    · rename_i hn
      cases hs : a.spot with
      | none => rfl
      | some x => rw [hs] at hn; simp at hn
  · cases h
theorem u8_of {a : Int} (h : (Lit.int .u8 a).wf = true) : ∃ c : Nat, c < 256 ∧ a = c := by
  simp [Lit.wf, IntKind.min, IntKind.max, IntKind.bits, IntKind.signed] at h
  exact ⟨a.toNat, by omega, by omega⟩
theorem u32_of {a : Int} (h : (Lit.int .u32 a).wf = true) : ∃ c : Nat, c < 4294967296 ∧ a = c := by
  simp [Lit.wf, IntKind.min, IntKind.max, IntKind.bits, IntKind.signed] at h
  exact ⟨a.toNat, by omega, by omega⟩
theorem u64_of {a : Int} (h : (Lit.int .u64 a).wf = true) : ∃ c : Nat, c < 18446744073709551616 ∧ a = c := by
  simp [Lit.wf, IntKind.min, IntKind.max, IntKind.bits, IntKind.signed] at h
  exact ⟨a.toNat, by omega, by omega⟩
section
variable {H : Type} {enc : TypeId × Value → H} {w : World} {base : Nat} {spare : Nat → Bool} {held : Bool}
theorem open_strs {c : Value} {m0 : Nat} {y : DataW H × List MemPlace}
    (h : DataW.trod enc Tryz.prog w base spare held m0 25 [c] = some y) : ∃ so sln sc xs, c = Value.slice so sln sc ∧ xs.length = sln ∧ StrsAt w so xs := by
  rcases Go.Deep.open_slice1 Tryz.underlying25 cells9 h with ⟨e, _⟩ | ⟨a, len, cap, m, n, V, D, Pl, e, _, hle, hcap, hm, hx, hi⟩
  · exact ⟨_, _, _, [], by simpa using e, rfl, ⟨by simp, fun i h => by simp at h⟩⟩
  · simp only [List.cons.injEq, and_true] at e
    subst e
    have hlm : len ≤ m := by rw [hm]; split <;> omega
    obtain ⟨xs, hxl, hxs⟩ := choose_list (n := len) (P := fun i (s : ByteArray) => ∃ g o, (some a : Option Addr) = some ⟨g, o, none⟩ ∧ g < w.heap.size ∧ w.cell? ⟨g, o + i, none⟩ = some (.string s)) (fun i hil => by
      obtain ⟨hc, ht⟩ := hi i (by omega)
      obtain ⟨s, hs, -, hz⟩ := DataW.trod_string Tryz.underlying9 ht
      simp at hs
      rw [hs] at hc
      have hsp : a.spot = none := spot_none (a := a) (hi 0 (by omega)).1
      obtain ⟨g, o, sp⟩ := a
      simp only at hsp
      subst hsp
      rw [Addr.add_mid] at hc
      exact ⟨s, g, o, rfl, World.block_lt_of_cell? w _ hc, hc⟩)
    refine ⟨_, _, _, xs, rfl, hxl, ⟨by rw [hxl]; simp only [maxLen] at hcap; omega, fun i hil => hxs i hil⟩⟩
theorem open_needs {c : Value} {m0 : Nat} {y : DataW H × List MemPlace}
    (h : DataW.trod enc Tryz.prog w base spare held m0 26 [c] = some y) : ∃ so sln sc xs, c = Value.slice so sln sc ∧ xs.length = sln ∧ NeedsAt w so xs := by
  rcases Go.Deep.open_slice_pairs Tryz.underlying26 Tryz.underlying109 cells50 rfl rfl cells9 cells30 h with ⟨e, _⟩ | ⟨a, len, cap, m, n, V0, V1, D0, D1, P0, P1, e, _, hle, hcap, hm, hx, hi⟩
  · exact ⟨_, _, _, [], by simpa using e, rfl, ⟨by simp, fun i h => by simp at h, by simp, by simp⟩⟩
  · simp only [List.cons.injEq, and_true] at e
    subst e
    have hlm : len ≤ m := by rw [hm]; split <;> omega
    obtain ⟨xs, hxl, hxs⟩ := choose_list (n := len) (P := fun i (s : ByteArray × Nat) => (s.2 < 18446744073709551616 ∧ s.1.size ≤ maxLen) ∧ ∃ g o, (some a : Option Addr) = some ⟨g, o, none⟩ ∧ g < w.heap.size ∧ w.cell? ⟨g, o + i * 2, none⟩ = some (.string s.1) ∧ w.cell? ⟨g, o + i * 2 + 1, none⟩ = some (.int .u64 (s.2 : Nat))) (fun i hil => by
      obtain ⟨hc, hd, ht, hu⟩ := hi i (by omega)
      obtain ⟨s, hs, -, hz⟩ := DataW.trod_string Tryz.underlying9 ht
      obtain ⟨t, hs2, -, hz2⟩ := DataW.trod_int Tryz.underlying24 hu
      simp at hs hs2
      obtain ⟨k, hk, rfl⟩ := u64_of hz2
      rw [hs] at hc
      rw [hs2] at hd
      have hsp : a.spot = none := spot_none (a := a) (hi 0 (by omega)).1
      obtain ⟨g, o, sp⟩ := a
      simp only at hsp
      subst hsp
      rw [Addr.add_mid] at hc hd
      exact ⟨(s, k), ⟨hk, hz⟩, g, o, rfl, World.block_lt_of_cell? w _ hc, hc, hd⟩)
    refine ⟨_, _, _, xs, rfl, hxl, ⟨by rw [hxl]; simp only [maxLen] at hcap; omega, fun i hil => (hxs i hil).2, fun x hx => ?_, fun x hx => ?_⟩⟩
    · obtain ⟨i, hi', rfl⟩ := List.getElem_of_mem hx
      exact (hxs i hi').1.1
    · obtain ⟨i, hi', rfl⟩ := List.getElem_of_mem hx
      exact (hxs i hi').1.2
theorem nine {cs : List Value} (h : cs.length = 9) : ∃ a b c d e f g i j, cs = [a, b, c, d, e, f, g, i, j] := by
  match cs, h with
  | [a, b, c, d, e, f, g, i, j], _ => exact ⟨a, b, c, d, e, f, g, i, j, rfl⟩
theorem open_ops {v : Value} {d : DataW H} {p : List MemPlace} (hv1 : v.cells.toList = [v])
    (h : DataW.Trod enc Tryz.prog w base spare held 58 v d p) : ∃ so n cp L, v = .slice so n cp ∧ L.length = n ∧ OpsAt w so L := by
  obtain ⟨m0, hm0⟩ := h
  rw [hv1] at hm0
  rcases Go.Deep.open_slice Tryz.underlying58 hm0 with ⟨e, _⟩ | ⟨a, len, cap, m, n, D, Pl, e, _, hle, hcap, hm, hx, hi⟩
  · cases e
    exact ⟨_, _, _, [], rfl, rfl, ⟨by simp, fun i h => by simp at h, by simp⟩⟩
  · simp only [List.cons.injEq, and_true] at e
    subst e
    have hlm : len ≤ m := by rw [hm]; split <;> omega
    have hi : ∀ i, i < m → ∃ cs', w.cells? base (a.add (i * 9)) 9 = some cs' ∧ DataW.trod enc Tryz.prog w base spare held n 28 cs' = some (D i, Pl i) := fun i h => by
      have := hi i h
      rw [cells34] at this
      exact this
    obtain ⟨xs, hxl, hxs⟩ := choose_list (n := len) (P := fun i (q : OpM × OpL) => (OpAt w q.1 q.2 ∧ q.1.pred.size ≤ maxLen) ∧ ∃ g o, (some a : Option Addr) = some ⟨g, o, none⟩ ∧ g < w.heap.size ∧ ∀ c u, (opC q.1 q.2)[c]? = some u → w.cell? ⟨g, o + i * 9 + c, none⟩ = some u) (fun i hil => by
      obtain ⟨cs, hc, ht⟩ := hi i (by omega)
      obtain ⟨_, hcl, hcell⟩ := World.cells?_some hc
      obtain ⟨ys, n', _, hxe, _, hyl, hf⟩ := DataW.trod_struct Tryz.underlying28 ht
      have hyl : ys.length = 9 := hyl
      obtain ⟨c0, c1, c2, c3, c4, c5, c6, c7, c8, rfl⟩ := nine hcl
      have hy : ∀ j, j < 9 → ∃ y, ys[j]? = some y := fun j hj => ⟨ys[j]'(by omega), List.getElem?_eq_getElem (by omega)⟩
      obtain ⟨y0, e0⟩ := hy 0 (by omega)
      obtain ⟨y1, e1⟩ := hy 1 (by omega)
      obtain ⟨y2, e2⟩ := hy 2 (by omega)
      obtain ⟨y3, e3⟩ := hy 3 (by omega)
      obtain ⟨y4, e4⟩ := hy 4 (by omega)
      obtain ⟨y5, e5⟩ := hy 5 (by omega)
      obtain ⟨y6, e6⟩ := hy 6 (by omega)
      obtain ⟨y7, e7⟩ := hy 7 (by omega)
      obtain ⟨y8, e8⟩ := hy 8 (by omega)
      have f0 : DataW.trod enc Tryz.prog w base spare held n' 22 [c0] = some y0 := by simpa [cells28] using (hf 0 _ rfl).trans e0
      have f1 : DataW.trod enc Tryz.prog w base spare held n' 23 [c1] = some y1 := by simpa [cells29] using (hf 1 _ rfl).trans e1
      have f2 : DataW.trod enc Tryz.prog w base spare held n' 24 [c2] = some y2 := by simpa [cells30] using (hf 2 _ rfl).trans e2
      have f3 : DataW.trod enc Tryz.prog w base spare held n' 25 [c3] = some y3 := by simpa [cells31] using (hf 3 _ rfl).trans e3
      have f4 : DataW.trod enc Tryz.prog w base spare held n' 26 [c4] = some y4 := by simpa [cells32] using (hf 4 _ rfl).trans e4
      have f5 : DataW.trod enc Tryz.prog w base spare held n' 9 [c5] = some y5 := by simpa [cells9] using (hf 5 _ rfl).trans e5
      have f6 : DataW.trod enc Tryz.prog w base spare held n' 23 [c6] = some y6 := by simpa [cells29] using (hf 6 _ rfl).trans e6
      have f7 : DataW.trod enc Tryz.prog w base spare held n' 23 [c7] = some y7 := by simpa [cells29] using (hf 7 _ rfl).trans e7
      have f8 : DataW.trod enc Tryz.prog w base spare held n' 24 [c8] = some y8 := by simpa [cells30] using (hf 8 _ rfl).trans e8
      obtain ⟨ko, kl, kc, ks, h3, hkl, hks⟩ := open_strs f3
      obtain ⟨no, nl, nc, ns, h4, hnl, hns⟩ := open_needs f4
      obtain ⟨n0, h0, _, w0⟩ := DataW.trod_int Tryz.underlying22 f0
      obtain ⟨n1, h1, _, w1⟩ := DataW.trod_int Tryz.underlying23 f1
      obtain ⟨n2, h2, _, w2⟩ := DataW.trod_int Tryz.underlying24 f2
      obtain ⟨s5, h5, _, w5⟩ := DataW.trod_string Tryz.underlying9 f5
      obtain ⟨n6, h6, _, w6⟩ := DataW.trod_int Tryz.underlying23 f6
      obtain ⟨n7, h7, _, w7⟩ := DataW.trod_int Tryz.underlying23 f7
      obtain ⟨n8, h8, _, w8⟩ := DataW.trod_int Tryz.underlying24 f8
      simp at h0 h1 h2 h5 h6 h7 h8
      subst h0 h1 h2 h3 h4 h5 h6 h7 h8
      obtain ⟨k0, z0, rfl⟩ := u8_of w0
      obtain ⟨k1, z1, rfl⟩ := u32_of w1
      obtain ⟨k2, z2, rfl⟩ := u64_of w2
      obtain ⟨k6, z6, rfl⟩ := u32_of w6
      obtain ⟨k7, z7, rfl⟩ := u32_of w7
      obtain ⟨k8, z8, rfl⟩ := u64_of w8
      subst hkl hnl
      have hsp : a.spot = none := by
        obtain ⟨cs0, hc0, _⟩ := hi 0 (by omega)
        obtain ⟨_, hcl0, hcell0⟩ := World.cells?_some hc0
        have h6 := hcell0 0 (by omega)
        rw [List.getElem?_eq_getElem (by omega)] at h6
        exact spot_none (a := a) h6
      obtain ⟨g, o, sp⟩ := a
      simp only at hsp
      subst hsp
      have hgl : g < w.heap.size := by
        have h7 := hcell 0 (by omega)
        rw [List.getElem?_cons_zero] at h7
        have h8 := World.block_lt_of_cell? w _ h7
        have e8 : (((⟨g, o, none⟩ : Addr).add (i * 9)).add 0).block = g := by rw [Addr.add_mid, Addr.add_mid]
        rw [e8] at h8
        exact h8
      refine ⟨(⟨k0, k1, k2, ks, ns, s5, k6, k7, k8⟩, ⟨ko, kc, no, nc⟩), ⟨⟨hks, hns, z0, z1, z2, z6, z7, z8⟩, w5⟩, g, o, rfl, hgl, fun j v hj => ?_⟩
      have hj9 : j < 9 := by
        have := (Array.getElem?_eq_some_iff.1 hj).1
        simpa [opC] using this
      have := hcell j hj9
      rw [Addr.add_mid, Addr.add_mid] at this
      rw [this]
      simpa [opC] using hj)
    refine ⟨_, _, _, xs, rfl, hxl, ⟨by rw [hxl]; simp only [maxLen] at hcap; omega, fun i hil => (hxs i hil).2, fun x hx => ?_⟩⟩
    obtain ⟨i, hi', rfl⟩ := List.getElem_of_mem hx
    exact (hxs i hi').1
end
end Go.Proofs.YtgmmglmokkcgeaaGreat
/- The commands that come in, and how long what they hold is. -/
namespace Go.Proofs.YtgmmglmokkcgeaaGreat
set_option linter.unusedVariables false
set_option linter.unusedSimpArgs false
open Go.RowKit Mk Go.Sort

theorem bytes9 : Tryz.prog.bytesOf 9 = 16 := by kernel_rfl
theorem bytes109 : Tryz.prog.bytesOf 109 = 24 := by kernel_rfl
theorem weightsAll_mem {H : Type} {P : Program} {e : TypeId} {l : List (DataW H)} {d : DataW H} {u : Nat} (hd : d ∈ l) (hu : u ∈ d.weights P e) : u ∈ DataW.weightsAll P e l := by
  induction l with
  | nil => cases hd
  | cons x l ih =>
    unfold DataW.weightsAll
    rcases List.mem_cons.1 hd with rfl | hd
    · exact List.mem_append_left _ hu
    · exact List.mem_append_right _ (ih hd)
/-- How long a command's texts and lists are. -/
structure OpX (p : OpM × OpL) : Prop where
  sz : ∀ k ∈ p.1.keys, k.size ≤ maxLen
  kw : p.1.keys.length * 16 ≤ reachBytes
  nw : p.1.needs.length * 24 ≤ reachBytes
  k0 : p.2.ko = none → p.2.kc = 0
  n0 : p.2.no = none → p.2.nc = 0
section
variable {H : Type} {enc : TypeId × Value → H} {w : World} {base : Nat} {spare : Nat → Bool} {held : Bool}
theorem open_strs2 {c : Value} {m0 : Nat} {y : DataW H × List MemPlace}
    (h : DataW.trod enc Tryz.prog w base spare held m0 25 [c] = some y) : ∃ so sln sc xs, c = Value.slice so sln sc ∧ xs.length = sln ∧ StrsAt w so xs ∧ (∀ k ∈ xs, k.size ≤ maxLen) ∧ (so = none → sc = 0) ∧ ((∀ u ∈ y.1.weights Tryz.prog 25, u ≤ reachBytes) → sln * 16 ≤ reachBytes) := by
  rcases Go.Deep.open_slice1 Tryz.underlying25 cells9 h with ⟨e, _⟩ | ⟨a, len, cap, m, n, V, D, Pl, e, _, hle, hcap, hm, hx, hi⟩
  · exact ⟨_, _, _, [], by simpa using e, rfl, ⟨by simp, fun i h => by simp at h⟩, by simp, fun _ => rfl, fun _ => Nat.zero_le _⟩
  · simp only [List.cons.injEq, and_true] at e
    subst e
    have hlm : len ≤ m := by rw [hm]; split <;> omega
    obtain ⟨xs, hxl, hxs⟩ := choose_list (n := len) (P := fun i (s : ByteArray) => s.size ≤ maxLen ∧ ∃ g o, (some a : Option Addr) = some ⟨g, o, none⟩ ∧ g < w.heap.size ∧ w.cell? ⟨g, o + i, none⟩ = some (.string s)) (fun i hil => by
      obtain ⟨hc, ht⟩ := hi i (by omega)
      obtain ⟨s, hs, -, hz⟩ := DataW.trod_string Tryz.underlying9 ht
      simp at hs
      rw [hs] at hc
      have hsp : a.spot = none := spot_none (a := a) (hi 0 (by omega)).1
      obtain ⟨g, o, sp⟩ := a
      simp only at hsp
      subst hsp
      rw [Addr.add_mid] at hc
      exact ⟨s, hz, g, o, rfl, World.block_lt_of_cell? w _ hc, hc⟩)
    refine ⟨_, _, _, xs, rfl, hxl, ⟨by rw [hxl]; simp only [maxLen] at hcap; omega, fun i hil => (hxs i hil).2⟩, fun k hk => ?_, (fun h => by cases h), fun hw => ?_⟩
    · obtain ⟨i, hi', rfl⟩ := List.getElem_of_mem hk
      exact (hxs i hi').1
    · subst hx
      have h1 := hw ((((List.range len).map D).length + (((List.range (m - len)).map fun j => D (len + j))).length) * Tryz.prog.bytesOf 9) (by simp [DataW.weights, Tryz.underlying25])
      rw [bytes9] at h1
      simp only [List.length_map, List.length_range] at h1
      have : len * 16 ≤ (len + (m - len)) * 16 := Nat.mul_le_mul_right _ (by omega)
      omega
theorem open_needs2 {c : Value} {m0 : Nat} {y : DataW H × List MemPlace}
    (h : DataW.trod enc Tryz.prog w base spare held m0 26 [c] = some y) : ∃ so sln sc xs, c = Value.slice so sln sc ∧ xs.length = sln ∧ NeedsAt w so xs ∧ (so = none → sc = 0) ∧ ((∀ u ∈ y.1.weights Tryz.prog 26, u ≤ reachBytes) → sln * 24 ≤ reachBytes) := by
  rcases Go.Deep.open_slice_pairs Tryz.underlying26 Tryz.underlying109 cells50 rfl rfl cells9 cells30 h with ⟨e, _⟩ | ⟨a, len, cap, m, n, V0, V1, D0, D1, P0, P1, e, _, hle, hcap, hm, hx, hi⟩
  · exact ⟨_, _, _, [], by simpa using e, rfl, ⟨by simp, fun i h => by simp at h, by simp, by simp⟩, fun _ => rfl, fun _ => Nat.zero_le _⟩
  · simp only [List.cons.injEq, and_true] at e
    subst e
    have hlm : len ≤ m := by rw [hm]; split <;> omega
    obtain ⟨xs, hxl, hxs⟩ := choose_list (n := len) (P := fun i (s : ByteArray × Nat) => (s.2 < 18446744073709551616 ∧ s.1.size ≤ maxLen) ∧ ∃ g o, (some a : Option Addr) = some ⟨g, o, none⟩ ∧ g < w.heap.size ∧ w.cell? ⟨g, o + i * 2, none⟩ = some (.string s.1) ∧ w.cell? ⟨g, o + i * 2 + 1, none⟩ = some (.int .u64 (s.2 : Nat))) (fun i hil => by
      obtain ⟨hc, hd, ht, hu⟩ := hi i (by omega)
      obtain ⟨s, hs, -, hz⟩ := DataW.trod_string Tryz.underlying9 ht
      obtain ⟨t, hs2, -, hz2⟩ := DataW.trod_int Tryz.underlying24 hu
      simp at hs hs2
      obtain ⟨k, hk, rfl⟩ := u64_of hz2
      rw [hs] at hc
      rw [hs2] at hd
      have hsp : a.spot = none := spot_none (a := a) (hi 0 (by omega)).1
      obtain ⟨g, o, sp⟩ := a
      simp only at hsp
      subst hsp
      rw [Addr.add_mid] at hc hd
      exact ⟨(s, k), ⟨hk, hz⟩, g, o, rfl, World.block_lt_of_cell? w _ hc, hc, hd⟩)
    refine ⟨_, _, _, xs, rfl, hxl, ⟨by rw [hxl]; simp only [maxLen] at hcap; omega, fun i hil => (hxs i hil).2, fun x hx => ?_, fun x hx => ?_⟩, (fun h => by cases h), fun hw => ?_⟩
    · obtain ⟨i, hi', rfl⟩ := List.getElem_of_mem hx
      exact (hxs i hi').1.1
    · obtain ⟨i, hi', rfl⟩ := List.getElem_of_mem hx
      exact (hxs i hi').1.2
    · have hD := congrArg (·.1) hx
      simp only at hD
      rw [hD] at hw
      have h1 := hw (m * Tryz.prog.bytesOf 109) (by
        simp only [DataW.weights, Tryz.underlying26, List.length_map, List.length_range, List.mem_cons]
        left
        congr 1
        omega)
      rw [bytes109] at h1
      have : len * 24 ≤ m * 24 := Nat.mul_le_mul_right _ (by omega)
      omega
theorem open_ops2 {v : Value} {d : DataW H} {p : List MemPlace} (hv1 : v.cells.toList = [v])
    (h : DataW.Trod enc Tryz.prog w base spare held 58 v d p) (hw : ∀ u ∈ d.weights Tryz.prog 58, u ≤ reachBytes) : ∃ so n cp L, v = .slice so n cp ∧ L.length = n ∧ OpsAt w so L ∧ ∀ p ∈ L, OpX p := by
  obtain ⟨m0, hm0⟩ := h
  rw [hv1] at hm0
  rcases Go.Deep.open_slice Tryz.underlying58 hm0 with ⟨e, _⟩ | ⟨a, len, cap, m, n, D, Pl, e, _, hle, hcap, hm, hx, hi⟩
  · cases e
    exact ⟨_, _, _, [], rfl, rfl, ⟨by simp, fun i h => by simp at h, by simp⟩, by simp⟩
  · simp only [List.cons.injEq, and_true] at e
    subst e
    have hlm : len ≤ m := by rw [hm]; split <;> omega
    have hi : ∀ i, i < m → ∃ cs', w.cells? base (a.add (i * 9)) 9 = some cs' ∧ DataW.trod enc Tryz.prog w base spare held n 28 cs' = some (D i, Pl i) := fun i h => by
      have := hi i h
      rw [cells34] at this
      exact this
    obtain ⟨xs, hxl, hxs⟩ := choose_list (n := len) (P := fun i (q : OpM × OpL) => ((OpAt w q.1 q.2 ∧ q.1.pred.size ≤ maxLen) ∧ OpX q) ∧ ∃ g o, (some a : Option Addr) = some ⟨g, o, none⟩ ∧ g < w.heap.size ∧ ∀ c u, (opC q.1 q.2)[c]? = some u → w.cell? ⟨g, o + i * 9 + c, none⟩ = some u) (fun i hil => by
      obtain ⟨cs, hc, ht⟩ := hi i (by omega)
      obtain ⟨_, hcl, hcell⟩ := World.cells?_some hc
      obtain ⟨ys, n', _, hxe, _, hyl, hf⟩ := DataW.trod_struct Tryz.underlying28 ht
      have hyl : ys.length = 9 := hyl
      obtain ⟨c0, c1, c2, c3, c4, c5, c6, c7, c8, rfl⟩ := nine hcl
      have hy : ∀ j, j < 9 → ∃ y, ys[j]? = some y := fun j hj => ⟨ys[j]'(by omega), List.getElem?_eq_getElem (by omega)⟩
      obtain ⟨y0, e0⟩ := hy 0 (by omega)
      obtain ⟨y1, e1⟩ := hy 1 (by omega)
      obtain ⟨y2, e2⟩ := hy 2 (by omega)
      obtain ⟨y3, e3⟩ := hy 3 (by omega)
      obtain ⟨y4, e4⟩ := hy 4 (by omega)
      obtain ⟨y5, e5⟩ := hy 5 (by omega)
      obtain ⟨y6, e6⟩ := hy 6 (by omega)
      obtain ⟨y7, e7⟩ := hy 7 (by omega)
      obtain ⟨y8, e8⟩ := hy 8 (by omega)
      have f0 : DataW.trod enc Tryz.prog w base spare held n' 22 [c0] = some y0 := by simpa [cells28] using (hf 0 _ rfl).trans e0
      have f1 : DataW.trod enc Tryz.prog w base spare held n' 23 [c1] = some y1 := by simpa [cells29] using (hf 1 _ rfl).trans e1
      have f2 : DataW.trod enc Tryz.prog w base spare held n' 24 [c2] = some y2 := by simpa [cells30] using (hf 2 _ rfl).trans e2
      have f3 : DataW.trod enc Tryz.prog w base spare held n' 25 [c3] = some y3 := by simpa [cells31] using (hf 3 _ rfl).trans e3
      have f4 : DataW.trod enc Tryz.prog w base spare held n' 26 [c4] = some y4 := by simpa [cells32] using (hf 4 _ rfl).trans e4
      have f5 : DataW.trod enc Tryz.prog w base spare held n' 9 [c5] = some y5 := by simpa [cells9] using (hf 5 _ rfl).trans e5
      have f6 : DataW.trod enc Tryz.prog w base spare held n' 23 [c6] = some y6 := by simpa [cells29] using (hf 6 _ rfl).trans e6
      have f7 : DataW.trod enc Tryz.prog w base spare held n' 23 [c7] = some y7 := by simpa [cells29] using (hf 7 _ rfl).trans e7
      have f8 : DataW.trod enc Tryz.prog w base spare held n' 24 [c8] = some y8 := by simpa [cells30] using (hf 8 _ rfl).trans e8
      obtain ⟨ko, kl, kc, ks, h3, hkl, hks, hksz, hk0, hkw⟩ := open_strs2 f3
      obtain ⟨no, nl, nc, ns, h4, hnl, hns, hn0, hnw⟩ := open_needs2 f4
      obtain ⟨n0, h0, _, w0⟩ := DataW.trod_int Tryz.underlying22 f0
      obtain ⟨n1, h1, _, w1⟩ := DataW.trod_int Tryz.underlying23 f1
      obtain ⟨n2, h2, _, w2⟩ := DataW.trod_int Tryz.underlying24 f2
      obtain ⟨s5, h5, _, w5⟩ := DataW.trod_string Tryz.underlying9 f5
      obtain ⟨n6, h6, _, w6⟩ := DataW.trod_int Tryz.underlying23 f6
      obtain ⟨n7, h7, _, w7⟩ := DataW.trod_int Tryz.underlying23 f7
      obtain ⟨n8, h8, _, w8⟩ := DataW.trod_int Tryz.underlying24 f8
      simp at h0 h1 h2 h5 h6 h7 h8
      subst h0 h1 h2 h3 h4 h5 h6 h7 h8
      obtain ⟨k0, z0, rfl⟩ := u8_of w0
      obtain ⟨k1, z1, rfl⟩ := u32_of w1
      obtain ⟨k2, z2, rfl⟩ := u64_of w2
      obtain ⟨k6, z6, rfl⟩ := u32_of w6
      obtain ⟨k7, z7, rfl⟩ := u32_of w7
      obtain ⟨k8, z8, rfl⟩ := u64_of w8
      subst hkl hnl
      have hmem : ∀ (j : Nat) (t : TypeId) (y : DataW H × List MemPlace), [22, 23, 24, 25, 26, 9, 23, 23, 24][j]? = some t → (ys.map (·.1))[j]? = some y.1 → ∀ u ∈ y.1.weights Tryz.prog t, u ∈ d.weights Tryz.prog 58 := fun j t y hjt hjy u hu => by
        have hd : d = .slice ((List.range len).map D) ((List.range (m - len)).map fun j => D (len + j)) := congrArg (·.1) hx
        have hDi : D i = .agg (ys.map (·.1)) := congrArg (·.1) hxe
        rw [hd]
        simp only [DataW.weights, Tryz.underlying58, List.mem_cons, List.mem_append]
        refine Or.inr (Or.inl (weightsAll_mem (d := D i) (List.mem_map.2 ⟨i, by simpa using hil, rfl⟩) ?_))
        rw [hDi]
        simp only [DataW.weights, Tryz.underlying28]
        exact DataW.weights_mem_each (j := j) (t := t) hjt hjy u hu
      have hsp : a.spot = none := by
        obtain ⟨cs0, hc0, _⟩ := hi 0 (by omega)
        obtain ⟨_, hcl0, hcell0⟩ := World.cells?_some hc0
        have h6 := hcell0 0 (by omega)
        rw [List.getElem?_eq_getElem (by omega)] at h6
        exact spot_none (a := a) h6
      obtain ⟨g, o, sp⟩ := a
      simp only at hsp
      subst hsp
      have hgl : g < w.heap.size := by
        have h7 := hcell 0 (by omega)
        rw [List.getElem?_cons_zero] at h7
        have h8 := World.block_lt_of_cell? w _ h7
        have e8 : (((⟨g, o, none⟩ : Addr).add (i * 9)).add 0).block = g := by rw [Addr.add_mid, Addr.add_mid]
        rw [e8] at h8
        exact h8
      refine ⟨(⟨k0, k1, k2, ks, ns, s5, k6, k7, k8⟩, ⟨ko, kc, no, nc⟩), ⟨⟨⟨hks, hns, z0, z1, z2, z6, z7, z8⟩, w5⟩, ⟨hksz, hkw (fun u hu => hw u (hmem 3 25 y3 rfl (by rw [List.getElem?_map, e3]; rfl) u hu)), hnw (fun u hu => hw u (hmem 4 26 y4 rfl (by rw [List.getElem?_map, e4]; rfl) u hu)), hk0, hn0⟩⟩, g, o, rfl, hgl, fun j v hj => ?_⟩
      have hj9 : j < 9 := by
        have := (Array.getElem?_eq_some_iff.1 hj).1
        simpa [opC] using this
      have := hcell j hj9
      rw [Addr.add_mid, Addr.add_mid] at this
      rw [this]
      simpa [opC] using hj)
    refine ⟨_, _, _, xs, rfl, hxl, ⟨by rw [hxl]; simp only [maxLen] at hcap; omega, fun i hil => (hxs i hil).2, fun x hx => ?_⟩, fun x hx => ?_⟩
    · obtain ⟨i, hi', rfl⟩ := List.getElem_of_mem hx
      exact (hxs i hi').1.1
    · obtain ⟨i, hi', rfl⟩ := List.getElem_of_mem hx
      exact (hxs i hi').1.2
end
end Go.Proofs.YtgmmglmokkcgeaaGreat
