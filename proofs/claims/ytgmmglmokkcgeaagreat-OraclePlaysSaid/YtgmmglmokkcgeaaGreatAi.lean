/- Walks: commands in a list; are they few? -/
import Derived.Test.YtgmmglmokkcgeaaGreatAf
namespace Go.Proofs.YtgmmglmokkcgeaaGreat
set_option linter.unusedVariables false
set_option linter.unusedSimpArgs false
open Go.RowKit Mk Go.Sort

/-- The slice has these commands. -/
structure OpsAt (w : World) (so : Option Addr) (L : List (OpM × OpL)) : Prop where
  len : L.length ≤ 9223372036854775807
  cell : ∀ i (h : i < L.length), ∃ g o, so = some ⟨g, o, none⟩ ∧ g < w.heap.size ∧ ∀ c v, (opC L[i].1 L[i].2)[c]? = some v → w.cell? ⟨g, o + i * 9 + c, none⟩ = some v
  ops : ∀ p ∈ L, OpAt w p.1 p.2 ∧ p.1.pred.size ≤ maxLen
theorem OpsAt.stay {w w' : World} {so : Option Addr} {L : List (OpM × OpL)} (h : OpsAt w so L) (c : Chg (fun _ => False) w w') : OpsAt w' so L where
  len := h.len
  cell i hi := by
    obtain ⟨g, o, e, hg, hc⟩ := h.cell i hi
    exact ⟨g, o, e, Nat.lt_of_lt_of_le hg c.size, fun k v hv => (World.cell?_of_block (a := ⟨g, o + i * 9 + k, none⟩) (c.block g hg (fun f => f))).trans (hc k v hv)⟩
  ops p hp := ⟨(h.ops p hp).1.same c, (h.ops p hp).2⟩

set_option maxRecDepth 100000 in
set_option maxHeartbeats 4000000 in
theorem small_any {w : World} {so : Option Addr} {n cp : Nat} {L : List (OpM × OpL)} (h : OpsAt w so L) (hl : L.length = n) :
    Calls Tryz.prog 19 #[.slice so n cp] w fun e w' => ∃ z, e = .returned (.bool z) ∧ (z = true → n ≤ 100) ∧ Chg (fun _ => False) w w' := by
  have H := Lib.hid h
  have HL := Lib.hid hl
  have ln := h.len
  rw [hl] at ln
  clear h hl
  go_enter Tryz.func19, Tryz.ntmps19
  go_wp2
  go_loopw [3, 4] (fun v i wr => ∃ (z : Int) (j : Nat), v = .int .i64 z ∧ i = .int .i64 j ∧ j ≤ n ∧ j ≤ 200 ∧ Hid (Chg (fun _ => False) w wr)) (fun v i _ => n - (intOf i).toNat)
  case atStart => exact ⟨0, 0, rfl, rfl, by omega, by omega, Lib.hid (Chg.refl _ _)⟩
  case round =>
    obtain ⟨z, j, rfl, rfl, hj, hj2, HC⟩ := hrel
    generalize wr = W1 at *
    by_cases hlt : j < n
    · have hd : decide ((j : Int) < n) = true := decide_eq_true (by omega)
      by_cases hl2 : j < 200
      · have hd2 : decide ((j : Int) < 200) = true := decide_eq_true (by omega)
        have hjL : j < L.length := by rw [HL.out]; exact hlt
        obtain ⟨g, o, rfl, hg, hc⟩ := (H.out.stay HC.out).cell j hjL
        have HO := Lib.hid (H.out.stay HC.out).ops
        have HO' := Lib.hid (HO.out _ (List.getElem_mem hjL)).1
        obtain ⟨p, hp⟩ : ∃ p, L[j] = p := ⟨_, rfl⟩
        rw [hp] at hc HO'
        obtain ⟨K, hK⟩ : ∃ K, p.1.keys.length = K := ⟨_, rfl⟩
        obtain ⟨N, hN⟩ : ∃ N, p.1.needs.length = N := ⟨_, rfl⟩
        unfold opC at hc
        rw [hK, hN] at hc
        have c3 : W1.cell? ⟨g, o + j * 9 + 3, none⟩ = some (.slice p.2.ko K p.2.kc) := hc 3 _ rfl
        have c4 : W1.cell? ⟨g, o + j * 9 + 4, none⟩ = some (.slice p.2.no N p.2.nc) := hc 4 _ rfl
        have c5 : W1.cell? ⟨g, o + j * 9 + 5, none⟩ = some (.string p.1.pred) := hc 5 _ rfl
        have HK := Lib.hid hK
        have HN := Lib.hid hN
        have KS := Lib.hid HO'.out.keys
        have NS := Lib.hid HO'.out.needs
        have lk := KS.out.len
        have lnn := NS.out.len
        rw [hK] at lk
        rw [hN] at lnn
        have l1 : (j : Int) < n := by omega
        have l0 : (0 : Int) ≤ j := by omega
        clear hc hp hK hN HO'
        generalize p.1.pred = pr at *
        generalize p.2.kc = kc at *
        generalize p.2.nc = nc at *
        generalize p.2.ko = ko at *
        generalize p.2.no = no at *
        generalize p.1.keys = ks at *
        generalize p.1.needs = ns at *
        go_wp2
        go_region
        have c3 := Lib.hid c3
        have c4 := Lib.hid c4
        have c5 := Lib.hid c5
        go_wp2
        go_loopw [3, 5] (fun v i wq => ∃ (z : Int) (k : Nat), v = .int .i64 z ∧ i = .int .i64 k ∧ k ≤ 300 ∧ Hid (Chg (fun _ => False) W1 wq)) (fun v i _ => 300 - (intOf i).toNat)
        case atStart => exact ⟨_, 0, rfl, rfl, by omega, Lib.hid (Chg.refl _ _).drew⟩
        case round =>
          obtain ⟨y, k, rfl, rfl, hk, HC2⟩ := hrel
          have e3 := (World.cell?_of_block (a := ⟨g, o + j * 9 + 3, none⟩) (HC2.out.block g hg (fun f => f))).trans c3.out
          by_cases hkl : k < K
          · have d3 : decide ((k : Int) < K) = true := decide_eq_true (by omega)
            by_cases hk3 : k < 300
            · have d4 : decide ((k : Int) < 300) = true := decide_eq_true (by omega)
              obtain ⟨g2, o2, rfl, hg2, hc2⟩ := KS.out.cell k (by rw [HK.out]; exact hkl)
              have e4 := (World.cell?_of_block (a := ⟨g2, o2 + k, none⟩) (HC2.out.block g2 hg2 (fun f => f))).trans hc2
              have l3 : (k : Int) < K := by omega
              have l2 : (0 : Int) ≤ k := by omega
              generalize ks[k]'_ = x at *
              go_wp2
              go_round
              case rel => exact ⟨_, k + 1, rfl, by go_num, by omega, HC2⟩
              case measure => simp [intOf]; omega
            · have d4 : decide ((k : Int) < 300) = false := decide_eq_false (by omega)
              go_wp2
              go_loopw [3, 6] (fun v i wq => ∃ (z : Int) (k : Nat), v = .int .i64 z ∧ i = .int .i64 k ∧ k ≤ 300 ∧ Hid (Chg (fun _ => False) W1 wq)) (fun v i _ => 300 - (intOf i).toNat)
              case atStart => exact ⟨_, 0, rfl, rfl, by omega, HC2⟩
              case round =>
                clear HC2 e3
                obtain ⟨y, k, rfl, rfl, hk, HC2⟩ := hrel
                have e3 := (World.cell?_of_block (a := ⟨g, o + j * 9 + 4, none⟩) (HC2.out.block g hg (fun f => f))).trans c4.out
                by_cases hkl : k < N
                · have d3 : decide ((k : Int) < N) = true := decide_eq_true (by omega)
                  by_cases hk3 : k < 300
                  · have d4 : decide ((k : Int) < 300) = true := decide_eq_true (by omega)
                    obtain ⟨g2, o2, rfl, hg2, hc2, -⟩ := NS.out.cell k (by rw [HN.out]; exact hkl)
                    have e4 := (World.cell?_of_block (a := ⟨g2, o2 + k * 2, none⟩) (HC2.out.block g2 hg2 (fun f => f))).trans hc2
                    have l3 : (k : Int) < N := by omega
                    have l2 : (0 : Int) ≤ k := by omega
                    generalize (ns[k]'_).1 = x at *
                    go_wp2
                    go_round
                    case rel => exact ⟨_, k + 1, rfl, by go_num, by omega, HC2⟩
                    case measure => simp [intOf]; omega
                  · have d4 : decide ((k : Int) < 300) = false := decide_eq_false (by omega)
                    go_wp2
                    go_round
                    case rel => exact ⟨_, j + 1, rfl, by go_num, by omega, by omega, Lib.hid (HC.out.trans HC2.out)⟩
                    case measure => simp [intOf]; omega
                · have d3 : decide ((k : Int) < N) = false := decide_eq_false (by omega)
                  go_wp2
                  go_round
                  case rel => exact ⟨_, j + 1, rfl, by go_num, by omega, by omega, Lib.hid (HC.out.trans HC2.out)⟩
                  case measure => simp [intOf]; omega
          · have d3 : decide ((k : Int) < K) = false := decide_eq_false (by omega)
            go_wp2
            go_loopw [3, 6] (fun v i wq => ∃ (z : Int) (k : Nat), v = .int .i64 z ∧ i = .int .i64 k ∧ k ≤ 300 ∧ Hid (Chg (fun _ => False) W1 wq)) (fun v i _ => 300 - (intOf i).toNat)
            case atStart => exact ⟨_, 0, rfl, rfl, by omega, HC2⟩
            case round =>
              clear HC2 e3
              obtain ⟨y, k, rfl, rfl, hk, HC2⟩ := hrel
              have e3 := (World.cell?_of_block (a := ⟨g, o + j * 9 + 4, none⟩) (HC2.out.block g hg (fun f => f))).trans c4.out
              by_cases hkl : k < N
              · have d3 : decide ((k : Int) < N) = true := decide_eq_true (by omega)
                by_cases hk3 : k < 300
                · have d4 : decide ((k : Int) < 300) = true := decide_eq_true (by omega)
                  obtain ⟨g2, o2, rfl, hg2, hc2, -⟩ := NS.out.cell k (by rw [HN.out]; exact hkl)
                  have e4 := (World.cell?_of_block (a := ⟨g2, o2 + k * 2, none⟩) (HC2.out.block g2 hg2 (fun f => f))).trans hc2
                  have l3 : (k : Int) < N := by omega
                  have l2 : (0 : Int) ≤ k := by omega
                  generalize (ns[k]'_).1 = x at *
                  go_wp2
                  go_round
                  case rel => exact ⟨_, k + 1, rfl, by go_num, by omega, HC2⟩
                  case measure => simp [intOf]; omega
                · have d4 : decide ((k : Int) < 300) = false := decide_eq_false (by omega)
                  go_wp2
                  go_round
                  case rel => exact ⟨_, j + 1, rfl, by go_num, by omega, by omega, Lib.hid (HC.out.trans HC2.out)⟩
                  case measure => simp [intOf]; omega
              · have d3 : decide ((k : Int) < N) = false := decide_eq_false (by omega)
                go_wp2
                go_round
                case rel => exact ⟨_, j + 1, rfl, by go_num, by omega, by omega, Lib.hid (HC.out.trans HC2.out)⟩
                case measure => simp [intOf]; omega
      · have hd2 : decide ((j : Int) < 200) = false := decide_eq_false (by omega)
        by_cases h100 : n ≤ 100
        · have d5 : decide ((n : Int) ≤ 100) = true := decide_eq_true (by omega)
          by_cases hz : z ≤ 30000
          · have d6 : decide (z ≤ 30000) = true := decide_eq_true hz
            go_wp2
            go_ret
            first | exact ⟨_, rfl, fun _ => h100, HC.out⟩ | exact ⟨h100, HC.out⟩ | exact HC.out | exact ⟨Or.inl rfl, HC.out⟩ | exact ⟨Or.inr ⟨rfl, h100⟩, HC.out⟩ | exact Or.inl ⟨rfl, HC.out⟩ | exact Or.inr ⟨rfl, h100, HC.out⟩ | trace_state
          · have d6 : decide (z ≤ 30000) = false := decide_eq_false hz
            go_wp2
            go_ret
            first | exact ⟨_, rfl, fun _ => h100, HC.out⟩ | exact ⟨h100, HC.out⟩ | exact HC.out | exact ⟨Or.inl rfl, HC.out⟩ | exact ⟨Or.inr ⟨rfl, h100⟩, HC.out⟩ | exact Or.inl ⟨rfl, HC.out⟩ | exact Or.inr ⟨rfl, h100, HC.out⟩ | trace_state
        · have d5 : decide ((n : Int) ≤ 100) = false := decide_eq_false (by omega)
          go_wp2
          go_ret
          first | exact ⟨_, rfl, (fun e => by cases e), HC.out⟩ | exact HC.out | exact ⟨Or.inl rfl, HC.out⟩ | exact Or.inl ⟨rfl, HC.out⟩ | trace_state
    · have hd : decide ((j : Int) < n) = false := decide_eq_false (by omega)
      by_cases h100 : n ≤ 100
      · have d5 : decide ((n : Int) ≤ 100) = true := decide_eq_true (by omega)
        by_cases hz : z ≤ 30000
        · have d6 : decide (z ≤ 30000) = true := decide_eq_true hz
          go_wp2
          go_ret
          first | exact ⟨_, rfl, fun _ => h100, HC.out⟩ | exact ⟨h100, HC.out⟩ | exact HC.out | exact ⟨Or.inl rfl, HC.out⟩ | exact ⟨Or.inr ⟨rfl, h100⟩, HC.out⟩ | exact Or.inl ⟨rfl, HC.out⟩ | exact Or.inr ⟨rfl, h100, HC.out⟩ | trace_state
        · have d6 : decide (z ≤ 30000) = false := decide_eq_false hz
          go_wp2
          go_ret
          first | exact ⟨_, rfl, fun _ => h100, HC.out⟩ | exact ⟨h100, HC.out⟩ | exact HC.out | exact ⟨Or.inl rfl, HC.out⟩ | exact ⟨Or.inr ⟨rfl, h100⟩, HC.out⟩ | exact Or.inl ⟨rfl, HC.out⟩ | exact Or.inr ⟨rfl, h100, HC.out⟩ | trace_state
      · have d5 : decide ((n : Int) ≤ 100) = false := decide_eq_false (by omega)
        go_wp2
        go_ret
        first | exact ⟨_, rfl, (fun e => by cases e), HC.out⟩ | exact HC.out | exact ⟨Or.inl rfl, HC.out⟩ | exact Or.inl ⟨rfl, HC.out⟩ | trace_state
end Go.Proofs.YtgmmglmokkcgeaaGreat
