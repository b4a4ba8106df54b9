/- Walks: the document's Read, one kind. -/
import Derived.Test.YtgmmglmokkcgeaaG1
namespace Go.Proofs.Ytgmmglmokkcgeaa
set_option linter.unusedVariables false
set_option linter.unusedSimpArgs false
open Go.RowKit Mk Go.Sort


set_option maxRecDepth 100000 in
set_option maxHeartbeats 4000000 in
theorem rread_3 {w : World} {s : ByteArray} (h1 : 0 < s.size) (hs : s.size ≤ 1099511627776) (hk : s[0].toNat = 3) :
    Calls Try.prog 22 #[.string s] w fun e w' => ∃ l, e = .returned (.tuple #[.agg (opC (readM s[0].toNat s).1 l), .int .i64 ((readM s[0].toNat s).2 : Nat)]) ∧ OpAt w' (readM s[0].toNat s).1 l ∧ Chg (fun _ => False) w w' := by
  obtain ⟨M, HM⟩ : ∃ M, Hid (readM s[0].toNat s = M) := ⟨_, Lib.hid rfl⟩
  rw [HM.out]
  have hq := bytes_isEmpty s
  have hd : decide (s.size = 0) = false := decide_eq_false (by omega)
  rw [hd] at hq
  clear hd
  have b1 : (1 : Int) ≤ s.size := by omega
  have b2 : (0 : Int) < s.size := by omega
  have b3 : decide ((1 : Int) ≤ s.size) = true := by simp; omega
  have b4 : decide (1 ≤ s.size) = true := by simp; omega
  have q1 : (((s[0].toNat : Nat) : Int) == 1) = false := by rw [hk]; rfl
  have q2 : (((s[0].toNat : Nat) : Int) == 2) = false := by rw [hk]; rfl
  have q3 : (((s[0].toNat : Nat) : Int) == 3) = true := by rw [hk]; rfl
  have q4 : (((s[0].toNat : Nat) : Int) == 4) = false := by rw [hk]; rfl
  have q5 : (((s[0].toNat : Nat) : Int) == 5) = false := by rw [hk]; rfl
  have q6 : (((s[0].toNat : Nat) : Int) == 6) = false := by rw [hk]; rfl
  have q7 : (((s[0].toNat : Nat) : Int) == 7) = false := by rw [hk]; rfl
  have q8 : (((s[0].toNat : Nat) : Int) == 8) = false := by rw [hk]; rfl
  have q9 : (((s[0].toNat : Nat) : Int) == 9) = false := by rw [hk]; rfl
  have HK := Lib.hid hk
  clear hk

  go_enter Try.func22, Try.ntmps22
  go_upto_region 5 with fail
  have h0 : RoAt 100 (w.alloc (.cells #[.int .u8 0, .int .u32 0, .int .u64 0, .slice none 0 0, .slice none 0 0, .string ⟨#[]⟩, .int .u32 0, .int .u32 0, .int .u64 0] 34)) (w.heap.size + 1 + 1) (w.heap.size + 1) none s.size (op0 s[0].toNat) nilS nilS ⟨s.extract 1 s.size, false⟩ (((w.alloc (.cells #[.int .u8 0, .int .u32 0, .int .u64 0, .slice none 0 0, .slice none 0 0, .string ⟨#[]⟩, .int .u32 0, .int .u32 0, .int .u64 0] 34)).alloc (.cells #[.string (s.extract 1 s.size), .bool false] 100)).alloc (.cells #[.int .u8 (s[0].toNat : Nat), .int .u32 0, .int .u64 0, .slice none 0 0, .slice none 0 0, .string ⟨#[]⟩, .int .u32 0, .int .u32 0, .int .u64 0] 34)) := by
    have := read_begin0 (w.alloc (.cells #[.int .u8 0, .int .u32 0, .int .u64 0, .slice none 0 0, .slice none 0 0, .string ⟨#[]⟩, .int .u32 0, .int .u32 0, .int .u64 0] 34)) (s.extract 1 s.size) (k := s[0].toNat) (S := s.size) (by simp) hs
    rw [World.size_alloc] at this
    exact this
  obtain ⟨W4, HW4⟩ : ∃ W, Hid ((((w.alloc (.cells #[.int .u8 0, .int .u32 0, .int .u64 0, .slice none 0 0, .slice none 0 0, .string ⟨#[]⟩, .int .u32 0, .int .u32 0, .int .u64 0] 34)).alloc (.cells #[.string (s.extract 1 s.size), .bool false] 100)).alloc (.cells #[.int .u8 (s[0].toNat : Nat), .int .u32 0, .int .u64 0, .slice none 0 0, .slice none 0 0, .string ⟨#[]⟩, .int .u32 0, .int .u32 0, .int .u64 0] 34)) = W) := ⟨_, Lib.hid rfl⟩
  obtain ⟨W0, HW0⟩ : ∃ W, Hid (w.alloc (.cells #[.int .u8 0, .int .u32 0, .int .u64 0, .slice none 0 0, .slice none 0 0, .string ⟨#[]⟩, .int .u32 0, .int .u32 0, .int .u64 0] 34) = W) := ⟨_, Lib.hid rfl⟩
  obtain ⟨kb, HKB⟩ : ∃ kb, Hid (w.heap.size + 1 + 1 = kb) := ⟨_, Lib.hid rfl⟩
  obtain ⟨rb, HRB⟩ : ∃ rb, Hid (w.heap.size + 1 = rb) := ⟨_, Lib.hid rfl⟩
  obtain ⟨S, HS⟩ : ∃ S, Hid (s.size = S) := ⟨_, Lib.hid rfl⟩
  rw [HW4.out] at h0 ⊢
  rw [HW0.out] at h0
  rw [HKB.out, HRB.out] at h0 ⊢
  have H0 := Lib.hid h0
  have k0 : W4.cell? ⟨kb, 0, none⟩ = some (.int .u8 (s[0].toNat : Nat)) := h0.see.2.2.2.2.1
  clear h0
  go_upto_block 0 with fail
  go_cut [] from 6 to 112 (fun wc => ∃ kv nv, Hid (RoAt 100 W0 kb rb none s.size (bodyR s[0].toNat ⟨s.extract 1 s.size, false⟩).1 kv nv (bodyR s[0].toNat ⟨s.extract 1 s.size, false⟩).2 wc))
  case first => as_aux_lemma =>
    have C0 := Lib.hid ((rrnum_any H0.out.rd (Nat.le_trans H0.out.sz H0.out.S)).mono fun e W' hh => show e = .returned (.int .u64 ((numR (⟨s.extract 1 s.size, false⟩ : RdS)).1 : Nat)) ∧ (RoAt 100 W0 kb rb none s.size { (op0 s[0].toNat) with st := (numR (⟨s.extract 1 s.size, false⟩ : RdS)).1 } nilS nilS (numR (⟨s.extract 1 s.size, false⟩ : RdS)).2 (W'.setCell ⟨kb, 2, none⟩ (.int .u64 ((numR (⟨s.extract 1 s.size, false⟩ : RdS)).1 : Nat))) ∧ W'.frozen? ⟨kb, 2, none⟩ = false ∧ W'.cell? ⟨kb, 2, none⟩ = some (.int .u64 (((op0 s[0].toNat)).st : Nat))) from ⟨hh.1, ((H0.out.read hh.2.1 hh.2.2 (numR_le (⟨s.extract 1 s.size, false⟩ : RdS)).1).set_st (numR (⟨s.extract 1 s.size, false⟩ : RdS)).1).2, ((H0.out.read hh.2.1 hh.2.2 (numR_le (⟨s.extract 1 s.size, false⟩ : RdS)).1).set_st (numR (⟨s.extract 1 s.size, false⟩ : RdS)).1).1, cell_of (H0.out.read hh.2.1 hh.2.2 (numR_le (⟨s.extract 1 s.size, false⟩ : RdS)).1).box rfl⟩)
    clear H0
    go_wp2_with fail
    refine C0.out.mono ?_
    rintro e Wk0 ⟨rfl, h0, f0, c0⟩
    have H1 := Lib.hid h0
    clear h0 C0
    have C1 := Lib.hid ((rrnum_any H1.out.rd (Nat.le_trans H1.out.sz H1.out.S)).mono fun e W' hh => show e = .returned (.int .u64 ((numR (numR (⟨s.extract 1 s.size, false⟩ : RdS)).2).1 : Nat)) ∧ (RoAt 100 W0 kb rb none s.size { (op0 s[0].toNat) with st := (numR (⟨s.extract 1 s.size, false⟩ : RdS)).1 } nilS nilS (numR (numR (⟨s.extract 1 s.size, false⟩ : RdS)).2).2 W') from ⟨hh.1, H1.out.read hh.2.1 hh.2.2 (numR_le (numR (⟨s.extract 1 s.size, false⟩ : RdS)).2).1⟩)
    have hN := (numR_le (numR (⟨s.extract 1 s.size, false⟩ : RdS)).2).2
    obtain ⟨N, HNN⟩ : ∃ N, Hid ((numR (numR (⟨s.extract 1 s.size, false⟩ : RdS)).2).1 = N) := ⟨_, Lib.hid rfl⟩
    have HFW := Lib.hid (show Few s.size (numR (numR (⟨s.extract 1 s.size, false⟩ : RdS)).2).2 0 from by have := (numR_le (numR (⟨s.extract 1 s.size, false⟩ : RdS)).2).1; have := H1.out.sz; exact ⟨by omega, fun _ => by omega⟩)
    rw [HNN.out] at C1 hN
    clear H1
    go_wp2_with fail
    refine C1.out.mono ?_
    rintro e Wk1 ⟨rfl, h2⟩
    have H2 := Lib.hid h2
    clear h2 C1
    go_upto_block 1 with fail
    go_cut [] from 7 to 53 (fun wc => ∃ kv, Hid (RoAt 100 W0 kb rb none s.size { { (op0 s[0].toNat) with st := (numR (⟨s.extract 1 s.size, false⟩ : RdS)).1 } with keys := (keysR N (numR (numR (⟨s.extract 1 s.size, false⟩ : RdS)).2).2 []).2 } kv nilS (keysR N (numR (numR (⟨s.extract 1 s.size, false⟩ : RdS)).2).2 []).1 wc))
    case first => as_aux_lemma =>
      obtain ⟨F, HF⟩ : ∃ F, Hid (keysR N (numR (numR (⟨s.extract 1 s.size, false⟩ : RdS)).2).2 [] = F) := ⟨_, Lib.hid rfl⟩
      obtain ⟨r2, HR2⟩ : ∃ r, Hid ((numR (numR (⟨s.extract 1 s.size, false⟩ : RdS)).2).2 = r) := ⟨_, Lib.hid rfl⟩
      rw [HR2.out] at HF HFW H2
      obtain ⟨o1, HO1⟩ : ∃ o, Hid ({ (op0 s[0].toNat) with st := (numR (⟨s.extract 1 s.size, false⟩ : RdS)).1 } = o) := ⟨_, Lib.hid rfl⟩
      have HE := Lib.hid (show o1.keys = [] from by rw [← HO1.out]; rfl)
      rw [HO1.out] at H2
      obtain ⟨i9, z9, hi9, hz9, hsz9, hby9, hzs9⟩ := info9
      go_wp2_with fail
      go_loopw [7] (fun i wr => ∃ (k : Nat) (kv : Value) (l : List ByteArray) (r : RdS), i = .int .u64 k ∧ k ≤ N ∧ Hid (keysR (N - k) r l = F) ∧ Hid (RoAt 100 W0 kb rb none s.size { o1 with keys := l } kv nilS r wr) ∧ Hid (Few s.size r l.length)) (fun i _ => N - (intOf i).toNat)
      case atStart => exact ⟨0, nilS, [], r2, rfl, by omega, HF, by have := H2.out; have e := HE.out; exact Lib.hid (by rw [show ({ o1 with keys := [] } : OpM) = o1 by rw [← e]]; exact this), HFW⟩
      case round =>
        obtain ⟨k, kv, l, r, rfl, hk, HK, HT, HL⟩ := hrel
        clear H2
        obtain ⟨⟨ko, kc, rfl⟩, -, k3, -, -, -, b1⟩ := HT.out.see
        obtain ⟨bd, hbd⟩ : ∃ b, r.bad = b := ⟨_, rfl⟩
        rw [hbd] at b1
        by_cases hkn : k < N
        · have q1 : decide ((k : Int) < (N : Int)) = true := by simp; omega
          cases bd
          · have HC := Lib.hid (show keysR (N - (k + 1)) (textR r).2 (l ++ [(textR r).1]) = F by
              have := HK.out
              rw [show N - k = (N - (k + 1)) + 1 by omega] at this
              rw [← this]
              conv => rhs; unfold keysR
              rw [hbd]; rfl)
            have HL2 := Lib.hid (HL.out.text hbd)
            have hll := HL.out.len
            have hSS := HT.out.S
            have T := Lib.hid ((rrtext_any (HT.out.same (Chg.refl _ wr).drew).rd (Nat.le_trans HT.out.sz HT.out.S)).mono fun e W' hh => show e = .returned (.string (textR r).1) ∧ (RoAt 100 W0 kb rb none s.size { o1 with keys := l } (.slice ko l.length kc) nilS (textR r).2 W') from ⟨hh.1, (HT.out.same (Chg.refl _ wr).drew).read hh.2.1 hh.2.2 (textR_le r).1⟩)
            have HTL1 := Lib.hid (show l.length + 1 ≤ maxLen by simp only [maxLen]; omega)
            have HTL2 := Lib.hid (show (l.length + 1) * 16 ≤ 140737488355328 by omega)
            have HF := Lib.hid (fun (W1 : World) (h1 : RoAt 100 W0 kb rb none s.size { o1 with keys := l } (.slice ko l.length kc) nilS (textR r).2 W1) (v' : Value) (w2 : World) hs hg ha => (h1.same ((Chg.refl _ W1).alloc (.cells #[.string (textR r).1] 9))).key (x := (textR r).1) (kv' := v') (W' := w2) hs hg ha)
            have HN := Lib.hid (show ∀ W1 : World, (RoAt 100 W0 kb rb none s.size { o1 with keys := l } (.slice ko l.length kc) nilS (textR r).2 W1) → sl (W1.alloc (.cells #[.string (textR r).1] 9)) 9 1 (.slice ko l.length kc) l.length (keysV l) from fun W1 h1 => (h1.same ((Chg.refl _ W1).alloc _)).keys)
            have HKN := Lib.hid hkn
            clear HK HL hll hSS hbd HT
            generalize (textR r).1 = x at *
            generalize (textR r).2 = r' at *
            go_wp2_with fail
            go_region_law (first
              | (go_simp; go_at_call 47; with_reducible refine T.out.mono ?_; rintro e W1 ⟨rfl, hO⟩; have y3 := hO.see.2.2.1; have y4 := ((hO.same ((Chg.refl _ W1).alloc (.cells #[.string x] 9))).see).2.2.1; have HO := Lib.hid hO; have HCN := Lib.hid (Mk.cell_new_one (Go.heap_alloc_new W1 (.cells #[.string x] 9))); clear hO)
              | (refine step_append_sl (by rfl) _ _ 31 (by rfl) 9 i9 z9 1 16 Try.underlying31 hi9 hz9 hsz9 hby9 hzs9 (by decide) (.slice ko l.length kc) l.length (keysV l) (by rfl) (HN.out W1 HO.out) (some ⟨W1.heap.size, 0, none⟩) 1 1 [.string x] (by rfl) (by rfl) (fun _ => ⟨_, rfl, HCN.out⟩) (fun h => absurd h (by decide)) (by simp [Value.oneCell']) HTL1.out HTL2.out ?_; intro v' w4 hs hg4 ha; obtain ⟨y1, y5, y2⟩ := HF.out W1 HO.out v' w4 hs hg4 ha; have HY := Lib.hid y2; clear y2; obtain ⟨vo, vc, rfl⟩ := sl_shape hs; clear hs hg4 ha))
            all_goals
              go_wp2_with fail
              go_roundw
              case rel => exact ⟨k + 1, _, l ++ [x], r', by go_num, by omega, HC, HY, by rw [List.length_append, List.length_singleton]; exact HL2⟩
              case measure => simp [intOf]; omega
          · have HE2 := Lib.hid (show F = (r, l) by
              rw [← HK.out]
              obtain ⟨m, hm⟩ : ∃ m, N - k = m + 1 := ⟨N - k - 1, by omega⟩
              rw [hm]; unfold keysR; rw [hbd]; rfl)
            clear hbd HK
            go_wp2_with fail
            go_meet
            exact ⟨_, Lib.hid (by have e := HO1.out; subst e; rw [HR2.out, HF.out, HE2.out]; exact HT.out)⟩
        · have q1 : decide ((k : Int) < (N : Int)) = false := by simp; omega
          have HE2 := Lib.hid (show F = (r, l) by rw [← HK.out, show N - k = 0 by omega]; rfl)
          clear hbd HK
          go_wp2_with fail
          go_meet
          exact ⟨_, Lib.hid (by have e := HO1.out; subst e; rw [HR2.out, HF.out, HE2.out]; exact HT.out)⟩
    case rest =>
      obtain ⟨kv, H3⟩ := hcut
      rw [← HNN.out] at H3
      clear H2 HFW hN HNN
      have C3 := Lib.hid ((rrnum_any H3.out.rd (Nat.le_trans H3.out.sz H3.out.S)).mono fun e W' hh => show e = .returned (.int .u64 ((numR (keysR (numR (numR (⟨s.extract 1 s.size, false⟩ : RdS)).2).1 (numR (numR (⟨s.extract 1 s.size, false⟩ : RdS)).2).2 []).1).1 : Nat)) ∧ (RoAt 100 W0 kb rb none s.size { { (op0 s[0].toNat) with st := (numR (⟨s.extract 1 s.size, false⟩ : RdS)).1 } with keys := (keysR (numR (numR (⟨s.extract 1 s.size, false⟩ : RdS)).2).1 (numR (numR (⟨s.extract 1 s.size, false⟩ : RdS)).2).2 []).2 } kv nilS (numR (keysR (numR (numR (⟨s.extract 1 s.size, false⟩ : RdS)).2).1 (numR (numR (⟨s.extract 1 s.size, false⟩ : RdS)).2).2 []).1).2 W') from ⟨hh.1, H3.out.read hh.2.1 hh.2.2 (numR_le (keysR (numR (numR (⟨s.extract 1 s.size, false⟩ : RdS)).2).1 (numR (numR (⟨s.extract 1 s.size, false⟩ : RdS)).2).2 []).1).1⟩)
      have hN := (numR_le (keysR (numR (numR (⟨s.extract 1 s.size, false⟩ : RdS)).2).1 (numR (numR (⟨s.extract 1 s.size, false⟩ : RdS)).2).2 []).1).2
      obtain ⟨N, HNN⟩ : ∃ N, Hid ((numR (keysR (numR (numR (⟨s.extract 1 s.size, false⟩ : RdS)).2).1 (numR (numR (⟨s.extract 1 s.size, false⟩ : RdS)).2).2 []).1).1 = N) := ⟨_, Lib.hid rfl⟩
      have HFW := Lib.hid (show Few s.size (numR (keysR (numR (numR (⟨s.extract 1 s.size, false⟩ : RdS)).2).1 (numR (numR (⟨s.extract 1 s.size, false⟩ : RdS)).2).2 []).1).2 0 from by have := (numR_le (keysR (numR (numR (⟨s.extract 1 s.size, false⟩ : RdS)).2).1 (numR (numR (⟨s.extract 1 s.size, false⟩ : RdS)).2).2 []).1).1; have := H3.out.sz; exact ⟨by omega, fun _ => by omega⟩)
      rw [HNN.out] at C3 hN
      clear H3
      go_wp2_with fail
      refine C3.out.mono ?_
      rintro e Wk3 ⟨rfl, h4⟩
      have H4 := Lib.hid h4
      clear h4 C3
      obtain ⟨F, HF⟩ : ∃ F, Hid (needsR N (numR (keysR (numR (numR (⟨s.extract 1 s.size, false⟩ : RdS)).2).1 (numR (numR (⟨s.extract 1 s.size, false⟩ : RdS)).2).2 []).1).2 [] = F) := ⟨_, Lib.hid rfl⟩
      obtain ⟨r2, HR2⟩ : ∃ r, Hid ((numR (keysR (numR (numR (⟨s.extract 1 s.size, false⟩ : RdS)).2).1 (numR (numR (⟨s.extract 1 s.size, false⟩ : RdS)).2).2 []).1).2 = r) := ⟨_, Lib.hid rfl⟩
      rw [HR2.out] at HF HFW H4
      obtain ⟨o1, HO1⟩ : ∃ o, Hid ({ { (op0 s[0].toNat) with st := (numR (⟨s.extract 1 s.size, false⟩ : RdS)).1 } with keys := (keysR (numR (numR (⟨s.extract 1 s.size, false⟩ : RdS)).2).1 (numR (numR (⟨s.extract 1 s.size, false⟩ : RdS)).2).2 []).2 } = o) := ⟨_, Lib.hid rfl⟩
      have HE := Lib.hid (show o1.needs = [] from by rw [← HO1.out]; rfl)
      have HBD := Lib.hid (show bodyR s[0].toNat ⟨s.extract 1 s.size, false⟩ = ({ o1 with needs := F.2 }, F.1) from by rw [← HF.out, ← HR2.out, ← HNN.out, ← HO1.out, HK.out]; rfl)
      rw [HO1.out] at H4
      clear HR2 HO1
      obtain ⟨i9, z9, hi9, hz9, hsz9, hby9, hzs9⟩ := info50
      go_wp2_with fail
      go_loopw [8] (fun i wr => ∃ (k : Nat) (nv : Value) (l : List (ByteArray × Nat)) (r : RdS), i = .int .u64 k ∧ k ≤ N ∧ Hid (needsR (N - k) r l = F) ∧ Hid (RoAt 100 W0 kb rb none s.size { o1 with needs := l } kv nv r wr) ∧ Hid (Few s.size r l.length)) (fun i _ => N - (intOf i).toNat)
      case atStart => exact ⟨0, nilS, [], r2, rfl, by omega, HF, by have := H4.out; have e := HE.out; exact Lib.hid (by rw [show ({ o1 with needs := [] } : OpM) = o1 by rw [← e]]; exact this), HFW⟩
      case round =>
        obtain ⟨k, nv, l, r, rfl, hk, HK, HT, HL⟩ := hrel
        clear H4
        obtain ⟨-, ⟨no, nc, rfl⟩, -, k3, -, -, b1⟩ := HT.out.see
        obtain ⟨bd, hbd⟩ : ∃ b, r.bad = b := ⟨_, rfl⟩
        rw [hbd] at b1
        by_cases hkn : k < N
        · have q1 : decide ((k : Int) < (N : Int)) = true := by simp; omega
          cases bd
          · have HC := Lib.hid (show needsR (N - (k + 1)) (needR r).2 (l ++ [(needR r).1]) = F by
              have := HK.out
              rw [show N - k = (N - (k + 1)) + 1 by omega] at this
              rw [← this]
              conv => rhs; unfold needsR
              rw [hbd]; rfl)
            have HL2 := Lib.hid (HL.out.need hbd)
            have hll := HL.out.len
            have hSS := HT.out.S
            have T := Lib.hid ((rrtext_any HT.out.rd (Nat.le_trans HT.out.sz HT.out.S)).mono fun e W' hh => show e = .returned (.string (textR r).1) ∧ (RoAt 100 W0 kb rb none s.size { o1 with needs := l } kv (.slice no l.length nc) (textR r).2 W') from ⟨hh.1, HT.out.read hh.2.1 hh.2.2 (textR_le r).1⟩)
            have HTL1 := Lib.hid (show l.length + 1 ≤ maxLen by simp only [maxLen]; omega)
            have HTL2 := Lib.hid (show (l.length + 1) * 24 ≤ 140737488355328 by omega)
            unfold needR at HC HL2
            simp only at HC HL2
            clear HK HL hll hSS hbd HT
            generalize (textR r).1 = x at *
            generalize (textR r).2 = r' at *
            go_wp2_with fail
            refine T.out.mono ?_
            rintro e Wa ⟨rfl, hA⟩
            have n0 := hA.see.2.2.2.1
            have T2 := Lib.hid ((rrnum_any (hA.same (Chg.refl _ Wa).drew).rd (Nat.le_trans hA.sz hA.S)).mono fun e W' hh => show e = .returned (.int .u64 ((numR r').1 : Nat)) ∧ (RoAt 100 W0 kb rb none s.size { o1 with needs := l } kv (.slice no l.length nc) (numR r').2 W') from ⟨hh.1, (hA.same (Chg.refl _ Wa).drew).read hh.2.1 hh.2.2 (numR_le r').1⟩)
            have HF := Lib.hid (fun (W1 : World) (h1 : RoAt 100 W0 kb rb none s.size { o1 with needs := l } kv (.slice no l.length nc) (numR r').2 W1) (v' : Value) (w2 : World) hs hg ha => (h1.same ((Chg.refl _ W1).alloc (.cells #[.string x, .int .u64 ((numR r').1 : Nat)] 50))).need (x := (x, (numR r').1)) (nv' := v') (W' := w2) hs hg ha)
            have HN := Lib.hid (show ∀ W1 : World, (RoAt 100 W0 kb rb none s.size { o1 with needs := l } kv (.slice no l.length nc) (numR r').2 W1) → sl (W1.alloc (.cells #[.string x, .int .u64 ((numR r').1 : Nat)] 50)) 50 2 (.slice no l.length nc) l.length (needsV l) from fun W1 h1 => (h1.same ((Chg.refl _ W1).alloc _)).needs)
            clear hA T k3
            generalize (numR r').1 = n at *
            generalize (numR r').2 = r3 at *
            go_wp2_with fail
            go_region_law (first
              | (go_simp; go_at_call 46; with_reducible refine T2.out.mono ?_; rintro e W1 ⟨rfl, hO⟩; have y3 := hO.see.2.2.2.1; have y4 := ((hO.same ((Chg.refl _ W1).alloc (.cells #[.string x, .int .u64 (n : Nat)] 50))).see).2.2.2.1; have HO := Lib.hid hO; have HCN := Lib.hid (cell_new_two (Go.heap_alloc_new W1 (.cells #[.string x, .int .u64 (n : Nat)] 50))); clear hO)
              | (refine step_append_sl (by rfl) _ _ 32 (by rfl) 50 i9 z9 2 24 Try.underlying32 hi9 hz9 hsz9 hby9 hzs9 (by decide) (.slice no l.length nc) l.length (needsV l) (by rfl) (HN.out W1 HO.out) (some ⟨W1.heap.size, 0, none⟩) 1 1 [.string x, .int .u64 (n : Nat)] (by rfl) (by rfl) (fun _ => ⟨_, rfl, HCN.out⟩) (fun h => absurd h (by decide)) (by simp [Value.oneCell']) HTL1.out HTL2.out ?_; intro v' w4 hs hg4 ha; obtain ⟨y1, y5, y2⟩ := HF.out W1 HO.out v' w4 hs hg4 ha; have HY := Lib.hid y2; clear y2; obtain ⟨vo, vc, rfl⟩ := sl_shape hs; clear hs hg4 ha))
            all_goals
              go_wp2_with fail
              go_roundw
              case rel => exact ⟨k + 1, _, l ++ [(x, n)], r3, by go_num, by omega, HC, HY, by rw [List.length_append, List.length_singleton]; exact HL2⟩
              case measure => simp [intOf]; omega
          · have HE2 := Lib.hid (show F = (r, l) by
              rw [← HK.out]
              obtain ⟨m, hm⟩ : ∃ m, N - k = m + 1 := ⟨N - k - 1, by omega⟩
              rw [hm]; unfold needsR; rw [hbd]; rfl)
            clear hbd HK
            go_wp2_with fail
            go_meet
            exact ⟨_, _, Lib.hid (by rw [HBD.out, HE2.out]; exact HT.out)⟩
        · have q1 : decide ((k : Int) < (N : Int)) = false := by simp; omega
          have HE2 := Lib.hid (show F = (r, l) by rw [← HK.out, show N - k = 0 by omega]; rfl)
          clear hbd HK
          go_wp2_with fail
          go_meet
          exact ⟨_, _, Lib.hid (by rw [HBD.out, HE2.out]; exact HT.out)⟩
  case rest =>
    obtain ⟨kv, nv, HF⟩ := hcut
    replace HF := Lib.hid (show ∃ kv nv, RoAt 100 W0 kb rb none s.size (bodyR s[0].toNat ⟨s.extract 1 s.size, false⟩).1 kv nv (bodyR s[0].toNat ⟨s.extract 1 s.size, false⟩).2 wc from ⟨kv, nv, HF.out⟩)
    clear H0 k0

    obtain ⟨W5, HW5⟩ : ∃ W5, Hid (wc = W5) := ⟨_, Lib.hid rfl⟩
    go_upto_region 36 with fail
    rw [HW5.out] at HF ⊢
    have HOK := Lib.hid (body_ok (S := s.size) (k := s[0].toNat) s[0].toNat_lt (r := ⟨s.extract 1 s.size, false⟩) (by simp))
    obtain ⟨o, HO⟩ : ∃ o, Hid ((bodyR s[0].toNat ⟨s.extract 1 s.size, false⟩).1 = o) := ⟨_, Lib.hid rfl⟩
    obtain ⟨r, HRD⟩ : ∃ r, Hid ((bodyR s[0].toNat ⟨s.extract 1 s.size, false⟩).2 = r) := ⟨_, Lib.hid rfl⟩
    rw [HO.out, HRD.out] at HF
    rw [HO.out] at HOK
    obtain ⟨kv, nv, hf⟩ := HF.out
    clear HF q1 q2 q3 q4 q5 q6 q7 q8 q9
    obtain ⟨⟨ko, kc, rfl⟩, ⟨no, nc, rfl⟩, -, -, -, hv, -⟩ := hf.see
    have HA := Lib.hid (hf.opAt (l := ⟨ko, kc, no, nc⟩) HOK.out)
    have HF := Lib.hid hf
    clear hf hv
    obtain ⟨bd, hbd⟩ : ∃ b, r.bad = b := ⟨_, rfl⟩
    obtain ⟨my, hmy⟩ : ∃ b, mayM o = b := ⟨_, rfl⟩
    obtain ⟨B, HB⟩ : ∃ B, Hid (str (bytesL o) = B) := ⟨_, Lib.hid rfl⟩
    obtain ⟨z, hz⟩ : ∃ z, decide (B = s) = z := ⟨_, rfl⟩
    have hq2 : (B.toList == s.toList) = z := by
      rw [← hz]
      by_cases e : B = s
      · subst e; simp
      · have : B.toList ≠ s.toList := fun h => e (bytes_inj h)
        simp [e, this]
    have HMV := Lib.hid (show M = if !bd && (my && z) then (o, 0) else (op0 0, 200) from by
      rw [← HM.out]
      unfold readM goodR
      rw [HO.out, HRD.out, hbd, hmy, HB.out, hz])
    have HN := Lib.hid (show w.heap.size < W0.heap.size by rw [← HW0.out]; simp)
    have v1 := HF.out.see.2.2.2.2.2.2
    rw [hbd] at v1
    clear hbd hz
    have x0 : W5.cell? ⟨kb, 0, none⟩ = some (.int .u8 (o.k : Nat)) := cell_of HF.out.box rfl
    have x1 : W5.cell? ⟨kb, 1, none⟩ = some (.int .u32 (o.n : Nat)) := cell_of HF.out.box rfl
    have x2 : W5.cell? ⟨kb, 2, none⟩ = some (.int .u64 (o.st : Nat)) := cell_of HF.out.box rfl
    have x3 : W5.cell? ⟨kb, 3, none⟩ = some (.slice ko o.keys.length kc) := cell_of HF.out.box rfl
    have x4 : W5.cell? ⟨kb, 4, none⟩ = some (.slice no o.needs.length nc) := cell_of HF.out.box rfl
    have x5 : W5.cell? ⟨kb, 5, none⟩ = some (.string o.pred) := cell_of HF.out.box rfl
    have x6 : W5.cell? ⟨kb, 6, none⟩ = some (.int .u32 (o.g : Nat)) := cell_of HF.out.box rfl
    have x7 : W5.cell? ⟨kb, 7, none⟩ = some (.int .u32 (o.to : Nat)) := cell_of HF.out.box rfl
    have x8 : W5.cell? ⟨kb, 8, none⟩ = some (.int .u64 (o.at_ : Nat)) := cell_of HF.out.box rfl
    have HZ := Lib.hid (show W5.heap[w.heap.size]? = some (.cells (boxC (op0 0) nilS nilS) 34) from (HF.out.chg.block _ (by rw [← HW0.out]; simp) (fun f => f)).trans (by rw [← HW0.out]; exact Go.heap_alloc_new w _))
    have r0 : W5.cell? ⟨w.heap.size, 0, none⟩ = some (.int .u8 0) := cell_of HZ.out rfl
    have g0 : W5.frozen? ⟨w.heap.size, 0, none⟩ = false := frozen_of HZ.out
    have r1 : W5.cell? ⟨w.heap.size, 1, none⟩ = some (.int .u32 0) := cell_of HZ.out rfl
    have g1 : W5.frozen? ⟨w.heap.size, 1, none⟩ = false := frozen_of HZ.out
    have r2 : W5.cell? ⟨w.heap.size, 2, none⟩ = some (.int .u64 0) := cell_of HZ.out rfl
    have g2 : W5.frozen? ⟨w.heap.size, 2, none⟩ = false := frozen_of HZ.out
    have r3 : W5.cell? ⟨w.heap.size, 3, none⟩ = some (.slice none 0 0) := cell_of HZ.out rfl
    have g3 : W5.frozen? ⟨w.heap.size, 3, none⟩ = false := frozen_of HZ.out
    have r4 : W5.cell? ⟨w.heap.size, 4, none⟩ = some (.slice none 0 0) := cell_of HZ.out rfl
    have g4 : W5.frozen? ⟨w.heap.size, 4, none⟩ = false := frozen_of HZ.out
    have r5 : W5.cell? ⟨w.heap.size, 5, none⟩ = some (.string ⟨#[]⟩) := cell_of HZ.out rfl
    have g5 : W5.frozen? ⟨w.heap.size, 5, none⟩ = false := frozen_of HZ.out
    have r6 : W5.cell? ⟨w.heap.size, 6, none⟩ = some (.int .u32 0) := cell_of HZ.out rfl
    have g6 : W5.frozen? ⟨w.heap.size, 6, none⟩ = false := frozen_of HZ.out
    have r7 : W5.cell? ⟨w.heap.size, 7, none⟩ = some (.int .u32 0) := cell_of HZ.out rfl
    have g7 : W5.frozen? ⟨w.heap.size, 7, none⟩ = false := frozen_of HZ.out
    have r8 : W5.cell? ⟨w.heap.size, 8, none⟩ = some (.int .u64 0) := cell_of HZ.out rfl
    have g8 : W5.frozen? ⟨w.heap.size, 8, none⟩ = false := frozen_of HZ.out
    cases bd
    case true =>
      have HM2 := Lib.hid (show M = (op0 0, 200) from by rw [HMV.out]; first | rfl | (cases bd <;> rfl))
      have HC6 := Lib.hid ((show Chg (fun _ => False) w W0 by rw [← HW0.out]; exact (Chg.refl _ w).alloc _).trans HF.out.chg)
      clear HMV
      go_wp2_with fail
      obtain ⟨hh, hc⟩ := fin9 HZ.out (.int .u8 0) (.int .u32 0) (.int .u64 0) (.slice none 0 0) (.slice none 0 0) (.string ⟨#[]⟩) (.int .u32 0) (.int .u32 0) (.int .u64 0)
      unfold fin9W at hh hc
      refine bodyPost_ret (results_cell_row_tmp (p := 2) (u := 3) (ty := 34) rfl _ _ w.heap.size 34 _ (0, 0) _ rfl hh Try.underlying34 rfl (by kernel_rfl)) rfl ⟨nilL, ?_, ?_, ?_⟩
      · rw [HM2.out]; rfl
      · rw [HM2.out]; exact op0_at _
      · exact HC6.out.trans' hc (fun g e => Or.inr (by omega))
    case false =>
      have HMV := Lib.hid (HMV.out.trans (show _ = if (my && z) = true then (o, 0) else (op0 0, 200) from rfl))
      have RM := Lib.hid (rmay_any HA.out)
      rw [hmy] at RM
      go_wp2_with fail
      refine RM.out.mono ?_
      rintro e W6 ⟨rfl, hc⟩
      replace HF := Lib.hid (HF.out.same hc)
      replace HA := Lib.hid (HA.out.same hc)
      clear x0 x1 x2 x3 x4 x5 x6 x7 x8 r0 g0 r1 g1 r2 g2 r3 g3 r4 g4 r5 g5 r6 g6 r7 g7 r8 g8
      clear RM v1 HZ hc
      have x0 : W6.cell? ⟨kb, 0, none⟩ = some (.int .u8 (o.k : Nat)) := cell_of HF.out.box rfl
      have x1 : W6.cell? ⟨kb, 1, none⟩ = some (.int .u32 (o.n : Nat)) := cell_of HF.out.box rfl
      have x2 : W6.cell? ⟨kb, 2, none⟩ = some (.int .u64 (o.st : Nat)) := cell_of HF.out.box rfl
      have x3 : W6.cell? ⟨kb, 3, none⟩ = some (.slice ko o.keys.length kc) := cell_of HF.out.box rfl
      have x4 : W6.cell? ⟨kb, 4, none⟩ = some (.slice no o.needs.length nc) := cell_of HF.out.box rfl
      have x5 : W6.cell? ⟨kb, 5, none⟩ = some (.string o.pred) := cell_of HF.out.box rfl
      have x6 : W6.cell? ⟨kb, 6, none⟩ = some (.int .u32 (o.g : Nat)) := cell_of HF.out.box rfl
      have x7 : W6.cell? ⟨kb, 7, none⟩ = some (.int .u32 (o.to : Nat)) := cell_of HF.out.box rfl
      have x8 : W6.cell? ⟨kb, 8, none⟩ = some (.int .u64 (o.at_ : Nat)) := cell_of HF.out.box rfl
      have HZ := Lib.hid (show W6.heap[w.heap.size]? = some (.cells (boxC (op0 0) nilS nilS) 34) from (HF.out.chg.block _ (by rw [← HW0.out]; simp) (fun f => f)).trans (by rw [← HW0.out]; exact Go.heap_alloc_new w _))
      have r0 : W6.cell? ⟨w.heap.size, 0, none⟩ = some (.int .u8 0) := cell_of HZ.out rfl
      have g0 : W6.frozen? ⟨w.heap.size, 0, none⟩ = false := frozen_of HZ.out
      have r1 : W6.cell? ⟨w.heap.size, 1, none⟩ = some (.int .u32 0) := cell_of HZ.out rfl
      have g1 : W6.frozen? ⟨w.heap.size, 1, none⟩ = false := frozen_of HZ.out
      have r2 : W6.cell? ⟨w.heap.size, 2, none⟩ = some (.int .u64 0) := cell_of HZ.out rfl
      have g2 : W6.frozen? ⟨w.heap.size, 2, none⟩ = false := frozen_of HZ.out
      have r3 : W6.cell? ⟨w.heap.size, 3, none⟩ = some (.slice none 0 0) := cell_of HZ.out rfl
      have g3 : W6.frozen? ⟨w.heap.size, 3, none⟩ = false := frozen_of HZ.out
      have r4 : W6.cell? ⟨w.heap.size, 4, none⟩ = some (.slice none 0 0) := cell_of HZ.out rfl
      have g4 : W6.frozen? ⟨w.heap.size, 4, none⟩ = false := frozen_of HZ.out
      have r5 : W6.cell? ⟨w.heap.size, 5, none⟩ = some (.string ⟨#[]⟩) := cell_of HZ.out rfl
      have g5 : W6.frozen? ⟨w.heap.size, 5, none⟩ = false := frozen_of HZ.out
      have r6 : W6.cell? ⟨w.heap.size, 6, none⟩ = some (.int .u32 0) := cell_of HZ.out rfl
      have g6 : W6.frozen? ⟨w.heap.size, 6, none⟩ = false := frozen_of HZ.out
      have r7 : W6.cell? ⟨w.heap.size, 7, none⟩ = some (.int .u32 0) := cell_of HZ.out rfl
      have g7 : W6.frozen? ⟨w.heap.size, 7, none⟩ = false := frozen_of HZ.out
      have r8 : W6.cell? ⟨w.heap.size, 8, none⟩ = some (.int .u64 0) := cell_of HZ.out rfl
      have g8 : W6.frozen? ⟨w.heap.size, 8, none⟩ = false := frozen_of HZ.out
      cases my
      case false =>
        have HM2 := Lib.hid (show M = (op0 0, 200) from by rw [HMV.out]; first | rfl | (cases bd <;> rfl))
        have HC6 := Lib.hid ((show Chg (fun _ => False) w W0 by rw [← HW0.out]; exact (Chg.refl _ w).alloc _).trans HF.out.chg)
        clear HMV
        go_wp2_with fail
        obtain ⟨hh, hc⟩ := fin9 HZ.out (.int .u8 0) (.int .u32 0) (.int .u64 0) (.slice none 0 0) (.slice none 0 0) (.string ⟨#[]⟩) (.int .u32 0) (.int .u32 0) (.int .u64 0)
        unfold fin9W at hh hc
        refine bodyPost_ret (results_cell_row_tmp (p := 2) (u := 3) (ty := 34) rfl _ _ w.heap.size 34 _ (0, 0) _ rfl hh Try.underlying34 rfl (by kernel_rfl)) rfl ⟨nilL, ?_, ?_, ?_⟩
        · rw [HM2.out]; rfl
        · rw [HM2.out]; exact op0_at _
        · exact HC6.out.trans' hc (fun g e => Or.inr (by omega))
      case true =>
        have HMV := Lib.hid (HMV.out.trans (show _ = if z = true then (o, 0) else (op0 0, 200) by simp))
        have RB := Lib.hid (rbytes_any HA.out hmy)
        rw [HB.out] at RB
        go_wp2_with fail
        refine RB.out.mono ?_
        rintro e W7 ⟨rfl, hc⟩
        replace HF := Lib.hid (HF.out.same hc)
        replace HA := Lib.hid (HA.out.same hc)
        clear x0 x1 x2 x3 x4 x5 x6 x7 x8 r0 g0 r1 g1 r2 g2 r3 g3 r4 g4 r5 g5 r6 g6 r7 g7 r8 g8
        clear RB HZ hc
        have x0 : W7.cell? ⟨kb, 0, none⟩ = some (.int .u8 (o.k : Nat)) := cell_of HF.out.box rfl
        have x1 : W7.cell? ⟨kb, 1, none⟩ = some (.int .u32 (o.n : Nat)) := cell_of HF.out.box rfl
        have x2 : W7.cell? ⟨kb, 2, none⟩ = some (.int .u64 (o.st : Nat)) := cell_of HF.out.box rfl
        have x3 : W7.cell? ⟨kb, 3, none⟩ = some (.slice ko o.keys.length kc) := cell_of HF.out.box rfl
        have x4 : W7.cell? ⟨kb, 4, none⟩ = some (.slice no o.needs.length nc) := cell_of HF.out.box rfl
        have x5 : W7.cell? ⟨kb, 5, none⟩ = some (.string o.pred) := cell_of HF.out.box rfl
        have x6 : W7.cell? ⟨kb, 6, none⟩ = some (.int .u32 (o.g : Nat)) := cell_of HF.out.box rfl
        have x7 : W7.cell? ⟨kb, 7, none⟩ = some (.int .u32 (o.to : Nat)) := cell_of HF.out.box rfl
        have x8 : W7.cell? ⟨kb, 8, none⟩ = some (.int .u64 (o.at_ : Nat)) := cell_of HF.out.box rfl
        have HZ := Lib.hid (show W7.heap[w.heap.size]? = some (.cells (boxC (op0 0) nilS nilS) 34) from (HF.out.chg.block _ (by rw [← HW0.out]; simp) (fun f => f)).trans (by rw [← HW0.out]; exact Go.heap_alloc_new w _))
        have r0 : W7.cell? ⟨w.heap.size, 0, none⟩ = some (.int .u8 0) := cell_of HZ.out rfl
        have g0 : W7.frozen? ⟨w.heap.size, 0, none⟩ = false := frozen_of HZ.out
        have r1 : W7.cell? ⟨w.heap.size, 1, none⟩ = some (.int .u32 0) := cell_of HZ.out rfl
        have g1 : W7.frozen? ⟨w.heap.size, 1, none⟩ = false := frozen_of HZ.out
        have r2 : W7.cell? ⟨w.heap.size, 2, none⟩ = some (.int .u64 0) := cell_of HZ.out rfl
        have g2 : W7.frozen? ⟨w.heap.size, 2, none⟩ = false := frozen_of HZ.out
        have r3 : W7.cell? ⟨w.heap.size, 3, none⟩ = some (.slice none 0 0) := cell_of HZ.out rfl
        have g3 : W7.frozen? ⟨w.heap.size, 3, none⟩ = false := frozen_of HZ.out
        have r4 : W7.cell? ⟨w.heap.size, 4, none⟩ = some (.slice none 0 0) := cell_of HZ.out rfl
        have g4 : W7.frozen? ⟨w.heap.size, 4, none⟩ = false := frozen_of HZ.out
        have r5 : W7.cell? ⟨w.heap.size, 5, none⟩ = some (.string ⟨#[]⟩) := cell_of HZ.out rfl
        have g5 : W7.frozen? ⟨w.heap.size, 5, none⟩ = false := frozen_of HZ.out
        have r6 : W7.cell? ⟨w.heap.size, 6, none⟩ = some (.int .u32 0) := cell_of HZ.out rfl
        have g6 : W7.frozen? ⟨w.heap.size, 6, none⟩ = false := frozen_of HZ.out
        have r7 : W7.cell? ⟨w.heap.size, 7, none⟩ = some (.int .u32 0) := cell_of HZ.out rfl
        have g7 : W7.frozen? ⟨w.heap.size, 7, none⟩ = false := frozen_of HZ.out
        have r8 : W7.cell? ⟨w.heap.size, 8, none⟩ = some (.int .u64 0) := cell_of HZ.out rfl
        have g8 : W7.frozen? ⟨w.heap.size, 8, none⟩ = false := frozen_of HZ.out
        cases z
        case false =>
          have HM2 := Lib.hid (show M = (op0 0, 200) from by rw [HMV.out]; first | rfl | (cases bd <;> rfl))
          have HC6 := Lib.hid ((show Chg (fun _ => False) w W0 by rw [← HW0.out]; exact (Chg.refl _ w).alloc _).trans HF.out.chg)
          clear HMV
          go_wp2_with fail
          obtain ⟨hh, hc⟩ := fin9 HZ.out (.int .u8 0) (.int .u32 0) (.int .u64 0) (.slice none 0 0) (.slice none 0 0) (.string ⟨#[]⟩) (.int .u32 0) (.int .u32 0) (.int .u64 0)
          unfold fin9W at hh hc
          refine bodyPost_ret (results_cell_row_tmp (p := 2) (u := 3) (ty := 34) rfl _ _ w.heap.size 34 _ (0, 0) _ rfl hh Try.underlying34 rfl (by kernel_rfl)) rfl ⟨nilL, ?_, ?_, ?_⟩
          · rw [HM2.out]; rfl
          · rw [HM2.out]; exact op0_at _
          · exact HC6.out.trans' hc (fun g e => Or.inr (by omega))
        case true =>
          have HC6 := Lib.hid ((show Chg (fun _ => False) w W0 by rw [← HW0.out]; exact (Chg.refl _ w).alloc _).trans HF.out.chg)
          go_wp2_with fail
          obtain ⟨hh, hc⟩ := fin9 HZ.out (.int .u8 (o.k : Nat)) (.int .u32 (o.n : Nat)) (.int .u64 (o.st : Nat)) (.slice ko o.keys.length kc) (.slice no o.needs.length nc) (.string o.pred) (.int .u32 (o.g : Nat)) (.int .u32 (o.to : Nat)) (.int .u64 (o.at_ : Nat))
          unfold fin9W at hh hc
          refine bodyPost_ret (results_cell_row_tmp (p := 2) (u := 3) (ty := 34) rfl _ _ w.heap.size 34 _ (0, 0) _ rfl hh Try.underlying34 rfl (by kernel_rfl)) rfl ⟨⟨ko, kc, no, nc⟩, ?_, ?_, ?_⟩
          · rw [HMV.out]; rfl
          · rw [HMV.out]
            refine HA.out.apart9 HZ.out hc (fun g oo e => ?_) (fun g oo e => ?_)
            · have := HF.out.ko g (by simp only at e; rw [e]; rfl)
              have := HN.out
              omega
            · have := HF.out.no g (by simp only at e; rw [e]; rfl)
              have := HN.out
              omega
          · exact HC6.out.trans' hc (fun g e => Or.inr (by omega))

end Go.Proofs.Ytgmmglmokkcgeaa
