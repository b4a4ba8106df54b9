/- Walks: Read, one kind. -/
import Derived.Test.YtgmmglmokkcgeaaF6
namespace Go.Proofs.Ytgmmglmokkcgeaa
set_option linter.unusedVariables false
set_option linter.unusedSimpArgs false
open Go.RowKit Mk Go.Sort


set_option maxRecDepth 100000 in
set_option maxHeartbeats 4000000 in
theorem read_1 {w : World} {s : ByteArray} (h1 : 0 < s.size) (hs : s.size ≤ 1099511627776) (hk : s[0].toNat = 1) :
    Calls Try.prog 21 #[.string s] w fun e w' => ∃ l, e = .returned (.tuple #[.agg (opC (readM s[0].toNat s).1 l), .int .i64 ((readM s[0].toNat s).2 : Nat)]) ∧ OpAt w' (readM s[0].toNat s).1 l ∧ Chg (fun _ => False) w w' := by
  obtain ⟨M, HM⟩ : ∃ M, Hid (readM s[0].toNat s = M) := ⟨_, Lib.hid rfl⟩
  rw [HM.out]
  have hq := bytes_isEmpty s
  have hd : decide (s.size = 0) = false := decide_eq_false (by omega)
  rw [hd] at hq
  clear hd
  have b1 : (1 : Int) ≤ s.size := by omega
  have b2 : (0 : Int) < s.size := by omega
  have b3 : decide ((1 : Int) ≤ s.size) = true := by simp; omega
  have b4 : decide (1 ≤ s.size) = true := by simp; omega
  have q1 : (((s[0].toNat : Nat) : Int) == 1) = true := by rw [hk]; rfl
  have q2 : (((s[0].toNat : Nat) : Int) == 2) = false := by rw [hk]; rfl
  have q3 : (((s[0].toNat : Nat) : Int) == 3) = false := by rw [hk]; rfl
  have q4 : (((s[0].toNat : Nat) : Int) == 4) = false := by rw [hk]; rfl
  have q5 : (((s[0].toNat : Nat) : Int) == 5) = false := by rw [hk]; rfl
  have q6 : (((s[0].toNat : Nat) : Int) == 6) = false := by rw [hk]; rfl
  have q7 : (((s[0].toNat : Nat) : Int) == 7) = false := by rw [hk]; rfl
  have q8 : (((s[0].toNat : Nat) : Int) == 8) = false := by rw [hk]; rfl
  have q9 : (((s[0].toNat : Nat) : Int) == 9) = false := by rw [hk]; rfl
  have HK := Lib.hid hk
  clear hk

  go_enter Try.func21, Try.ntmps21
  go_upto_region 5 with fail
  have h0 : RoAt 94 (w.alloc (.cells #[.int .u8 0, .int .u32 0, .int .u64 0, .slice none 0 0, .slice none 0 0, .string ⟨#[]⟩, .int .u32 0, .int .u32 0, .int .u64 0] 34)) (w.heap.size + 1 + 1 + 1) (w.heap.size + 1) (some (w.heap.size + 1 + 1)) s.size (op0 s[0].toNat) nilS nilS ⟨s.extract 1 s.size, false⟩ ((((w.alloc (.cells #[.int .u8 0, .int .u32 0, .int .u64 0, .slice none 0 0, .slice none 0 0, .string ⟨#[]⟩, .int .u32 0, .int .u32 0, .int .u64 0] 34)).alloc (.cells #[.string (s.extract 1 s.size), .bool false] 94)).alloc (.cells #[.pointer (some ⟨w.heap.size + 1, 0, none⟩)] 92)).alloc (.cells #[.int .u8 (s[0].toNat : Nat), .int .u32 0, .int .u64 0, .slice none 0 0, .slice none 0 0, .string ⟨#[]⟩, .int .u32 0, .int .u32 0, .int .u64 0] 34)) := by
    have := read_begin (w.alloc (.cells #[.int .u8 0, .int .u32 0, .int .u64 0, .slice none 0 0, .slice none 0 0, .string ⟨#[]⟩, .int .u32 0, .int .u32 0, .int .u64 0] 34)) 94 (Or.inl rfl) (s.extract 1 s.size) (k := s[0].toNat) (S := s.size) (by simp) hs
    rw [World.size_alloc] at this
    exact this
  obtain ⟨W4, HW4⟩ : ∃ W, Hid (((((w.alloc (.cells #[.int .u8 0, .int .u32 0, .int .u64 0, .slice none 0 0, .slice none 0 0, .string ⟨#[]⟩, .int .u32 0, .int .u32 0, .int .u64 0] 34)).alloc (.cells #[.string (s.extract 1 s.size), .bool false] 94)).alloc (.cells #[.pointer (some ⟨w.heap.size + 1, 0, none⟩)] 92)).alloc (.cells #[.int .u8 (s[0].toNat : Nat), .int .u32 0, .int .u64 0, .slice none 0 0, .slice none 0 0, .string ⟨#[]⟩, .int .u32 0, .int .u32 0, .int .u64 0] 34)) = W) := ⟨_, Lib.hid rfl⟩
  obtain ⟨W0, HW0⟩ : ∃ W, Hid (w.alloc (.cells #[.int .u8 0, .int .u32 0, .int .u64 0, .slice none 0 0, .slice none 0 0, .string ⟨#[]⟩, .int .u32 0, .int .u32 0, .int .u64 0] 34) = W) := ⟨_, Lib.hid rfl⟩
  obtain ⟨kb, HKB⟩ : ∃ kb, Hid (w.heap.size + 1 + 1 + 1 = kb) := ⟨_, Lib.hid rfl⟩
  obtain ⟨vb, HVB⟩ : ∃ vb, Hid (w.heap.size + 1 + 1 = vb) := ⟨_, Lib.hid rfl⟩
  obtain ⟨rb, HRB⟩ : ∃ rb, Hid (w.heap.size + 1 = rb) := ⟨_, Lib.hid rfl⟩
  obtain ⟨S, HS⟩ : ∃ S, Hid (s.size = S) := ⟨_, Lib.hid rfl⟩
  rw [HW4.out] at h0 ⊢
  rw [HW0.out] at h0
  rw [HKB.out, HVB.out, HRB.out] at h0 ⊢
  have H0 := Lib.hid h0
  have k0 : W4.cell? ⟨kb, 0, none⟩ = some (.int .u8 (s[0].toNat : Nat)) := h0.see.2.2.2.2.1
  clear h0
  have C0 := Lib.hid ((rdsmall_any H0.out.rd (Nat.le_trans H0.out.sz H0.out.S)).mono fun e W' hh => show e = .returned (.int .u32 ((smallR (⟨s.extract 1 s.size, false⟩ : RdS)).1 : Nat)) ∧ (RoAt 94 W0 kb rb (some vb) s.size { (op0 s[0].toNat) with n := (smallR (⟨s.extract 1 s.size, false⟩ : RdS)).1 } nilS nilS (smallR (⟨s.extract 1 s.size, false⟩ : RdS)).2 (W'.setCell ⟨kb, 1, none⟩ (.int .u32 ((smallR (⟨s.extract 1 s.size, false⟩ : RdS)).1 : Nat))) ∧ W'.frozen? ⟨kb, 1, none⟩ = false ∧ W'.cell? ⟨kb, 1, none⟩ = some (.int .u32 (((op0 s[0].toNat)).n : Nat))) from ⟨hh.1, ((H0.out.read hh.2.1 hh.2.2 (smallR_le (⟨s.extract 1 s.size, false⟩ : RdS)).1).set_n (smallR (⟨s.extract 1 s.size, false⟩ : RdS)).1).2, ((H0.out.read hh.2.1 hh.2.2 (smallR_le (⟨s.extract 1 s.size, false⟩ : RdS)).1).set_n (smallR (⟨s.extract 1 s.size, false⟩ : RdS)).1).1, cell_of (H0.out.read hh.2.1 hh.2.2 (smallR_le (⟨s.extract 1 s.size, false⟩ : RdS)).1).box rfl⟩)
  have v0 := H0.out.see.2.2.2.2.2.1 vb rfl
  clear H0
  go_wp2_with fail
  refine C0.out.mono ?_
  rintro e Wk0 ⟨rfl, h0, f0, c0⟩
  have H1 := Lib.hid h0
  clear h0 C0 v0
  have HF := Lib.hid (show ∃ kv nv, RoAt 94 W0 kb rb (some vb) s.size (bodyR s[0].toNat ⟨s.extract 1 s.size, false⟩).1 kv nv (bodyR s[0].toNat ⟨s.extract 1 s.size, false⟩).2 _ from ⟨_, _, by
    have hh := H1.out
    rw [HK.out] at hh ⊢
    exact hh⟩)

  obtain ⟨W5, HW5⟩ : ∃ W5, Hid (Wk0.setCell ⟨kb, 1, none⟩ (.int .u32 ((smallR (⟨s.extract 1 s.size, false⟩ : RdS)).1 : Nat)) = W5) := ⟨_, Lib.hid rfl⟩
  go_upto_region 27 with fail
  rw [HW5.out] at HF ⊢
  have HOK := Lib.hid (body_ok (S := s.size) (k := s[0].toNat) s[0].toNat_lt (r := ⟨s.extract 1 s.size, false⟩) (by simp))
  obtain ⟨o, HO⟩ : ∃ o, Hid ((bodyR s[0].toNat ⟨s.extract 1 s.size, false⟩).1 = o) := ⟨_, Lib.hid rfl⟩
  obtain ⟨r, HRD⟩ : ∃ r, Hid ((bodyR s[0].toNat ⟨s.extract 1 s.size, false⟩).2 = r) := ⟨_, Lib.hid rfl⟩
  rw [HO.out, HRD.out] at HF
  rw [HO.out] at HOK
  obtain ⟨kv, nv, hf⟩ := HF.out
  clear HF q1 q2 q3 q4 q5 q6 q7 q8 q9
  obtain ⟨⟨ko, kc, rfl⟩, ⟨no, nc, rfl⟩, -, -, -, hv, -⟩ := hf.see
  have HA := Lib.hid (hf.opAt (l := ⟨ko, kc, no, nc⟩) HOK.out)
  have BY := Lib.hid (bytes_any HA.out)
  have x0 : W5.cell? ⟨kb, 0, none⟩ = some (.int .u8 (o.k : Nat)) := cell_of hf.box rfl
  have x1 : W5.cell? ⟨kb, 1, none⟩ = some (.int .u32 (o.n : Nat)) := cell_of hf.box rfl
  have x2 : W5.cell? ⟨kb, 2, none⟩ = some (.int .u64 (o.st : Nat)) := cell_of hf.box rfl
  have x3 : W5.cell? ⟨kb, 3, none⟩ = some (.slice ko o.keys.length kc) := cell_of hf.box rfl
  have x4 : W5.cell? ⟨kb, 4, none⟩ = some (.slice no o.needs.length nc) := cell_of hf.box rfl
  have x5 : W5.cell? ⟨kb, 5, none⟩ = some (.string o.pred) := cell_of hf.box rfl
  have x6 : W5.cell? ⟨kb, 6, none⟩ = some (.int .u32 (o.g : Nat)) := cell_of hf.box rfl
  have x7 : W5.cell? ⟨kb, 7, none⟩ = some (.int .u32 (o.to : Nat)) := cell_of hf.box rfl
  have x8 : W5.cell? ⟨kb, 8, none⟩ = some (.int .u64 (o.at_ : Nat)) := cell_of hf.box rfl
  have HF := Lib.hid hf
  clear hf hv
  go_wp2_with fail
  refine BY.out.mono ?_
  rintro e W6 ⟨rfl, hc⟩
  have HF6 := Lib.hid (HF.out.same hc)
  have HA6 := Lib.hid (HA.out.same hc)
  clear HF HA BY x0 x1 x2 x3 x4 x5 x6 x7 x8 hc
  have v0 := HF6.out.see.2.2.2.2.2.1 vb rfl
  have v1 := HF6.out.see.2.2.2.2.2.2
  have x0 : W6.cell? ⟨kb, 0, none⟩ = some (.int .u8 (o.k : Nat)) := cell_of HF6.out.box rfl
  have x1 : W6.cell? ⟨kb, 1, none⟩ = some (.int .u32 (o.n : Nat)) := cell_of HF6.out.box rfl
  have x2 : W6.cell? ⟨kb, 2, none⟩ = some (.int .u64 (o.st : Nat)) := cell_of HF6.out.box rfl
  have x3 : W6.cell? ⟨kb, 3, none⟩ = some (.slice ko o.keys.length kc) := cell_of HF6.out.box rfl
  have x4 : W6.cell? ⟨kb, 4, none⟩ = some (.slice no o.needs.length nc) := cell_of HF6.out.box rfl
  have x5 : W6.cell? ⟨kb, 5, none⟩ = some (.string o.pred) := cell_of HF6.out.box rfl
  have x6 : W6.cell? ⟨kb, 6, none⟩ = some (.int .u32 (o.g : Nat)) := cell_of HF6.out.box rfl
  have x7 : W6.cell? ⟨kb, 7, none⟩ = some (.int .u32 (o.to : Nat)) := cell_of HF6.out.box rfl
  have x8 : W6.cell? ⟨kb, 8, none⟩ = some (.int .u64 (o.at_ : Nat)) := cell_of HF6.out.box rfl
  have HZ := Lib.hid (show W6.heap[w.heap.size]? = some (.cells (boxC (op0 0) nilS nilS) 34) from (HF6.out.chg.block _ (by rw [← HW0.out]; simp) (fun f => f)).trans (by rw [← HW0.out]; exact Go.heap_alloc_new w _))
  have r0 : W6.cell? ⟨w.heap.size, 0, none⟩ = some (.int .u8 0) := cell_of HZ.out rfl
  have g0 : W6.frozen? ⟨w.heap.size, 0, none⟩ = false := frozen_of HZ.out
  have r1 : W6.cell? ⟨w.heap.size, 1, none⟩ = some (.int .u32 0) := cell_of HZ.out rfl
  have g1 : W6.frozen? ⟨w.heap.size, 1, none⟩ = false := frozen_of HZ.out
  have r2 : W6.cell? ⟨w.heap.size, 2, none⟩ = some (.int .u64 0) := cell_of HZ.out rfl
  have g2 : W6.frozen? ⟨w.heap.size, 2, none⟩ = false := frozen_of HZ.out
  have r3 : W6.cell? ⟨w.heap.size, 3, none⟩ = some (.slice none 0 0) := cell_of HZ.out rfl
  have g3 : W6.frozen? ⟨w.heap.size, 3, none⟩ = false := frozen_of HZ.out
  have r4 : W6.cell? ⟨w.heap.size, 4, none⟩ = some (.slice none 0 0) := cell_of HZ.out rfl
  have g4 : W6.frozen? ⟨w.heap.size, 4, none⟩ = false := frozen_of HZ.out
  have r5 : W6.cell? ⟨w.heap.size, 5, none⟩ = some (.string ⟨#[]⟩) := cell_of HZ.out rfl
  have g5 : W6.frozen? ⟨w.heap.size, 5, none⟩ = false := frozen_of HZ.out
  have r6 : W6.cell? ⟨w.heap.size, 6, none⟩ = some (.int .u32 0) := cell_of HZ.out rfl
  have g6 : W6.frozen? ⟨w.heap.size, 6, none⟩ = false := frozen_of HZ.out
  have r7 : W6.cell? ⟨w.heap.size, 7, none⟩ = some (.int .u32 0) := cell_of HZ.out rfl
  have g7 : W6.frozen? ⟨w.heap.size, 7, none⟩ = false := frozen_of HZ.out
  have r8 : W6.cell? ⟨w.heap.size, 8, none⟩ = some (.int .u64 0) := cell_of HZ.out rfl
  have g8 : W6.frozen? ⟨w.heap.size, 8, none⟩ = false := frozen_of HZ.out
  obtain ⟨B, HB⟩ : ∃ B, Hid (bytesM o = B) := ⟨_, Lib.hid rfl⟩
  rw [HB.out]
  obtain ⟨bd, hbd⟩ : ∃ b, r.bad = b := ⟨_, rfl⟩
  obtain ⟨my, hmy⟩ : ∃ b, mayM o = b := ⟨_, rfl⟩
  obtain ⟨z, hz⟩ : ∃ z, decide (B = s) = z := ⟨_, rfl⟩
  have hq2 : (B.toList == s.toList) = z := by
    rw [← hz]
    by_cases e : B = s
    · subst e; simp
    · have : B.toList ≠ s.toList := fun h => e (bytes_inj h)
      simp [e, this]
  have HMV := Lib.hid (show M = if !bd && (my && z) then (o, 0) else (op0 0, 200) from by
    rw [← HM.out]
    unfold readM goodR
    rw [HO.out, HRD.out, hbd, hmy]
    cases my
    · simp
    · have : str (bytesL o) = B := by rw [← HB.out]; unfold bytesM; rw [hmy]; rfl
      rw [this, hz])
  have HC6 := Lib.hid (show Chg (fun _ => False) w W6 from (show Chg (fun _ => False) w W0 by rw [← HW0.out]; exact (Chg.refl _ w).alloc _).trans HF6.out.chg)
  have HN := Lib.hid (show w.heap.size < W0.heap.size by rw [← HW0.out]; simp)
  rw [hbd] at v1
  rw [hmy]
  clear hbd hmy hz
  cases bd
  case true =>
    clear hq2
    generalize (ite (my = true) (0 : Int) 200) = cc
    have HM2 := Lib.hid (show M = (op0 0, 200) from by rw [HMV.out]; rfl)
    clear HMV
    go_wp2_with fail
    obtain ⟨hh, hc⟩ := fin9 HZ.out (.int .u8 0) (.int .u32 0) (.int .u64 0) (.slice none 0 0) (.slice none 0 0) (.string ⟨#[]⟩) (.int .u32 0) (.int .u32 0) (.int .u64 0)
    unfold fin9W at hh hc
    refine bodyPost_ret (results_cell_row_tmp (p := 2) (u := 3) (ty := 34) rfl _ _ w.heap.size 34 _ (0, 0) _ rfl hh Try.underlying34 rfl (by kernel_rfl)) rfl ⟨nilL, ?_, ?_, ?_⟩
    · rw [HM2.out]; rfl
    · rw [HM2.out]; exact op0_at _
    · exact HC6.out.trans' hc (fun g e => Or.inr (by omega))
  case false =>
    cases my
    case false =>
      clear hq2
      have HM2 := Lib.hid (show M = (op0 0, 200) from by rw [HMV.out]; rfl)
      clear HMV
      go_wp2_with fail
      obtain ⟨hh, hc⟩ := fin9 HZ.out (.int .u8 0) (.int .u32 0) (.int .u64 0) (.slice none 0 0) (.slice none 0 0) (.string ⟨#[]⟩) (.int .u32 0) (.int .u32 0) (.int .u64 0)
      unfold fin9W at hh hc
      refine bodyPost_ret (results_cell_row_tmp (p := 2) (u := 3) (ty := 34) rfl _ _ w.heap.size 34 _ (0, 0) _ rfl hh Try.underlying34 rfl (by kernel_rfl)) rfl ⟨nilL, ?_, ?_, ?_⟩
      · rw [HM2.out]; rfl
      · rw [HM2.out]; exact op0_at _
      · exact HC6.out.trans' hc (fun g e => Or.inr (by omega))
    case true =>
      cases z
      case false =>
        have HM2 := Lib.hid (show M = (op0 0, 200) from by rw [HMV.out]; rfl)
        clear HMV
        go_wp2_with fail
        obtain ⟨hh, hc⟩ := fin9 HZ.out (.int .u8 0) (.int .u32 0) (.int .u64 0) (.slice none 0 0) (.slice none 0 0) (.string ⟨#[]⟩) (.int .u32 0) (.int .u32 0) (.int .u64 0)
        unfold fin9W at hh hc
        refine bodyPost_ret (results_cell_row_tmp (p := 2) (u := 3) (ty := 34) rfl _ _ w.heap.size 34 _ (0, 0) _ rfl hh Try.underlying34 rfl (by kernel_rfl)) rfl ⟨nilL, ?_, ?_, ?_⟩
        · rw [HM2.out]; rfl
        · rw [HM2.out]; exact op0_at _
        · exact HC6.out.trans' hc (fun g e => Or.inr (by omega))
      case true =>
        go_wp2_with fail
        obtain ⟨hh, hc⟩ := fin9 HZ.out (.int .u8 (o.k : Nat)) (.int .u32 (o.n : Nat)) (.int .u64 (o.st : Nat)) (.slice ko o.keys.length kc) (.slice no o.needs.length nc) (.string o.pred) (.int .u32 (o.g : Nat)) (.int .u32 (o.to : Nat)) (.int .u64 (o.at_ : Nat))
        unfold fin9W at hh hc
        refine bodyPost_ret (results_cell_row_tmp (p := 2) (u := 3) (ty := 34) rfl _ _ w.heap.size 34 _ (0, 0) _ rfl hh Try.underlying34 rfl (by kernel_rfl)) rfl ⟨⟨ko, kc, no, nc⟩, ?_, ?_, ?_⟩
        · rw [HMV.out]; rfl
        · rw [HMV.out]
          refine HA6.out.apart9 HZ.out hc (fun g oo e => ?_) (fun g oo e => ?_)
          · have := HF6.out.ko g (by simp only at e; rw [e]; rfl)
            have := HN.out
            omega
          · have := HF6.out.no g (by simp only at e; rw [e]; rfl)
            have := HN.out
            omega
        · exact HC6.out.trans' hc (fun g e => Or.inr (by omega))

end Go.Proofs.Ytgmmglmokkcgeaa
/- Walks: Read, one kind. -/
namespace Go.Proofs.Ytgmmglmokkcgeaa
set_option linter.unusedVariables false
set_option linter.unusedSimpArgs false
open Go.RowKit Mk Go.Sort


set_option maxRecDepth 100000 in
set_option maxHeartbeats 4000000 in
theorem read_2 {w : World} {s : ByteArray} (h1 : 0 < s.size) (hs : s.size ≤ 1099511627776) (hk : s[0].toNat = 2) :
    Calls Try.prog 21 #[.string s] w fun e w' => ∃ l, e = .returned (.tuple #[.agg (opC (readM s[0].toNat s).1 l), .int .i64 ((readM s[0].toNat s).2 : Nat)]) ∧ OpAt w' (readM s[0].toNat s).1 l ∧ Chg (fun _ => False) w w' := by
  obtain ⟨M, HM⟩ : ∃ M, Hid (readM s[0].toNat s = M) := ⟨_, Lib.hid rfl⟩
  rw [HM.out]
  have hq := bytes_isEmpty s
  have hd : decide (s.size = 0) = false := decide_eq_false (by omega)
  rw [hd] at hq
  clear hd
  have b1 : (1 : Int) ≤ s.size := by omega
  have b2 : (0 : Int) < s.size := by omega
  have b3 : decide ((1 : Int) ≤ s.size) = true := by simp; omega
  have b4 : decide (1 ≤ s.size) = true := by simp; omega
  have q1 : (((s[0].toNat : Nat) : Int) == 1) = false := by rw [hk]; rfl
  have q2 : (((s[0].toNat : Nat) : Int) == 2) = true := by rw [hk]; rfl
  have q3 : (((s[0].toNat : Nat) : Int) == 3) = false := by rw [hk]; rfl
  have q4 : (((s[0].toNat : Nat) : Int) == 4) = false := by rw [hk]; rfl
  have q5 : (((s[0].toNat : Nat) : Int) == 5) = false := by rw [hk]; rfl
  have q6 : (((s[0].toNat : Nat) : Int) == 6) = false := by rw [hk]; rfl
  have q7 : (((s[0].toNat : Nat) : Int) == 7) = false := by rw [hk]; rfl
  have q8 : (((s[0].toNat : Nat) : Int) == 8) = false := by rw [hk]; rfl
  have q9 : (((s[0].toNat : Nat) : Int) == 9) = false := by rw [hk]; rfl
  have HK := Lib.hid hk
  clear hk

  go_enter Try.func21, Try.ntmps21
  go_upto_region 5 with fail
  have h0 : RoAt 94 (w.alloc (.cells #[.int .u8 0, .int .u32 0, .int .u64 0, .slice none 0 0, .slice none 0 0, .string ⟨#[]⟩, .int .u32 0, .int .u32 0, .int .u64 0] 34)) (w.heap.size + 1 + 1 + 1) (w.heap.size + 1) (some (w.heap.size + 1 + 1)) s.size (op0 s[0].toNat) nilS nilS ⟨s.extract 1 s.size, false⟩ ((((w.alloc (.cells #[.int .u8 0, .int .u32 0, .int .u64 0, .slice none 0 0, .slice none 0 0, .string ⟨#[]⟩, .int .u32 0, .int .u32 0, .int .u64 0] 34)).alloc (.cells #[.string (s.extract 1 s.size), .bool false] 94)).alloc (.cells #[.pointer (some ⟨w.heap.size + 1, 0, none⟩)] 92)).alloc (.cells #[.int .u8 (s[0].toNat : Nat), .int .u32 0, .int .u64 0, .slice none 0 0, .slice none 0 0, .string ⟨#[]⟩, .int .u32 0, .int .u32 0, .int .u64 0] 34)) := by
    have := read_begin (w.alloc (.cells #[.int .u8 0, .int .u32 0, .int .u64 0, .slice none 0 0, .slice none 0 0, .string ⟨#[]⟩, .int .u32 0, .int .u32 0, .int .u64 0] 34)) 94 (Or.inl rfl) (s.extract 1 s.size) (k := s[0].toNat) (S := s.size) (by simp) hs
    rw [World.size_alloc] at this
    exact this
  obtain ⟨W4, HW4⟩ : ∃ W, Hid (((((w.alloc (.cells #[.int .u8 0, .int .u32 0, .int .u64 0, .slice none 0 0, .slice none 0 0, .string ⟨#[]⟩, .int .u32 0, .int .u32 0, .int .u64 0] 34)).alloc (.cells #[.string (s.extract 1 s.size), .bool false] 94)).alloc (.cells #[.pointer (some ⟨w.heap.size + 1, 0, none⟩)] 92)).alloc (.cells #[.int .u8 (s[0].toNat : Nat), .int .u32 0, .int .u64 0, .slice none 0 0, .slice none 0 0, .string ⟨#[]⟩, .int .u32 0, .int .u32 0, .int .u64 0] 34)) = W) := ⟨_, Lib.hid rfl⟩
  obtain ⟨W0, HW0⟩ : ∃ W, Hid (w.alloc (.cells #[.int .u8 0, .int .u32 0, .int .u64 0, .slice none 0 0, .slice none 0 0, .string ⟨#[]⟩, .int .u32 0, .int .u32 0, .int .u64 0] 34) = W) := ⟨_, Lib.hid rfl⟩
  obtain ⟨kb, HKB⟩ : ∃ kb, Hid (w.heap.size + 1 + 1 + 1 = kb) := ⟨_, Lib.hid rfl⟩
  obtain ⟨vb, HVB⟩ : ∃ vb, Hid (w.heap.size + 1 + 1 = vb) := ⟨_, Lib.hid rfl⟩
  obtain ⟨rb, HRB⟩ : ∃ rb, Hid (w.heap.size + 1 = rb) := ⟨_, Lib.hid rfl⟩
  obtain ⟨S, HS⟩ : ∃ S, Hid (s.size = S) := ⟨_, Lib.hid rfl⟩
  rw [HW4.out] at h0 ⊢
  rw [HW0.out] at h0
  rw [HKB.out, HVB.out, HRB.out] at h0 ⊢
  have H0 := Lib.hid h0
  have k0 : W4.cell? ⟨kb, 0, none⟩ = some (.int .u8 (s[0].toNat : Nat)) := h0.see.2.2.2.2.1
  clear h0
  have C0 := Lib.hid ((rdsmall_any H0.out.rd (Nat.le_trans H0.out.sz H0.out.S)).mono fun e W' hh => show e = .returned (.int .u32 ((smallR (⟨s.extract 1 s.size, false⟩ : RdS)).1 : Nat)) ∧ (RoAt 94 W0 kb rb (some vb) s.size { (op0 s[0].toNat) with n := (smallR (⟨s.extract 1 s.size, false⟩ : RdS)).1 } nilS nilS (smallR (⟨s.extract 1 s.size, false⟩ : RdS)).2 (W'.setCell ⟨kb, 1, none⟩ (.int .u32 ((smallR (⟨s.extract 1 s.size, false⟩ : RdS)).1 : Nat))) ∧ W'.frozen? ⟨kb, 1, none⟩ = false ∧ W'.cell? ⟨kb, 1, none⟩ = some (.int .u32 (((op0 s[0].toNat)).n : Nat))) from ⟨hh.1, ((H0.out.read hh.2.1 hh.2.2 (smallR_le (⟨s.extract 1 s.size, false⟩ : RdS)).1).set_n (smallR (⟨s.extract 1 s.size, false⟩ : RdS)).1).2, ((H0.out.read hh.2.1 hh.2.2 (smallR_le (⟨s.extract 1 s.size, false⟩ : RdS)).1).set_n (smallR (⟨s.extract 1 s.size, false⟩ : RdS)).1).1, cell_of (H0.out.read hh.2.1 hh.2.2 (smallR_le (⟨s.extract 1 s.size, false⟩ : RdS)).1).box rfl⟩)
  have v0 := H0.out.see.2.2.2.2.2.1 vb rfl
  clear H0
  go_wp2_with fail
  refine C0.out.mono ?_
  rintro e Wk0 ⟨rfl, h0, f0, c0⟩
  have H1 := Lib.hid h0
  clear h0 C0 v0
  have HF := Lib.hid (show ∃ kv nv, RoAt 94 W0 kb rb (some vb) s.size (bodyR s[0].toNat ⟨s.extract 1 s.size, false⟩).1 kv nv (bodyR s[0].toNat ⟨s.extract 1 s.size, false⟩).2 _ from ⟨_, _, by
    have hh := H1.out
    rw [HK.out] at hh ⊢
    exact hh⟩)

  obtain ⟨W5, HW5⟩ : ∃ W5, Hid (Wk0.setCell ⟨kb, 1, none⟩ (.int .u32 ((smallR (⟨s.extract 1 s.size, false⟩ : RdS)).1 : Nat)) = W5) := ⟨_, Lib.hid rfl⟩
  go_upto_region 27 with fail
  rw [HW5.out] at HF ⊢
  have HOK := Lib.hid (body_ok (S := s.size) (k := s[0].toNat) s[0].toNat_lt (r := ⟨s.extract 1 s.size, false⟩) (by simp))
  obtain ⟨o, HO⟩ : ∃ o, Hid ((bodyR s[0].toNat ⟨s.extract 1 s.size, false⟩).1 = o) := ⟨_, Lib.hid rfl⟩
  obtain ⟨r, HRD⟩ : ∃ r, Hid ((bodyR s[0].toNat ⟨s.extract 1 s.size, false⟩).2 = r) := ⟨_, Lib.hid rfl⟩
  rw [HO.out, HRD.out] at HF
  rw [HO.out] at HOK
  obtain ⟨kv, nv, hf⟩ := HF.out
  clear HF q1 q2 q3 q4 q5 q6 q7 q8 q9
  obtain ⟨⟨ko, kc, rfl⟩, ⟨no, nc, rfl⟩, -, -, -, hv, -⟩ := hf.see
  have HA := Lib.hid (hf.opAt (l := ⟨ko, kc, no, nc⟩) HOK.out)
  have BY := Lib.hid (bytes_any HA.out)
  have x0 : W5.cell? ⟨kb, 0, none⟩ = some (.int .u8 (o.k : Nat)) := cell_of hf.box rfl
  have x1 : W5.cell? ⟨kb, 1, none⟩ = some (.int .u32 (o.n : Nat)) := cell_of hf.box rfl
  have x2 : W5.cell? ⟨kb, 2, none⟩ = some (.int .u64 (o.st : Nat)) := cell_of hf.box rfl
  have x3 : W5.cell? ⟨kb, 3, none⟩ = some (.slice ko o.keys.length kc) := cell_of hf.box rfl
  have x4 : W5.cell? ⟨kb, 4, none⟩ = some (.slice no o.needs.length nc) := cell_of hf.box rfl
  have x5 : W5.cell? ⟨kb, 5, none⟩ = some (.string o.pred) := cell_of hf.box rfl
  have x6 : W5.cell? ⟨kb, 6, none⟩ = some (.int .u32 (o.g : Nat)) := cell_of hf.box rfl
  have x7 : W5.cell? ⟨kb, 7, none⟩ = some (.int .u32 (o.to : Nat)) := cell_of hf.box rfl
  have x8 : W5.cell? ⟨kb, 8, none⟩ = some (.int .u64 (o.at_ : Nat)) := cell_of hf.box rfl
  have HF := Lib.hid hf
  clear hf hv
  go_wp2_with fail
  refine BY.out.mono ?_
  rintro e W6 ⟨rfl, hc⟩
  have HF6 := Lib.hid (HF.out.same hc)
  have HA6 := Lib.hid (HA.out.same hc)
  clear HF HA BY x0 x1 x2 x3 x4 x5 x6 x7 x8 hc
  have v0 := HF6.out.see.2.2.2.2.2.1 vb rfl
  have v1 := HF6.out.see.2.2.2.2.2.2
  have x0 : W6.cell? ⟨kb, 0, none⟩ = some (.int .u8 (o.k : Nat)) := cell_of HF6.out.box rfl
  have x1 : W6.cell? ⟨kb, 1, none⟩ = some (.int .u32 (o.n : Nat)) := cell_of HF6.out.box rfl
  have x2 : W6.cell? ⟨kb, 2, none⟩ = some (.int .u64 (o.st : Nat)) := cell_of HF6.out.box rfl
  have x3 : W6.cell? ⟨kb, 3, none⟩ = some (.slice ko o.keys.length kc) := cell_of HF6.out.box rfl
  have x4 : W6.cell? ⟨kb, 4, none⟩ = some (.slice no o.needs.length nc) := cell_of HF6.out.box rfl
  have x5 : W6.cell? ⟨kb, 5, none⟩ = some (.string o.pred) := cell_of HF6.out.box rfl
  have x6 : W6.cell? ⟨kb, 6, none⟩ = some (.int .u32 (o.g : Nat)) := cell_of HF6.out.box rfl
  have x7 : W6.cell? ⟨kb, 7, none⟩ = some (.int .u32 (o.to : Nat)) := cell_of HF6.out.box rfl
  have x8 : W6.cell? ⟨kb, 8, none⟩ = some (.int .u64 (o.at_ : Nat)) := cell_of HF6.out.box rfl
  have HZ := Lib.hid (show W6.heap[w.heap.size]? = some (.cells (boxC (op0 0) nilS nilS) 34) from (HF6.out.chg.block _ (by rw [← HW0.out]; simp) (fun f => f)).trans (by rw [← HW0.out]; exact Go.heap_alloc_new w _))
  have r0 : W6.cell? ⟨w.heap.size, 0, none⟩ = some (.int .u8 0) := cell_of HZ.out rfl
  have g0 : W6.frozen? ⟨w.heap.size, 0, none⟩ = false := frozen_of HZ.out
  have r1 : W6.cell? ⟨w.heap.size, 1, none⟩ = some (.int .u32 0) := cell_of HZ.out rfl
  have g1 : W6.frozen? ⟨w.heap.size, 1, none⟩ = false := frozen_of HZ.out
  have r2 : W6.cell? ⟨w.heap.size, 2, none⟩ = some (.int .u64 0) := cell_of HZ.out rfl
  have g2 : W6.frozen? ⟨w.heap.size, 2, none⟩ = false := frozen_of HZ.out
  have r3 : W6.cell? ⟨w.heap.size, 3, none⟩ = some (.slice none 0 0) := cell_of HZ.out rfl
  have g3 : W6.frozen? ⟨w.heap.size, 3, none⟩ = false := frozen_of HZ.out
  have r4 : W6.cell? ⟨w.heap.size, 4, none⟩ = some (.slice none 0 0) := cell_of HZ.out rfl
  have g4 : W6.frozen? ⟨w.heap.size, 4, none⟩ = false := frozen_of HZ.out
  have r5 : W6.cell? ⟨w.heap.size, 5, none⟩ = some (.string ⟨#[]⟩) := cell_of HZ.out rfl
  have g5 : W6.frozen? ⟨w.heap.size, 5, none⟩ = false := frozen_of HZ.out
  have r6 : W6.cell? ⟨w.heap.size, 6, none⟩ = some (.int .u32 0) := cell_of HZ.out rfl
  have g6 : W6.frozen? ⟨w.heap.size, 6, none⟩ = false := frozen_of HZ.out
  have r7 : W6.cell? ⟨w.heap.size, 7, none⟩ = some (.int .u32 0) := cell_of HZ.out rfl
  have g7 : W6.frozen? ⟨w.heap.size, 7, none⟩ = false := frozen_of HZ.out
  have r8 : W6.cell? ⟨w.heap.size, 8, none⟩ = some (.int .u64 0) := cell_of HZ.out rfl
  have g8 : W6.frozen? ⟨w.heap.size, 8, none⟩ = false := frozen_of HZ.out
  obtain ⟨B, HB⟩ : ∃ B, Hid (bytesM o = B) := ⟨_, Lib.hid rfl⟩
  rw [HB.out]
  obtain ⟨bd, hbd⟩ : ∃ b, r.bad = b := ⟨_, rfl⟩
  obtain ⟨my, hmy⟩ : ∃ b, mayM o = b := ⟨_, rfl⟩
  obtain ⟨z, hz⟩ : ∃ z, decide (B = s) = z := ⟨_, rfl⟩
  have hq2 : (B.toList == s.toList) = z := by
    rw [← hz]
    by_cases e : B = s
    · subst e; simp
    · have : B.toList ≠ s.toList := fun h => e (bytes_inj h)
      simp [e, this]
  have HMV := Lib.hid (show M = if !bd && (my && z) then (o, 0) else (op0 0, 200) from by
    rw [← HM.out]
    unfold readM goodR
    rw [HO.out, HRD.out, hbd, hmy]
    cases my
    · simp
    · have : str (bytesL o) = B := by rw [← HB.out]; unfold bytesM; rw [hmy]; rfl
      rw [this, hz])
  have HC6 := Lib.hid (show Chg (fun _ => False) w W6 from (show Chg (fun _ => False) w W0 by rw [← HW0.out]; exact (Chg.refl _ w).alloc _).trans HF6.out.chg)
  have HN := Lib.hid (show w.heap.size < W0.heap.size by rw [← HW0.out]; simp)
  rw [hbd] at v1
  rw [hmy]
  clear hbd hmy hz
  cases bd
  case true =>
    clear hq2
    generalize (ite (my = true) (0 : Int) 200) = cc
    have HM2 := Lib.hid (show M = (op0 0, 200) from by rw [HMV.out]; rfl)
    clear HMV
    go_wp2_with fail
    obtain ⟨hh, hc⟩ := fin9 HZ.out (.int .u8 0) (.int .u32 0) (.int .u64 0) (.slice none 0 0) (.slice none 0 0) (.string ⟨#[]⟩) (.int .u32 0) (.int .u32 0) (.int .u64 0)
    unfold fin9W at hh hc
    refine bodyPost_ret (results_cell_row_tmp (p := 2) (u := 3) (ty := 34) rfl _ _ w.heap.size 34 _ (0, 0) _ rfl hh Try.underlying34 rfl (by kernel_rfl)) rfl ⟨nilL, ?_, ?_, ?_⟩
    · rw [HM2.out]; rfl
    · rw [HM2.out]; exact op0_at _
    · exact HC6.out.trans' hc (fun g e => Or.inr (by omega))
  case false =>
    cases my
    case false =>
      clear hq2
      have HM2 := Lib.hid (show M = (op0 0, 200) from by rw [HMV.out]; rfl)
      clear HMV
      go_wp2_with fail
      obtain ⟨hh, hc⟩ := fin9 HZ.out (.int .u8 0) (.int .u32 0) (.int .u64 0) (.slice none 0 0) (.slice none 0 0) (.string ⟨#[]⟩) (.int .u32 0) (.int .u32 0) (.int .u64 0)
      unfold fin9W at hh hc
      refine bodyPost_ret (results_cell_row_tmp (p := 2) (u := 3) (ty := 34) rfl _ _ w.heap.size 34 _ (0, 0) _ rfl hh Try.underlying34 rfl (by kernel_rfl)) rfl ⟨nilL, ?_, ?_, ?_⟩
      · rw [HM2.out]; rfl
      · rw [HM2.out]; exact op0_at _
      · exact HC6.out.trans' hc (fun g e => Or.inr (by omega))
    case true =>
      cases z
      case false =>
        have HM2 := Lib.hid (show M = (op0 0, 200) from by rw [HMV.out]; rfl)
        clear HMV
        go_wp2_with fail
        obtain ⟨hh, hc⟩ := fin9 HZ.out (.int .u8 0) (.int .u32 0) (.int .u64 0) (.slice none 0 0) (.slice none 0 0) (.string ⟨#[]⟩) (.int .u32 0) (.int .u32 0) (.int .u64 0)
        unfold fin9W at hh hc
        refine bodyPost_ret (results_cell_row_tmp (p := 2) (u := 3) (ty := 34) rfl _ _ w.heap.size 34 _ (0, 0) _ rfl hh Try.underlying34 rfl (by kernel_rfl)) rfl ⟨nilL, ?_, ?_, ?_⟩
        · rw [HM2.out]; rfl
        · rw [HM2.out]; exact op0_at _
        · exact HC6.out.trans' hc (fun g e => Or.inr (by omega))
      case true =>
        go_wp2_with fail
        obtain ⟨hh, hc⟩ := fin9 HZ.out (.int .u8 (o.k : Nat)) (.int .u32 (o.n : Nat)) (.int .u64 (o.st : Nat)) (.slice ko o.keys.length kc) (.slice no o.needs.length nc) (.string o.pred) (.int .u32 (o.g : Nat)) (.int .u32 (o.to : Nat)) (.int .u64 (o.at_ : Nat))
        unfold fin9W at hh hc
        refine bodyPost_ret (results_cell_row_tmp (p := 2) (u := 3) (ty := 34) rfl _ _ w.heap.size 34 _ (0, 0) _ rfl hh Try.underlying34 rfl (by kernel_rfl)) rfl ⟨⟨ko, kc, no, nc⟩, ?_, ?_, ?_⟩
        · rw [HMV.out]; rfl
        · rw [HMV.out]
          refine HA6.out.apart9 HZ.out hc (fun g oo e => ?_) (fun g oo e => ?_)
          · have := HF6.out.ko g (by simp only at e; rw [e]; rfl)
            have := HN.out
            omega
          · have := HF6.out.no g (by simp only at e; rw [e]; rfl)
            have := HN.out
            omega
        · exact HC6.out.trans' hc (fun g e => Or.inr (by omega))

end Go.Proofs.Ytgmmglmokkcgeaa
/- Walks: Read, one kind. -/
namespace Go.Proofs.Ytgmmglmokkcgeaa
set_option linter.unusedVariables false
set_option linter.unusedSimpArgs false
open Go.RowKit Mk Go.Sort


set_option maxRecDepth 100000 in
set_option maxHeartbeats 4000000 in
theorem read_3 {w : World} {s : ByteArray} (h1 : 0 < s.size) (hs : s.size ≤ 1099511627776) (hk : s[0].toNat = 3) :
    Calls Try.prog 21 #[.string s] w fun e w' => ∃ l, e = .returned (.tuple #[.agg (opC (readM s[0].toNat s).1 l), .int .i64 ((readM s[0].toNat s).2 : Nat)]) ∧ OpAt w' (readM s[0].toNat s).1 l ∧ Chg (fun _ => False) w w' := by
  obtain ⟨M, HM⟩ : ∃ M, Hid (readM s[0].toNat s = M) := ⟨_, Lib.hid rfl⟩
  rw [HM.out]
  have hq := bytes_isEmpty s
  have hd : decide (s.size = 0) = false := decide_eq_false (by omega)
  rw [hd] at hq
  clear hd
  have b1 : (1 : Int) ≤ s.size := by omega
  have b2 : (0 : Int) < s.size := by omega
  have b3 : decide ((1 : Int) ≤ s.size) = true := by simp; omega
  have b4 : decide (1 ≤ s.size) = true := by simp; omega
  have q1 : (((s[0].toNat : Nat) : Int) == 1) = false := by rw [hk]; rfl
  have q2 : (((s[0].toNat : Nat) : Int) == 2) = false := by rw [hk]; rfl
  have q3 : (((s[0].toNat : Nat) : Int) == 3) = true := by rw [hk]; rfl
  have q4 : (((s[0].toNat : Nat) : Int) == 4) = false := by rw [hk]; rfl
  have q5 : (((s[0].toNat : Nat) : Int) == 5) = false := by rw [hk]; rfl
  have q6 : (((s[0].toNat : Nat) : Int) == 6) = false := by rw [hk]; rfl
  have q7 : (((s[0].toNat : Nat) : Int) == 7) = false := by rw [hk]; rfl
  have q8 : (((s[0].toNat : Nat) : Int) == 8) = false := by rw [hk]; rfl
  have q9 : (((s[0].toNat : Nat) : Int) == 9) = false := by rw [hk]; rfl
  have HK := Lib.hid hk
  clear hk

  go_enter Try.func21, Try.ntmps21
  go_upto_region 5 with fail
  have h0 : RoAt 94 (w.alloc (.cells #[.int .u8 0, .int .u32 0, .int .u64 0, .slice none 0 0, .slice none 0 0, .string ⟨#[]⟩, .int .u32 0, .int .u32 0, .int .u64 0] 34)) (w.heap.size + 1 + 1 + 1) (w.heap.size + 1) (some (w.heap.size + 1 + 1)) s.size (op0 s[0].toNat) nilS nilS ⟨s.extract 1 s.size, false⟩ ((((w.alloc (.cells #[.int .u8 0, .int .u32 0, .int .u64 0, .slice none 0 0, .slice none 0 0, .string ⟨#[]⟩, .int .u32 0, .int .u32 0, .int .u64 0] 34)).alloc (.cells #[.string (s.extract 1 s.size), .bool false] 94)).alloc (.cells #[.pointer (some ⟨w.heap.size + 1, 0, none⟩)] 92)).alloc (.cells #[.int .u8 (s[0].toNat : Nat), .int .u32 0, .int .u64 0, .slice none 0 0, .slice none 0 0, .string ⟨#[]⟩, .int .u32 0, .int .u32 0, .int .u64 0] 34)) := by
    have := read_begin (w.alloc (.cells #[.int .u8 0, .int .u32 0, .int .u64 0, .slice none 0 0, .slice none 0 0, .string ⟨#[]⟩, .int .u32 0, .int .u32 0, .int .u64 0] 34)) 94 (Or.inl rfl) (s.extract 1 s.size) (k := s[0].toNat) (S := s.size) (by simp) hs
    rw [World.size_alloc] at this
    exact this
  obtain ⟨W4, HW4⟩ : ∃ W, Hid (((((w.alloc (.cells #[.int .u8 0, .int .u32 0, .int .u64 0, .slice none 0 0, .slice none 0 0, .string ⟨#[]⟩, .int .u32 0, .int .u32 0, .int .u64 0] 34)).alloc (.cells #[.string (s.extract 1 s.size), .bool false] 94)).alloc (.cells #[.pointer (some ⟨w.heap.size + 1, 0, none⟩)] 92)).alloc (.cells #[.int .u8 (s[0].toNat : Nat), .int .u32 0, .int .u64 0, .slice none 0 0, .slice none 0 0, .string ⟨#[]⟩, .int .u32 0, .int .u32 0, .int .u64 0] 34)) = W) := ⟨_, Lib.hid rfl⟩
  obtain ⟨W0, HW0⟩ : ∃ W, Hid (w.alloc (.cells #[.int .u8 0, .int .u32 0, .int .u64 0, .slice none 0 0, .slice none 0 0, .string ⟨#[]⟩, .int .u32 0, .int .u32 0, .int .u64 0] 34) = W) := ⟨_, Lib.hid rfl⟩
  obtain ⟨kb, HKB⟩ : ∃ kb, Hid (w.heap.size + 1 + 1 + 1 = kb) := ⟨_, Lib.hid rfl⟩
  obtain ⟨vb, HVB⟩ : ∃ vb, Hid (w.heap.size + 1 + 1 = vb) := ⟨_, Lib.hid rfl⟩
  obtain ⟨rb, HRB⟩ : ∃ rb, Hid (w.heap.size + 1 = rb) := ⟨_, Lib.hid rfl⟩
  obtain ⟨S, HS⟩ : ∃ S, Hid (s.size = S) := ⟨_, Lib.hid rfl⟩
  rw [HW4.out] at h0 ⊢
  rw [HW0.out] at h0
  rw [HKB.out, HVB.out, HRB.out] at h0 ⊢
  have H0 := Lib.hid h0
  have k0 : W4.cell? ⟨kb, 0, none⟩ = some (.int .u8 (s[0].toNat : Nat)) := h0.see.2.2.2.2.1
  clear h0
  have C0 := Lib.hid ((rdnum_any H0.out.rd (Nat.le_trans H0.out.sz H0.out.S)).mono fun e W' hh => show e = .returned (.int .u64 ((numR (⟨s.extract 1 s.size, false⟩ : RdS)).1 : Nat)) ∧ (RoAt 94 W0 kb rb (some vb) s.size { (op0 s[0].toNat) with st := (numR (⟨s.extract 1 s.size, false⟩ : RdS)).1 } nilS nilS (numR (⟨s.extract 1 s.size, false⟩ : RdS)).2 (W'.setCell ⟨kb, 2, none⟩ (.int .u64 ((numR (⟨s.extract 1 s.size, false⟩ : RdS)).1 : Nat))) ∧ W'.frozen? ⟨kb, 2, none⟩ = false ∧ W'.cell? ⟨kb, 2, none⟩ = some (.int .u64 (((op0 s[0].toNat)).st : Nat))) from ⟨hh.1, ((H0.out.read hh.2.1 hh.2.2 (numR_le (⟨s.extract 1 s.size, false⟩ : RdS)).1).set_st (numR (⟨s.extract 1 s.size, false⟩ : RdS)).1).2, ((H0.out.read hh.2.1 hh.2.2 (numR_le (⟨s.extract 1 s.size, false⟩ : RdS)).1).set_st (numR (⟨s.extract 1 s.size, false⟩ : RdS)).1).1, cell_of (H0.out.read hh.2.1 hh.2.2 (numR_le (⟨s.extract 1 s.size, false⟩ : RdS)).1).box rfl⟩)
  have v0 := H0.out.see.2.2.2.2.2.1 vb rfl
  clear H0
  go_wp2_with fail
  refine C0.out.mono ?_
  rintro e Wk0 ⟨rfl, h0, f0, c0⟩
  have H1 := Lib.hid h0
  clear h0 C0 v0
  have C1 := Lib.hid (many_keys H1.out rfl)
  have v1 := H1.out.see.2.2.2.2.2.1 vb rfl
  clear H1
  go_wp2_with fail
  refine C1.out.mono ?_
  rintro e Wk1 ⟨rfl, kv1, h1⟩
  have H2 := Lib.hid h1
  clear h1 C1 v1
  have C2 := Lib.hid (many_needs H2.out rfl)
  have v2 := H2.out.see.2.2.2.2.2.1 vb rfl
  clear H2
  go_wp2_with fail
  refine C2.out.mono ?_
  rintro e Wk2 ⟨rfl, nv2, h2⟩
  have H3 := Lib.hid h2
  clear h2 C2 v2
  have HF := Lib.hid (show ∃ kv nv, RoAt 94 W0 kb rb (some vb) s.size (bodyR s[0].toNat ⟨s.extract 1 s.size, false⟩).1 kv nv (bodyR s[0].toNat ⟨s.extract 1 s.size, false⟩).2 _ from ⟨_, _, by
    have hh := H3.out
    rw [HK.out] at hh ⊢
    exact hh⟩)

  obtain ⟨W5, HW5⟩ : ∃ W5, Hid (Wk2 = W5) := ⟨_, Lib.hid rfl⟩
  go_upto_region 27 with fail
  rw [HW5.out] at HF ⊢
  have HOK := Lib.hid (body_ok (S := s.size) (k := s[0].toNat) s[0].toNat_lt (r := ⟨s.extract 1 s.size, false⟩) (by simp))
  obtain ⟨o, HO⟩ : ∃ o, Hid ((bodyR s[0].toNat ⟨s.extract 1 s.size, false⟩).1 = o) := ⟨_, Lib.hid rfl⟩
  obtain ⟨r, HRD⟩ : ∃ r, Hid ((bodyR s[0].toNat ⟨s.extract 1 s.size, false⟩).2 = r) := ⟨_, Lib.hid rfl⟩
  rw [HO.out, HRD.out] at HF
  rw [HO.out] at HOK
  obtain ⟨kv, nv, hf⟩ := HF.out
  clear HF q1 q2 q3 q4 q5 q6 q7 q8 q9
  obtain ⟨⟨ko, kc, rfl⟩, ⟨no, nc, rfl⟩, -, -, -, hv, -⟩ := hf.see
  have HA := Lib.hid (hf.opAt (l := ⟨ko, kc, no, nc⟩) HOK.out)
  have BY := Lib.hid (bytes_any HA.out)
  have x0 : W5.cell? ⟨kb, 0, none⟩ = some (.int .u8 (o.k : Nat)) := cell_of hf.box rfl
  have x1 : W5.cell? ⟨kb, 1, none⟩ = some (.int .u32 (o.n : Nat)) := cell_of hf.box rfl
  have x2 : W5.cell? ⟨kb, 2, none⟩ = some (.int .u64 (o.st : Nat)) := cell_of hf.box rfl
  have x3 : W5.cell? ⟨kb, 3, none⟩ = some (.slice ko o.keys.length kc) := cell_of hf.box rfl
  have x4 : W5.cell? ⟨kb, 4, none⟩ = some (.slice no o.needs.length nc) := cell_of hf.box rfl
  have x5 : W5.cell? ⟨kb, 5, none⟩ = some (.string o.pred) := cell_of hf.box rfl
  have x6 : W5.cell? ⟨kb, 6, none⟩ = some (.int .u32 (o.g : Nat)) := cell_of hf.box rfl
  have x7 : W5.cell? ⟨kb, 7, none⟩ = some (.int .u32 (o.to : Nat)) := cell_of hf.box rfl
  have x8 : W5.cell? ⟨kb, 8, none⟩ = some (.int .u64 (o.at_ : Nat)) := cell_of hf.box rfl
  have HF := Lib.hid hf
  clear hf hv
  go_wp2_with fail
  refine BY.out.mono ?_
  rintro e W6 ⟨rfl, hc⟩
  have HF6 := Lib.hid (HF.out.same hc)
  have HA6 := Lib.hid (HA.out.same hc)
  clear HF HA BY x0 x1 x2 x3 x4 x5 x6 x7 x8 hc
  have v0 := HF6.out.see.2.2.2.2.2.1 vb rfl
  have v1 := HF6.out.see.2.2.2.2.2.2
  have x0 : W6.cell? ⟨kb, 0, none⟩ = some (.int .u8 (o.k : Nat)) := cell_of HF6.out.box rfl
  have x1 : W6.cell? ⟨kb, 1, none⟩ = some (.int .u32 (o.n : Nat)) := cell_of HF6.out.box rfl
  have x2 : W6.cell? ⟨kb, 2, none⟩ = some (.int .u64 (o.st : Nat)) := cell_of HF6.out.box rfl
  have x3 : W6.cell? ⟨kb, 3, none⟩ = some (.slice ko o.keys.length kc) := cell_of HF6.out.box rfl
  have x4 : W6.cell? ⟨kb, 4, none⟩ = some (.slice no o.needs.length nc) := cell_of HF6.out.box rfl
  have x5 : W6.cell? ⟨kb, 5, none⟩ = some (.string o.pred) := cell_of HF6.out.box rfl
  have x6 : W6.cell? ⟨kb, 6, none⟩ = some (.int .u32 (o.g : Nat)) := cell_of HF6.out.box rfl
  have x7 : W6.cell? ⟨kb, 7, none⟩ = some (.int .u32 (o.to : Nat)) := cell_of HF6.out.box rfl
  have x8 : W6.cell? ⟨kb, 8, none⟩ = some (.int .u64 (o.at_ : Nat)) := cell_of HF6.out.box rfl
  have HZ := Lib.hid (show W6.heap[w.heap.size]? = some (.cells (boxC (op0 0) nilS nilS) 34) from (HF6.out.chg.block _ (by rw [← HW0.out]; simp) (fun f => f)).trans (by rw [← HW0.out]; exact Go.heap_alloc_new w _))
  have r0 : W6.cell? ⟨w.heap.size, 0, none⟩ = some (.int .u8 0) := cell_of HZ.out rfl
  have g0 : W6.frozen? ⟨w.heap.size, 0, none⟩ = false := frozen_of HZ.out
  have r1 : W6.cell? ⟨w.heap.size, 1, none⟩ = some (.int .u32 0) := cell_of HZ.out rfl
  have g1 : W6.frozen? ⟨w.heap.size, 1, none⟩ = false := frozen_of HZ.out
  have r2 : W6.cell? ⟨w.heap.size, 2, none⟩ = some (.int .u64 0) := cell_of HZ.out rfl
  have g2 : W6.frozen? ⟨w.heap.size, 2, none⟩ = false := frozen_of HZ.out
  have r3 : W6.cell? ⟨w.heap.size, 3, none⟩ = some (.slice none 0 0) := cell_of HZ.out rfl
  have g3 : W6.frozen? ⟨w.heap.size, 3, none⟩ = false := frozen_of HZ.out
  have r4 : W6.cell? ⟨w.heap.size, 4, none⟩ = some (.slice none 0 0) := cell_of HZ.out rfl
  have g4 : W6.frozen? ⟨w.heap.size, 4, none⟩ = false := frozen_of HZ.out
  have r5 : W6.cell? ⟨w.heap.size, 5, none⟩ = some (.string ⟨#[]⟩) := cell_of HZ.out rfl
  have g5 : W6.frozen? ⟨w.heap.size, 5, none⟩ = false := frozen_of HZ.out
  have r6 : W6.cell? ⟨w.heap.size, 6, none⟩ = some (.int .u32 0) := cell_of HZ.out rfl
  have g6 : W6.frozen? ⟨w.heap.size, 6, none⟩ = false := frozen_of HZ.out
  have r7 : W6.cell? ⟨w.heap.size, 7, none⟩ = some (.int .u32 0) := cell_of HZ.out rfl
  have g7 : W6.frozen? ⟨w.heap.size, 7, none⟩ = false := frozen_of HZ.out
  have r8 : W6.cell? ⟨w.heap.size, 8, none⟩ = some (.int .u64 0) := cell_of HZ.out rfl
  have g8 : W6.frozen? ⟨w.heap.size, 8, none⟩ = false := frozen_of HZ.out
  obtain ⟨B, HB⟩ : ∃ B, Hid (bytesM o = B) := ⟨_, Lib.hid rfl⟩
  rw [HB.out]
  obtain ⟨bd, hbd⟩ : ∃ b, r.bad = b := ⟨_, rfl⟩
  obtain ⟨my, hmy⟩ : ∃ b, mayM o = b := ⟨_, rfl⟩
  obtain ⟨z, hz⟩ : ∃ z, decide (B = s) = z := ⟨_, rfl⟩
  have hq2 : (B.toList == s.toList) = z := by
    rw [← hz]
    by_cases e : B = s
    · subst e; simp
    · have : B.toList ≠ s.toList := fun h => e (bytes_inj h)
      simp [e, this]
  have HMV := Lib.hid (show M = if !bd && (my && z) then (o, 0) else (op0 0, 200) from by
    rw [← HM.out]
    unfold readM goodR
    rw [HO.out, HRD.out, hbd, hmy]
    cases my
    · simp
    · have : str (bytesL o) = B := by rw [← HB.out]; unfold bytesM; rw [hmy]; rfl
      rw [this, hz])
  have HC6 := Lib.hid (show Chg (fun _ => False) w W6 from (show Chg (fun _ => False) w W0 by rw [← HW0.out]; exact (Chg.refl _ w).alloc _).trans HF6.out.chg)
  have HN := Lib.hid (show w.heap.size < W0.heap.size by rw [← HW0.out]; simp)
  rw [hbd] at v1
  rw [hmy]
  clear hbd hmy hz
  cases bd
  case true =>
    clear hq2
    generalize (ite (my = true) (0 : Int) 200) = cc
    have HM2 := Lib.hid (show M = (op0 0, 200) from by rw [HMV.out]; rfl)
    clear HMV
    go_wp2_with fail
    obtain ⟨hh, hc⟩ := fin9 HZ.out (.int .u8 0) (.int .u32 0) (.int .u64 0) (.slice none 0 0) (.slice none 0 0) (.string ⟨#[]⟩) (.int .u32 0) (.int .u32 0) (.int .u64 0)
    unfold fin9W at hh hc
    refine bodyPost_ret (results_cell_row_tmp (p := 2) (u := 3) (ty := 34) rfl _ _ w.heap.size 34 _ (0, 0) _ rfl hh Try.underlying34 rfl (by kernel_rfl)) rfl ⟨nilL, ?_, ?_, ?_⟩
    · rw [HM2.out]; rfl
    · rw [HM2.out]; exact op0_at _
    · exact HC6.out.trans' hc (fun g e => Or.inr (by omega))
  case false =>
    cases my
    case false =>
      clear hq2
      have HM2 := Lib.hid (show M = (op0 0, 200) from by rw [HMV.out]; rfl)
      clear HMV
      go_wp2_with fail
      obtain ⟨hh, hc⟩ := fin9 HZ.out (.int .u8 0) (.int .u32 0) (.int .u64 0) (.slice none 0 0) (.slice none 0 0) (.string ⟨#[]⟩) (.int .u32 0) (.int .u32 0) (.int .u64 0)
      unfold fin9W at hh hc
      refine bodyPost_ret (results_cell_row_tmp (p := 2) (u := 3) (ty := 34) rfl _ _ w.heap.size 34 _ (0, 0) _ rfl hh Try.underlying34 rfl (by kernel_rfl)) rfl ⟨nilL, ?_, ?_, ?_⟩
      · rw [HM2.out]; rfl
      · rw [HM2.out]; exact op0_at _
      · exact HC6.out.trans' hc (fun g e => Or.inr (by omega))
    case true =>
      cases z
      case false =>
        have HM2 := Lib.hid (show M = (op0 0, 200) from by rw [HMV.out]; rfl)
        clear HMV
        go_wp2_with fail
        obtain ⟨hh, hc⟩ := fin9 HZ.out (.int .u8 0) (.int .u32 0) (.int .u64 0) (.slice none 0 0) (.slice none 0 0) (.string ⟨#[]⟩) (.int .u32 0) (.int .u32 0) (.int .u64 0)
        unfold fin9W at hh hc
        refine bodyPost_ret (results_cell_row_tmp (p := 2) (u := 3) (ty := 34) rfl _ _ w.heap.size 34 _ (0, 0) _ rfl hh Try.underlying34 rfl (by kernel_rfl)) rfl ⟨nilL, ?_, ?_, ?_⟩
        · rw [HM2.out]; rfl
        · rw [HM2.out]; exact op0_at _
        · exact HC6.out.trans' hc (fun g e => Or.inr (by omega))
      case true =>
        go_wp2_with fail
        obtain ⟨hh, hc⟩ := fin9 HZ.out (.int .u8 (o.k : Nat)) (.int .u32 (o.n : Nat)) (.int .u64 (o.st : Nat)) (.slice ko o.keys.length kc) (.slice no o.needs.length nc) (.string o.pred) (.int .u32 (o.g : Nat)) (.int .u32 (o.to : Nat)) (.int .u64 (o.at_ : Nat))
        unfold fin9W at hh hc
        refine bodyPost_ret (results_cell_row_tmp (p := 2) (u := 3) (ty := 34) rfl _ _ w.heap.size 34 _ (0, 0) _ rfl hh Try.underlying34 rfl (by kernel_rfl)) rfl ⟨⟨ko, kc, no, nc⟩, ?_, ?_, ?_⟩
        · rw [HMV.out]; rfl
        · rw [HMV.out]
          refine HA6.out.apart9 HZ.out hc (fun g oo e => ?_) (fun g oo e => ?_)
          · have := HF6.out.ko g (by simp only at e; rw [e]; rfl)
            have := HN.out
            omega
          · have := HF6.out.no g (by simp only at e; rw [e]; rfl)
            have := HN.out
            omega
        · exact HC6.out.trans' hc (fun g e => Or.inr (by omega))

end Go.Proofs.Ytgmmglmokkcgeaa
/- Walks: Read, one kind. -/
namespace Go.Proofs.Ytgmmglmokkcgeaa
set_option linter.unusedVariables false
set_option linter.unusedSimpArgs false
open Go.RowKit Mk Go.Sort


set_option maxRecDepth 100000 in
set_option maxHeartbeats 4000000 in
theorem read_4 {w : World} {s : ByteArray} (h1 : 0 < s.size) (hs : s.size ≤ 1099511627776) (hk : s[0].toNat = 4) :
    Calls Try.prog 21 #[.string s] w fun e w' => ∃ l, e = .returned (.tuple #[.agg (opC (readM s[0].toNat s).1 l), .int .i64 ((readM s[0].toNat s).2 : Nat)]) ∧ OpAt w' (readM s[0].toNat s).1 l ∧ Chg (fun _ => False) w w' := by
  obtain ⟨M, HM⟩ : ∃ M, Hid (readM s[0].toNat s = M) := ⟨_, Lib.hid rfl⟩
  rw [HM.out]
  have hq := bytes_isEmpty s
  have hd : decide (s.size = 0) = false := decide_eq_false (by omega)
  rw [hd] at hq
  clear hd
  have b1 : (1 : Int) ≤ s.size := by omega
  have b2 : (0 : Int) < s.size := by omega
  have b3 : decide ((1 : Int) ≤ s.size) = true := by simp; omega
  have b4 : decide (1 ≤ s.size) = true := by simp; omega
  have q1 : (((s[0].toNat : Nat) : Int) == 1) = false := by rw [hk]; rfl
  have q2 : (((s[0].toNat : Nat) : Int) == 2) = false := by rw [hk]; rfl
  have q3 : (((s[0].toNat : Nat) : Int) == 3) = false := by rw [hk]; rfl
  have q4 : (((s[0].toNat : Nat) : Int) == 4) = true := by rw [hk]; rfl
  have q5 : (((s[0].toNat : Nat) : Int) == 5) = false := by rw [hk]; rfl
  have q6 : (((s[0].toNat : Nat) : Int) == 6) = false := by rw [hk]; rfl
  have q7 : (((s[0].toNat : Nat) : Int) == 7) = false := by rw [hk]; rfl
  have q8 : (((s[0].toNat : Nat) : Int) == 8) = false := by rw [hk]; rfl
  have q9 : (((s[0].toNat : Nat) : Int) == 9) = false := by rw [hk]; rfl
  have HK := Lib.hid hk
  clear hk

  go_enter Try.func21, Try.ntmps21
  go_upto_region 5 with fail
  have h0 : RoAt 94 (w.alloc (.cells #[.int .u8 0, .int .u32 0, .int .u64 0, .slice none 0 0, .slice none 0 0, .string ⟨#[]⟩, .int .u32 0, .int .u32 0, .int .u64 0] 34)) (w.heap.size + 1 + 1 + 1) (w.heap.size + 1) (some (w.heap.size + 1 + 1)) s.size (op0 s[0].toNat) nilS nilS ⟨s.extract 1 s.size, false⟩ ((((w.alloc (.cells #[.int .u8 0, .int .u32 0, .int .u64 0, .slice none 0 0, .slice none 0 0, .string ⟨#[]⟩, .int .u32 0, .int .u32 0, .int .u64 0] 34)).alloc (.cells #[.string (s.extract 1 s.size), .bool false] 94)).alloc (.cells #[.pointer (some ⟨w.heap.size + 1, 0, none⟩)] 92)).alloc (.cells #[.int .u8 (s[0].toNat : Nat), .int .u32 0, .int .u64 0, .slice none 0 0, .slice none 0 0, .string ⟨#[]⟩, .int .u32 0, .int .u32 0, .int .u64 0] 34)) := by
    have := read_begin (w.alloc (.cells #[.int .u8 0, .int .u32 0, .int .u64 0, .slice none 0 0, .slice none 0 0, .string ⟨#[]⟩, .int .u32 0, .int .u32 0, .int .u64 0] 34)) 94 (Or.inl rfl) (s.extract 1 s.size) (k := s[0].toNat) (S := s.size) (by simp) hs
    rw [World.size_alloc] at this
    exact this
  obtain ⟨W4, HW4⟩ : ∃ W, Hid (((((w.alloc (.cells #[.int .u8 0, .int .u32 0, .int .u64 0, .slice none 0 0, .slice none 0 0, .string ⟨#[]⟩, .int .u32 0, .int .u32 0, .int .u64 0] 34)).alloc (.cells #[.string (s.extract 1 s.size), .bool false] 94)).alloc (.cells #[.pointer (some ⟨w.heap.size + 1, 0, none⟩)] 92)).alloc (.cells #[.int .u8 (s[0].toNat : Nat), .int .u32 0, .int .u64 0, .slice none 0 0, .slice none 0 0, .string ⟨#[]⟩, .int .u32 0, .int .u32 0, .int .u64 0] 34)) = W) := ⟨_, Lib.hid rfl⟩
  obtain ⟨W0, HW0⟩ : ∃ W, Hid (w.alloc (.cells #[.int .u8 0, .int .u32 0, .int .u64 0, .slice none 0 0, .slice none 0 0, .string ⟨#[]⟩, .int .u32 0, .int .u32 0, .int .u64 0] 34) = W) := ⟨_, Lib.hid rfl⟩
  obtain ⟨kb, HKB⟩ : ∃ kb, Hid (w.heap.size + 1 + 1 + 1 = kb) := ⟨_, Lib.hid rfl⟩
  obtain ⟨vb, HVB⟩ : ∃ vb, Hid (w.heap.size + 1 + 1 = vb) := ⟨_, Lib.hid rfl⟩
  obtain ⟨rb, HRB⟩ : ∃ rb, Hid (w.heap.size + 1 = rb) := ⟨_, Lib.hid rfl⟩
  obtain ⟨S, HS⟩ : ∃ S, Hid (s.size = S) := ⟨_, Lib.hid rfl⟩
  rw [HW4.out] at h0 ⊢
  rw [HW0.out] at h0
  rw [HKB.out, HVB.out, HRB.out] at h0 ⊢
  have H0 := Lib.hid h0
  have k0 : W4.cell? ⟨kb, 0, none⟩ = some (.int .u8 (s[0].toNat : Nat)) := h0.see.2.2.2.2.1
  clear h0
  have C0 := Lib.hid ((rdnum_any H0.out.rd (Nat.le_trans H0.out.sz H0.out.S)).mono fun e W' hh => show e = .returned (.int .u64 ((numR (⟨s.extract 1 s.size, false⟩ : RdS)).1 : Nat)) ∧ (RoAt 94 W0 kb rb (some vb) s.size { (op0 s[0].toNat) with st := (numR (⟨s.extract 1 s.size, false⟩ : RdS)).1 } nilS nilS (numR (⟨s.extract 1 s.size, false⟩ : RdS)).2 (W'.setCell ⟨kb, 2, none⟩ (.int .u64 ((numR (⟨s.extract 1 s.size, false⟩ : RdS)).1 : Nat))) ∧ W'.frozen? ⟨kb, 2, none⟩ = false ∧ W'.cell? ⟨kb, 2, none⟩ = some (.int .u64 (((op0 s[0].toNat)).st : Nat))) from ⟨hh.1, ((H0.out.read hh.2.1 hh.2.2 (numR_le (⟨s.extract 1 s.size, false⟩ : RdS)).1).set_st (numR (⟨s.extract 1 s.size, false⟩ : RdS)).1).2, ((H0.out.read hh.2.1 hh.2.2 (numR_le (⟨s.extract 1 s.size, false⟩ : RdS)).1).set_st (numR (⟨s.extract 1 s.size, false⟩ : RdS)).1).1, cell_of (H0.out.read hh.2.1 hh.2.2 (numR_le (⟨s.extract 1 s.size, false⟩ : RdS)).1).box rfl⟩)
  have v0 := H0.out.see.2.2.2.2.2.1 vb rfl
  clear H0
  go_wp2_with fail
  refine C0.out.mono ?_
  rintro e Wk0 ⟨rfl, h0, f0, c0⟩
  have H1 := Lib.hid h0
  clear h0 C0 v0
  have HF := Lib.hid (show ∃ kv nv, RoAt 94 W0 kb rb (some vb) s.size (bodyR s[0].toNat ⟨s.extract 1 s.size, false⟩).1 kv nv (bodyR s[0].toNat ⟨s.extract 1 s.size, false⟩).2 _ from ⟨_, _, by
    have hh := H1.out
    rw [HK.out] at hh ⊢
    exact hh⟩)

  obtain ⟨W5, HW5⟩ : ∃ W5, Hid (Wk0.setCell ⟨kb, 2, none⟩ (.int .u64 ((numR (⟨s.extract 1 s.size, false⟩ : RdS)).1 : Nat)) = W5) := ⟨_, Lib.hid rfl⟩
  go_upto_region 27 with fail
  rw [HW5.out] at HF ⊢
  have HOK := Lib.hid (body_ok (S := s.size) (k := s[0].toNat) s[0].toNat_lt (r := ⟨s.extract 1 s.size, false⟩) (by simp))
  obtain ⟨o, HO⟩ : ∃ o, Hid ((bodyR s[0].toNat ⟨s.extract 1 s.size, false⟩).1 = o) := ⟨_, Lib.hid rfl⟩
  obtain ⟨r, HRD⟩ : ∃ r, Hid ((bodyR s[0].toNat ⟨s.extract 1 s.size, false⟩).2 = r) := ⟨_, Lib.hid rfl⟩
  rw [HO.out, HRD.out] at HF
  rw [HO.out] at HOK
  obtain ⟨kv, nv, hf⟩ := HF.out
  clear HF q1 q2 q3 q4 q5 q6 q7 q8 q9
  obtain ⟨⟨ko, kc, rfl⟩, ⟨no, nc, rfl⟩, -, -, -, hv, -⟩ := hf.see
  have HA := Lib.hid (hf.opAt (l := ⟨ko, kc, no, nc⟩) HOK.out)
  have BY := Lib.hid (bytes_any HA.out)
  have x0 : W5.cell? ⟨kb, 0, none⟩ = some (.int .u8 (o.k : Nat)) := cell_of hf.box rfl
  have x1 : W5.cell? ⟨kb, 1, none⟩ = some (.int .u32 (o.n : Nat)) := cell_of hf.box rfl
  have x2 : W5.cell? ⟨kb, 2, none⟩ = some (.int .u64 (o.st : Nat)) := cell_of hf.box rfl
  have x3 : W5.cell? ⟨kb, 3, none⟩ = some (.slice ko o.keys.length kc) := cell_of hf.box rfl
  have x4 : W5.cell? ⟨kb, 4, none⟩ = some (.slice no o.needs.length nc) := cell_of hf.box rfl
  have x5 : W5.cell? ⟨kb, 5, none⟩ = some (.string o.pred) := cell_of hf.box rfl
  have x6 : W5.cell? ⟨kb, 6, none⟩ = some (.int .u32 (o.g : Nat)) := cell_of hf.box rfl
  have x7 : W5.cell? ⟨kb, 7, none⟩ = some (.int .u32 (o.to : Nat)) := cell_of hf.box rfl
  have x8 : W5.cell? ⟨kb, 8, none⟩ = some (.int .u64 (o.at_ : Nat)) := cell_of hf.box rfl
  have HF := Lib.hid hf
  clear hf hv
  go_wp2_with fail
  refine BY.out.mono ?_
  rintro e W6 ⟨rfl, hc⟩
  have HF6 := Lib.hid (HF.out.same hc)
  have HA6 := Lib.hid (HA.out.same hc)
  clear HF HA BY x0 x1 x2 x3 x4 x5 x6 x7 x8 hc
  have v0 := HF6.out.see.2.2.2.2.2.1 vb rfl
  have v1 := HF6.out.see.2.2.2.2.2.2
  have x0 : W6.cell? ⟨kb, 0, none⟩ = some (.int .u8 (o.k : Nat)) := cell_of HF6.out.box rfl
  have x1 : W6.cell? ⟨kb, 1, none⟩ = some (.int .u32 (o.n : Nat)) := cell_of HF6.out.box rfl
  have x2 : W6.cell? ⟨kb, 2, none⟩ = some (.int .u64 (o.st : Nat)) := cell_of HF6.out.box rfl
  have x3 : W6.cell? ⟨kb, 3, none⟩ = some (.slice ko o.keys.length kc) := cell_of HF6.out.box rfl
  have x4 : W6.cell? ⟨kb, 4, none⟩ = some (.slice no o.needs.length nc) := cell_of HF6.out.box rfl
  have x5 : W6.cell? ⟨kb, 5, none⟩ = some (.string o.pred) := cell_of HF6.out.box rfl
  have x6 : W6.cell? ⟨kb, 6, none⟩ = some (.int .u32 (o.g : Nat)) := cell_of HF6.out.box rfl
  have x7 : W6.cell? ⟨kb, 7, none⟩ = some (.int .u32 (o.to : Nat)) := cell_of HF6.out.box rfl
  have x8 : W6.cell? ⟨kb, 8, none⟩ = some (.int .u64 (o.at_ : Nat)) := cell_of HF6.out.box rfl
  have HZ := Lib.hid (show W6.heap[w.heap.size]? = some (.cells (boxC (op0 0) nilS nilS) 34) from (HF6.out.chg.block _ (by rw [← HW0.out]; simp) (fun f => f)).trans (by rw [← HW0.out]; exact Go.heap_alloc_new w _))
  have r0 : W6.cell? ⟨w.heap.size, 0, none⟩ = some (.int .u8 0) := cell_of HZ.out rfl
  have g0 : W6.frozen? ⟨w.heap.size, 0, none⟩ = false := frozen_of HZ.out
  have r1 : W6.cell? ⟨w.heap.size, 1, none⟩ = some (.int .u32 0) := cell_of HZ.out rfl
  have g1 : W6.frozen? ⟨w.heap.size, 1, none⟩ = false := frozen_of HZ.out
  have r2 : W6.cell? ⟨w.heap.size, 2, none⟩ = some (.int .u64 0) := cell_of HZ.out rfl
  have g2 : W6.frozen? ⟨w.heap.size, 2, none⟩ = false := frozen_of HZ.out
  have r3 : W6.cell? ⟨w.heap.size, 3, none⟩ = some (.slice none 0 0) := cell_of HZ.out rfl
  have g3 : W6.frozen? ⟨w.heap.size, 3, none⟩ = false := frozen_of HZ.out
  have r4 : W6.cell? ⟨w.heap.size, 4, none⟩ = some (.slice none 0 0) := cell_of HZ.out rfl
  have g4 : W6.frozen? ⟨w.heap.size, 4, none⟩ = false := frozen_of HZ.out
  have r5 : W6.cell? ⟨w.heap.size, 5, none⟩ = some (.string ⟨#[]⟩) := cell_of HZ.out rfl
  have g5 : W6.frozen? ⟨w.heap.size, 5, none⟩ = false := frozen_of HZ.out
  have r6 : W6.cell? ⟨w.heap.size, 6, none⟩ = some (.int .u32 0) := cell_of HZ.out rfl
  have g6 : W6.frozen? ⟨w.heap.size, 6, none⟩ = false := frozen_of HZ.out
  have r7 : W6.cell? ⟨w.heap.size, 7, none⟩ = some (.int .u32 0) := cell_of HZ.out rfl
  have g7 : W6.frozen? ⟨w.heap.size, 7, none⟩ = false := frozen_of HZ.out
  have r8 : W6.cell? ⟨w.heap.size, 8, none⟩ = some (.int .u64 0) := cell_of HZ.out rfl
  have g8 : W6.frozen? ⟨w.heap.size, 8, none⟩ = false := frozen_of HZ.out
  obtain ⟨B, HB⟩ : ∃ B, Hid (bytesM o = B) := ⟨_, Lib.hid rfl⟩
  rw [HB.out]
  obtain ⟨bd, hbd⟩ : ∃ b, r.bad = b := ⟨_, rfl⟩
  obtain ⟨my, hmy⟩ : ∃ b, mayM o = b := ⟨_, rfl⟩
  obtain ⟨z, hz⟩ : ∃ z, decide (B = s) = z := ⟨_, rfl⟩
  have hq2 : (B.toList == s.toList) = z := by
    rw [← hz]
    by_cases e : B = s
    · subst e; simp
    · have : B.toList ≠ s.toList := fun h => e (bytes_inj h)
      simp [e, this]
  have HMV := Lib.hid (show M = if !bd && (my && z) then (o, 0) else (op0 0, 200) from by
    rw [← HM.out]
    unfold readM goodR
    rw [HO.out, HRD.out, hbd, hmy]
    cases my
    · simp
    · have : str (bytesL o) = B := by rw [← HB.out]; unfold bytesM; rw [hmy]; rfl
      rw [this, hz])
  have HC6 := Lib.hid (show Chg (fun _ => False) w W6 from (show Chg (fun _ => False) w W0 by rw [← HW0.out]; exact (Chg.refl _ w).alloc _).trans HF6.out.chg)
  have HN := Lib.hid (show w.heap.size < W0.heap.size by rw [← HW0.out]; simp)
  rw [hbd] at v1
  rw [hmy]
  clear hbd hmy hz
  cases bd
  case true =>
    clear hq2
    generalize (ite (my = true) (0 : Int) 200) = cc
    have HM2 := Lib.hid (show M = (op0 0, 200) from by rw [HMV.out]; rfl)
    clear HMV
    go_wp2_with fail
    obtain ⟨hh, hc⟩ := fin9 HZ.out (.int .u8 0) (.int .u32 0) (.int .u64 0) (.slice none 0 0) (.slice none 0 0) (.string ⟨#[]⟩) (.int .u32 0) (.int .u32 0) (.int .u64 0)
    unfold fin9W at hh hc
    refine bodyPost_ret (results_cell_row_tmp (p := 2) (u := 3) (ty := 34) rfl _ _ w.heap.size 34 _ (0, 0) _ rfl hh Try.underlying34 rfl (by kernel_rfl)) rfl ⟨nilL, ?_, ?_, ?_⟩
    · rw [HM2.out]; rfl
    · rw [HM2.out]; exact op0_at _
    · exact HC6.out.trans' hc (fun g e => Or.inr (by omega))
  case false =>
    cases my
    case false =>
      clear hq2
      have HM2 := Lib.hid (show M = (op0 0, 200) from by rw [HMV.out]; rfl)
      clear HMV
      go_wp2_with fail
      obtain ⟨hh, hc⟩ := fin9 HZ.out (.int .u8 0) (.int .u32 0) (.int .u64 0) (.slice none 0 0) (.slice none 0 0) (.string ⟨#[]⟩) (.int .u32 0) (.int .u32 0) (.int .u64 0)
      unfold fin9W at hh hc
      refine bodyPost_ret (results_cell_row_tmp (p := 2) (u := 3) (ty := 34) rfl _ _ w.heap.size 34 _ (0, 0) _ rfl hh Try.underlying34 rfl (by kernel_rfl)) rfl ⟨nilL, ?_, ?_, ?_⟩
      · rw [HM2.out]; rfl
      · rw [HM2.out]; exact op0_at _
      · exact HC6.out.trans' hc (fun g e => Or.inr (by omega))
    case true =>
      cases z
      case false =>
        have HM2 := Lib.hid (show M = (op0 0, 200) from by rw [HMV.out]; rfl)
        clear HMV
        go_wp2_with fail
        obtain ⟨hh, hc⟩ := fin9 HZ.out (.int .u8 0) (.int .u32 0) (.int .u64 0) (.slice none 0 0) (.slice none 0 0) (.string ⟨#[]⟩) (.int .u32 0) (.int .u32 0) (.int .u64 0)
        unfold fin9W at hh hc
        refine bodyPost_ret (results_cell_row_tmp (p := 2) (u := 3) (ty := 34) rfl _ _ w.heap.size 34 _ (0, 0) _ rfl hh Try.underlying34 rfl (by kernel_rfl)) rfl ⟨nilL, ?_, ?_, ?_⟩
        · rw [HM2.out]; rfl
        · rw [HM2.out]; exact op0_at _
        · exact HC6.out.trans' hc (fun g e => Or.inr (by omega))
      case true =>
        go_wp2_with fail
        obtain ⟨hh, hc⟩ := fin9 HZ.out (.int .u8 (o.k : Nat)) (.int .u32 (o.n : Nat)) (.int .u64 (o.st : Nat)) (.slice ko o.keys.length kc) (.slice no o.needs.length nc) (.string o.pred) (.int .u32 (o.g : Nat)) (.int .u32 (o.to : Nat)) (.int .u64 (o.at_ : Nat))
        unfold fin9W at hh hc
        refine bodyPost_ret (results_cell_row_tmp (p := 2) (u := 3) (ty := 34) rfl _ _ w.heap.size 34 _ (0, 0) _ rfl hh Try.underlying34 rfl (by kernel_rfl)) rfl ⟨⟨ko, kc, no, nc⟩, ?_, ?_, ?_⟩
        · rw [HMV.out]; rfl
        · rw [HMV.out]
          refine HA6.out.apart9 HZ.out hc (fun g oo e => ?_) (fun g oo e => ?_)
          · have := HF6.out.ko g (by simp only at e; rw [e]; rfl)
            have := HN.out
            omega
          · have := HF6.out.no g (by simp only at e; rw [e]; rfl)
            have := HN.out
            omega
        · exact HC6.out.trans' hc (fun g e => Or.inr (by omega))

end Go.Proofs.Ytgmmglmokkcgeaa
/- Walks: Read, one kind. -/
namespace Go.Proofs.Ytgmmglmokkcgeaa
set_option linter.unusedVariables false
set_option linter.unusedSimpArgs false
open Go.RowKit Mk Go.Sort


set_option maxRecDepth 100000 in
set_option maxHeartbeats 4000000 in
theorem read_5 {w : World} {s : ByteArray} (h1 : 0 < s.size) (hs : s.size ≤ 1099511627776) (hk : s[0].toNat = 5) :
    Calls Try.prog 21 #[.string s] w fun e w' => ∃ l, e = .returned (.tuple #[.agg (opC (readM s[0].toNat s).1 l), .int .i64 ((readM s[0].toNat s).2 : Nat)]) ∧ OpAt w' (readM s[0].toNat s).1 l ∧ Chg (fun _ => False) w w' := by
  obtain ⟨M, HM⟩ : ∃ M, Hid (readM s[0].toNat s = M) := ⟨_, Lib.hid rfl⟩
  rw [HM.out]
  have hq := bytes_isEmpty s
  have hd : decide (s.size = 0) = false := decide_eq_false (by omega)
  rw [hd] at hq
  clear hd
  have b1 : (1 : Int) ≤ s.size := by omega
  have b2 : (0 : Int) < s.size := by omega
  have b3 : decide ((1 : Int) ≤ s.size) = true := by simp; omega
  have b4 : decide (1 ≤ s.size) = true := by simp; omega
  have q1 : (((s[0].toNat : Nat) : Int) == 1) = false := by rw [hk]; rfl
  have q2 : (((s[0].toNat : Nat) : Int) == 2) = false := by rw [hk]; rfl
  have q3 : (((s[0].toNat : Nat) : Int) == 3) = false := by rw [hk]; rfl
  have q4 : (((s[0].toNat : Nat) : Int) == 4) = false := by rw [hk]; rfl
  have q5 : (((s[0].toNat : Nat) : Int) == 5) = true := by rw [hk]; rfl
  have q6 : (((s[0].toNat : Nat) : Int) == 6) = false := by rw [hk]; rfl
  have q7 : (((s[0].toNat : Nat) : Int) == 7) = false := by rw [hk]; rfl
  have q8 : (((s[0].toNat : Nat) : Int) == 8) = false := by rw [hk]; rfl
  have q9 : (((s[0].toNat : Nat) : Int) == 9) = false := by rw [hk]; rfl
  have HK := Lib.hid hk
  clear hk

  go_enter Try.func21, Try.ntmps21
  go_upto_region 5 with fail
  have h0 : RoAt 94 (w.alloc (.cells #[.int .u8 0, .int .u32 0, .int .u64 0, .slice none 0 0, .slice none 0 0, .string ⟨#[]⟩, .int .u32 0, .int .u32 0, .int .u64 0] 34)) (w.heap.size + 1 + 1 + 1) (w.heap.size + 1) (some (w.heap.size + 1 + 1)) s.size (op0 s[0].toNat) nilS nilS ⟨s.extract 1 s.size, false⟩ ((((w.alloc (.cells #[.int .u8 0, .int .u32 0, .int .u64 0, .slice none 0 0, .slice none 0 0, .string ⟨#[]⟩, .int .u32 0, .int .u32 0, .int .u64 0] 34)).alloc (.cells #[.string (s.extract 1 s.size), .bool false] 94)).alloc (.cells #[.pointer (some ⟨w.heap.size + 1, 0, none⟩)] 92)).alloc (.cells #[.int .u8 (s[0].toNat : Nat), .int .u32 0, .int .u64 0, .slice none 0 0, .slice none 0 0, .string ⟨#[]⟩, .int .u32 0, .int .u32 0, .int .u64 0] 34)) := by
    have := read_begin (w.alloc (.cells #[.int .u8 0, .int .u32 0, .int .u64 0, .slice none 0 0, .slice none 0 0, .string ⟨#[]⟩, .int .u32 0, .int .u32 0, .int .u64 0] 34)) 94 (Or.inl rfl) (s.extract 1 s.size) (k := s[0].toNat) (S := s.size) (by simp) hs
    rw [World.size_alloc] at this
    exact this
  obtain ⟨W4, HW4⟩ : ∃ W, Hid (((((w.alloc (.cells #[.int .u8 0, .int .u32 0, .int .u64 0, .slice none 0 0, .slice none 0 0, .string ⟨#[]⟩, .int .u32 0, .int .u32 0, .int .u64 0] 34)).alloc (.cells #[.string (s.extract 1 s.size), .bool false] 94)).alloc (.cells #[.pointer (some ⟨w.heap.size + 1, 0, none⟩)] 92)).alloc (.cells #[.int .u8 (s[0].toNat : Nat), .int .u32 0, .int .u64 0, .slice none 0 0, .slice none 0 0, .string ⟨#[]⟩, .int .u32 0, .int .u32 0, .int .u64 0] 34)) = W) := ⟨_, Lib.hid rfl⟩
  obtain ⟨W0, HW0⟩ : ∃ W, Hid (w.alloc (.cells #[.int .u8 0, .int .u32 0, .int .u64 0, .slice none 0 0, .slice none 0 0, .string ⟨#[]⟩, .int .u32 0, .int .u32 0, .int .u64 0] 34) = W) := ⟨_, Lib.hid rfl⟩
  obtain ⟨kb, HKB⟩ : ∃ kb, Hid (w.heap.size + 1 + 1 + 1 = kb) := ⟨_, Lib.hid rfl⟩
  obtain ⟨vb, HVB⟩ : ∃ vb, Hid (w.heap.size + 1 + 1 = vb) := ⟨_, Lib.hid rfl⟩
  obtain ⟨rb, HRB⟩ : ∃ rb, Hid (w.heap.size + 1 = rb) := ⟨_, Lib.hid rfl⟩
  obtain ⟨S, HS⟩ : ∃ S, Hid (s.size = S) := ⟨_, Lib.hid rfl⟩
  rw [HW4.out] at h0 ⊢
  rw [HW0.out] at h0
  rw [HKB.out, HVB.out, HRB.out] at h0 ⊢
  have H0 := Lib.hid h0
  have k0 : W4.cell? ⟨kb, 0, none⟩ = some (.int .u8 (s[0].toNat : Nat)) := h0.see.2.2.2.2.1
  clear h0
  have C0 := Lib.hid ((rdtext_any H0.out.rd (Nat.le_trans H0.out.sz H0.out.S)).mono fun e W' hh => show e = .returned (.string (textR (⟨s.extract 1 s.size, false⟩ : RdS)).1) ∧ (RoAt 94 W0 kb rb (some vb) s.size { (op0 s[0].toNat) with pred := (textR (⟨s.extract 1 s.size, false⟩ : RdS)).1 } nilS nilS (textR (⟨s.extract 1 s.size, false⟩ : RdS)).2 (W'.setCell ⟨kb, 5, none⟩ (.string (textR (⟨s.extract 1 s.size, false⟩ : RdS)).1)) ∧ W'.frozen? ⟨kb, 5, none⟩ = false ∧ W'.cell? ⟨kb, 5, none⟩ = some (.string ((op0 s[0].toNat)).pred)) from ⟨hh.1, ((H0.out.read hh.2.1 hh.2.2 (textR_le (⟨s.extract 1 s.size, false⟩ : RdS)).1).set_pred (textR (⟨s.extract 1 s.size, false⟩ : RdS)).1).2, ((H0.out.read hh.2.1 hh.2.2 (textR_le (⟨s.extract 1 s.size, false⟩ : RdS)).1).set_pred (textR (⟨s.extract 1 s.size, false⟩ : RdS)).1).1, cell_of (H0.out.read hh.2.1 hh.2.2 (textR_le (⟨s.extract 1 s.size, false⟩ : RdS)).1).box rfl⟩)
  have v0 := H0.out.see.2.2.2.2.2.1 vb rfl
  clear H0
  go_wp2_with fail
  refine C0.out.mono ?_
  rintro e Wk0 ⟨rfl, h0, f0, c0⟩
  have H1 := Lib.hid h0
  clear h0 C0 v0
  have C1 := Lib.hid ((rdsmall_any H1.out.rd (Nat.le_trans H1.out.sz H1.out.S)).mono fun e W' hh => show e = .returned (.int .u32 ((smallR (textR (⟨s.extract 1 s.size, false⟩ : RdS)).2).1 : Nat)) ∧ (RoAt 94 W0 kb rb (some vb) s.size { { (op0 s[0].toNat) with pred := (textR (⟨s.extract 1 s.size, false⟩ : RdS)).1 } with g := (smallR (textR (⟨s.extract 1 s.size, false⟩ : RdS)).2).1 } nilS nilS (smallR (textR (⟨s.extract 1 s.size, false⟩ : RdS)).2).2 (W'.setCell ⟨kb, 6, none⟩ (.int .u32 ((smallR (textR (⟨s.extract 1 s.size, false⟩ : RdS)).2).1 : Nat))) ∧ W'.frozen? ⟨kb, 6, none⟩ = false ∧ W'.cell? ⟨kb, 6, none⟩ = some (.int .u32 (({ (op0 s[0].toNat) with pred := (textR (⟨s.extract 1 s.size, false⟩ : RdS)).1 }).g : Nat))) from ⟨hh.1, ((H1.out.read hh.2.1 hh.2.2 (smallR_le (textR (⟨s.extract 1 s.size, false⟩ : RdS)).2).1).set_g (smallR (textR (⟨s.extract 1 s.size, false⟩ : RdS)).2).1).2, ((H1.out.read hh.2.1 hh.2.2 (smallR_le (textR (⟨s.extract 1 s.size, false⟩ : RdS)).2).1).set_g (smallR (textR (⟨s.extract 1 s.size, false⟩ : RdS)).2).1).1, cell_of (H1.out.read hh.2.1 hh.2.2 (smallR_le (textR (⟨s.extract 1 s.size, false⟩ : RdS)).2).1).box rfl⟩)
  have v1 := H1.out.see.2.2.2.2.2.1 vb rfl
  clear H1
  go_wp2_with fail
  refine C1.out.mono ?_
  rintro e Wk1 ⟨rfl, h1, f1, c1⟩
  have H2 := Lib.hid h1
  clear h1 C1 v1
  have HF := Lib.hid (show ∃ kv nv, RoAt 94 W0 kb rb (some vb) s.size (bodyR s[0].toNat ⟨s.extract 1 s.size, false⟩).1 kv nv (bodyR s[0].toNat ⟨s.extract 1 s.size, false⟩).2 _ from ⟨_, _, by
    have hh := H2.out
    rw [HK.out] at hh ⊢
    exact hh⟩)

  obtain ⟨W5, HW5⟩ : ∃ W5, Hid (Wk1.setCell ⟨kb, 6, none⟩ (.int .u32 ((smallR (textR (⟨s.extract 1 s.size, false⟩ : RdS)).2).1 : Nat)) = W5) := ⟨_, Lib.hid rfl⟩
  go_upto_region 27 with fail
  rw [HW5.out] at HF ⊢
  have HOK := Lib.hid (body_ok (S := s.size) (k := s[0].toNat) s[0].toNat_lt (r := ⟨s.extract 1 s.size, false⟩) (by simp))
  obtain ⟨o, HO⟩ : ∃ o, Hid ((bodyR s[0].toNat ⟨s.extract 1 s.size, false⟩).1 = o) := ⟨_, Lib.hid rfl⟩
  obtain ⟨r, HRD⟩ : ∃ r, Hid ((bodyR s[0].toNat ⟨s.extract 1 s.size, false⟩).2 = r) := ⟨_, Lib.hid rfl⟩
  rw [HO.out, HRD.out] at HF
  rw [HO.out] at HOK
  obtain ⟨kv, nv, hf⟩ := HF.out
  clear HF q1 q2 q3 q4 q5 q6 q7 q8 q9
  obtain ⟨⟨ko, kc, rfl⟩, ⟨no, nc, rfl⟩, -, -, -, hv, -⟩ := hf.see
  have HA := Lib.hid (hf.opAt (l := ⟨ko, kc, no, nc⟩) HOK.out)
  have BY := Lib.hid (bytes_any HA.out)
  have x0 : W5.cell? ⟨kb, 0, none⟩ = some (.int .u8 (o.k : Nat)) := cell_of hf.box rfl
  have x1 : W5.cell? ⟨kb, 1, none⟩ = some (.int .u32 (o.n : Nat)) := cell_of hf.box rfl
  have x2 : W5.cell? ⟨kb, 2, none⟩ = some (.int .u64 (o.st : Nat)) := cell_of hf.box rfl
  have x3 : W5.cell? ⟨kb, 3, none⟩ = some (.slice ko o.keys.length kc) := cell_of hf.box rfl
  have x4 : W5.cell? ⟨kb, 4, none⟩ = some (.slice no o.needs.length nc) := cell_of hf.box rfl
  have x5 : W5.cell? ⟨kb, 5, none⟩ = some (.string o.pred) := cell_of hf.box rfl
  have x6 : W5.cell? ⟨kb, 6, none⟩ = some (.int .u32 (o.g : Nat)) := cell_of hf.box rfl
  have x7 : W5.cell? ⟨kb, 7, none⟩ = some (.int .u32 (o.to : Nat)) := cell_of hf.box rfl
  have x8 : W5.cell? ⟨kb, 8, none⟩ = some (.int .u64 (o.at_ : Nat)) := cell_of hf.box rfl
  have HF := Lib.hid hf
  clear hf hv
  go_wp2_with fail
  refine BY.out.mono ?_
  rintro e W6 ⟨rfl, hc⟩
  have HF6 := Lib.hid (HF.out.same hc)
  have HA6 := Lib.hid (HA.out.same hc)
  clear HF HA BY x0 x1 x2 x3 x4 x5 x6 x7 x8 hc
  have v0 := HF6.out.see.2.2.2.2.2.1 vb rfl
  have v1 := HF6.out.see.2.2.2.2.2.2
  have x0 : W6.cell? ⟨kb, 0, none⟩ = some (.int .u8 (o.k : Nat)) := cell_of HF6.out.box rfl
  have x1 : W6.cell? ⟨kb, 1, none⟩ = some (.int .u32 (o.n : Nat)) := cell_of HF6.out.box rfl
  have x2 : W6.cell? ⟨kb, 2, none⟩ = some (.int .u64 (o.st : Nat)) := cell_of HF6.out.box rfl
  have x3 : W6.cell? ⟨kb, 3, none⟩ = some (.slice ko o.keys.length kc) := cell_of HF6.out.box rfl
  have x4 : W6.cell? ⟨kb, 4, none⟩ = some (.slice no o.needs.length nc) := cell_of HF6.out.box rfl
  have x5 : W6.cell? ⟨kb, 5, none⟩ = some (.string o.pred) := cell_of HF6.out.box rfl
  have x6 : W6.cell? ⟨kb, 6, none⟩ = some (.int .u32 (o.g : Nat)) := cell_of HF6.out.box rfl
  have x7 : W6.cell? ⟨kb, 7, none⟩ = some (.int .u32 (o.to : Nat)) := cell_of HF6.out.box rfl
  have x8 : W6.cell? ⟨kb, 8, none⟩ = some (.int .u64 (o.at_ : Nat)) := cell_of HF6.out.box rfl
  have HZ := Lib.hid (show W6.heap[w.heap.size]? = some (.cells (boxC (op0 0) nilS nilS) 34) from (HF6.out.chg.block _ (by rw [← HW0.out]; simp) (fun f => f)).trans (by rw [← HW0.out]; exact Go.heap_alloc_new w _))
  have r0 : W6.cell? ⟨w.heap.size, 0, none⟩ = some (.int .u8 0) := cell_of HZ.out rfl
  have g0 : W6.frozen? ⟨w.heap.size, 0, none⟩ = false := frozen_of HZ.out
  have r1 : W6.cell? ⟨w.heap.size, 1, none⟩ = some (.int .u32 0) := cell_of HZ.out rfl
  have g1 : W6.frozen? ⟨w.heap.size, 1, none⟩ = false := frozen_of HZ.out
  have r2 : W6.cell? ⟨w.heap.size, 2, none⟩ = some (.int .u64 0) := cell_of HZ.out rfl
  have g2 : W6.frozen? ⟨w.heap.size, 2, none⟩ = false := frozen_of HZ.out
  have r3 : W6.cell? ⟨w.heap.size, 3, none⟩ = some (.slice none 0 0) := cell_of HZ.out rfl
  have g3 : W6.frozen? ⟨w.heap.size, 3, none⟩ = false := frozen_of HZ.out
  have r4 : W6.cell? ⟨w.heap.size, 4, none⟩ = some (.slice none 0 0) := cell_of HZ.out rfl
  have g4 : W6.frozen? ⟨w.heap.size, 4, none⟩ = false := frozen_of HZ.out
  have r5 : W6.cell? ⟨w.heap.size, 5, none⟩ = some (.string ⟨#[]⟩) := cell_of HZ.out rfl
  have g5 : W6.frozen? ⟨w.heap.size, 5, none⟩ = false := frozen_of HZ.out
  have r6 : W6.cell? ⟨w.heap.size, 6, none⟩ = some (.int .u32 0) := cell_of HZ.out rfl
  have g6 : W6.frozen? ⟨w.heap.size, 6, none⟩ = false := frozen_of HZ.out
  have r7 : W6.cell? ⟨w.heap.size, 7, none⟩ = some (.int .u32 0) := cell_of HZ.out rfl
  have g7 : W6.frozen? ⟨w.heap.size, 7, none⟩ = false := frozen_of HZ.out
  have r8 : W6.cell? ⟨w.heap.size, 8, none⟩ = some (.int .u64 0) := cell_of HZ.out rfl
  have g8 : W6.frozen? ⟨w.heap.size, 8, none⟩ = false := frozen_of HZ.out
  obtain ⟨B, HB⟩ : ∃ B, Hid (bytesM o = B) := ⟨_, Lib.hid rfl⟩
  rw [HB.out]
  obtain ⟨bd, hbd⟩ : ∃ b, r.bad = b := ⟨_, rfl⟩
  obtain ⟨my, hmy⟩ : ∃ b, mayM o = b := ⟨_, rfl⟩
  obtain ⟨z, hz⟩ : ∃ z, decide (B = s) = z := ⟨_, rfl⟩
  have hq2 : (B.toList == s.toList) = z := by
    rw [← hz]
    by_cases e : B = s
    · subst e; simp
    · have : B.toList ≠ s.toList := fun h => e (bytes_inj h)
      simp [e, this]
  have HMV := Lib.hid (show M = if !bd && (my && z) then (o, 0) else (op0 0, 200) from by
    rw [← HM.out]
    unfold readM goodR
    rw [HO.out, HRD.out, hbd, hmy]
    cases my
    · simp
    · have : str (bytesL o) = B := by rw [← HB.out]; unfold bytesM; rw [hmy]; rfl
      rw [this, hz])
  have HC6 := Lib.hid (show Chg (fun _ => False) w W6 from (show Chg (fun _ => False) w W0 by rw [← HW0.out]; exact (Chg.refl _ w).alloc _).trans HF6.out.chg)
  have HN := Lib.hid (show w.heap.size < W0.heap.size by rw [← HW0.out]; simp)
  rw [hbd] at v1
  rw [hmy]
  clear hbd hmy hz
  cases bd
  case true =>
    clear hq2
    generalize (ite (my = true) (0 : Int) 200) = cc
    have HM2 := Lib.hid (show M = (op0 0, 200) from by rw [HMV.out]; rfl)
    clear HMV
    go_wp2_with fail
    obtain ⟨hh, hc⟩ := fin9 HZ.out (.int .u8 0) (.int .u32 0) (.int .u64 0) (.slice none 0 0) (.slice none 0 0) (.string ⟨#[]⟩) (.int .u32 0) (.int .u32 0) (.int .u64 0)
    unfold fin9W at hh hc
    refine bodyPost_ret (results_cell_row_tmp (p := 2) (u := 3) (ty := 34) rfl _ _ w.heap.size 34 _ (0, 0) _ rfl hh Try.underlying34 rfl (by kernel_rfl)) rfl ⟨nilL, ?_, ?_, ?_⟩
    · rw [HM2.out]; rfl
    · rw [HM2.out]; exact op0_at _
    · exact HC6.out.trans' hc (fun g e => Or.inr (by omega))
  case false =>
    cases my
    case false =>
      clear hq2
      have HM2 := Lib.hid (show M = (op0 0, 200) from by rw [HMV.out]; rfl)
      clear HMV
      go_wp2_with fail
      obtain ⟨hh, hc⟩ := fin9 HZ.out (.int .u8 0) (.int .u32 0) (.int .u64 0) (.slice none 0 0) (.slice none 0 0) (.string ⟨#[]⟩) (.int .u32 0) (.int .u32 0) (.int .u64 0)
      unfold fin9W at hh hc
      refine bodyPost_ret (results_cell_row_tmp (p := 2) (u := 3) (ty := 34) rfl _ _ w.heap.size 34 _ (0, 0) _ rfl hh Try.underlying34 rfl (by kernel_rfl)) rfl ⟨nilL, ?_, ?_, ?_⟩
      · rw [HM2.out]; rfl
      · rw [HM2.out]; exact op0_at _
      · exact HC6.out.trans' hc (fun g e => Or.inr (by omega))
    case true =>
      cases z
      case false =>
        have HM2 := Lib.hid (show M = (op0 0, 200) from by rw [HMV.out]; rfl)
        clear HMV
        go_wp2_with fail
        obtain ⟨hh, hc⟩ := fin9 HZ.out (.int .u8 0) (.int .u32 0) (.int .u64 0) (.slice none 0 0) (.slice none 0 0) (.string ⟨#[]⟩) (.int .u32 0) (.int .u32 0) (.int .u64 0)
        unfold fin9W at hh hc
        refine bodyPost_ret (results_cell_row_tmp (p := 2) (u := 3) (ty := 34) rfl _ _ w.heap.size 34 _ (0, 0) _ rfl hh Try.underlying34 rfl (by kernel_rfl)) rfl ⟨nilL, ?_, ?_, ?_⟩
        · rw [HM2.out]; rfl
        · rw [HM2.out]; exact op0_at _
        · exact HC6.out.trans' hc (fun g e => Or.inr (by omega))
      case true =>
        go_wp2_with fail
        obtain ⟨hh, hc⟩ := fin9 HZ.out (.int .u8 (o.k : Nat)) (.int .u32 (o.n : Nat)) (.int .u64 (o.st : Nat)) (.slice ko o.keys.length kc) (.slice no o.needs.length nc) (.string o.pred) (.int .u32 (o.g : Nat)) (.int .u32 (o.to : Nat)) (.int .u64 (o.at_ : Nat))
        unfold fin9W at hh hc
        refine bodyPost_ret (results_cell_row_tmp (p := 2) (u := 3) (ty := 34) rfl _ _ w.heap.size 34 _ (0, 0) _ rfl hh Try.underlying34 rfl (by kernel_rfl)) rfl ⟨⟨ko, kc, no, nc⟩, ?_, ?_, ?_⟩
        · rw [HMV.out]; rfl
        · rw [HMV.out]
          refine HA6.out.apart9 HZ.out hc (fun g oo e => ?_) (fun g oo e => ?_)
          · have := HF6.out.ko g (by simp only at e; rw [e]; rfl)
            have := HN.out
            omega
          · have := HF6.out.no g (by simp only at e; rw [e]; rfl)
            have := HN.out
            omega
        · exact HC6.out.trans' hc (fun g e => Or.inr (by omega))

end Go.Proofs.Ytgmmglmokkcgeaa
/- Walks: Read, one kind. -/
namespace Go.Proofs.Ytgmmglmokkcgeaa
set_option linter.unusedVariables false
set_option linter.unusedSimpArgs false
open Go.RowKit Mk Go.Sort


set_option maxRecDepth 100000 in
set_option maxHeartbeats 4000000 in
theorem read_6 {w : World} {s : ByteArray} (h1 : 0 < s.size) (hs : s.size ≤ 1099511627776) (hk : s[0].toNat = 6) :
    Calls Try.prog 21 #[.string s] w fun e w' => ∃ l, e = .returned (.tuple #[.agg (opC (readM s[0].toNat s).1 l), .int .i64 ((readM s[0].toNat s).2 : Nat)]) ∧ OpAt w' (readM s[0].toNat s).1 l ∧ Chg (fun _ => False) w w' := by
  obtain ⟨M, HM⟩ : ∃ M, Hid (readM s[0].toNat s = M) := ⟨_, Lib.hid rfl⟩
  rw [HM.out]
  have hq := bytes_isEmpty s
  have hd : decide (s.size = 0) = false := decide_eq_false (by omega)
  rw [hd] at hq
  clear hd
  have b1 : (1 : Int) ≤ s.size := by omega
  have b2 : (0 : Int) < s.size := by omega
  have b3 : decide ((1 : Int) ≤ s.size) = true := by simp; omega
  have b4 : decide (1 ≤ s.size) = true := by simp; omega
  have q1 : (((s[0].toNat : Nat) : Int) == 1) = false := by rw [hk]; rfl
  have q2 : (((s[0].toNat : Nat) : Int) == 2) = false := by rw [hk]; rfl
  have q3 : (((s[0].toNat : Nat) : Int) == 3) = false := by rw [hk]; rfl
  have q4 : (((s[0].toNat : Nat) : Int) == 4) = false := by rw [hk]; rfl
  have q5 : (((s[0].toNat : Nat) : Int) == 5) = false := by rw [hk]; rfl
  have q6 : (((s[0].toNat : Nat) : Int) == 6) = true := by rw [hk]; rfl
  have q7 : (((s[0].toNat : Nat) : Int) == 7) = false := by rw [hk]; rfl
  have q8 : (((s[0].toNat : Nat) : Int) == 8) = false := by rw [hk]; rfl
  have q9 : (((s[0].toNat : Nat) : Int) == 9) = false := by rw [hk]; rfl
  have HK := Lib.hid hk
  clear hk

  go_enter Try.func21, Try.ntmps21
  go_upto_region 5 with fail
  have h0 : RoAt 94 (w.alloc (.cells #[.int .u8 0, .int .u32 0, .int .u64 0, .slice none 0 0, .slice none 0 0, .string ⟨#[]⟩, .int .u32 0, .int .u32 0, .int .u64 0] 34)) (w.heap.size + 1 + 1 + 1) (w.heap.size + 1) (some (w.heap.size + 1 + 1)) s.size (op0 s[0].toNat) nilS nilS ⟨s.extract 1 s.size, false⟩ ((((w.alloc (.cells #[.int .u8 0, .int .u32 0, .int .u64 0, .slice none 0 0, .slice none 0 0, .string ⟨#[]⟩, .int .u32 0, .int .u32 0, .int .u64 0] 34)).alloc (.cells #[.string (s.extract 1 s.size), .bool false] 94)).alloc (.cells #[.pointer (some ⟨w.heap.size + 1, 0, none⟩)] 92)).alloc (.cells #[.int .u8 (s[0].toNat : Nat), .int .u32 0, .int .u64 0, .slice none 0 0, .slice none 0 0, .string ⟨#[]⟩, .int .u32 0, .int .u32 0, .int .u64 0] 34)) := by
    have := read_begin (w.alloc (.cells #[.int .u8 0, .int .u32 0, .int .u64 0, .slice none 0 0, .slice none 0 0, .string ⟨#[]⟩, .int .u32 0, .int .u32 0, .int .u64 0] 34)) 94 (Or.inl rfl) (s.extract 1 s.size) (k := s[0].toNat) (S := s.size) (by simp) hs
    rw [World.size_alloc] at this
    exact this
  obtain ⟨W4, HW4⟩ : ∃ W, Hid (((((w.alloc (.cells #[.int .u8 0, .int .u32 0, .int .u64 0, .slice none 0 0, .slice none 0 0, .string ⟨#[]⟩, .int .u32 0, .int .u32 0, .int .u64 0] 34)).alloc (.cells #[.string (s.extract 1 s.size), .bool false] 94)).alloc (.cells #[.pointer (some ⟨w.heap.size + 1, 0, none⟩)] 92)).alloc (.cells #[.int .u8 (s[0].toNat : Nat), .int .u32 0, .int .u64 0, .slice none 0 0, .slice none 0 0, .string ⟨#[]⟩, .int .u32 0, .int .u32 0, .int .u64 0] 34)) = W) := ⟨_, Lib.hid rfl⟩
  obtain ⟨W0, HW0⟩ : ∃ W, Hid (w.alloc (.cells #[.int .u8 0, .int .u32 0, .int .u64 0, .slice none 0 0, .slice none 0 0, .string ⟨#[]⟩, .int .u32 0, .int .u32 0, .int .u64 0] 34) = W) := ⟨_, Lib.hid rfl⟩
  obtain ⟨kb, HKB⟩ : ∃ kb, Hid (w.heap.size + 1 + 1 + 1 = kb) := ⟨_, Lib.hid rfl⟩
  obtain ⟨vb, HVB⟩ : ∃ vb, Hid (w.heap.size + 1 + 1 = vb) := ⟨_, Lib.hid rfl⟩
  obtain ⟨rb, HRB⟩ : ∃ rb, Hid (w.heap.size + 1 = rb) := ⟨_, Lib.hid rfl⟩
  obtain ⟨S, HS⟩ : ∃ S, Hid (s.size = S) := ⟨_, Lib.hid rfl⟩
  rw [HW4.out] at h0 ⊢
  rw [HW0.out] at h0
  rw [HKB.out, HVB.out, HRB.out] at h0 ⊢
  have H0 := Lib.hid h0
  have k0 : W4.cell? ⟨kb, 0, none⟩ = some (.int .u8 (s[0].toNat : Nat)) := h0.see.2.2.2.2.1
  clear h0
  have C0 := Lib.hid ((rdtext_any H0.out.rd (Nat.le_trans H0.out.sz H0.out.S)).mono fun e W' hh => show e = .returned (.string (textR (⟨s.extract 1 s.size, false⟩ : RdS)).1) ∧ (RoAt 94 W0 kb rb (some vb) s.size { (op0 s[0].toNat) with pred := (textR (⟨s.extract 1 s.size, false⟩ : RdS)).1 } nilS nilS (textR (⟨s.extract 1 s.size, false⟩ : RdS)).2 (W'.setCell ⟨kb, 5, none⟩ (.string (textR (⟨s.extract 1 s.size, false⟩ : RdS)).1)) ∧ W'.frozen? ⟨kb, 5, none⟩ = false ∧ W'.cell? ⟨kb, 5, none⟩ = some (.string ((op0 s[0].toNat)).pred)) from ⟨hh.1, ((H0.out.read hh.2.1 hh.2.2 (textR_le (⟨s.extract 1 s.size, false⟩ : RdS)).1).set_pred (textR (⟨s.extract 1 s.size, false⟩ : RdS)).1).2, ((H0.out.read hh.2.1 hh.2.2 (textR_le (⟨s.extract 1 s.size, false⟩ : RdS)).1).set_pred (textR (⟨s.extract 1 s.size, false⟩ : RdS)).1).1, cell_of (H0.out.read hh.2.1 hh.2.2 (textR_le (⟨s.extract 1 s.size, false⟩ : RdS)).1).box rfl⟩)
  have v0 := H0.out.see.2.2.2.2.2.1 vb rfl
  clear H0
  go_wp2_with fail
  refine C0.out.mono ?_
  rintro e Wk0 ⟨rfl, h0, f0, c0⟩
  have H1 := Lib.hid h0
  clear h0 C0 v0
  have C1 := Lib.hid ((rdsmall_any H1.out.rd (Nat.le_trans H1.out.sz H1.out.S)).mono fun e W' hh => show e = .returned (.int .u32 ((smallR (textR (⟨s.extract 1 s.size, false⟩ : RdS)).2).1 : Nat)) ∧ (RoAt 94 W0 kb rb (some vb) s.size { { (op0 s[0].toNat) with pred := (textR (⟨s.extract 1 s.size, false⟩ : RdS)).1 } with «to» := (smallR (textR (⟨s.extract 1 s.size, false⟩ : RdS)).2).1 } nilS nilS (smallR (textR (⟨s.extract 1 s.size, false⟩ : RdS)).2).2 (W'.setCell ⟨kb, 7, none⟩ (.int .u32 ((smallR (textR (⟨s.extract 1 s.size, false⟩ : RdS)).2).1 : Nat))) ∧ W'.frozen? ⟨kb, 7, none⟩ = false ∧ W'.cell? ⟨kb, 7, none⟩ = some (.int .u32 (({ (op0 s[0].toNat) with pred := (textR (⟨s.extract 1 s.size, false⟩ : RdS)).1 }).«to» : Nat))) from ⟨hh.1, ((H1.out.read hh.2.1 hh.2.2 (smallR_le (textR (⟨s.extract 1 s.size, false⟩ : RdS)).2).1).set_to (smallR (textR (⟨s.extract 1 s.size, false⟩ : RdS)).2).1).2, ((H1.out.read hh.2.1 hh.2.2 (smallR_le (textR (⟨s.extract 1 s.size, false⟩ : RdS)).2).1).set_to (smallR (textR (⟨s.extract 1 s.size, false⟩ : RdS)).2).1).1, cell_of (H1.out.read hh.2.1 hh.2.2 (smallR_le (textR (⟨s.extract 1 s.size, false⟩ : RdS)).2).1).box rfl⟩)
  have v1 := H1.out.see.2.2.2.2.2.1 vb rfl
  clear H1
  go_wp2_with fail
  refine C1.out.mono ?_
  rintro e Wk1 ⟨rfl, h1, f1, c1⟩
  have H2 := Lib.hid h1
  clear h1 C1 v1
  have HF := Lib.hid (show ∃ kv nv, RoAt 94 W0 kb rb (some vb) s.size (bodyR s[0].toNat ⟨s.extract 1 s.size, false⟩).1 kv nv (bodyR s[0].toNat ⟨s.extract 1 s.size, false⟩).2 _ from ⟨_, _, by
    have hh := H2.out
    rw [HK.out] at hh ⊢
    exact hh⟩)

  obtain ⟨W5, HW5⟩ : ∃ W5, Hid (Wk1.setCell ⟨kb, 7, none⟩ (.int .u32 ((smallR (textR (⟨s.extract 1 s.size, false⟩ : RdS)).2).1 : Nat)) = W5) := ⟨_, Lib.hid rfl⟩
  go_upto_region 27 with fail
  rw [HW5.out] at HF ⊢
  have HOK := Lib.hid (body_ok (S := s.size) (k := s[0].toNat) s[0].toNat_lt (r := ⟨s.extract 1 s.size, false⟩) (by simp))
  obtain ⟨o, HO⟩ : ∃ o, Hid ((bodyR s[0].toNat ⟨s.extract 1 s.size, false⟩).1 = o) := ⟨_, Lib.hid rfl⟩
  obtain ⟨r, HRD⟩ : ∃ r, Hid ((bodyR s[0].toNat ⟨s.extract 1 s.size, false⟩).2 = r) := ⟨_, Lib.hid rfl⟩
  rw [HO.out, HRD.out] at HF
  rw [HO.out] at HOK
  obtain ⟨kv, nv, hf⟩ := HF.out
  clear HF q1 q2 q3 q4 q5 q6 q7 q8 q9
  obtain ⟨⟨ko, kc, rfl⟩, ⟨no, nc, rfl⟩, -, -, -, hv, -⟩ := hf.see
  have HA := Lib.hid (hf.opAt (l := ⟨ko, kc, no, nc⟩) HOK.out)
  have BY := Lib.hid (bytes_any HA.out)
  have x0 : W5.cell? ⟨kb, 0, none⟩ = some (.int .u8 (o.k : Nat)) := cell_of hf.box rfl
  have x1 : W5.cell? ⟨kb, 1, none⟩ = some (.int .u32 (o.n : Nat)) := cell_of hf.box rfl
  have x2 : W5.cell? ⟨kb, 2, none⟩ = some (.int .u64 (o.st : Nat)) := cell_of hf.box rfl
  have x3 : W5.cell? ⟨kb, 3, none⟩ = some (.slice ko o.keys.length kc) := cell_of hf.box rfl
  have x4 : W5.cell? ⟨kb, 4, none⟩ = some (.slice no o.needs.length nc) := cell_of hf.box rfl
  have x5 : W5.cell? ⟨kb, 5, none⟩ = some (.string o.pred) := cell_of hf.box rfl
  have x6 : W5.cell? ⟨kb, 6, none⟩ = some (.int .u32 (o.g : Nat)) := cell_of hf.box rfl
  have x7 : W5.cell? ⟨kb, 7, none⟩ = some (.int .u32 (o.to : Nat)) := cell_of hf.box rfl
  have x8 : W5.cell? ⟨kb, 8, none⟩ = some (.int .u64 (o.at_ : Nat)) := cell_of hf.box rfl
  have HF := Lib.hid hf
  clear hf hv
  go_wp2_with fail
  refine BY.out.mono ?_
  rintro e W6 ⟨rfl, hc⟩
  have HF6 := Lib.hid (HF.out.same hc)
  have HA6 := Lib.hid (HA.out.same hc)
  clear HF HA BY x0 x1 x2 x3 x4 x5 x6 x7 x8 hc
  have v0 := HF6.out.see.2.2.2.2.2.1 vb rfl
  have v1 := HF6.out.see.2.2.2.2.2.2
  have x0 : W6.cell? ⟨kb, 0, none⟩ = some (.int .u8 (o.k : Nat)) := cell_of HF6.out.box rfl
  have x1 : W6.cell? ⟨kb, 1, none⟩ = some (.int .u32 (o.n : Nat)) := cell_of HF6.out.box rfl
  have x2 : W6.cell? ⟨kb, 2, none⟩ = some (.int .u64 (o.st : Nat)) := cell_of HF6.out.box rfl
  have x3 : W6.cell? ⟨kb, 3, none⟩ = some (.slice ko o.keys.length kc) := cell_of HF6.out.box rfl
  have x4 : W6.cell? ⟨kb, 4, none⟩ = some (.slice no o.needs.length nc) := cell_of HF6.out.box rfl
  have x5 : W6.cell? ⟨kb, 5, none⟩ = some (.string o.pred) := cell_of HF6.out.box rfl
  have x6 : W6.cell? ⟨kb, 6, none⟩ = some (.int .u32 (o.g : Nat)) := cell_of HF6.out.box rfl
  have x7 : W6.cell? ⟨kb, 7, none⟩ = some (.int .u32 (o.to : Nat)) := cell_of HF6.out.box rfl
  have x8 : W6.cell? ⟨kb, 8, none⟩ = some (.int .u64 (o.at_ : Nat)) := cell_of HF6.out.box rfl
  have HZ := Lib.hid (show W6.heap[w.heap.size]? = some (.cells (boxC (op0 0) nilS nilS) 34) from (HF6.out.chg.block _ (by rw [← HW0.out]; simp) (fun f => f)).trans (by rw [← HW0.out]; exact Go.heap_alloc_new w _))
  have r0 : W6.cell? ⟨w.heap.size, 0, none⟩ = some (.int .u8 0) := cell_of HZ.out rfl
  have g0 : W6.frozen? ⟨w.heap.size, 0, none⟩ = false := frozen_of HZ.out
  have r1 : W6.cell? ⟨w.heap.size, 1, none⟩ = some (.int .u32 0) := cell_of HZ.out rfl
  have g1 : W6.frozen? ⟨w.heap.size, 1, none⟩ = false := frozen_of HZ.out
  have r2 : W6.cell? ⟨w.heap.size, 2, none⟩ = some (.int .u64 0) := cell_of HZ.out rfl
  have g2 : W6.frozen? ⟨w.heap.size, 2, none⟩ = false := frozen_of HZ.out
  have r3 : W6.cell? ⟨w.heap.size, 3, none⟩ = some (.slice none 0 0) := cell_of HZ.out rfl
  have g3 : W6.frozen? ⟨w.heap.size, 3, none⟩ = false := frozen_of HZ.out
  have r4 : W6.cell? ⟨w.heap.size, 4, none⟩ = some (.slice none 0 0) := cell_of HZ.out rfl
  have g4 : W6.frozen? ⟨w.heap.size, 4, none⟩ = false := frozen_of HZ.out
  have r5 : W6.cell? ⟨w.heap.size, 5, none⟩ = some (.string ⟨#[]⟩) := cell_of HZ.out rfl
  have g5 : W6.frozen? ⟨w.heap.size, 5, none⟩ = false := frozen_of HZ.out
  have r6 : W6.cell? ⟨w.heap.size, 6, none⟩ = some (.int .u32 0) := cell_of HZ.out rfl
  have g6 : W6.frozen? ⟨w.heap.size, 6, none⟩ = false := frozen_of HZ.out
  have r7 : W6.cell? ⟨w.heap.size, 7, none⟩ = some (.int .u32 0) := cell_of HZ.out rfl
  have g7 : W6.frozen? ⟨w.heap.size, 7, none⟩ = false := frozen_of HZ.out
  have r8 : W6.cell? ⟨w.heap.size, 8, none⟩ = some (.int .u64 0) := cell_of HZ.out rfl
  have g8 : W6.frozen? ⟨w.heap.size, 8, none⟩ = false := frozen_of HZ.out
  obtain ⟨B, HB⟩ : ∃ B, Hid (bytesM o = B) := ⟨_, Lib.hid rfl⟩
  rw [HB.out]
  obtain ⟨bd, hbd⟩ : ∃ b, r.bad = b := ⟨_, rfl⟩
  obtain ⟨my, hmy⟩ : ∃ b, mayM o = b := ⟨_, rfl⟩
  obtain ⟨z, hz⟩ : ∃ z, decide (B = s) = z := ⟨_, rfl⟩
  have hq2 : (B.toList == s.toList) = z := by
    rw [← hz]
    by_cases e : B = s
    · subst e; simp
    · have : B.toList ≠ s.toList := fun h => e (bytes_inj h)
      simp [e, this]
  have HMV := Lib.hid (show M = if !bd && (my && z) then (o, 0) else (op0 0, 200) from by
    rw [← HM.out]
    unfold readM goodR
    rw [HO.out, HRD.out, hbd, hmy]
    cases my
    · simp
    · have : str (bytesL o) = B := by rw [← HB.out]; unfold bytesM; rw [hmy]; rfl
      rw [this, hz])
  have HC6 := Lib.hid (show Chg (fun _ => False) w W6 from (show Chg (fun _ => False) w W0 by rw [← HW0.out]; exact (Chg.refl _ w).alloc _).trans HF6.out.chg)
  have HN := Lib.hid (show w.heap.size < W0.heap.size by rw [← HW0.out]; simp)
  rw [hbd] at v1
  rw [hmy]
  clear hbd hmy hz
  cases bd
  case true =>
    clear hq2
    generalize (ite (my = true) (0 : Int) 200) = cc
    have HM2 := Lib.hid (show M = (op0 0, 200) from by rw [HMV.out]; rfl)
    clear HMV
    go_wp2_with fail
    obtain ⟨hh, hc⟩ := fin9 HZ.out (.int .u8 0) (.int .u32 0) (.int .u64 0) (.slice none 0 0) (.slice none 0 0) (.string ⟨#[]⟩) (.int .u32 0) (.int .u32 0) (.int .u64 0)
    unfold fin9W at hh hc
    refine bodyPost_ret (results_cell_row_tmp (p := 2) (u := 3) (ty := 34) rfl _ _ w.heap.size 34 _ (0, 0) _ rfl hh Try.underlying34 rfl (by kernel_rfl)) rfl ⟨nilL, ?_, ?_, ?_⟩
    · rw [HM2.out]; rfl
    · rw [HM2.out]; exact op0_at _
    · exact HC6.out.trans' hc (fun g e => Or.inr (by omega))
  case false =>
    cases my
    case false =>
      clear hq2
      have HM2 := Lib.hid (show M = (op0 0, 200) from by rw [HMV.out]; rfl)
      clear HMV
      go_wp2_with fail
      obtain ⟨hh, hc⟩ := fin9 HZ.out (.int .u8 0) (.int .u32 0) (.int .u64 0) (.slice none 0 0) (.slice none 0 0) (.string ⟨#[]⟩) (.int .u32 0) (.int .u32 0) (.int .u64 0)
      unfold fin9W at hh hc
      refine bodyPost_ret (results_cell_row_tmp (p := 2) (u := 3) (ty := 34) rfl _ _ w.heap.size 34 _ (0, 0) _ rfl hh Try.underlying34 rfl (by kernel_rfl)) rfl ⟨nilL, ?_, ?_, ?_⟩
      · rw [HM2.out]; rfl
      · rw [HM2.out]; exact op0_at _
      · exact HC6.out.trans' hc (fun g e => Or.inr (by omega))
    case true =>
      cases z
      case false =>
        have HM2 := Lib.hid (show M = (op0 0, 200) from by rw [HMV.out]; rfl)
        clear HMV
        go_wp2_with fail
        obtain ⟨hh, hc⟩ := fin9 HZ.out (.int .u8 0) (.int .u32 0) (.int .u64 0) (.slice none 0 0) (.slice none 0 0) (.string ⟨#[]⟩) (.int .u32 0) (.int .u32 0) (.int .u64 0)
        unfold fin9W at hh hc
        refine bodyPost_ret (results_cell_row_tmp (p := 2) (u := 3) (ty := 34) rfl _ _ w.heap.size 34 _ (0, 0) _ rfl hh Try.underlying34 rfl (by kernel_rfl)) rfl ⟨nilL, ?_, ?_, ?_⟩
        · rw [HM2.out]; rfl
        · rw [HM2.out]; exact op0_at _
        · exact HC6.out.trans' hc (fun g e => Or.inr (by omega))
      case true =>
        go_wp2_with fail
        obtain ⟨hh, hc⟩ := fin9 HZ.out (.int .u8 (o.k : Nat)) (.int .u32 (o.n : Nat)) (.int .u64 (o.st : Nat)) (.slice ko o.keys.length kc) (.slice no o.needs.length nc) (.string o.pred) (.int .u32 (o.g : Nat)) (.int .u32 (o.to : Nat)) (.int .u64 (o.at_ : Nat))
        unfold fin9W at hh hc
        refine bodyPost_ret (results_cell_row_tmp (p := 2) (u := 3) (ty := 34) rfl _ _ w.heap.size 34 _ (0, 0) _ rfl hh Try.underlying34 rfl (by kernel_rfl)) rfl ⟨⟨ko, kc, no, nc⟩, ?_, ?_, ?_⟩
        · rw [HMV.out]; rfl
        · rw [HMV.out]
          refine HA6.out.apart9 HZ.out hc (fun g oo e => ?_) (fun g oo e => ?_)
          · have := HF6.out.ko g (by simp only at e; rw [e]; rfl)
            have := HN.out
            omega
          · have := HF6.out.no g (by simp only at e; rw [e]; rfl)
            have := HN.out
            omega
        · exact HC6.out.trans' hc (fun g e => Or.inr (by omega))

end Go.Proofs.Ytgmmglmokkcgeaa
/- Walks: Read, one kind. -/
namespace Go.Proofs.Ytgmmglmokkcgeaa
set_option linter.unusedVariables false
set_option linter.unusedSimpArgs false
open Go.RowKit Mk Go.Sort


set_option maxRecDepth 100000 in
set_option maxHeartbeats 4000000 in
theorem read_7 {w : World} {s : ByteArray} (h1 : 0 < s.size) (hs : s.size ≤ 1099511627776) (hk : s[0].toNat = 7) :
    Calls Try.prog 21 #[.string s] w fun e w' => ∃ l, e = .returned (.tuple #[.agg (opC (readM s[0].toNat s).1 l), .int .i64 ((readM s[0].toNat s).2 : Nat)]) ∧ OpAt w' (readM s[0].toNat s).1 l ∧ Chg (fun _ => False) w w' := by
  obtain ⟨M, HM⟩ : ∃ M, Hid (readM s[0].toNat s = M) := ⟨_, Lib.hid rfl⟩
  rw [HM.out]
  have hq := bytes_isEmpty s
  have hd : decide (s.size = 0) = false := decide_eq_false (by omega)
  rw [hd] at hq
  clear hd
  have b1 : (1 : Int) ≤ s.size := by omega
  have b2 : (0 : Int) < s.size := by omega
  have b3 : decide ((1 : Int) ≤ s.size) = true := by simp; omega
  have b4 : decide (1 ≤ s.size) = true := by simp; omega
  have q1 : (((s[0].toNat : Nat) : Int) == 1) = false := by rw [hk]; rfl
  have q2 : (((s[0].toNat : Nat) : Int) == 2) = false := by rw [hk]; rfl
  have q3 : (((s[0].toNat : Nat) : Int) == 3) = false := by rw [hk]; rfl
  have q4 : (((s[0].toNat : Nat) : Int) == 4) = false := by rw [hk]; rfl
  have q5 : (((s[0].toNat : Nat) : Int) == 5) = false := by rw [hk]; rfl
  have q6 : (((s[0].toNat : Nat) : Int) == 6) = false := by rw [hk]; rfl
  have q7 : (((s[0].toNat : Nat) : Int) == 7) = true := by rw [hk]; rfl
  have q8 : (((s[0].toNat : Nat) : Int) == 8) = false := by rw [hk]; rfl
  have q9 : (((s[0].toNat : Nat) : Int) == 9) = false := by rw [hk]; rfl
  have HK := Lib.hid hk
  clear hk

  go_enter Try.func21, Try.ntmps21
  go_upto_region 5 with fail
  have h0 : RoAt 94 (w.alloc (.cells #[.int .u8 0, .int .u32 0, .int .u64 0, .slice none 0 0, .slice none 0 0, .string ⟨#[]⟩, .int .u32 0, .int .u32 0, .int .u64 0] 34)) (w.heap.size + 1 + 1 + 1) (w.heap.size + 1) (some (w.heap.size + 1 + 1)) s.size (op0 s[0].toNat) nilS nilS ⟨s.extract 1 s.size, false⟩ ((((w.alloc (.cells #[.int .u8 0, .int .u32 0, .int .u64 0, .slice none 0 0, .slice none 0 0, .string ⟨#[]⟩, .int .u32 0, .int .u32 0, .int .u64 0] 34)).alloc (.cells #[.string (s.extract 1 s.size), .bool false] 94)).alloc (.cells #[.pointer (some ⟨w.heap.size + 1, 0, none⟩)] 92)).alloc (.cells #[.int .u8 (s[0].toNat : Nat), .int .u32 0, .int .u64 0, .slice none 0 0, .slice none 0 0, .string ⟨#[]⟩, .int .u32 0, .int .u32 0, .int .u64 0] 34)) := by
    have := read_begin (w.alloc (.cells #[.int .u8 0, .int .u32 0, .int .u64 0, .slice none 0 0, .slice none 0 0, .string ⟨#[]⟩, .int .u32 0, .int .u32 0, .int .u64 0] 34)) 94 (Or.inl rfl) (s.extract 1 s.size) (k := s[0].toNat) (S := s.size) (by simp) hs
    rw [World.size_alloc] at this
    exact this
  obtain ⟨W4, HW4⟩ : ∃ W, Hid (((((w.alloc (.cells #[.int .u8 0, .int .u32 0, .int .u64 0, .slice none 0 0, .slice none 0 0, .string ⟨#[]⟩, .int .u32 0, .int .u32 0, .int .u64 0] 34)).alloc (.cells #[.string (s.extract 1 s.size), .bool false] 94)).alloc (.cells #[.pointer (some ⟨w.heap.size + 1, 0, none⟩)] 92)).alloc (.cells #[.int .u8 (s[0].toNat : Nat), .int .u32 0, .int .u64 0, .slice none 0 0, .slice none 0 0, .string ⟨#[]⟩, .int .u32 0, .int .u32 0, .int .u64 0] 34)) = W) := ⟨_, Lib.hid rfl⟩
  obtain ⟨W0, HW0⟩ : ∃ W, Hid (w.alloc (.cells #[.int .u8 0, .int .u32 0, .int .u64 0, .slice none 0 0, .slice none 0 0, .string ⟨#[]⟩, .int .u32 0, .int .u32 0, .int .u64 0] 34) = W) := ⟨_, Lib.hid rfl⟩
  obtain ⟨kb, HKB⟩ : ∃ kb, Hid (w.heap.size + 1 + 1 + 1 = kb) := ⟨_, Lib.hid rfl⟩
  obtain ⟨vb, HVB⟩ : ∃ vb, Hid (w.heap.size + 1 + 1 = vb) := ⟨_, Lib.hid rfl⟩
  obtain ⟨rb, HRB⟩ : ∃ rb, Hid (w.heap.size + 1 = rb) := ⟨_, Lib.hid rfl⟩
  obtain ⟨S, HS⟩ : ∃ S, Hid (s.size = S) := ⟨_, Lib.hid rfl⟩
  rw [HW4.out] at h0 ⊢
  rw [HW0.out] at h0
  rw [HKB.out, HVB.out, HRB.out] at h0 ⊢
  have H0 := Lib.hid h0
  have k0 : W4.cell? ⟨kb, 0, none⟩ = some (.int .u8 (s[0].toNat : Nat)) := h0.see.2.2.2.2.1
  clear h0
  have C0 := Lib.hid ((rdtext_any H0.out.rd (Nat.le_trans H0.out.sz H0.out.S)).mono fun e W' hh => show e = .returned (.string (textR (⟨s.extract 1 s.size, false⟩ : RdS)).1) ∧ (RoAt 94 W0 kb rb (some vb) s.size { (op0 s[0].toNat) with pred := (textR (⟨s.extract 1 s.size, false⟩ : RdS)).1 } nilS nilS (textR (⟨s.extract 1 s.size, false⟩ : RdS)).2 (W'.setCell ⟨kb, 5, none⟩ (.string (textR (⟨s.extract 1 s.size, false⟩ : RdS)).1)) ∧ W'.frozen? ⟨kb, 5, none⟩ = false ∧ W'.cell? ⟨kb, 5, none⟩ = some (.string ((op0 s[0].toNat)).pred)) from ⟨hh.1, ((H0.out.read hh.2.1 hh.2.2 (textR_le (⟨s.extract 1 s.size, false⟩ : RdS)).1).set_pred (textR (⟨s.extract 1 s.size, false⟩ : RdS)).1).2, ((H0.out.read hh.2.1 hh.2.2 (textR_le (⟨s.extract 1 s.size, false⟩ : RdS)).1).set_pred (textR (⟨s.extract 1 s.size, false⟩ : RdS)).1).1, cell_of (H0.out.read hh.2.1 hh.2.2 (textR_le (⟨s.extract 1 s.size, false⟩ : RdS)).1).box rfl⟩)
  have v0 := H0.out.see.2.2.2.2.2.1 vb rfl
  clear H0
  go_wp2_with fail
  refine C0.out.mono ?_
  rintro e Wk0 ⟨rfl, h0, f0, c0⟩
  have H1 := Lib.hid h0
  clear h0 C0 v0
  have C1 := Lib.hid ((rdnum_any H1.out.rd (Nat.le_trans H1.out.sz H1.out.S)).mono fun e W' hh => show e = .returned (.int .u64 ((numR (textR (⟨s.extract 1 s.size, false⟩ : RdS)).2).1 : Nat)) ∧ (RoAt 94 W0 kb rb (some vb) s.size { { (op0 s[0].toNat) with pred := (textR (⟨s.extract 1 s.size, false⟩ : RdS)).1 } with at_ := (numR (textR (⟨s.extract 1 s.size, false⟩ : RdS)).2).1 } nilS nilS (numR (textR (⟨s.extract 1 s.size, false⟩ : RdS)).2).2 (W'.setCell ⟨kb, 8, none⟩ (.int .u64 ((numR (textR (⟨s.extract 1 s.size, false⟩ : RdS)).2).1 : Nat))) ∧ W'.frozen? ⟨kb, 8, none⟩ = false ∧ W'.cell? ⟨kb, 8, none⟩ = some (.int .u64 (({ (op0 s[0].toNat) with pred := (textR (⟨s.extract 1 s.size, false⟩ : RdS)).1 }).at_ : Nat))) from ⟨hh.1, ((H1.out.read hh.2.1 hh.2.2 (numR_le (textR (⟨s.extract 1 s.size, false⟩ : RdS)).2).1).set_at (numR (textR (⟨s.extract 1 s.size, false⟩ : RdS)).2).1).2, ((H1.out.read hh.2.1 hh.2.2 (numR_le (textR (⟨s.extract 1 s.size, false⟩ : RdS)).2).1).set_at (numR (textR (⟨s.extract 1 s.size, false⟩ : RdS)).2).1).1, cell_of (H1.out.read hh.2.1 hh.2.2 (numR_le (textR (⟨s.extract 1 s.size, false⟩ : RdS)).2).1).box rfl⟩)
  have v1 := H1.out.see.2.2.2.2.2.1 vb rfl
  clear H1
  go_wp2_with fail
  refine C1.out.mono ?_
  rintro e Wk1 ⟨rfl, h1, f1, c1⟩
  have H2 := Lib.hid h1
  clear h1 C1 v1
  have HF := Lib.hid (show ∃ kv nv, RoAt 94 W0 kb rb (some vb) s.size (bodyR s[0].toNat ⟨s.extract 1 s.size, false⟩).1 kv nv (bodyR s[0].toNat ⟨s.extract 1 s.size, false⟩).2 _ from ⟨_, _, by
    have hh := H2.out
    rw [HK.out] at hh ⊢
    exact hh⟩)

  obtain ⟨W5, HW5⟩ : ∃ W5, Hid (Wk1.setCell ⟨kb, 8, none⟩ (.int .u64 ((numR (textR (⟨s.extract 1 s.size, false⟩ : RdS)).2).1 : Nat)) = W5) := ⟨_, Lib.hid rfl⟩
  go_upto_region 27 with fail
  rw [HW5.out] at HF ⊢
  have HOK := Lib.hid (body_ok (S := s.size) (k := s[0].toNat) s[0].toNat_lt (r := ⟨s.extract 1 s.size, false⟩) (by simp))
  obtain ⟨o, HO⟩ : ∃ o, Hid ((bodyR s[0].toNat ⟨s.extract 1 s.size, false⟩).1 = o) := ⟨_, Lib.hid rfl⟩
  obtain ⟨r, HRD⟩ : ∃ r, Hid ((bodyR s[0].toNat ⟨s.extract 1 s.size, false⟩).2 = r) := ⟨_, Lib.hid rfl⟩
  rw [HO.out, HRD.out] at HF
  rw [HO.out] at HOK
  obtain ⟨kv, nv, hf⟩ := HF.out
  clear HF q1 q2 q3 q4 q5 q6 q7 q8 q9
  obtain ⟨⟨ko, kc, rfl⟩, ⟨no, nc, rfl⟩, -, -, -, hv, -⟩ := hf.see
  have HA := Lib.hid (hf.opAt (l := ⟨ko, kc, no, nc⟩) HOK.out)
  have BY := Lib.hid (bytes_any HA.out)
  have x0 : W5.cell? ⟨kb, 0, none⟩ = some (.int .u8 (o.k : Nat)) := cell_of hf.box rfl
  have x1 : W5.cell? ⟨kb, 1, none⟩ = some (.int .u32 (o.n : Nat)) := cell_of hf.box rfl
  have x2 : W5.cell? ⟨kb, 2, none⟩ = some (.int .u64 (o.st : Nat)) := cell_of hf.box rfl
  have x3 : W5.cell? ⟨kb, 3, none⟩ = some (.slice ko o.keys.length kc) := cell_of hf.box rfl
  have x4 : W5.cell? ⟨kb, 4, none⟩ = some (.slice no o.needs.length nc) := cell_of hf.box rfl
  have x5 : W5.cell? ⟨kb, 5, none⟩ = some (.string o.pred) := cell_of hf.box rfl
  have x6 : W5.cell? ⟨kb, 6, none⟩ = some (.int .u32 (o.g : Nat)) := cell_of hf.box rfl
  have x7 : W5.cell? ⟨kb, 7, none⟩ = some (.int .u32 (o.to : Nat)) := cell_of hf.box rfl
  have x8 : W5.cell? ⟨kb, 8, none⟩ = some (.int .u64 (o.at_ : Nat)) := cell_of hf.box rfl
  have HF := Lib.hid hf
  clear hf hv
  go_wp2_with fail
  refine BY.out.mono ?_
  rintro e W6 ⟨rfl, hc⟩
  have HF6 := Lib.hid (HF.out.same hc)
  have HA6 := Lib.hid (HA.out.same hc)
  clear HF HA BY x0 x1 x2 x3 x4 x5 x6 x7 x8 hc
  have v0 := HF6.out.see.2.2.2.2.2.1 vb rfl
  have v1 := HF6.out.see.2.2.2.2.2.2
  have x0 : W6.cell? ⟨kb, 0, none⟩ = some (.int .u8 (o.k : Nat)) := cell_of HF6.out.box rfl
  have x1 : W6.cell? ⟨kb, 1, none⟩ = some (.int .u32 (o.n : Nat)) := cell_of HF6.out.box rfl
  have x2 : W6.cell? ⟨kb, 2, none⟩ = some (.int .u64 (o.st : Nat)) := cell_of HF6.out.box rfl
  have x3 : W6.cell? ⟨kb, 3, none⟩ = some (.slice ko o.keys.length kc) := cell_of HF6.out.box rfl
  have x4 : W6.cell? ⟨kb, 4, none⟩ = some (.slice no o.needs.length nc) := cell_of HF6.out.box rfl
  have x5 : W6.cell? ⟨kb, 5, none⟩ = some (.string o.pred) := cell_of HF6.out.box rfl
  have x6 : W6.cell? ⟨kb, 6, none⟩ = some (.int .u32 (o.g : Nat)) := cell_of HF6.out.box rfl
  have x7 : W6.cell? ⟨kb, 7, none⟩ = some (.int .u32 (o.to : Nat)) := cell_of HF6.out.box rfl
  have x8 : W6.cell? ⟨kb, 8, none⟩ = some (.int .u64 (o.at_ : Nat)) := cell_of HF6.out.box rfl
  have HZ := Lib.hid (show W6.heap[w.heap.size]? = some (.cells (boxC (op0 0) nilS nilS) 34) from (HF6.out.chg.block _ (by rw [← HW0.out]; simp) (fun f => f)).trans (by rw [← HW0.out]; exact Go.heap_alloc_new w _))
  have r0 : W6.cell? ⟨w.heap.size, 0, none⟩ = some (.int .u8 0) := cell_of HZ.out rfl
  have g0 : W6.frozen? ⟨w.heap.size, 0, none⟩ = false := frozen_of HZ.out
  have r1 : W6.cell? ⟨w.heap.size, 1, none⟩ = some (.int .u32 0) := cell_of HZ.out rfl
  have g1 : W6.frozen? ⟨w.heap.size, 1, none⟩ = false := frozen_of HZ.out
  have r2 : W6.cell? ⟨w.heap.size, 2, none⟩ = some (.int .u64 0) := cell_of HZ.out rfl
  have g2 : W6.frozen? ⟨w.heap.size, 2, none⟩ = false := frozen_of HZ.out
  have r3 : W6.cell? ⟨w.heap.size, 3, none⟩ = some (.slice none 0 0) := cell_of HZ.out rfl
  have g3 : W6.frozen? ⟨w.heap.size, 3, none⟩ = false := frozen_of HZ.out
  have r4 : W6.cell? ⟨w.heap.size, 4, none⟩ = some (.slice none 0 0) := cell_of HZ.out rfl
  have g4 : W6.frozen? ⟨w.heap.size, 4, none⟩ = false := frozen_of HZ.out
  have r5 : W6.cell? ⟨w.heap.size, 5, none⟩ = some (.string ⟨#[]⟩) := cell_of HZ.out rfl
  have g5 : W6.frozen? ⟨w.heap.size, 5, none⟩ = false := frozen_of HZ.out
  have r6 : W6.cell? ⟨w.heap.size, 6, none⟩ = some (.int .u32 0) := cell_of HZ.out rfl
  have g6 : W6.frozen? ⟨w.heap.size, 6, none⟩ = false := frozen_of HZ.out
  have r7 : W6.cell? ⟨w.heap.size, 7, none⟩ = some (.int .u32 0) := cell_of HZ.out rfl
  have g7 : W6.frozen? ⟨w.heap.size, 7, none⟩ = false := frozen_of HZ.out
  have r8 : W6.cell? ⟨w.heap.size, 8, none⟩ = some (.int .u64 0) := cell_of HZ.out rfl
  have g8 : W6.frozen? ⟨w.heap.size, 8, none⟩ = false := frozen_of HZ.out
  obtain ⟨B, HB⟩ : ∃ B, Hid (bytesM o = B) := ⟨_, Lib.hid rfl⟩
  rw [HB.out]
  obtain ⟨bd, hbd⟩ : ∃ b, r.bad = b := ⟨_, rfl⟩
  obtain ⟨my, hmy⟩ : ∃ b, mayM o = b := ⟨_, rfl⟩
  obtain ⟨z, hz⟩ : ∃ z, decide (B = s) = z := ⟨_, rfl⟩
  have hq2 : (B.toList == s.toList) = z := by
    rw [← hz]
    by_cases e : B = s
    · subst e; simp
    · have : B.toList ≠ s.toList := fun h => e (bytes_inj h)
      simp [e, this]
  have HMV := Lib.hid (show M = if !bd && (my && z) then (o, 0) else (op0 0, 200) from by
    rw [← HM.out]
    unfold readM goodR
    rw [HO.out, HRD.out, hbd, hmy]
    cases my
    · simp
    · have : str (bytesL o) = B := by rw [← HB.out]; unfold bytesM; rw [hmy]; rfl
      rw [this, hz])
  have HC6 := Lib.hid (show Chg (fun _ => False) w W6 from (show Chg (fun _ => False) w W0 by rw [← HW0.out]; exact (Chg.refl _ w).alloc _).trans HF6.out.chg)
  have HN := Lib.hid (show w.heap.size < W0.heap.size by rw [← HW0.out]; simp)
  rw [hbd] at v1
  rw [hmy]
  clear hbd hmy hz
  cases bd
  case true =>
    clear hq2
    generalize (ite (my = true) (0 : Int) 200) = cc
    have HM2 := Lib.hid (show M = (op0 0, 200) from by rw [HMV.out]; rfl)
    clear HMV
    go_wp2_with fail
    obtain ⟨hh, hc⟩ := fin9 HZ.out (.int .u8 0) (.int .u32 0) (.int .u64 0) (.slice none 0 0) (.slice none 0 0) (.string ⟨#[]⟩) (.int .u32 0) (.int .u32 0) (.int .u64 0)
    unfold fin9W at hh hc
    refine bodyPost_ret (results_cell_row_tmp (p := 2) (u := 3) (ty := 34) rfl _ _ w.heap.size 34 _ (0, 0) _ rfl hh Try.underlying34 rfl (by kernel_rfl)) rfl ⟨nilL, ?_, ?_, ?_⟩
    · rw [HM2.out]; rfl
    · rw [HM2.out]; exact op0_at _
    · exact HC6.out.trans' hc (fun g e => Or.inr (by omega))
  case false =>
    cases my
    case false =>
      clear hq2
      have HM2 := Lib.hid (show M = (op0 0, 200) from by rw [HMV.out]; rfl)
      clear HMV
      go_wp2_with fail
      obtain ⟨hh, hc⟩ := fin9 HZ.out (.int .u8 0) (.int .u32 0) (.int .u64 0) (.slice none 0 0) (.slice none 0 0) (.string ⟨#[]⟩) (.int .u32 0) (.int .u32 0) (.int .u64 0)
      unfold fin9W at hh hc
      refine bodyPost_ret (results_cell_row_tmp (p := 2) (u := 3) (ty := 34) rfl _ _ w.heap.size 34 _ (0, 0) _ rfl hh Try.underlying34 rfl (by kernel_rfl)) rfl ⟨nilL, ?_, ?_, ?_⟩
      · rw [HM2.out]; rfl
      · rw [HM2.out]; exact op0_at _
      · exact HC6.out.trans' hc (fun g e => Or.inr (by omega))
    case true =>
      cases z
      case false =>
        have HM2 := Lib.hid (show M = (op0 0, 200) from by rw [HMV.out]; rfl)
        clear HMV
        go_wp2_with fail
        obtain ⟨hh, hc⟩ := fin9 HZ.out (.int .u8 0) (.int .u32 0) (.int .u64 0) (.slice none 0 0) (.slice none 0 0) (.string ⟨#[]⟩) (.int .u32 0) (.int .u32 0) (.int .u64 0)
        unfold fin9W at hh hc
        refine bodyPost_ret (results_cell_row_tmp (p := 2) (u := 3) (ty := 34) rfl _ _ w.heap.size 34 _ (0, 0) _ rfl hh Try.underlying34 rfl (by kernel_rfl)) rfl ⟨nilL, ?_, ?_, ?_⟩
        · rw [HM2.out]; rfl
        · rw [HM2.out]; exact op0_at _
        · exact HC6.out.trans' hc (fun g e => Or.inr (by omega))
      case true =>
        go_wp2_with fail
        obtain ⟨hh, hc⟩ := fin9 HZ.out (.int .u8 (o.k : Nat)) (.int .u32 (o.n : Nat)) (.int .u64 (o.st : Nat)) (.slice ko o.keys.length kc) (.slice no o.needs.length nc) (.string o.pred) (.int .u32 (o.g : Nat)) (.int .u32 (o.to : Nat)) (.int .u64 (o.at_ : Nat))
        unfold fin9W at hh hc
        refine bodyPost_ret (results_cell_row_tmp (p := 2) (u := 3) (ty := 34) rfl _ _ w.heap.size 34 _ (0, 0) _ rfl hh Try.underlying34 rfl (by kernel_rfl)) rfl ⟨⟨ko, kc, no, nc⟩, ?_, ?_, ?_⟩
        · rw [HMV.out]; rfl
        · rw [HMV.out]
          refine HA6.out.apart9 HZ.out hc (fun g oo e => ?_) (fun g oo e => ?_)
          · have := HF6.out.ko g (by simp only at e; rw [e]; rfl)
            have := HN.out
            omega
          · have := HF6.out.no g (by simp only at e; rw [e]; rfl)
            have := HN.out
            omega
        · exact HC6.out.trans' hc (fun g e => Or.inr (by omega))

end Go.Proofs.Ytgmmglmokkcgeaa
/- Walks: Read, one kind. -/
namespace Go.Proofs.Ytgmmglmokkcgeaa
set_option linter.unusedVariables false
set_option linter.unusedSimpArgs false
open Go.RowKit Mk Go.Sort


set_option maxRecDepth 100000 in
set_option maxHeartbeats 4000000 in
theorem read_8 {w : World} {s : ByteArray} (h1 : 0 < s.size) (hs : s.size ≤ 1099511627776) (hk : s[0].toNat = 8) :
    Calls Try.prog 21 #[.string s] w fun e w' => ∃ l, e = .returned (.tuple #[.agg (opC (readM s[0].toNat s).1 l), .int .i64 ((readM s[0].toNat s).2 : Nat)]) ∧ OpAt w' (readM s[0].toNat s).1 l ∧ Chg (fun _ => False) w w' := by
  obtain ⟨M, HM⟩ : ∃ M, Hid (readM s[0].toNat s = M) := ⟨_, Lib.hid rfl⟩
  rw [HM.out]
  have hq := bytes_isEmpty s
  have hd : decide (s.size = 0) = false := decide_eq_false (by omega)
  rw [hd] at hq
  clear hd
  have b1 : (1 : Int) ≤ s.size := by omega
  have b2 : (0 : Int) < s.size := by omega
  have b3 : decide ((1 : Int) ≤ s.size) = true := by simp; omega
  have b4 : decide (1 ≤ s.size) = true := by simp; omega
  have q1 : (((s[0].toNat : Nat) : Int) == 1) = false := by rw [hk]; rfl
  have q2 : (((s[0].toNat : Nat) : Int) == 2) = false := by rw [hk]; rfl
  have q3 : (((s[0].toNat : Nat) : Int) == 3) = false := by rw [hk]; rfl
  have q4 : (((s[0].toNat : Nat) : Int) == 4) = false := by rw [hk]; rfl
  have q5 : (((s[0].toNat : Nat) : Int) == 5) = false := by rw [hk]; rfl
  have q6 : (((s[0].toNat : Nat) : Int) == 6) = false := by rw [hk]; rfl
  have q7 : (((s[0].toNat : Nat) : Int) == 7) = false := by rw [hk]; rfl
  have q8 : (((s[0].toNat : Nat) : Int) == 8) = true := by rw [hk]; rfl
  have q9 : (((s[0].toNat : Nat) : Int) == 9) = false := by rw [hk]; rfl
  have HK := Lib.hid hk
  clear hk

  go_enter Try.func21, Try.ntmps21
  go_upto_region 5 with fail
  have h0 : RoAt 94 (w.alloc (.cells #[.int .u8 0, .int .u32 0, .int .u64 0, .slice none 0 0, .slice none 0 0, .string ⟨#[]⟩, .int .u32 0, .int .u32 0, .int .u64 0] 34)) (w.heap.size + 1 + 1 + 1) (w.heap.size + 1) (some (w.heap.size + 1 + 1)) s.size (op0 s[0].toNat) nilS nilS ⟨s.extract 1 s.size, false⟩ ((((w.alloc (.cells #[.int .u8 0, .int .u32 0, .int .u64 0, .slice none 0 0, .slice none 0 0, .string ⟨#[]⟩, .int .u32 0, .int .u32 0, .int .u64 0] 34)).alloc (.cells #[.string (s.extract 1 s.size), .bool false] 94)).alloc (.cells #[.pointer (some ⟨w.heap.size + 1, 0, none⟩)] 92)).alloc (.cells #[.int .u8 (s[0].toNat : Nat), .int .u32 0, .int .u64 0, .slice none 0 0, .slice none 0 0, .string ⟨#[]⟩, .int .u32 0, .int .u32 0, .int .u64 0] 34)) := by
    have := read_begin (w.alloc (.cells #[.int .u8 0, .int .u32 0, .int .u64 0, .slice none 0 0, .slice none 0 0, .string ⟨#[]⟩, .int .u32 0, .int .u32 0, .int .u64 0] 34)) 94 (Or.inl rfl) (s.extract 1 s.size) (k := s[0].toNat) (S := s.size) (by simp) hs
    rw [World.size_alloc] at this
    exact this
  obtain ⟨W4, HW4⟩ : ∃ W, Hid (((((w.alloc (.cells #[.int .u8 0, .int .u32 0, .int .u64 0, .slice none 0 0, .slice none 0 0, .string ⟨#[]⟩, .int .u32 0, .int .u32 0, .int .u64 0] 34)).alloc (.cells #[.string (s.extract 1 s.size), .bool false] 94)).alloc (.cells #[.pointer (some ⟨w.heap.size + 1, 0, none⟩)] 92)).alloc (.cells #[.int .u8 (s[0].toNat : Nat), .int .u32 0, .int .u64 0, .slice none 0 0, .slice none 0 0, .string ⟨#[]⟩, .int .u32 0, .int .u32 0, .int .u64 0] 34)) = W) := ⟨_, Lib.hid rfl⟩
  obtain ⟨W0, HW0⟩ : ∃ W, Hid (w.alloc (.cells #[.int .u8 0, .int .u32 0, .int .u64 0, .slice none 0 0, .slice none 0 0, .string ⟨#[]⟩, .int .u32 0, .int .u32 0, .int .u64 0] 34) = W) := ⟨_, Lib.hid rfl⟩
  obtain ⟨kb, HKB⟩ : ∃ kb, Hid (w.heap.size + 1 + 1 + 1 = kb) := ⟨_, Lib.hid rfl⟩
  obtain ⟨vb, HVB⟩ : ∃ vb, Hid (w.heap.size + 1 + 1 = vb) := ⟨_, Lib.hid rfl⟩
  obtain ⟨rb, HRB⟩ : ∃ rb, Hid (w.heap.size + 1 = rb) := ⟨_, Lib.hid rfl⟩
  obtain ⟨S, HS⟩ : ∃ S, Hid (s.size = S) := ⟨_, Lib.hid rfl⟩
  rw [HW4.out] at h0 ⊢
  rw [HW0.out] at h0
  rw [HKB.out, HVB.out, HRB.out] at h0 ⊢
  have H0 := Lib.hid h0
  have k0 : W4.cell? ⟨kb, 0, none⟩ = some (.int .u8 (s[0].toNat : Nat)) := h0.see.2.2.2.2.1
  clear h0
  have C0 := Lib.hid ((rdtext_any H0.out.rd (Nat.le_trans H0.out.sz H0.out.S)).mono fun e W' hh => show e = .returned (.string (textR (⟨s.extract 1 s.size, false⟩ : RdS)).1) ∧ (RoAt 94 W0 kb rb (some vb) s.size { (op0 s[0].toNat) with pred := (textR (⟨s.extract 1 s.size, false⟩ : RdS)).1 } nilS nilS (textR (⟨s.extract 1 s.size, false⟩ : RdS)).2 (W'.setCell ⟨kb, 5, none⟩ (.string (textR (⟨s.extract 1 s.size, false⟩ : RdS)).1)) ∧ W'.frozen? ⟨kb, 5, none⟩ = false ∧ W'.cell? ⟨kb, 5, none⟩ = some (.string ((op0 s[0].toNat)).pred)) from ⟨hh.1, ((H0.out.read hh.2.1 hh.2.2 (textR_le (⟨s.extract 1 s.size, false⟩ : RdS)).1).set_pred (textR (⟨s.extract 1 s.size, false⟩ : RdS)).1).2, ((H0.out.read hh.2.1 hh.2.2 (textR_le (⟨s.extract 1 s.size, false⟩ : RdS)).1).set_pred (textR (⟨s.extract 1 s.size, false⟩ : RdS)).1).1, cell_of (H0.out.read hh.2.1 hh.2.2 (textR_le (⟨s.extract 1 s.size, false⟩ : RdS)).1).box rfl⟩)
  have v0 := H0.out.see.2.2.2.2.2.1 vb rfl
  clear H0
  go_wp2_with fail
  refine C0.out.mono ?_
  rintro e Wk0 ⟨rfl, h0, f0, c0⟩
  have H1 := Lib.hid h0
  clear h0 C0 v0
  have C1 := Lib.hid ((rdnum_any H1.out.rd (Nat.le_trans H1.out.sz H1.out.S)).mono fun e W' hh => show e = .returned (.int .u64 ((numR (textR (⟨s.extract 1 s.size, false⟩ : RdS)).2).1 : Nat)) ∧ (RoAt 94 W0 kb rb (some vb) s.size { { (op0 s[0].toNat) with pred := (textR (⟨s.extract 1 s.size, false⟩ : RdS)).1 } with at_ := (numR (textR (⟨s.extract 1 s.size, false⟩ : RdS)).2).1 } nilS nilS (numR (textR (⟨s.extract 1 s.size, false⟩ : RdS)).2).2 (W'.setCell ⟨kb, 8, none⟩ (.int .u64 ((numR (textR (⟨s.extract 1 s.size, false⟩ : RdS)).2).1 : Nat))) ∧ W'.frozen? ⟨kb, 8, none⟩ = false ∧ W'.cell? ⟨kb, 8, none⟩ = some (.int .u64 (({ (op0 s[0].toNat) with pred := (textR (⟨s.extract 1 s.size, false⟩ : RdS)).1 }).at_ : Nat))) from ⟨hh.1, ((H1.out.read hh.2.1 hh.2.2 (numR_le (textR (⟨s.extract 1 s.size, false⟩ : RdS)).2).1).set_at (numR (textR (⟨s.extract 1 s.size, false⟩ : RdS)).2).1).2, ((H1.out.read hh.2.1 hh.2.2 (numR_le (textR (⟨s.extract 1 s.size, false⟩ : RdS)).2).1).set_at (numR (textR (⟨s.extract 1 s.size, false⟩ : RdS)).2).1).1, cell_of (H1.out.read hh.2.1 hh.2.2 (numR_le (textR (⟨s.extract 1 s.size, false⟩ : RdS)).2).1).box rfl⟩)
  have v1 := H1.out.see.2.2.2.2.2.1 vb rfl
  clear H1
  go_wp2_with fail
  refine C1.out.mono ?_
  rintro e Wk1 ⟨rfl, h1, f1, c1⟩
  have H2 := Lib.hid h1
  clear h1 C1 v1
  have HF := Lib.hid (show ∃ kv nv, RoAt 94 W0 kb rb (some vb) s.size (bodyR s[0].toNat ⟨s.extract 1 s.size, false⟩).1 kv nv (bodyR s[0].toNat ⟨s.extract 1 s.size, false⟩).2 _ from ⟨_, _, by
    have hh := H2.out
    rw [HK.out] at hh ⊢
    exact hh⟩)

  obtain ⟨W5, HW5⟩ : ∃ W5, Hid (Wk1.setCell ⟨kb, 8, none⟩ (.int .u64 ((numR (textR (⟨s.extract 1 s.size, false⟩ : RdS)).2).1 : Nat)) = W5) := ⟨_, Lib.hid rfl⟩
  go_upto_region 27 with fail
  rw [HW5.out] at HF ⊢
  have HOK := Lib.hid (body_ok (S := s.size) (k := s[0].toNat) s[0].toNat_lt (r := ⟨s.extract 1 s.size, false⟩) (by simp))
  obtain ⟨o, HO⟩ : ∃ o, Hid ((bodyR s[0].toNat ⟨s.extract 1 s.size, false⟩).1 = o) := ⟨_, Lib.hid rfl⟩
  obtain ⟨r, HRD⟩ : ∃ r, Hid ((bodyR s[0].toNat ⟨s.extract 1 s.size, false⟩).2 = r) := ⟨_, Lib.hid rfl⟩
  rw [HO.out, HRD.out] at HF
  rw [HO.out] at HOK
  obtain ⟨kv, nv, hf⟩ := HF.out
  clear HF q1 q2 q3 q4 q5 q6 q7 q8 q9
  obtain ⟨⟨ko, kc, rfl⟩, ⟨no, nc, rfl⟩, -, -, -, hv, -⟩ := hf.see
  have HA := Lib.hid (hf.opAt (l := ⟨ko, kc, no, nc⟩) HOK.out)
  have BY := Lib.hid (bytes_any HA.out)
  have x0 : W5.cell? ⟨kb, 0, none⟩ = some (.int .u8 (o.k : Nat)) := cell_of hf.box rfl
  have x1 : W5.cell? ⟨kb, 1, none⟩ = some (.int .u32 (o.n : Nat)) := cell_of hf.box rfl
  have x2 : W5.cell? ⟨kb, 2, none⟩ = some (.int .u64 (o.st : Nat)) := cell_of hf.box rfl
  have x3 : W5.cell? ⟨kb, 3, none⟩ = some (.slice ko o.keys.length kc) := cell_of hf.box rfl
  have x4 : W5.cell? ⟨kb, 4, none⟩ = some (.slice no o.needs.length nc) := cell_of hf.box rfl
  have x5 : W5.cell? ⟨kb, 5, none⟩ = some (.string o.pred) := cell_of hf.box rfl
  have x6 : W5.cell? ⟨kb, 6, none⟩ = some (.int .u32 (o.g : Nat)) := cell_of hf.box rfl
  have x7 : W5.cell? ⟨kb, 7, none⟩ = some (.int .u32 (o.to : Nat)) := cell_of hf.box rfl
  have x8 : W5.cell? ⟨kb, 8, none⟩ = some (.int .u64 (o.at_ : Nat)) := cell_of hf.box rfl
  have HF := Lib.hid hf
  clear hf hv
  go_wp2_with fail
  refine BY.out.mono ?_
  rintro e W6 ⟨rfl, hc⟩
  have HF6 := Lib.hid (HF.out.same hc)
  have HA6 := Lib.hid (HA.out.same hc)
  clear HF HA BY x0 x1 x2 x3 x4 x5 x6 x7 x8 hc
  have v0 := HF6.out.see.2.2.2.2.2.1 vb rfl
  have v1 := HF6.out.see.2.2.2.2.2.2
  have x0 : W6.cell? ⟨kb, 0, none⟩ = some (.int .u8 (o.k : Nat)) := cell_of HF6.out.box rfl
  have x1 : W6.cell? ⟨kb, 1, none⟩ = some (.int .u32 (o.n : Nat)) := cell_of HF6.out.box rfl
  have x2 : W6.cell? ⟨kb, 2, none⟩ = some (.int .u64 (o.st : Nat)) := cell_of HF6.out.box rfl
  have x3 : W6.cell? ⟨kb, 3, none⟩ = some (.slice ko o.keys.length kc) := cell_of HF6.out.box rfl
  have x4 : W6.cell? ⟨kb, 4, none⟩ = some (.slice no o.needs.length nc) := cell_of HF6.out.box rfl
  have x5 : W6.cell? ⟨kb, 5, none⟩ = some (.string o.pred) := cell_of HF6.out.box rfl
  have x6 : W6.cell? ⟨kb, 6, none⟩ = some (.int .u32 (o.g : Nat)) := cell_of HF6.out.box rfl
  have x7 : W6.cell? ⟨kb, 7, none⟩ = some (.int .u32 (o.to : Nat)) := cell_of HF6.out.box rfl
  have x8 : W6.cell? ⟨kb, 8, none⟩ = some (.int .u64 (o.at_ : Nat)) := cell_of HF6.out.box rfl
  have HZ := Lib.hid (show W6.heap[w.heap.size]? = some (.cells (boxC (op0 0) nilS nilS) 34) from (HF6.out.chg.block _ (by rw [← HW0.out]; simp) (fun f => f)).trans (by rw [← HW0.out]; exact Go.heap_alloc_new w _))
  have r0 : W6.cell? ⟨w.heap.size, 0, none⟩ = some (.int .u8 0) := cell_of HZ.out rfl
  have g0 : W6.frozen? ⟨w.heap.size, 0, none⟩ = false := frozen_of HZ.out
  have r1 : W6.cell? ⟨w.heap.size, 1, none⟩ = some (.int .u32 0) := cell_of HZ.out rfl
  have g1 : W6.frozen? ⟨w.heap.size, 1, none⟩ = false := frozen_of HZ.out
  have r2 : W6.cell? ⟨w.heap.size, 2, none⟩ = some (.int .u64 0) := cell_of HZ.out rfl
  have g2 : W6.frozen? ⟨w.heap.size, 2, none⟩ = false := frozen_of HZ.out
  have r3 : W6.cell? ⟨w.heap.size, 3, none⟩ = some (.slice none 0 0) := cell_of HZ.out rfl
  have g3 : W6.frozen? ⟨w.heap.size, 3, none⟩ = false := frozen_of HZ.out
  have r4 : W6.cell? ⟨w.heap.size, 4, none⟩ = some (.slice none 0 0) := cell_of HZ.out rfl
  have g4 : W6.frozen? ⟨w.heap.size, 4, none⟩ = false := frozen_of HZ.out
  have r5 : W6.cell? ⟨w.heap.size, 5, none⟩ = some (.string ⟨#[]⟩) := cell_of HZ.out rfl
  have g5 : W6.frozen? ⟨w.heap.size, 5, none⟩ = false := frozen_of HZ.out
  have r6 : W6.cell? ⟨w.heap.size, 6, none⟩ = some (.int .u32 0) := cell_of HZ.out rfl
  have g6 : W6.frozen? ⟨w.heap.size, 6, none⟩ = false := frozen_of HZ.out
  have r7 : W6.cell? ⟨w.heap.size, 7, none⟩ = some (.int .u32 0) := cell_of HZ.out rfl
  have g7 : W6.frozen? ⟨w.heap.size, 7, none⟩ = false := frozen_of HZ.out
  have r8 : W6.cell? ⟨w.heap.size, 8, none⟩ = some (.int .u64 0) := cell_of HZ.out rfl
  have g8 : W6.frozen? ⟨w.heap.size, 8, none⟩ = false := frozen_of HZ.out
  obtain ⟨B, HB⟩ : ∃ B, Hid (bytesM o = B) := ⟨_, Lib.hid rfl⟩
  rw [HB.out]
  obtain ⟨bd, hbd⟩ : ∃ b, r.bad = b := ⟨_, rfl⟩
  obtain ⟨my, hmy⟩ : ∃ b, mayM o = b := ⟨_, rfl⟩
  obtain ⟨z, hz⟩ : ∃ z, decide (B = s) = z := ⟨_, rfl⟩
  have hq2 : (B.toList == s.toList) = z := by
    rw [← hz]
    by_cases e : B = s
    · subst e; simp
    · have : B.toList ≠ s.toList := fun h => e (bytes_inj h)
      simp [e, this]
  have HMV := Lib.hid (show M = if !bd && (my && z) then (o, 0) else (op0 0, 200) from by
    rw [← HM.out]
    unfold readM goodR
    rw [HO.out, HRD.out, hbd, hmy]
    cases my
    · simp
    · have : str (bytesL o) = B := by rw [← HB.out]; unfold bytesM; rw [hmy]; rfl
      rw [this, hz])
  have HC6 := Lib.hid (show Chg (fun _ => False) w W6 from (show Chg (fun _ => False) w W0 by rw [← HW0.out]; exact (Chg.refl _ w).alloc _).trans HF6.out.chg)
  have HN := Lib.hid (show w.heap.size < W0.heap.size by rw [← HW0.out]; simp)
  rw [hbd] at v1
  rw [hmy]
  clear hbd hmy hz
  cases bd
  case true =>
    clear hq2
    generalize (ite (my = true) (0 : Int) 200) = cc
    have HM2 := Lib.hid (show M = (op0 0, 200) from by rw [HMV.out]; rfl)
    clear HMV
    go_wp2_with fail
    obtain ⟨hh, hc⟩ := fin9 HZ.out (.int .u8 0) (.int .u32 0) (.int .u64 0) (.slice none 0 0) (.slice none 0 0) (.string ⟨#[]⟩) (.int .u32 0) (.int .u32 0) (.int .u64 0)
    unfold fin9W at hh hc
    refine bodyPost_ret (results_cell_row_tmp (p := 2) (u := 3) (ty := 34) rfl _ _ w.heap.size 34 _ (0, 0) _ rfl hh Try.underlying34 rfl (by kernel_rfl)) rfl ⟨nilL, ?_, ?_, ?_⟩
    · rw [HM2.out]; rfl
    · rw [HM2.out]; exact op0_at _
    · exact HC6.out.trans' hc (fun g e => Or.inr (by omega))
  case false =>
    cases my
    case false =>
      clear hq2
      have HM2 := Lib.hid (show M = (op0 0, 200) from by rw [HMV.out]; rfl)
      clear HMV
      go_wp2_with fail
      obtain ⟨hh, hc⟩ := fin9 HZ.out (.int .u8 0) (.int .u32 0) (.int .u64 0) (.slice none 0 0) (.slice none 0 0) (.string ⟨#[]⟩) (.int .u32 0) (.int .u32 0) (.int .u64 0)
      unfold fin9W at hh hc
      refine bodyPost_ret (results_cell_row_tmp (p := 2) (u := 3) (ty := 34) rfl _ _ w.heap.size 34 _ (0, 0) _ rfl hh Try.underlying34 rfl (by kernel_rfl)) rfl ⟨nilL, ?_, ?_, ?_⟩
      · rw [HM2.out]; rfl
      · rw [HM2.out]; exact op0_at _
      · exact HC6.out.trans' hc (fun g e => Or.inr (by omega))
    case true =>
      cases z
      case false =>
        have HM2 := Lib.hid (show M = (op0 0, 200) from by rw [HMV.out]; rfl)
        clear HMV
        go_wp2_with fail
        obtain ⟨hh, hc⟩ := fin9 HZ.out (.int .u8 0) (.int .u32 0) (.int .u64 0) (.slice none 0 0) (.slice none 0 0) (.string ⟨#[]⟩) (.int .u32 0) (.int .u32 0) (.int .u64 0)
        unfold fin9W at hh hc
        refine bodyPost_ret (results_cell_row_tmp (p := 2) (u := 3) (ty := 34) rfl _ _ w.heap.size 34 _ (0, 0) _ rfl hh Try.underlying34 rfl (by kernel_rfl)) rfl ⟨nilL, ?_, ?_, ?_⟩
        · rw [HM2.out]; rfl
        · rw [HM2.out]; exact op0_at _
        · exact HC6.out.trans' hc (fun g e => Or.inr (by omega))
      case true =>
        go_wp2_with fail
        obtain ⟨hh, hc⟩ := fin9 HZ.out (.int .u8 (o.k : Nat)) (.int .u32 (o.n : Nat)) (.int .u64 (o.st : Nat)) (.slice ko o.keys.length kc) (.slice no o.needs.length nc) (.string o.pred) (.int .u32 (o.g : Nat)) (.int .u32 (o.to : Nat)) (.int .u64 (o.at_ : Nat))
        unfold fin9W at hh hc
        refine bodyPost_ret (results_cell_row_tmp (p := 2) (u := 3) (ty := 34) rfl _ _ w.heap.size 34 _ (0, 0) _ rfl hh Try.underlying34 rfl (by kernel_rfl)) rfl ⟨⟨ko, kc, no, nc⟩, ?_, ?_, ?_⟩
        · rw [HMV.out]; rfl
        · rw [HMV.out]
          refine HA6.out.apart9 HZ.out hc (fun g oo e => ?_) (fun g oo e => ?_)
          · have := HF6.out.ko g (by simp only at e; rw [e]; rfl)
            have := HN.out
            omega
          · have := HF6.out.no g (by simp only at e; rw [e]; rfl)
            have := HN.out
            omega
        · exact HC6.out.trans' hc (fun g e => Or.inr (by omega))

end Go.Proofs.Ytgmmglmokkcgeaa
/- Walks: Read, one kind. -/
namespace Go.Proofs.Ytgmmglmokkcgeaa
set_option linter.unusedVariables false
set_option linter.unusedSimpArgs false
open Go.RowKit Mk Go.Sort


set_option maxRecDepth 100000 in
set_option maxHeartbeats 4000000 in
theorem read_9 {w : World} {s : ByteArray} (h1 : 0 < s.size) (hs : s.size ≤ 1099511627776) (hk : s[0].toNat = 9) :
    Calls Try.prog 21 #[.string s] w fun e w' => ∃ l, e = .returned (.tuple #[.agg (opC (readM s[0].toNat s).1 l), .int .i64 ((readM s[0].toNat s).2 : Nat)]) ∧ OpAt w' (readM s[0].toNat s).1 l ∧ Chg (fun _ => False) w w' := by
  obtain ⟨M, HM⟩ : ∃ M, Hid (readM s[0].toNat s = M) := ⟨_, Lib.hid rfl⟩
  rw [HM.out]
  have hq := bytes_isEmpty s
  have hd : decide (s.size = 0) = false := decide_eq_false (by omega)
  rw [hd] at hq
  clear hd
  have b1 : (1 : Int) ≤ s.size := by omega
  have b2 : (0 : Int) < s.size := by omega
  have b3 : decide ((1 : Int) ≤ s.size) = true := by simp; omega
  have b4 : decide (1 ≤ s.size) = true := by simp; omega
  have q1 : (((s[0].toNat : Nat) : Int) == 1) = false := by rw [hk]; rfl
  have q2 : (((s[0].toNat : Nat) : Int) == 2) = false := by rw [hk]; rfl
  have q3 : (((s[0].toNat : Nat) : Int) == 3) = false := by rw [hk]; rfl
  have q4 : (((s[0].toNat : Nat) : Int) == 4) = false := by rw [hk]; rfl
  have q5 : (((s[0].toNat : Nat) : Int) == 5) = false := by rw [hk]; rfl
  have q6 : (((s[0].toNat : Nat) : Int) == 6) = false := by rw [hk]; rfl
  have q7 : (((s[0].toNat : Nat) : Int) == 7) = false := by rw [hk]; rfl
  have q8 : (((s[0].toNat : Nat) : Int) == 8) = false := by rw [hk]; rfl
  have q9 : (((s[0].toNat : Nat) : Int) == 9) = true := by rw [hk]; rfl
  have HK := Lib.hid hk
  clear hk

  go_enter Try.func21, Try.ntmps21
  go_upto_region 5 with fail
  have h0 : RoAt 94 (w.alloc (.cells #[.int .u8 0, .int .u32 0, .int .u64 0, .slice none 0 0, .slice none 0 0, .string ⟨#[]⟩, .int .u32 0, .int .u32 0, .int .u64 0] 34)) (w.heap.size + 1 + 1 + 1) (w.heap.size + 1) (some (w.heap.size + 1 + 1)) s.size (op0 s[0].toNat) nilS nilS ⟨s.extract 1 s.size, false⟩ ((((w.alloc (.cells #[.int .u8 0, .int .u32 0, .int .u64 0, .slice none 0 0, .slice none 0 0, .string ⟨#[]⟩, .int .u32 0, .int .u32 0, .int .u64 0] 34)).alloc (.cells #[.string (s.extract 1 s.size), .bool false] 94)).alloc (.cells #[.pointer (some ⟨w.heap.size + 1, 0, none⟩)] 92)).alloc (.cells #[.int .u8 (s[0].toNat : Nat), .int .u32 0, .int .u64 0, .slice none 0 0, .slice none 0 0, .string ⟨#[]⟩, .int .u32 0, .int .u32 0, .int .u64 0] 34)) := by
    have := read_begin (w.alloc (.cells #[.int .u8 0, .int .u32 0, .int .u64 0, .slice none 0 0, .slice none 0 0, .string ⟨#[]⟩, .int .u32 0, .int .u32 0, .int .u64 0] 34)) 94 (Or.inl rfl) (s.extract 1 s.size) (k := s[0].toNat) (S := s.size) (by simp) hs
    rw [World.size_alloc] at this
    exact this
  obtain ⟨W4, HW4⟩ : ∃ W, Hid (((((w.alloc (.cells #[.int .u8 0, .int .u32 0, .int .u64 0, .slice none 0 0, .slice none 0 0, .string ⟨#[]⟩, .int .u32 0, .int .u32 0, .int .u64 0] 34)).alloc (.cells #[.string (s.extract 1 s.size), .bool false] 94)).alloc (.cells #[.pointer (some ⟨w.heap.size + 1, 0, none⟩)] 92)).alloc (.cells #[.int .u8 (s[0].toNat : Nat), .int .u32 0, .int .u64 0, .slice none 0 0, .slice none 0 0, .string ⟨#[]⟩, .int .u32 0, .int .u32 0, .int .u64 0] 34)) = W) := ⟨_, Lib.hid rfl⟩
  obtain ⟨W0, HW0⟩ : ∃ W, Hid (w.alloc (.cells #[.int .u8 0, .int .u32 0, .int .u64 0, .slice none 0 0, .slice none 0 0, .string ⟨#[]⟩, .int .u32 0, .int .u32 0, .int .u64 0] 34) = W) := ⟨_, Lib.hid rfl⟩
  obtain ⟨kb, HKB⟩ : ∃ kb, Hid (w.heap.size + 1 + 1 + 1 = kb) := ⟨_, Lib.hid rfl⟩
  obtain ⟨vb, HVB⟩ : ∃ vb, Hid (w.heap.size + 1 + 1 = vb) := ⟨_, Lib.hid rfl⟩
  obtain ⟨rb, HRB⟩ : ∃ rb, Hid (w.heap.size + 1 = rb) := ⟨_, Lib.hid rfl⟩
  obtain ⟨S, HS⟩ : ∃ S, Hid (s.size = S) := ⟨_, Lib.hid rfl⟩
  rw [HW4.out] at h0 ⊢
  rw [HW0.out] at h0
  rw [HKB.out, HVB.out, HRB.out] at h0 ⊢
  have H0 := Lib.hid h0
  have k0 : W4.cell? ⟨kb, 0, none⟩ = some (.int .u8 (s[0].toNat : Nat)) := h0.see.2.2.2.2.1
  clear h0
  have C0 := Lib.hid ((rdnum_any H0.out.rd (Nat.le_trans H0.out.sz H0.out.S)).mono fun e W' hh => show e = .returned (.int .u64 ((numR (⟨s.extract 1 s.size, false⟩ : RdS)).1 : Nat)) ∧ (RoAt 94 W0 kb rb (some vb) s.size { (op0 s[0].toNat) with at_ := (numR (⟨s.extract 1 s.size, false⟩ : RdS)).1 } nilS nilS (numR (⟨s.extract 1 s.size, false⟩ : RdS)).2 (W'.setCell ⟨kb, 8, none⟩ (.int .u64 ((numR (⟨s.extract 1 s.size, false⟩ : RdS)).1 : Nat))) ∧ W'.frozen? ⟨kb, 8, none⟩ = false ∧ W'.cell? ⟨kb, 8, none⟩ = some (.int .u64 (((op0 s[0].toNat)).at_ : Nat))) from ⟨hh.1, ((H0.out.read hh.2.1 hh.2.2 (numR_le (⟨s.extract 1 s.size, false⟩ : RdS)).1).set_at (numR (⟨s.extract 1 s.size, false⟩ : RdS)).1).2, ((H0.out.read hh.2.1 hh.2.2 (numR_le (⟨s.extract 1 s.size, false⟩ : RdS)).1).set_at (numR (⟨s.extract 1 s.size, false⟩ : RdS)).1).1, cell_of (H0.out.read hh.2.1 hh.2.2 (numR_le (⟨s.extract 1 s.size, false⟩ : RdS)).1).box rfl⟩)
  have v0 := H0.out.see.2.2.2.2.2.1 vb rfl
  clear H0
  go_wp2_with fail
  refine C0.out.mono ?_
  rintro e Wk0 ⟨rfl, h0, f0, c0⟩
  have H1 := Lib.hid h0
  clear h0 C0 v0
  have HF := Lib.hid (show ∃ kv nv, RoAt 94 W0 kb rb (some vb) s.size (bodyR s[0].toNat ⟨s.extract 1 s.size, false⟩).1 kv nv (bodyR s[0].toNat ⟨s.extract 1 s.size, false⟩).2 _ from ⟨_, _, by
    have hh := H1.out
    rw [HK.out] at hh ⊢
    exact hh⟩)

  obtain ⟨W5, HW5⟩ : ∃ W5, Hid (Wk0.setCell ⟨kb, 8, none⟩ (.int .u64 ((numR (⟨s.extract 1 s.size, false⟩ : RdS)).1 : Nat)) = W5) := ⟨_, Lib.hid rfl⟩
  go_upto_region 27 with fail
  rw [HW5.out] at HF ⊢
  have HOK := Lib.hid (body_ok (S := s.size) (k := s[0].toNat) s[0].toNat_lt (r := ⟨s.extract 1 s.size, false⟩) (by simp))
  obtain ⟨o, HO⟩ : ∃ o, Hid ((bodyR s[0].toNat ⟨s.extract 1 s.size, false⟩).1 = o) := ⟨_, Lib.hid rfl⟩
  obtain ⟨r, HRD⟩ : ∃ r, Hid ((bodyR s[0].toNat ⟨s.extract 1 s.size, false⟩).2 = r) := ⟨_, Lib.hid rfl⟩
  rw [HO.out, HRD.out] at HF
  rw [HO.out] at HOK
  obtain ⟨kv, nv, hf⟩ := HF.out
  clear HF q1 q2 q3 q4 q5 q6 q7 q8 q9
  obtain ⟨⟨ko, kc, rfl⟩, ⟨no, nc, rfl⟩, -, -, -, hv, -⟩ := hf.see
  have HA := Lib.hid (hf.opAt (l := ⟨ko, kc, no, nc⟩) HOK.out)
  have BY := Lib.hid (bytes_any HA.out)
  have x0 : W5.cell? ⟨kb, 0, none⟩ = some (.int .u8 (o.k : Nat)) := cell_of hf.box rfl
  have x1 : W5.cell? ⟨kb, 1, none⟩ = some (.int .u32 (o.n : Nat)) := cell_of hf.box rfl
  have x2 : W5.cell? ⟨kb, 2, none⟩ = some (.int .u64 (o.st : Nat)) := cell_of hf.box rfl
  have x3 : W5.cell? ⟨kb, 3, none⟩ = some (.slice ko o.keys.length kc) := cell_of hf.box rfl
  have x4 : W5.cell? ⟨kb, 4, none⟩ = some (.slice no o.needs.length nc) := cell_of hf.box rfl
  have x5 : W5.cell? ⟨kb, 5, none⟩ = some (.string o.pred) := cell_of hf.box rfl
  have x6 : W5.cell? ⟨kb, 6, none⟩ = some (.int .u32 (o.g : Nat)) := cell_of hf.box rfl
  have x7 : W5.cell? ⟨kb, 7, none⟩ = some (.int .u32 (o.to : Nat)) := cell_of hf.box rfl
  have x8 : W5.cell? ⟨kb, 8, none⟩ = some (.int .u64 (o.at_ : Nat)) := cell_of hf.box rfl
  have HF := Lib.hid hf
  clear hf hv
  go_wp2_with fail
  refine BY.out.mono ?_
  rintro e W6 ⟨rfl, hc⟩
  have HF6 := Lib.hid (HF.out.same hc)
  have HA6 := Lib.hid (HA.out.same hc)
  clear HF HA BY x0 x1 x2 x3 x4 x5 x6 x7 x8 hc
  have v0 := HF6.out.see.2.2.2.2.2.1 vb rfl
  have v1 := HF6.out.see.2.2.2.2.2.2
  have x0 : W6.cell? ⟨kb, 0, none⟩ = some (.int .u8 (o.k : Nat)) := cell_of HF6.out.box rfl
  have x1 : W6.cell? ⟨kb, 1, none⟩ = some (.int .u32 (o.n : Nat)) := cell_of HF6.out.box rfl
  have x2 : W6.cell? ⟨kb, 2, none⟩ = some (.int .u64 (o.st : Nat)) := cell_of HF6.out.box rfl
  have x3 : W6.cell? ⟨kb, 3, none⟩ = some (.slice ko o.keys.length kc) := cell_of HF6.out.box rfl
  have x4 : W6.cell? ⟨kb, 4, none⟩ = some (.slice no o.needs.length nc) := cell_of HF6.out.box rfl
  have x5 : W6.cell? ⟨kb, 5, none⟩ = some (.string o.pred) := cell_of HF6.out.box rfl
  have x6 : W6.cell? ⟨kb, 6, none⟩ = some (.int .u32 (o.g : Nat)) := cell_of HF6.out.box rfl
  have x7 : W6.cell? ⟨kb, 7, none⟩ = some (.int .u32 (o.to : Nat)) := cell_of HF6.out.box rfl
  have x8 : W6.cell? ⟨kb, 8, none⟩ = some (.int .u64 (o.at_ : Nat)) := cell_of HF6.out.box rfl
  have HZ := Lib.hid (show W6.heap[w.heap.size]? = some (.cells (boxC (op0 0) nilS nilS) 34) from (HF6.out.chg.block _ (by rw [← HW0.out]; simp) (fun f => f)).trans (by rw [← HW0.out]; exact Go.heap_alloc_new w _))
  have r0 : W6.cell? ⟨w.heap.size, 0, none⟩ = some (.int .u8 0) := cell_of HZ.out rfl
  have g0 : W6.frozen? ⟨w.heap.size, 0, none⟩ = false := frozen_of HZ.out
  have r1 : W6.cell? ⟨w.heap.size, 1, none⟩ = some (.int .u32 0) := cell_of HZ.out rfl
  have g1 : W6.frozen? ⟨w.heap.size, 1, none⟩ = false := frozen_of HZ.out
  have r2 : W6.cell? ⟨w.heap.size, 2, none⟩ = some (.int .u64 0) := cell_of HZ.out rfl
  have g2 : W6.frozen? ⟨w.heap.size, 2, none⟩ = false := frozen_of HZ.out
  have r3 : W6.cell? ⟨w.heap.size, 3, none⟩ = some (.slice none 0 0) := cell_of HZ.out rfl
  have g3 : W6.frozen? ⟨w.heap.size, 3, none⟩ = false := frozen_of HZ.out
  have r4 : W6.cell? ⟨w.heap.size, 4, none⟩ = some (.slice none 0 0) := cell_of HZ.out rfl
  have g4 : W6.frozen? ⟨w.heap.size, 4, none⟩ = false := frozen_of HZ.out
  have r5 : W6.cell? ⟨w.heap.size, 5, none⟩ = some (.string ⟨#[]⟩) := cell_of HZ.out rfl
  have g5 : W6.frozen? ⟨w.heap.size, 5, none⟩ = false := frozen_of HZ.out
  have r6 : W6.cell? ⟨w.heap.size, 6, none⟩ = some (.int .u32 0) := cell_of HZ.out rfl
  have g6 : W6.frozen? ⟨w.heap.size, 6, none⟩ = false := frozen_of HZ.out
  have r7 : W6.cell? ⟨w.heap.size, 7, none⟩ = some (.int .u32 0) := cell_of HZ.out rfl
  have g7 : W6.frozen? ⟨w.heap.size, 7, none⟩ = false := frozen_of HZ.out
  have r8 : W6.cell? ⟨w.heap.size, 8, none⟩ = some (.int .u64 0) := cell_of HZ.out rfl
  have g8 : W6.frozen? ⟨w.heap.size, 8, none⟩ = false := frozen_of HZ.out
  obtain ⟨B, HB⟩ : ∃ B, Hid (bytesM o = B) := ⟨_, Lib.hid rfl⟩
  rw [HB.out]
  obtain ⟨bd, hbd⟩ : ∃ b, r.bad = b := ⟨_, rfl⟩
  obtain ⟨my, hmy⟩ : ∃ b, mayM o = b := ⟨_, rfl⟩
  obtain ⟨z, hz⟩ : ∃ z, decide (B = s) = z := ⟨_, rfl⟩
  have hq2 : (B.toList == s.toList) = z := by
    rw [← hz]
    by_cases e : B = s
    · subst e; simp
    · have : B.toList ≠ s.toList := fun h => e (bytes_inj h)
      simp [e, this]
  have HMV := Lib.hid (show M = if !bd && (my && z) then (o, 0) else (op0 0, 200) from by
    rw [← HM.out]
    unfold readM goodR
    rw [HO.out, HRD.out, hbd, hmy]
    cases my
    · simp
    · have : str (bytesL o) = B := by rw [← HB.out]; unfold bytesM; rw [hmy]; rfl
      rw [this, hz])
  have HC6 := Lib.hid (show Chg (fun _ => False) w W6 from (show Chg (fun _ => False) w W0 by rw [← HW0.out]; exact (Chg.refl _ w).alloc _).trans HF6.out.chg)
  have HN := Lib.hid (show w.heap.size < W0.heap.size by rw [← HW0.out]; simp)
  rw [hbd] at v1
  rw [hmy]
  clear hbd hmy hz
  cases bd
  case true =>
    clear hq2
    generalize (ite (my = true) (0 : Int) 200) = cc
    have HM2 := Lib.hid (show M = (op0 0, 200) from by rw [HMV.out]; rfl)
    clear HMV
    go_wp2_with fail
    obtain ⟨hh, hc⟩ := fin9 HZ.out (.int .u8 0) (.int .u32 0) (.int .u64 0) (.slice none 0 0) (.slice none 0 0) (.string ⟨#[]⟩) (.int .u32 0) (.int .u32 0) (.int .u64 0)
    unfold fin9W at hh hc
    refine bodyPost_ret (results_cell_row_tmp (p := 2) (u := 3) (ty := 34) rfl _ _ w.heap.size 34 _ (0, 0) _ rfl hh Try.underlying34 rfl (by kernel_rfl)) rfl ⟨nilL, ?_, ?_, ?_⟩
    · rw [HM2.out]; rfl
    · rw [HM2.out]; exact op0_at _
    · exact HC6.out.trans' hc (fun g e => Or.inr (by omega))
  case false =>
    cases my
    case false =>
      clear hq2
      have HM2 := Lib.hid (show M = (op0 0, 200) from by rw [HMV.out]; rfl)
      clear HMV
      go_wp2_with fail
      obtain ⟨hh, hc⟩ := fin9 HZ.out (.int .u8 0) (.int .u32 0) (.int .u64 0) (.slice none 0 0) (.slice none 0 0) (.string ⟨#[]⟩) (.int .u32 0) (.int .u32 0) (.int .u64 0)
      unfold fin9W at hh hc
      refine bodyPost_ret (results_cell_row_tmp (p := 2) (u := 3) (ty := 34) rfl _ _ w.heap.size 34 _ (0, 0) _ rfl hh Try.underlying34 rfl (by kernel_rfl)) rfl ⟨nilL, ?_, ?_, ?_⟩
      · rw [HM2.out]; rfl
      · rw [HM2.out]; exact op0_at _
      · exact HC6.out.trans' hc (fun g e => Or.inr (by omega))
    case true =>
      cases z
      case false =>
        have HM2 := Lib.hid (show M = (op0 0, 200) from by rw [HMV.out]; rfl)
        clear HMV
        go_wp2_with fail
        obtain ⟨hh, hc⟩ := fin9 HZ.out (.int .u8 0) (.int .u32 0) (.int .u64 0) (.slice none 0 0) (.slice none 0 0) (.string ⟨#[]⟩) (.int .u32 0) (.int .u32 0) (.int .u64 0)
        unfold fin9W at hh hc
        refine bodyPost_ret (results_cell_row_tmp (p := 2) (u := 3) (ty := 34) rfl _ _ w.heap.size 34 _ (0, 0) _ rfl hh Try.underlying34 rfl (by kernel_rfl)) rfl ⟨nilL, ?_, ?_, ?_⟩
        · rw [HM2.out]; rfl
        · rw [HM2.out]; exact op0_at _
        · exact HC6.out.trans' hc (fun g e => Or.inr (by omega))
      case true =>
        go_wp2_with fail
        obtain ⟨hh, hc⟩ := fin9 HZ.out (.int .u8 (o.k : Nat)) (.int .u32 (o.n : Nat)) (.int .u64 (o.st : Nat)) (.slice ko o.keys.length kc) (.slice no o.needs.length nc) (.string o.pred) (.int .u32 (o.g : Nat)) (.int .u32 (o.to : Nat)) (.int .u64 (o.at_ : Nat))
        unfold fin9W at hh hc
        refine bodyPost_ret (results_cell_row_tmp (p := 2) (u := 3) (ty := 34) rfl _ _ w.heap.size 34 _ (0, 0) _ rfl hh Try.underlying34 rfl (by kernel_rfl)) rfl ⟨⟨ko, kc, no, nc⟩, ?_, ?_, ?_⟩
        · rw [HMV.out]; rfl
        · rw [HMV.out]
          refine HA6.out.apart9 HZ.out hc (fun g oo e => ?_) (fun g oo e => ?_)
          · have := HF6.out.ko g (by simp only at e; rw [e]; rfl)
            have := HN.out
            omega
          · have := HF6.out.no g (by simp only at e; rw [e]; rfl)
            have := HN.out
            omega
        · exact HC6.out.trans' hc (fun g e => Or.inr (by omega))

end Go.Proofs.Ytgmmglmokkcgeaa
/- Walks: Read, one kind. -/
namespace Go.Proofs.Ytgmmglmokkcgeaa
set_option linter.unusedVariables false
set_option linter.unusedSimpArgs false
open Go.RowKit Mk Go.Sort


set_option maxRecDepth 100000 in
set_option maxHeartbeats 4000000 in
theorem read_0 {w : World} {s : ByteArray} (h1 : 0 < s.size) (hs : s.size ≤ 1099511627776) (hk : ∀ j, 1 ≤ j → j ≤ 9 → s[0].toNat ≠ j) :
    Calls Try.prog 21 #[.string s] w fun e w' => ∃ l, e = .returned (.tuple #[.agg (opC (readM s[0].toNat s).1 l), .int .i64 ((readM s[0].toNat s).2 : Nat)]) ∧ OpAt w' (readM s[0].toNat s).1 l ∧ Chg (fun _ => False) w w' := by
  obtain ⟨M, HM⟩ : ∃ M, Hid (readM s[0].toNat s = M) := ⟨_, Lib.hid rfl⟩
  rw [HM.out]
  have hq := bytes_isEmpty s
  have hd : decide (s.size = 0) = false := decide_eq_false (by omega)
  rw [hd] at hq
  clear hd
  have b1 : (1 : Int) ≤ s.size := by omega
  have b2 : (0 : Int) < s.size := by omega
  have b3 : decide ((1 : Int) ≤ s.size) = true := by simp; omega
  have b4 : decide (1 ≤ s.size) = true := by simp; omega
  have q1 : (((s[0].toNat : Nat) : Int) == 1) = false := by have := hk 1 (by decide) (by decide); simp; omega
  have q2 : (((s[0].toNat : Nat) : Int) == 2) = false := by have := hk 2 (by decide) (by decide); simp; omega
  have q3 : (((s[0].toNat : Nat) : Int) == 3) = false := by have := hk 3 (by decide) (by decide); simp; omega
  have q4 : (((s[0].toNat : Nat) : Int) == 4) = false := by have := hk 4 (by decide) (by decide); simp; omega
  have q5 : (((s[0].toNat : Nat) : Int) == 5) = false := by have := hk 5 (by decide) (by decide); simp; omega
  have q6 : (((s[0].toNat : Nat) : Int) == 6) = false := by have := hk 6 (by decide) (by decide); simp; omega
  have q7 : (((s[0].toNat : Nat) : Int) == 7) = false := by have := hk 7 (by decide) (by decide); simp; omega
  have q8 : (((s[0].toNat : Nat) : Int) == 8) = false := by have := hk 8 (by decide) (by decide); simp; omega
  have q9 : (((s[0].toNat : Nat) : Int) == 9) = false := by have := hk 9 (by decide) (by decide); simp; omega
  have HK := Lib.hid hk
  clear hk

  go_enter Try.func21, Try.ntmps21
  go_upto_region 5 with fail
  have h0 : RoAt 94 (w.alloc (.cells #[.int .u8 0, .int .u32 0, .int .u64 0, .slice none 0 0, .slice none 0 0, .string ⟨#[]⟩, .int .u32 0, .int .u32 0, .int .u64 0] 34)) (w.heap.size + 1 + 1 + 1) (w.heap.size + 1) (some (w.heap.size + 1 + 1)) s.size (op0 s[0].toNat) nilS nilS ⟨s.extract 1 s.size, false⟩ ((((w.alloc (.cells #[.int .u8 0, .int .u32 0, .int .u64 0, .slice none 0 0, .slice none 0 0, .string ⟨#[]⟩, .int .u32 0, .int .u32 0, .int .u64 0] 34)).alloc (.cells #[.string (s.extract 1 s.size), .bool false] 94)).alloc (.cells #[.pointer (some ⟨w.heap.size + 1, 0, none⟩)] 92)).alloc (.cells #[.int .u8 (s[0].toNat : Nat), .int .u32 0, .int .u64 0, .slice none 0 0, .slice none 0 0, .string ⟨#[]⟩, .int .u32 0, .int .u32 0, .int .u64 0] 34)) := by
    have := read_begin (w.alloc (.cells #[.int .u8 0, .int .u32 0, .int .u64 0, .slice none 0 0, .slice none 0 0, .string ⟨#[]⟩, .int .u32 0, .int .u32 0, .int .u64 0] 34)) 94 (Or.inl rfl) (s.extract 1 s.size) (k := s[0].toNat) (S := s.size) (by simp) hs
    rw [World.size_alloc] at this
    exact this
  obtain ⟨W4, HW4⟩ : ∃ W, Hid (((((w.alloc (.cells #[.int .u8 0, .int .u32 0, .int .u64 0, .slice none 0 0, .slice none 0 0, .string ⟨#[]⟩, .int .u32 0, .int .u32 0, .int .u64 0] 34)).alloc (.cells #[.string (s.extract 1 s.size), .bool false] 94)).alloc (.cells #[.pointer (some ⟨w.heap.size + 1, 0, none⟩)] 92)).alloc (.cells #[.int .u8 (s[0].toNat : Nat), .int .u32 0, .int .u64 0, .slice none 0 0, .slice none 0 0, .string ⟨#[]⟩, .int .u32 0, .int .u32 0, .int .u64 0] 34)) = W) := ⟨_, Lib.hid rfl⟩
  obtain ⟨W0, HW0⟩ : ∃ W, Hid (w.alloc (.cells #[.int .u8 0, .int .u32 0, .int .u64 0, .slice none 0 0, .slice none 0 0, .string ⟨#[]⟩, .int .u32 0, .int .u32 0, .int .u64 0] 34) = W) := ⟨_, Lib.hid rfl⟩
  obtain ⟨kb, HKB⟩ : ∃ kb, Hid (w.heap.size + 1 + 1 + 1 = kb) := ⟨_, Lib.hid rfl⟩
  obtain ⟨vb, HVB⟩ : ∃ vb, Hid (w.heap.size + 1 + 1 = vb) := ⟨_, Lib.hid rfl⟩
  obtain ⟨rb, HRB⟩ : ∃ rb, Hid (w.heap.size + 1 = rb) := ⟨_, Lib.hid rfl⟩
  obtain ⟨S, HS⟩ : ∃ S, Hid (s.size = S) := ⟨_, Lib.hid rfl⟩
  rw [HW4.out] at h0 ⊢
  rw [HW0.out] at h0
  rw [HKB.out, HVB.out, HRB.out] at h0 ⊢
  have H0 := Lib.hid h0
  have k0 : W4.cell? ⟨kb, 0, none⟩ = some (.int .u8 (s[0].toNat : Nat)) := h0.see.2.2.2.2.1
  clear h0
  have HF := Lib.hid (show ∃ kv nv, RoAt 94 W0 kb rb (some vb) s.size (bodyR s[0].toNat ⟨s.extract 1 s.size, false⟩).1 kv nv (bodyR s[0].toNat ⟨s.extract 1 s.size, false⟩).2 _ from ⟨_, _, by
    rw [body_else HK.out]
    exact H0.out⟩)

  obtain ⟨W5, HW5⟩ : ∃ W5, Hid (W4 = W5) := ⟨_, Lib.hid rfl⟩
  go_upto_region 27 with fail
  rw [HW5.out] at HF ⊢
  have HOK := Lib.hid (body_ok (S := s.size) (k := s[0].toNat) s[0].toNat_lt (r := ⟨s.extract 1 s.size, false⟩) (by simp))
  obtain ⟨o, HO⟩ : ∃ o, Hid ((bodyR s[0].toNat ⟨s.extract 1 s.size, false⟩).1 = o) := ⟨_, Lib.hid rfl⟩
  obtain ⟨r, HRD⟩ : ∃ r, Hid ((bodyR s[0].toNat ⟨s.extract 1 s.size, false⟩).2 = r) := ⟨_, Lib.hid rfl⟩
  rw [HO.out, HRD.out] at HF
  rw [HO.out] at HOK
  obtain ⟨kv, nv, hf⟩ := HF.out
  clear HF q1 q2 q3 q4 q5 q6 q7 q8 q9
  obtain ⟨⟨ko, kc, rfl⟩, ⟨no, nc, rfl⟩, -, -, -, hv, -⟩ := hf.see
  have HA := Lib.hid (hf.opAt (l := ⟨ko, kc, no, nc⟩) HOK.out)
  have BY := Lib.hid (bytes_any HA.out)
  have x0 : W5.cell? ⟨kb, 0, none⟩ = some (.int .u8 (o.k : Nat)) := cell_of hf.box rfl
  have x1 : W5.cell? ⟨kb, 1, none⟩ = some (.int .u32 (o.n : Nat)) := cell_of hf.box rfl
  have x2 : W5.cell? ⟨kb, 2, none⟩ = some (.int .u64 (o.st : Nat)) := cell_of hf.box rfl
  have x3 : W5.cell? ⟨kb, 3, none⟩ = some (.slice ko o.keys.length kc) := cell_of hf.box rfl
  have x4 : W5.cell? ⟨kb, 4, none⟩ = some (.slice no o.needs.length nc) := cell_of hf.box rfl
  have x5 : W5.cell? ⟨kb, 5, none⟩ = some (.string o.pred) := cell_of hf.box rfl
  have x6 : W5.cell? ⟨kb, 6, none⟩ = some (.int .u32 (o.g : Nat)) := cell_of hf.box rfl
  have x7 : W5.cell? ⟨kb, 7, none⟩ = some (.int .u32 (o.to : Nat)) := cell_of hf.box rfl
  have x8 : W5.cell? ⟨kb, 8, none⟩ = some (.int .u64 (o.at_ : Nat)) := cell_of hf.box rfl
  have HF := Lib.hid hf
  clear hf hv
  go_wp2_with fail
  refine BY.out.mono ?_
  rintro e W6 ⟨rfl, hc⟩
  have HF6 := Lib.hid (HF.out.same hc)
  have HA6 := Lib.hid (HA.out.same hc)
  clear HF HA BY x0 x1 x2 x3 x4 x5 x6 x7 x8 hc
  have v0 := HF6.out.see.2.2.2.2.2.1 vb rfl
  have v1 := HF6.out.see.2.2.2.2.2.2
  have x0 : W6.cell? ⟨kb, 0, none⟩ = some (.int .u8 (o.k : Nat)) := cell_of HF6.out.box rfl
  have x1 : W6.cell? ⟨kb, 1, none⟩ = some (.int .u32 (o.n : Nat)) := cell_of HF6.out.box rfl
  have x2 : W6.cell? ⟨kb, 2, none⟩ = some (.int .u64 (o.st : Nat)) := cell_of HF6.out.box rfl
  have x3 : W6.cell? ⟨kb, 3, none⟩ = some (.slice ko o.keys.length kc) := cell_of HF6.out.box rfl
  have x4 : W6.cell? ⟨kb, 4, none⟩ = some (.slice no o.needs.length nc) := cell_of HF6.out.box rfl
  have x5 : W6.cell? ⟨kb, 5, none⟩ = some (.string o.pred) := cell_of HF6.out.box rfl
  have x6 : W6.cell? ⟨kb, 6, none⟩ = some (.int .u32 (o.g : Nat)) := cell_of HF6.out.box rfl
  have x7 : W6.cell? ⟨kb, 7, none⟩ = some (.int .u32 (o.to : Nat)) := cell_of HF6.out.box rfl
  have x8 : W6.cell? ⟨kb, 8, none⟩ = some (.int .u64 (o.at_ : Nat)) := cell_of HF6.out.box rfl
  have HZ := Lib.hid (show W6.heap[w.heap.size]? = some (.cells (boxC (op0 0) nilS nilS) 34) from (HF6.out.chg.block _ (by rw [← HW0.out]; simp) (fun f => f)).trans (by rw [← HW0.out]; exact Go.heap_alloc_new w _))
  have r0 : W6.cell? ⟨w.heap.size, 0, none⟩ = some (.int .u8 0) := cell_of HZ.out rfl
  have g0 : W6.frozen? ⟨w.heap.size, 0, none⟩ = false := frozen_of HZ.out
  have r1 : W6.cell? ⟨w.heap.size, 1, none⟩ = some (.int .u32 0) := cell_of HZ.out rfl
  have g1 : W6.frozen? ⟨w.heap.size, 1, none⟩ = false := frozen_of HZ.out
  have r2 : W6.cell? ⟨w.heap.size, 2, none⟩ = some (.int .u64 0) := cell_of HZ.out rfl
  have g2 : W6.frozen? ⟨w.heap.size, 2, none⟩ = false := frozen_of HZ.out
  have r3 : W6.cell? ⟨w.heap.size, 3, none⟩ = some (.slice none 0 0) := cell_of HZ.out rfl
  have g3 : W6.frozen? ⟨w.heap.size, 3, none⟩ = false := frozen_of HZ.out
  have r4 : W6.cell? ⟨w.heap.size, 4, none⟩ = some (.slice none 0 0) := cell_of HZ.out rfl
  have g4 : W6.frozen? ⟨w.heap.size, 4, none⟩ = false := frozen_of HZ.out
  have r5 : W6.cell? ⟨w.heap.size, 5, none⟩ = some (.string ⟨#[]⟩) := cell_of HZ.out rfl
  have g5 : W6.frozen? ⟨w.heap.size, 5, none⟩ = false := frozen_of HZ.out
  have r6 : W6.cell? ⟨w.heap.size, 6, none⟩ = some (.int .u32 0) := cell_of HZ.out rfl
  have g6 : W6.frozen? ⟨w.heap.size, 6, none⟩ = false := frozen_of HZ.out
  have r7 : W6.cell? ⟨w.heap.size, 7, none⟩ = some (.int .u32 0) := cell_of HZ.out rfl
  have g7 : W6.frozen? ⟨w.heap.size, 7, none⟩ = false := frozen_of HZ.out
  have r8 : W6.cell? ⟨w.heap.size, 8, none⟩ = some (.int .u64 0) := cell_of HZ.out rfl
  have g8 : W6.frozen? ⟨w.heap.size, 8, none⟩ = false := frozen_of HZ.out
  obtain ⟨B, HB⟩ : ∃ B, Hid (bytesM o = B) := ⟨_, Lib.hid rfl⟩
  rw [HB.out]
  obtain ⟨bd, hbd⟩ : ∃ b, r.bad = b := ⟨_, rfl⟩
  obtain ⟨my, hmy⟩ : ∃ b, mayM o = b := ⟨_, rfl⟩
  obtain ⟨z, hz⟩ : ∃ z, decide (B = s) = z := ⟨_, rfl⟩
  have hq2 : (B.toList == s.toList) = z := by
    rw [← hz]
    by_cases e : B = s
    · subst e; simp
    · have : B.toList ≠ s.toList := fun h => e (bytes_inj h)
      simp [e, this]
  have HMV := Lib.hid (show M = if !bd && (my && z) then (o, 0) else (op0 0, 200) from by
    rw [← HM.out]
    unfold readM goodR
    rw [HO.out, HRD.out, hbd, hmy]
    cases my
    · simp
    · have : str (bytesL o) = B := by rw [← HB.out]; unfold bytesM; rw [hmy]; rfl
      rw [this, hz])
  have HC6 := Lib.hid (show Chg (fun _ => False) w W6 from (show Chg (fun _ => False) w W0 by rw [← HW0.out]; exact (Chg.refl _ w).alloc _).trans HF6.out.chg)
  have HN := Lib.hid (show w.heap.size < W0.heap.size by rw [← HW0.out]; simp)
  rw [hbd] at v1
  rw [hmy]
  clear hbd hmy hz
  cases bd
  case true =>
    clear hq2
    generalize (ite (my = true) (0 : Int) 200) = cc
    have HM2 := Lib.hid (show M = (op0 0, 200) from by rw [HMV.out]; rfl)
    clear HMV
    go_wp2_with fail
    obtain ⟨hh, hc⟩ := fin9 HZ.out (.int .u8 0) (.int .u32 0) (.int .u64 0) (.slice none 0 0) (.slice none 0 0) (.string ⟨#[]⟩) (.int .u32 0) (.int .u32 0) (.int .u64 0)
    unfold fin9W at hh hc
    refine bodyPost_ret (results_cell_row_tmp (p := 2) (u := 3) (ty := 34) rfl _ _ w.heap.size 34 _ (0, 0) _ rfl hh Try.underlying34 rfl (by kernel_rfl)) rfl ⟨nilL, ?_, ?_, ?_⟩
    · rw [HM2.out]; rfl
    · rw [HM2.out]; exact op0_at _
    · exact HC6.out.trans' hc (fun g e => Or.inr (by omega))
  case false =>
    cases my
    case false =>
      clear hq2
      have HM2 := Lib.hid (show M = (op0 0, 200) from by rw [HMV.out]; rfl)
      clear HMV
      go_wp2_with fail
      obtain ⟨hh, hc⟩ := fin9 HZ.out (.int .u8 0) (.int .u32 0) (.int .u64 0) (.slice none 0 0) (.slice none 0 0) (.string ⟨#[]⟩) (.int .u32 0) (.int .u32 0) (.int .u64 0)
      unfold fin9W at hh hc
      refine bodyPost_ret (results_cell_row_tmp (p := 2) (u := 3) (ty := 34) rfl _ _ w.heap.size 34 _ (0, 0) _ rfl hh Try.underlying34 rfl (by kernel_rfl)) rfl ⟨nilL, ?_, ?_, ?_⟩
      · rw [HM2.out]; rfl
      · rw [HM2.out]; exact op0_at _
      · exact HC6.out.trans' hc (fun g e => Or.inr (by omega))
    case true =>
      cases z
      case false =>
        have HM2 := Lib.hid (show M = (op0 0, 200) from by rw [HMV.out]; rfl)
        clear HMV
        go_wp2_with fail
        obtain ⟨hh, hc⟩ := fin9 HZ.out (.int .u8 0) (.int .u32 0) (.int .u64 0) (.slice none 0 0) (.slice none 0 0) (.string ⟨#[]⟩) (.int .u32 0) (.int .u32 0) (.int .u64 0)
        unfold fin9W at hh hc
        refine bodyPost_ret (results_cell_row_tmp (p := 2) (u := 3) (ty := 34) rfl _ _ w.heap.size 34 _ (0, 0) _ rfl hh Try.underlying34 rfl (by kernel_rfl)) rfl ⟨nilL, ?_, ?_, ?_⟩
        · rw [HM2.out]; rfl
        · rw [HM2.out]; exact op0_at _
        · exact HC6.out.trans' hc (fun g e => Or.inr (by omega))
      case true =>
        go_wp2_with fail
        obtain ⟨hh, hc⟩ := fin9 HZ.out (.int .u8 (o.k : Nat)) (.int .u32 (o.n : Nat)) (.int .u64 (o.st : Nat)) (.slice ko o.keys.length kc) (.slice no o.needs.length nc) (.string o.pred) (.int .u32 (o.g : Nat)) (.int .u32 (o.to : Nat)) (.int .u64 (o.at_ : Nat))
        unfold fin9W at hh hc
        refine bodyPost_ret (results_cell_row_tmp (p := 2) (u := 3) (ty := 34) rfl _ _ w.heap.size 34 _ (0, 0) _ rfl hh Try.underlying34 rfl (by kernel_rfl)) rfl ⟨⟨ko, kc, no, nc⟩, ?_, ?_, ?_⟩
        · rw [HMV.out]; rfl
        · rw [HMV.out]
          refine HA6.out.apart9 HZ.out hc (fun g oo e => ?_) (fun g oo e => ?_)
          · have := HF6.out.ko g (by simp only at e; rw [e]; rfl)
            have := HN.out
            omega
          · have := HF6.out.no g (by simp only at e; rw [e]; rfl)
            have := HN.out
            omega
        · exact HC6.out.trans' hc (fun g e => Or.inr (by omega))

end Go.Proofs.Ytgmmglmokkcgeaa
