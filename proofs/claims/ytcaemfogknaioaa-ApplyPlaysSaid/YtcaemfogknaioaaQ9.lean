/- Walks: ApplyPlays. -/
import Derived.Test.YtcaemfogknaioaaQ8
import Derived.Test.YtcaemfogknaioaaQ3
import Derived.Test.YtcaemfogknaioaaQ4
import Derived.Test.YtcaemfogknaioaaQ6
import Derived.Test.YtcaemfogknaioaaP9
import Derived.StillTailTactics
import Derived.Deep.RegionHeld3
import Derived.Deep.RegionWith
namespace Go.Proofs.Ytcaemfogknaioaa
set_option linter.unusedVariables false
set_option linter.unusedSimpArgs false
open Go.RowKit Mk Go.Sort

theorem LoopIs.narrow {w : World} {b S : Nat} {F : Nat → Prop} {m : LoopM} (h : LoopIs w b F S m) : LoopIs w b (fun g => F g ∧ g < w.heap.size) S m := by
  obtain ⟨r, h⟩ := h
  exact ⟨r, h.loop, h.map, h.idx, h.size, ⟨h.fb, (Array.getElem?_eq_some_iff.1 h.loop).1⟩, ⟨h.fr, h.map.lt⟩⟩
/-- The acts' cells, the row's place known. -/
theorem acts_at {w v0 : World} {g o cap len : Nat} {f : Nat → ActV} (h : actsAt w (.slice (some ⟨g, o, none⟩) len cap) len f) {i : Nat} (hi : i < len) (c : Chg (fun _ => False) w v0) :
    v0.cell? ⟨g, o + i * 6, none⟩ = some (.int .u64 (f i).c) ∧ v0.cell? ⟨g, o + i * 6 + 1, none⟩ = some (.int .u64 (f i).n) ∧ v0.cell? ⟨g, o + i * 6 + 2, none⟩ = some (.string (f i).d) ∧
      v0.cell? ⟨g, o + i * 6 + 3, none⟩ = some (.bool (f i).raw) ∧ v0.cell? ⟨g, o + i * 6 + 4, none⟩ = some (.int .u8 (f i).k) ∧ v0.cell? ⟨g, o + i * 6 + 5, none⟩ = some (.int .u64 (f i).at_) := by
  obtain ⟨g', o', e, -, h⟩ := acts_load h hi c
  injection e with e
  injection e with e1 e2
  subst e1 e2
  exact h
/-- Many ways that end alike. -/
theorem meetQ {P : Program} {c : Code} {Q : Exit → Act → World → Prop} {a : Act} {w : World} (T : Value → World → Prop) (A' : Act) (h1 : (∀ v w', T v w' → Q .normal A' w') → Code.wp P c Q a w) (h2 : ∀ v w', T v w' → Q .normal A' w') : Code.wp P c Q a w := h1 h2
theorem chg_drewN (w : World) (n : Nat) : Chg (fun _ => False) w (w.drewN n) := ⟨rfl, rfl, rfl, Nat.le_refl _, fun _ _ _ => rfl⟩
theorem wrap_next {m n : Nat} (h : (m + 1) % 18446744073709551616 = n) : IntKind.u64.wrap ((m : Int) + 1) = n := by
  rw [← h]; simp only [IntKind.wrap, IntKind.bits, IntKind.signed]; simp
/-- An entry of no command, at the copy. -/
theorem apply_noop {w : World} {b S : Nat} {F : Nat → Prop} {st : ByteArray} {ix : Nat} {D : List (Nat × Last)} (h : LoopIs w b F S ⟨st, ix, D⟩) (n : Nat) (hn : (ix + 1) % 18446744073709551616 = n) (hS : S ≤ 1000000) :
    Calls Try.prog 16 #[.pointer (some ⟨b, 0, none⟩), .int .u64 n, .agg #[.int .u64 1, .int .u8 1, .string ⟨#[]⟩, .slice none 0 0]] w fun e w' => e = .returned (.tuple #[.string ⟨#[]⟩, .int .i64 0]) ∧ LoopIs w' b F S ⟨st, n, D⟩ ∧ Chg F w w' := by
  have hlt : n < 18446744073709551616 := by rw [← hn]; exact Nat.mod_lt _ (by decide)
  have e : applyM ⟨st, ix, D⟩ n 1 ⟨#[]⟩ = (⟨st, n, D⟩, ⟨#[]⟩, 0) := by
    unfold applyM
    rw [if_neg (by simp; exact hn.symm), if_pos (by decide)]
    rfl
  have a := apply_any h n 1 1 ⟨#[]⟩ none 0 0 hlt (by decide) (by show S + 0 ≤ _; omega)
  rw [e] at a
  refine a.mono ?_
  rintro e w' ⟨rfl, hto⟩
  exact ⟨rfl, hto.is, hto.chg⟩
/-- The copy's own command. -/
theorem entryx_copy (c n : Nat) (hc : okU c) (hn : n < 18446744073709551616) : ∃ s : ByteArray, s.size ≤ 1100 ∧ ∀ w, Calls Try.prog 15 #[.agg #[.int .u64 (c : Nat), .int .u64 (n : Nat), .string ⟨#[99, 111, 112, 121]⟩, .bool false, .int .u8 0, .int .u64 0]] w fun e w' => e = .returned (entryV 0 s) ∧ Below w.heap.size w w' := by
  obtain ⟨s, h1, h2⟩ := entryx_any ⟨c, n, ⟨#[99, 111, 112, 121]⟩, false, 0, 0⟩ ⟨hc, hn, (show 4 ≤ maxLen by decide), (show (0:Nat) < 256 by decide), (show (0:Nat) < 18446744073709551616 by decide)⟩ (show 4 ≤ 1000 by decide)
  exact ⟨s, h1, h2⟩
theorem lk_of_mem {L : List (Nat × Last)} (h : (L.map (·.1)).Nodup) {p : Nat × Last} (hp : p ∈ L) : Mk.lk L p.1 = some p.2 := by
  induction L with
  | nil => simp at hp
  | cons q L ih =>
    have hu : Mk.lk (q :: L) p.1 = if q.1 = p.1 then some q.2 else Mk.lk L p.1 := rfl
    rw [List.map_cons, List.nodup_cons] at h
    rw [hu]
    rcases List.mem_cons.1 hp with rfl | hp
    · rw [if_pos rfl]
    · rw [if_neg (fun e => h.1 (by rw [e]; exact List.mem_map_of_mem hp)), ih h.2 hp]
theorem Like.seqs {A B : LoopM} (h : Like A B) : ∀ p ∈ A.clients, okU p.2.1 := by
  intro p hp
  have h1 : Mk.lk A.clients p.1 = some p.2 := lk_of_mem h.ap hp
  rw [h.lk] at h1
  exact (rises_key _ _ h.ri _ (lk_mem h1)).2
/-- What is read of a loop's bytes. -/
theorem Bnd.reads {k : Nat} {m : LoopM} (h : Bnd k m) (hk : k ≤ 60) (hr : risesR 0 m.clients) : readL (str (loopB m)) = if okS m.state = true then some m else none := by
  rw [readL_eq]
  exact refL_write h.ix hr (by have := h.n; omega) (fun p hp => ⟨(h.cl p hp).1, by have := (h.cl p hp).2; omega⟩) (by have := h.st; omega)
set_option maxRecDepth 100000 in
set_option maxHeartbeats 16000000 in
theorem playsWalk {w : World} {s : ByteArray} (hs : s.size ≤ 140737488351232) {ao : Option Addr} {len cap cl : Nat} {f : Nat → ActV} (hl : actsAt w (.slice ao len cap) len f) (hc : okU cl) :
    Calls Try.prog 6 #[.string s, .slice ao len cap, .int .u64 cl] w fun e w' => e = .returned (.bool true) ∧ Chg (fun _ => False) w w' := by
  have AL := Lib.hid alive_any
  have HACT := Lib.hid hl
  have hlen := hl.2.1
  simp only [maxLen] at hlen
  clear hl
  by_cases hbig : 1000 < s.size
  · have q1 : decide ((1000 : Int) < s.size) = true := by simp; omega
    go_enter Try.func6, Try.ntmps6
    go_wp2_with fail
    refine (AL.out _).mono ?_
    rintro e w' ⟨rfl, hb⟩
    go_wp2_with fail
    go_ret
    exact ⟨rfl, chg_of_below hb⟩
  have q1 : decide ((1000 : Int) < s.size) = false := by simp; omega
  have NW := Lib.hid (new_any s (by omega) w)
  have HSZ := Lib.hid (show s.size ≤ 1000 by omega)
  clear hbig
  go_enter Try.func6, Try.ntmps6
  go_wp2_with fail
  refine NW.out.mono ?_
  rintro e W1 ⟨ba, rfl, h1, c1⟩
  have h1n := h1.narrow
  have c12 : Chg (fun _ => False) W1 (W1.alloc (.cells #[.string s, .int .u64 0, .slice none 0 0] 63)) := (Chg.refl _ _).alloc _
  have HP0 := Lib.hid (show PlAt w ba (fun g => w.heap.size ≤ g ∧ g < W1.heap.size) W1.heap.size W1.heap.size (.slice none 0 0) s.size ⟨s, 0, []⟩ ⟨s, 0, []⟩ (W1.alloc (.cells #[.string s, .int .u64 0, .slice none 0 0] 63)) from
    ⟨h1n.stay c12 (fun _ _ f => f), ⟨Go.heap_alloc_new _ _, sl_nil _ _ _, Nat.zero_lt_succ _, Or.inl rfl, fun g e => by simp [Value.ownBlock] at e⟩, c1.trans c12, fun g hg => hg, c12.size, c1.size, fun h => by have := h.2; omega, fun g e => by simp [Value.ownBlock] at e, fun g e => by simp [Value.ownBlock] at e⟩)
  clear h1 h1n c1 c12 NW
  obtain ⟨F, HF⟩ : ∃ F : Nat → Prop, Hid ((fun g => w.heap.size ≤ g ∧ g < W1.heap.size) = F) := ⟨_, Lib.hid rfl⟩
  obtain ⟨bb, HBB⟩ : ∃ k, Hid (W1.heap.size = k) := ⟨_, Lib.hid rfl⟩
  obtain ⟨W2, HW2⟩ : ∃ W, Hid (W1.alloc (.cells #[.string s, .int .u64 0, .slice none 0 0] 63) = W) := ⟨_, Lib.hid rfl⟩
  rw [HF.out, HW2.out, HBB.out] at HP0
  go_upto_region 5 with fail
  rw [HW2.out, HBB.out]
  clear HF HBB HW2
  have HB0 := Lib.hid (show Bnd 0 ⟨s, 0, []⟩ from ⟨by simp, by have := HSZ.out; simpa using this, fun p hp => by simp at hp, Nat.zero_lt_succ _⟩)
  have HL0 := Lib.hid (like_new s)
  go_wp2_with fail
  go_loopw [9] (fun i wr => ∃ (k S : Nat) (v : Value) (A B : LoopM), i = .int .i64 k ∧ k ≤ 60 ∧ k ≤ len ∧ S ≤ 1000 + 1100 * k ∧ Hid (PlAt w ba F bb bb v S A B wr) ∧ Hid (Like A B) ∧ Hid (Bnd k B)) (fun i _ => 60 - (intOf i).toNat)
  case atStart => exact ⟨0, s.size, _, _, _, rfl, by omega, by omega, by have := HSZ.out; omega, HP0, HL0, HB0⟩
  case round =>
    obtain ⟨k, S, v, A, B, rfl, hk60, hkl, hS, HP, HL, HB⟩ := hrel
    clear HP0 HB0 HL0
    go_upto_region 8 with fail
    go_cut [51] from 44 to 51 (fun s51 wx => wx = wr ∧ s51 = .bool (decide (k < len ∧ k < 60)))
    case first => as_aux_lemma =>
      by_cases g1 : k < len
      · have q2 : decide ((k : Int) < (len : Int)) = true := by simp; omega
        by_cases g2 : k < 60
        · have q3 : decide ((k : Int) < 60) = true := by simp; omega
          go_wp2_with fail
          go_meet
          exact ⟨rfl, by simp [g1, g2]⟩
        · have q3 : decide ((k : Int) < 60) = false := by simp; omega
          go_wp2_with fail
          go_meet
          exact ⟨rfl, by simp [g1, g2]⟩
      · have q2 : decide ((k : Int) < (len : Int)) = false := by simp; omega
        go_wp2_with fail
        go_meet
        exact ⟨rfl, by simp [g1]⟩
    case rest =>
      obtain ⟨hwx, rfl⟩ := hcut
      obtain rfl : wr = _ := hwx.symm
      by_cases hgo : k < len ∧ k < 60
      · have q2 : decide (k < len ∧ k < 60) = true := decide_eq_true hgo
        rw [q2]
        obtain ⟨hg1, hg2⟩ := hgo
        obtain ⟨g, o, rfl, hg, a0, a1, a2, a3, a4, a5⟩ := acts_load HACT.out hg1 HP.out.chg
        have l0 : (0 : Int) ≤ k := by omega
        have l1 : (k : Int) < len := by omega
        have HOK := Lib.hid (HACT.out.2.2 k hg1).1
        have HA6 := Lib.hid (fun (u : World) (c : Chg (fun _ => False) w u) => acts_at HACT.out hg1 c)
        generalize f k = x at *
        by_cases hd : 1000 < x.d.size
        · have q4 : decide ((1000 : Int) < x.d.size) = true := by simp; omega
          go_wp2_with fail
          go_roundw
          case rel => exact ⟨k + 1, S, v, A, B, by go_num, by omega, by omega, by omega, HP, HL, ⟨by have := HB.out.n; omega, by have := HB.out.st; omega, HB.out.cl, HB.out.ix⟩⟩
          case measure => simp [intOf]; omega
        · have q4 : decide ((1000 : Int) < x.d.size) = false := by simp; omega
          go_upto_region 11 with fail
          have hix := HL.out.ix
          have hib := HB.out.ix
          rw [← hix] at hib
          obtain ⟨es, hes, EN⟩ := entryx_any x HOK.out (by have := of_decide_eq_false q4; omega)
          obtain ⟨xc, xn, xd, xr, xk, xa⟩ := x
          simp only at q4
          have HA6 := Lib.hid (fun (u : World) (h : Chg (fun _ => False) w u) => show u.cell? ⟨g, o + k * 6, none⟩ = some (.int .u64 (xc : Nat)) ∧ u.cell? ⟨g, o + k * 6 + 1, none⟩ = some (.int .u64 (xn : Nat)) ∧ u.cell? ⟨g, o + k * 6 + 2, none⟩ = some (.string xd) ∧ u.cell? ⟨g, o + k * 6 + 3, none⟩ = some (.bool xr) ∧ u.cell? ⟨g, o + k * 6 + 4, none⟩ = some (.int .u8 (xk : Nat)) ∧ u.cell? ⟨g, o + k * 6 + 5, none⟩ = some (.int .u64 (xa : Nat)) from HA6.out u h)
          obtain ⟨b0, b1, b2, b3, b4, b5⟩ := HA6.out _ ((HP.out.chg).trans (Chg.refl _ wr).drew)
          have EN := Lib.hid (fun u => show Calls Try.prog 15 #[.agg #[.int .u64 (xc : Nat), .int .u64 (xn : Nat), .string xd, .bool xr, .int .u8 (xk : Nat), .int .u64 (xa : Nat)]] u fun e w' => e = .returned (entryV xk es) ∧ Below u.heap.size u w' from EN u)
          obtain ⟨n1, hn1⟩ : ∃ n1, (A.index + 1) % 18446744073709551616 = n1 := ⟨_, rfl⟩
          obtain ⟨ix, hix2⟩ : ∃ ix, (n1 + xa) % 18446744073709551616 = ix := ⟨_, rfl⟩
          have w1 : IntKind.u64.wrap ((A.index : Int) + 1) = n1 := by rw [← hn1]; simp only [IntKind.wrap, IntKind.bits, IntKind.signed]; simp
          have w2 : IntKind.u64.wrap ((n1 : Int) + xa) = ix := by rw [← hix2]; simp only [IntKind.wrap, IntKind.bits, IntKind.signed]; simp
          have HIX := Lib.hid (show ix < 18446744073709551616 by omega)
          have HES := Lib.hid hes
          have HAP := Lib.hid (fun (u : World) (h : PlAt w ba F bb bb v S A B u) => (apply_any h.a ix 1 xk es none 0 0 HIX.out (by have := HES.out; omega) (by have := HES.out; omega)))
          have HPD := Lib.hid (HP.out.same ((Chg.refl _ wr).drew))
          have HBI := Lib.hid (show IntKind.u64.wrap ((B.index : Int) + 1) = n1 by rw [← hix]; exact w1)
          have HBS := Lib.hid (show B.state.size ≤ 70000 ∧ B.clients.length ≤ 60 by have := HB.out.n; have := HB.out.st; omega)
          have HLA := Lib.hid (HL.out.apply ix xk es)
          have HBN := Lib.hid (HB.out.next (idx := ix) (kind := xk) (data := es) (by omega) hes)
          clear hix hib hes hn1 hix2 HAP a0 a1 a2 a3 a4 a5
          go_region_held3 (fun v => v.cell? ⟨g, o + k * 6, none⟩ = some (.int .u64 (xc : Nat)) ∧ v.cell? ⟨g, o + k * 6 + 1, none⟩ = some (.int .u64 (xn : Nat)) ∧ v.cell? ⟨g, o + k * 6 + 2, none⟩ = some (.string xd) ∧ v.cell? ⟨g, o + k * 6 + 3, none⟩ = some (.bool xr) ∧ v.cell? ⟨g, o + k * 6 + 4, none⟩ = some (.int .u8 (xk : Nat)) ∧ v.cell? ⟨g, o + k * 6 + 5, none⟩ = some (.int .u64 (xa : Nat)))
            (first | go_keep | (refine ⟨?_, ?_, ?_, ?_, ?_, ?_⟩ <;> assumption))
            (first
              | (go_at_call 17; first | (refine (index_any HP5.out.a).mono ?_; rintro e w' ⟨rfl, rfl⟩) | (refine (index_any HPD.out.a).mono ?_; rintro e w' ⟨rfl, rfl⟩))
              | (go_at_call 15; refine (EN.out _).mono ?_; rintro e w5 ⟨rfl, hb5⟩; unfold entryV; have HP5 := Lib.hid (HPD.out.same (chg_of_below hb5)); clear hb5; obtain ⟨p0, p1, p2, p3, p4, p5⟩ := HA6.out _ HP5.out.chg)
              | (go_at_call 16; refine (apply_any HP5.out.a ix 1 xk es none 0 0 HIX.out (by have := HES.out; omega) (by have := HES.out; omega)).mono ?_; rintro e w6 ⟨rfl, hto⟩; have HP6 := Lib.hid (HP5.out.toA hto); clear hto; obtain ⟨r0, r1, r2, r3, r4, r5⟩ := HA6.out _ HP6.out.chg))
          clear b0 b1 b2 b3 b4 b5 p0 p1 p2 p3 p4 p5 r0 r1 r2 r3 r4 r5 HP5 HPD w1
          obtain ⟨RA, HRA⟩ : ∃ R, Hid (applyM A ix xk es = R) := ⟨_, Lib.hid rfl⟩
          obtain ⟨RB, HRB⟩ : ∃ R, Hid (rapplyM B ix xk es = R) := ⟨_, Lib.hid rfl⟩
          rw [HRA.out, HRB.out] at HLA
          rw [HRA.out] at HP6 ⊢
          rw [HRB.out] at HBN
          obtain ⟨A', sA, eA⟩ := RA
          obtain ⟨B', sB, eB⟩ := RB
          have hsb := HLA.out.1
          simp only [Prod.mk.injEq] at hsb
          obtain ⟨rfl, rfl⟩ := hsb
          simp only at HP6 HBN HLA ⊢
          go_upto_region 12 with fail
          refine' meetQ (fun v' w8 => Hid (PlAt w ba F bb bb v' (S + es.size) A' B' w8)) _ (fun H => ?first) (fun v' w8 HP8 => ?rest)
          case first =>
            have HPD := Lib.hid (HP6.out.same ((Chg.refl _ w6).drew))
            have HRAP := Lib.hid (fun (u : World) (hu : Rf u bb v B) => rapply_any hu HL.out.ri ix 1 xk es none 0 0 HIX.out (by have := HES.out; omega) (by have := HES.out; have := HBS.out; omega) (by have := HBS.out; omega))
            rw [HRB.out] at HRAP
            have w1 := HBI.out
            obtain ⟨b0, b1, b2, b3, b4, b5⟩ := HA6.out _ HPD.out.chg
            have d1 : w6.drew.cell? ⟨bb, 1, none⟩ = some (.int .u64 (B.index : Nat)) := cell_of HPD.out.b.box rfl
            go_region_with (first
              | (go_at_call 15; refine (EN.out _).mono ?_; rintro e w7 ⟨rfl, hb7⟩; unfold entryV; have HP7 := Lib.hid (HPD.out.same (chg_of_below hb7)); clear hb7; have d2 : w7.cell? ⟨bb, 1, none⟩ = some (.int .u64 (B.index : Nat)) := cell_of HP7.out.b.box rfl; obtain ⟨p0, p1, p2, p3, p4, p5⟩ := HA6.out _ HP7.out.chg)
              | (go_at_call 25; refine (HRAP.out _ HP7.out.b).mono ?_; rintro e w8 ⟨rfl, ⟨v', x1, x2⟩, x3⟩; have HP8 := Lib.hid (HP7.out.toB x1 x2 x3); clear x1 x2 x3))
            all_goals exact H _ _ HP8
          case rest =>
            clear HP6
            have HLK := Lib.hid HLA.out.2
            clear HLA
            have d1 : w8.cell? ⟨bb, 1, none⟩ = some (.int .u64 (A'.index : Nat)) := by rw [HLK.out.ix]; exact cell_of HP8.out.b.box rfl
            have d0 : w8.cell? ⟨bb, 0, none⟩ = some (.string A'.state) := by rw [HLK.out.st]; exact cell_of HP8.out.b.box rfl
            have I17 := Lib.hid (fun n => index_any (HP8.out.same (chg_drewN w8 n)).a)
            have I18 := Lib.hid (fun n => state_any (HP8.out.same (chg_drewN w8 n)).a)
            go_wp2_with fail
            go_quiet (first | (go_at_call 17; exact Calls.quiet_of_same (I17.out _)) | (go_at_call 18; exact Calls.quiet_of_same (I18.out _)))
            have HP9 := Lib.hid (HP8.out.same (chg_drewN w8 nq))
            clear HP8 I17 I18 d0 d1
            generalize w8.drewN nq = w9 at *
            have HS1 := Lib.hid (show S + es.size ≤ 1000 + 1100 * (k + 1) by have := HES.out; omega)
            have HBN2 := Lib.hid (show Bnd (k + 1) B' from HBN)
            clear HBN
            by_cases h7 : k % 7 = 3
            · have q7 : (((k : Int) % 7) == 3) = true := by simp; omega
              go_upto_region 16 with fail
              obtain ⟨X, HX⟩ : ∃ X, Hid ((lk A'.clients cl).getD (0, ⟨#[]⟩) = X) := ⟨_, Lib.hid rfl⟩
              obtain ⟨fd, HF⟩ : ∃ b, Hid ((lk A'.clients cl).isSome = b) := ⟨_, Lib.hid rfl⟩
              have LS := Lib.hid (fun (u : World) (h : PlAt w ba F bb bb v' (S + es.size) A' B' u) => last_any h.a cl hc)
              rw [HX.out, HF.out] at LS
              obtain ⟨ln, la⟩ := X
              simp only at LS
              go_wp2_with fail
              refine (LS.out _ HP9.out).mono ?_
              rintro e w10 ⟨rfl, hb⟩
              have HP10 := Lib.hid (HP9.out.same (chg_of_below hb))
              clear hb HP9
              go_upto_region 17 with fail
              have HCP := Lib.hid (show Calls Try.prog 26 #[.pointer (some ⟨ba, 0, none⟩)] w10 fun e w' => ∃ kb D, e = .returned (.pointer (some ⟨kb, 0, none⟩)) ∧ LoopIs w' kb (fun g => w10.heap.size ≤ g) (S + es.size) ⟨A'.state, A'.index, D⟩ ∧ Chg (fun _ => False) w10 w' from by obtain ⟨r, hr⟩ := HP10.out.a; exact copy_any hr)
              go_wp2_with fail
              refine HCP.out.mono ?_
              rintro e w11 ⟨kb, D, rfl, hk, ck⟩
              have HK := Lib.hid hk
              have CK := Lib.hid ck
              clear hk ck HCP
              go_upto_region 18 with fail
              obtain ⟨n2, HN2⟩ : ∃ n2, Hid ((A'.index + 1) % 18446744073709551616 = n2) := ⟨_, Lib.hid rfl⟩
              obtain ⟨n3, HN3⟩ : ∃ n3, Hid ((n2 + 1) % 18446744073709551616 = n3) := ⟨_, Lib.hid rfl⟩
              obtain ⟨n4, HN4⟩ : ∃ n4, Hid ((ln + 1) % 18446744073709551616 = n4) := ⟨_, Lib.hid rfl⟩
              have HB2 := Lib.hid (show n2 < 18446744073709551616 by rw [← HN2.out]; exact Nat.mod_lt _ (by decide))
              have HB3 := Lib.hid (show n3 < 18446744073709551616 by rw [← HN3.out]; exact Nat.mod_lt _ (by decide))
              have HB4 := Lib.hid (show n4 < 18446744073709551616 by rw [← HN4.out]; exact Nat.mod_lt _ (by decide))
              obtain ⟨es2, HE2, EN2⟩ := entryx_copy cl n4 hc HB4.out
              have EN2 := Lib.hid EN2
              have HAN := Lib.hid (apply_noop HK.out n2 HN2.out (by have := HS1.out; omega))
              obtain ⟨RC, HRC⟩ : ∃ R, Hid (applyM ⟨A'.state, n2, D⟩ n3 0 es2 = R) := ⟨_, Lib.hid rfl⟩
              have HAN2 := Lib.hid (fun (u : World) (h : LoopIs u kb (fun g => w10.heap.size ≤ g) (S + es.size) ⟨A'.state, n2, D⟩) => apply_any h n3 1 0 es2 none 0 0 HB3.out (by omega) (by have := HS1.out; omega))
              rw [HRC.out] at HAN2
              obtain ⟨C2, sC, eC⟩ := RC
              simp only at HAN2
              have w3 := wrap_next HN2.out
              have w4 := wrap_next HN3.out
              have w5 := wrap_next HN4.out
              go_wp2_with fail
              refine (show Calls Try.prog 17 #[.pointer (some ⟨kb, 0, none⟩)] w11 fun e w' => e = .returned (.int .u64 (A'.index : Nat)) ∧ w' = w11 from index_any (m := ⟨A'.state, A'.index, D⟩) HK.out).mono ?_
              rintro e w' ⟨rfl, rfl⟩
              go_wp2_with fail
              refine HAN.out.mono ?_
              rintro e w12 ⟨rfl, hk2, cc⟩
              have HK2 := Lib.hid hk2
              have HP12 := Lib.hid (HP10.out.newer CK.out cc (fun g h => h))
              have CC := Lib.hid cc
              clear hk2 cc HAN HK
              have I2 := Lib.hid (show Calls Try.prog 17 #[.pointer (some ⟨kb, 0, none⟩)] w12 fun e w' => e = .returned (.int .u64 (n2 : Nat)) ∧ w' = w12 from index_any (m := ⟨A'.state, n2, D⟩) HK2.out)
              have I3 := Lib.hid (show Calls Try.prog 18 #[.pointer (some ⟨kb, 0, none⟩)] w12 fun e w' => e = .returned (.string A'.state) ∧ w' = w12 from state_any (m := ⟨A'.state, n2, D⟩) HK2.out)
              go_upto_region 19 with fail
              go_wp2_with fail
              refine I2.out.mono ?_
              rintro e w' ⟨rfl, rfl⟩
              go_wp2_with fail
              refine (index_any HP12.out.a).mono ?_
              rintro e w' ⟨rfl, rfl⟩
              go_wp2_with fail
              refine I3.out.mono ?_
              rintro e w' ⟨rfl, rfl⟩
              go_wp2_with fail
              refine (state_any HP12.out.a).mono ?_
              rintro e w' ⟨rfl, rfl⟩
              go_upto_region 21 with fail
              go_wp2_with fail
              refine I2.out.mono ?_
              rintro e w' ⟨rfl, rfl⟩
              go_wp2_with fail
              refine (EN2.out _).mono ?_
              rintro e w13 ⟨rfl, hb13⟩
              have C13 := Lib.hid (CC.out.trans' (chg_of_below hb13) (fun _ f => absurd f id))
              have HK3 := Lib.hid (HK2.out.stay (G := fun _ => False) (chg_of_below hb13) (fun _ _ f => f))
              clear hb13 HK2 HP12 CC I2 I3 EN2
              unfold entryV
              go_wp2_with fail
              refine (HAN2.out _ HK3.out).mono ?_
              rintro e w14 ⟨rfl, hto⟩
              have HP14 := Lib.hid (HP10.out.newer CK.out (C13.out.trans' hto.chg (fun g h => Or.inl h)) (fun g h => h))
              clear hto HAN2 HK3 C13 CK HP10 w3 w4 w5
              go_upto_region 22 with fail
              go_wp2_with fail
              refine (LS.out _ HP14.out).mono ?_
              rintro e w15 ⟨rfl, hb⟩
              have HP15 := Lib.hid (HP14.out.same (chg_of_below hb))
              clear hb HP14 LS
              go_upto_region 23 with fail
              have d1 : w15.cell? ⟨bb, 1, none⟩ = some (.int .u64 (A'.index : Nat)) := by rw [HLK.out.ix]; exact cell_of HP15.out.b.box rfl
              have d0 : w15.cell? ⟨bb, 0, none⟩ = some (.string A'.state) := by rw [HLK.out.st]; exact cell_of HP15.out.b.box rfl
              have I17 := Lib.hid (fun n => index_any (HP15.out.same (chg_drewN w15 n)).a)
              have I18 := Lib.hid (fun n => state_any (HP15.out.same (chg_drewN w15 n)).a)
              go_wp2_with fail
              go_quiet (first | (go_at_call 17; exact Calls.quiet_of_same (I17.out _)) | (go_at_call 18; exact Calls.quiet_of_same (I18.out _)))
              have HP16 := Lib.hid (HP15.out.same (chg_drewN w15 nq))
              clear HP15 I17 I18 d0 d1
              generalize w15.drewN nq = w16 at *
              go_wp2_with fail
              go_roundw
              case rel => exact ⟨k + 1, S + es.size, v', A', B', by go_num, by omega, by omega, HS1.out, HP16, HLK, HBN2⟩
              case measure => simp [intOf]; omega
            · have q7 : (((k : Int) % 7) == 3) = false := by simp; omega
              go_wp2_with fail
              go_roundw
              case rel => exact ⟨k + 1, S + es.size, v', A', B', by go_num, by omega, by omega, HS1.out, HP9, HLK, HBN2⟩
              case measure => simp [intOf]; omega
      · have q2 : decide (k < len ∧ k < 60) = false := by simp only [hgo, decide_false]
        rw [q2]
        go_upto_region 25 with fail
        obtain ⟨X, HX⟩ : ∃ X, Hid ((lk A.clients cl).getD (0, ⟨#[]⟩) = X) := ⟨_, Lib.hid rfl⟩
        obtain ⟨fd, HFD⟩ : ∃ b, Hid ((lk A.clients cl).isSome = b) := ⟨_, Lib.hid rfl⟩
        have LS := last_any HP.out.a cl hc
        rw [HX.out, HFD.out] at LS
        have LS := Lib.hid LS
        have RL := fun (u : World) (h : Rf u bb v B) => rlast_any h cl hc
        rw [← HL.out.lk cl, HX.out, HFD.out] at RL
        have RL := Lib.hid RL
        obtain ⟨ln, la⟩ := X
        simp only at LS RL
        have HLB := Lib.hid HL.out.bytes
        have HSQ := Lib.hid HL.out.seqs
        have HRI := Lib.hid HL.out.ri
        have HRD := Lib.hid (HB.out.reads hk60 HL.out.ri)
        have HLN := Lib.hid (HB.out.bytes hk60)
        have HIXE := Lib.hid HL.out.ix
        have HSTE := Lib.hid HL.out.st
        obtain ⟨BS, HBS⟩ : ∃ s, Hid (loopB B = s) := ⟨_, Lib.hid rfl⟩
        rw [HBS.out] at HLB HRD HLN
        clear hgo q2 HX HFD HL HB
        go_wp2_with fail
        refine LS.out.mono ?_
        rintro e w10 ⟨rfl, hb⟩
        have HP10 := Lib.hid (HP.out.same (chg_of_below hb))
        clear hb HP LS
        go_wp2_with fail
        refine (RL.out _ HP10.out.b).mono ?_
        rintro e w11 ⟨rfl, hb⟩
        have HP11 := Lib.hid (HP10.out.same hb)
        clear hb HP10 RL
        have BY := bytes_any HP11.out.a HSQ.out (by rw [HLB.out]; have := HLN.out; omega)
        rw [HLB.out] at BY
        have BY := Lib.hid BY
        go_wp2_with fail
        refine BY.out.mono ?_
        rintro e w12 ⟨rfl, hb⟩
        have HP12 := Lib.hid (HP11.out.same hb)
        clear hb HP11 BY
        have RB := rbytes_any HP12.out.b HRI.out (by rw [HBS.out]; have := HLN.out; omega)
        rw [HBS.out] at RB
        have RB := Lib.hid RB
        go_upto_region 28 with fail
        go_wp2_with fail
        refine RB.out.mono ?_
        rintro e w13 ⟨rfl, hb⟩
        have HP13 := Lib.hid (HP12.out.same hb)
        clear hb HP12 RB
        have RE := read_any (str BS) (by have := HLN.out; show BS.length ≤ _; omega) w13
        rw [HRD.out] at RE
        have RE := Lib.hid RE
        go_upto_region 30 with fail
        go_wp2_with fail
        refine RE.out.mono ?_
        rintro e w14 ⟨hh, hb⟩
        have HP14 := Lib.hid (HP13.out.same hb)
        clear hb HP13 RE
        have d0 : w14.cell? ⟨bb, 0, none⟩ = some (.string B.state) := cell_of HP14.out.b.box rfl
        by_cases hok : okS B.state = true
        · rw [if_pos hok] at hh
          rcases hh with ⟨hn, -⟩ | ⟨m, rb, hm, rfl, hlo⟩
          · cases hn
          obtain rfl : B = m := by injection hm
          have HLO := Lib.hid hlo
          clear hm hlo
          have B2 := bytes_any HLO.out (fun p hp => (rises_key _ _ HRI.out p hp).2) (by rw [loopS_eq HRI.out, HBS.out]; have := HLN.out; omega)
          rw [loopS_eq HRI.out, HBS.out] at B2
          have B2 := Lib.hid B2
          by_cases hz : B.state.size = 0
          · have q5 : decide ((0 : Int) < B.state.size) = false := decide_eq_false (by omega)
            have q5n : decide (0 < B.state.size) = false := decide_eq_false (by omega)
            clear hz hok
            go_upto_region 33 with fail
            go_wp2_with fail
            refine B2.out.mono ?_
            rintro e w15 ⟨rfl, hb⟩
            have HP15 := Lib.hid (HP14.out.same hb)
            have HL15 := Lib.hid (HLO.out.stay hb (fun _ _ f => f))
            have I1 := Lib.hid (index_any HL15.out)
            have I2 := index_any HP15.out.a
            rw [HIXE.out] at I2
            have I2 := Lib.hid I2
            have S1 := Lib.hid (state_any HL15.out)
            have S2 := state_any HP15.out.a
            rw [HSTE.out] at S2
            have S2 := Lib.hid S2
            clear hb HP14 HLO B2 HRD HLB HLN HSQ HRI HIXE HSTE HBS
            go_upto_region 34 with fail
            go_wp2_with fail
            refine I1.out.mono ?_
            rintro e w' ⟨rfl, rfl⟩
            go_wp2_with fail
            refine I2.out.mono ?_
            rintro e w' ⟨rfl, rfl⟩
            go_wp2_with fail
            refine S1.out.mono ?_
            rintro e w' ⟨rfl, rfl⟩
            go_wp2_with fail
            refine S2.out.mono ?_
            rintro e w' ⟨rfl, rfl⟩
            go_wp2_with fail
            refine (AL.out _).mono ?_
            rintro e w' ⟨rfl, hb2⟩
            go_wp2_with fail
            go_ret
            exact ⟨rfl, HP15.out.chg.trans (chg_of_below hb2)⟩
          · have q5 : decide ((0 : Int) < B.state.size) = true := by simp; omega
            have hp : 0 < B.state.size := by omega
            have q6 : ((B.state[0].toNat : Int) == 33) = false := by
              unfold okS at hok
              rw [dif_pos hp] at hok
              have h3 : ¬ B.state[0].toNat = 33 := by simpa using hok
              rw [beq_eq_false_iff_ne]; omega
            clear hok hz
            go_upto_region 33 with fail
            go_wp2_with fail
            refine B2.out.mono ?_
            rintro e w15 ⟨rfl, hb⟩
            have HP15 := Lib.hid (HP14.out.same hb)
            have HL15 := Lib.hid (HLO.out.stay hb (fun _ _ f => f))
            have I1 := Lib.hid (index_any HL15.out)
            have I2 := index_any HP15.out.a
            rw [HIXE.out] at I2
            have I2 := Lib.hid I2
            have S1 := Lib.hid (state_any HL15.out)
            have S2 := state_any HP15.out.a
            rw [HSTE.out] at S2
            have S2 := Lib.hid S2
            clear hb HP14 HLO B2 HRD HLB HLN HSQ HRI HIXE HSTE HBS
            go_upto_region 34 with fail
            go_wp2_with fail
            refine I1.out.mono ?_
            rintro e w' ⟨rfl, rfl⟩
            go_wp2_with fail
            refine I2.out.mono ?_
            rintro e w' ⟨rfl, rfl⟩
            go_wp2_with fail
            refine S1.out.mono ?_
            rintro e w' ⟨rfl, rfl⟩
            go_wp2_with fail
            refine S2.out.mono ?_
            rintro e w' ⟨rfl, rfl⟩
            go_wp2_with fail
            refine (AL.out _).mono ?_
            rintro e w' ⟨rfl, hb2⟩
            go_wp2_with fail
            go_ret
            exact ⟨rfl, HP15.out.chg.trans (chg_of_below hb2)⟩
        · rw [if_neg hok] at hh
          rcases hh with ⟨-, rfl⟩ | ⟨m, rb, hm, -⟩
          rotate_left
          · cases hm
          have hp : 0 < B.state.size := by
            unfold okS at hok
            by_cases h : 0 < B.state.size
            · exact h
            · rw [dif_neg h] at hok; exact absurd rfl hok
          have q5 : decide ((0 : Int) < B.state.size) = true := by simp; omega
          have q6 : ((B.state[0].toNat : Int) == 33) = true := by
            unfold okS at hok
            rw [dif_pos hp] at hok
            have h3 : B.state[0].toNat = 33 := by simpa using hok
            rw [h3]; rfl
          clear hok
          clear HRD HLB HLN HSQ HRI HIXE HSTE HBS
          go_wp2_with fail
          refine (AL.out _).mono ?_
          rintro e w' ⟨rfl, hb2⟩
          go_wp2_with fail
          go_ret
          exact ⟨rfl, HP14.out.chg.trans (chg_of_below hb2)⟩
end Go.Proofs.Ytcaemfogknaioaa
