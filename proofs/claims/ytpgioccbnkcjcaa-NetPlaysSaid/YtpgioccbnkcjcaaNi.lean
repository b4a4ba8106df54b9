/- Walks: Waiting. -/
import Derived.Test.YtpgioccbnkcjcaaNh
namespace Go.Proofs.Ytpgioccbnkcjcaa
open Go.RowKit Mk

abbrev Pk := Int × Int × ByteArray
def pkc (p : Pk) : List Value := [.int .i64 p.1, .int .i64 p.2.1, .string p.2.2]
theorem pkc_len (L : List Pk) : (L.flatMap pkc).length = L.length * 3 := by
  induction L with
  | nil => rfl
  | cons p L ih => simp only [List.flatMap_cons, List.length_append, ih, List.length_cons]; simp [pkc]; omega
/-- The messages of a link; of a machine to the first so many; of the first so many. -/
def lkL (l : List Msg) (x : Lnk) : List Pk := (q l x).map fun s => (x.1, x.2, s)
def midL (l : List Msg) (a k : Nat) : List Pk := (List.range k).flatMap fun b : Nat => lkL l ((a : Int) + 1, (b : Int) + 1)
def outL (l : List Msg) (N k : Nat) : List Pk := (List.range k).flatMap fun a : Nat => midL l a N
theorem lkL_len (l : List Msg) (x : Lnk) : (lkL l x).length ≤ l.length := by
  unfold lkL q
  rw [List.length_map, List.length_map]
  exact List.length_filter_le _ _
theorem midL_succ (l : List Msg) (a k : Nat) : midL l a (k + 1) = midL l a k ++ lkL l ((a : Int) + 1, (k : Int) + 1) := by
  unfold midL; rw [List.range_succ, List.flatMap_append]; simp
theorem outL_succ (l : List Msg) (N k : Nat) : outL l N (k + 1) = outL l N k ++ midL l k N := by
  unfold outL; rw [List.range_succ, List.flatMap_append]; simp
theorem midL_len (l : List Msg) (a k : Nat) : (midL l a k).length ≤ k * l.length := by
  induction k with
  | zero => simp [midL]
  | succ k ih => rw [midL_succ, List.length_append, Nat.succ_mul]; have := lkL_len l ((a : Int) + 1, (k : Int) + 1); omega
theorem outL_len (l : List Msg) (N k : Nat) : (outL l N k).length ≤ k * (N * l.length) := by
  induction k with
  | zero => simp [outL]
  | succ k ih => rw [outL_succ, List.length_append, Nat.succ_mul]; have := midL_len l k N; omega

/-- A slice of packets in new memory. -/
structure PkS (w : World) (L : List Pk) (v : Value) (wr : World) : Prop where
  sl : sl wr 42 3 v L.length (L.flatMap pkc)
  below : Below w.heap.size w wr
  new : ∀ g, v.ownBlock = some g → w.heap.size ≤ g
theorem PkS.nil (w wr : World) (hb : Below w.heap.size w wr) : PkS w [] (.slice none 0 0) wr := ⟨sl_nil _ _ _, hb, fun g h => by simp [Value.ownBlock] at h⟩
theorem PkS.stay {w : World} {L : List Pk} {v : Value} {wr w' : World} (H : PkS w L v wr) (hb : Below wr.heap.size wr w') : PkS w L v w' :=
  ⟨H.sl.stay (fun g hg => hb.block _ (H.sl.lt hg)), H.below.trans (hb.mono H.below.size), H.new⟩
theorem PkS.alloc {w : World} {L : List Pk} {v : Value} {wr : World} (H : PkS w L v wr) (o : Obj) : PkS w L v (wr.alloc o) := H.stay ((Below.refl _ _).alloc (Nat.le_refl _) o)
theorem PkS.grown {w : World} {L : List Pk} {v v' : Value} {wr w2 : World} {x : Pk} (H : PkS w L v wr) (hsl : Mk.sl w2 42 3 v' (L.length + 1) (L.flatMap pkc ++ [.int .i64 x.1, .int .i64 x.2.1, .string x.2.2])) (hg : wr.grownBy w2 v.ownBlock) (hat : v'.ownBlock = v.ownBlock ∨ v'.ownBlock = some wr.heap.size) :
    PkS w (L ++ [x]) v' w2 := by
  refine ⟨?_, ?_, ?_⟩
  · rw [List.flatMap_append, List.length_append]; simpa [pkc] using hsl
  · have h1 : Chg (fun g => w.heap.size ≤ g) wr w2 := (Chg.refl _ wr).grown hg (fun i hi => Or.inl (H.new i hi))
    exact H.below.trans (h1.below (fun _ h => h) H.below.size)
  · intro g h
    rcases hat with e | e
    · exact H.new g (e ▸ h)
    · rw [e] at h
      cases h
      exact H.below.size
theorem PkS.shape {w : World} {L : List Pk} {v : Value} {wr : World} (H : PkS w L v wr) : ∃ ao n cap, v = .slice ao n cap := by
  rcases H.sl.2 with ⟨rfl, h⟩ | ⟨g, cap, cur, rfl, _⟩
  · exact ⟨none, 0, 0, rfl⟩
  · exact ⟨_, _, _, rfl⟩
theorem chg_below {w w' : World} (h : Below w.heap.size w w') : Chg (fun _ => False) w w' := ⟨h.os, h.tape, h.output, h.size, fun i hi _ => h.block i hi⟩
theorem cell_new_three {w : World} {g : Nat} {v0 v1 v2 : Value} {t : TypeId} (h : w.heap[g]? = some (.cells #[v0, v1, v2] t)) : ∀ j u, [v0, v1, v2][j]? = some u → w.cell? ((⟨g, 0, none⟩ : Addr).add j) = some u := by
  intro j u hj
  match j, hj with
  | 0, hj | 1, hj | 2, hj =>
    simp at hj
    subst hj
    simp [Addr.add, World.cell?, h]
theorem info42 : (Try.prog.info? 42).map (fun i => (i.zero, i.size, i.bytes)) = some (some (.agg #[.int .i64 0, .int .i64 0, .string ⟨#[]⟩]), 3, 32) := by kernel_rfl
theorem info42b : ∃ i z, Try.prog.info? 42 = some i ∧ i.zero = some z ∧ i.size = 3 ∧ i.bytes = 32 ∧ z.cells.size = 3 := by
  obtain ⟨i, hi, hzz⟩ := Option.map_eq_some_iff.1 info42
  simp only [Prod.mk.injEq] at hzz
  exact ⟨i, _, hi, hzz.1, hzz.2.1, hzz.2.2, rfl⟩

theorem nodes_any {w : World} {b r : Nat} {mb : MB} {L : List (Lnk × Value)} {F : Nat → Prop} {n : NetM} (h : NetRep w b r mb L F n) :
    Calls Try.prog 27 #[.pointer (some ⟨b, 0, none⟩)] w fun e w' => e = .returned (.int .i64 n.ms.length) ∧ w' = w := by
  have c1 : w.cell? ⟨b, 1, none⟩ = some (.slice (some ⟨mb, 0, none⟩) n.ms.length mb.c) := cell_of h.net (by simp)
  generalize n.ms.length = N at *
  clear h
  go_enter Try.func27, Try.ntmps27
  go_wp2
  go_ret
  exact ⟨rfl, rfl⟩
theorem clip_any {w : World} {L : List Pk} {v : Value} {w0 : World} (H : PkS w0 L v w) :
    Calls Try.prog 33 #[v] w fun e w' => (∃ v', e = .returned v' ∧ PkS w0 L v' w) ∧ w' = w := by
  rcases H.sl.2 with ⟨rfl, h0⟩ | ⟨g, cap, cur, rfl, hg, hn, hc, hs, ht⟩
  · have HH := Lib.hid H
    clear H
    go_enter Try.func33, Try.ntmps33
    go_wp2
    go_ret
    exact ⟨⟨_, rfl, HH.out⟩, rfl⟩
  · have HP := Lib.hid (show PkS w0 L (.slice (some ⟨g, 0, none⟩) L.length L.length) w from ⟨⟨by rw [pkc_len], Or.inr ⟨g, L.length, cur, rfl, hg, Nat.le_refl _, by omega, by have := Nat.mul_le_mul_right 3 hn; omega, ht⟩⟩, H.below, fun g' h => H.new g' h⟩)
    have l1 : (L.length : Int) ≤ cap := by omega
    have l2 : L.length ≤ cap := hn
    have l3 : cap ≤ 9223372036854775807 := by simpa [maxLen] using hc
    generalize L.length = N at *
    clear H hg ht hs hc hn
    go_enter Try.func33, Try.ntmps33
    go_wp2
    go_ret
    exact ⟨⟨_, rfl, HP.out⟩, rfl⟩

set_option maxRecDepth 100000 in
set_option maxHeartbeats 4000000 in
theorem waiting_any {w : World} {b r : Nat} {mb : MB} {L : List (Lnk × Value)} {F : Nat → Prop} {n : NetM} (h : NetRep w b r mb L F n) :
    Calls Try.prog 19 #[.pointer (some ⟨b, 0, none⟩)] w fun e w' => ∃ v, e = .returned v ∧ PkS w (outL n.l n.ms.length n.ms.length) v w' := by
  obtain ⟨i42, z42, hi42, hz42, hsz42, hby42, hzs42⟩ := info42b
  have H := Lib.hid h
  have hfew := h.few.1
  have hund := h.under
  have NO := Lib.hid (fun w' (hb : Below w.heap.size w w') => nodes_any (h.stay (chg_below hb) (fun _ _ h => h)))
  obtain ⟨N, hN⟩ : ∃ N, n.ms.length = N := ⟨_, rfl⟩
  rw [hN] at NO hfew ⊢
  clear h hN
  go_enter Try.func19, Try.ntmps19
  go_wp2_with fail
  refine (NO.out _ (Below.refl _ _)).mono ?_
  rintro e w' ⟨rfl, rfl⟩
  go_wp2
  go_loopw [3, 10] (fun o i wr => ∃ (a : Nat) (ao : Option Addr) (c cap : Nat), a ≤ N ∧ i = .int .i64 a ∧ o = .slice ao c cap ∧ Hid (PkS w' (outL n.l N a) (.slice ao c cap) wr)) (fun _ i _ => N - (intOf i).toNat)
  case atStart => exact ⟨0, none, 0, 0, by omega, rfl, rfl, Lib.hid (PkS.nil _ _ (Below.refl _ _))⟩
  case round =>
    obtain ⟨a, ao, c, cap, ha, rfl, rfl, HS⟩ := hrel
    by_cases hlt : a < N
    · have hd : decide (a < N) = true := by simpa using hlt
      go_wp2_with fail
      refine (NO.out _ HS.out.below).mono ?_
      rintro e w2 ⟨rfl, rfl⟩
      go_wp2
      go_loopw [3, 15] (fun o i wr => ∃ (b' : Nat) (ao : Option Addr) (c cap : Nat), b' ≤ N ∧ i = .int .i64 b' ∧ o = .slice ao c cap ∧ Hid (PkS w' (outL n.l N a ++ midL n.l a b') (.slice ao c cap) wr)) (fun _ i _ => N - (intOf i).toNat)
      case atStart => exact ⟨0, ao, c, cap, by omega, rfl, rfl, Lib.hid (by simpa [midL] using HS.out)⟩
      case round =>
        obtain ⟨b', ao, c, cap, hb', rfl, rfl, HS⟩ := hrel
        by_cases hltb : b' < N
        · have hdb : decide (b' < N) = true := by simpa using hltb
          have hwa : IntKind.i64.wrap ((a : Int) + 1) = (a : Int) + 1 := by simp only [IntKind.wrap, IntKind.bits, IntKind.signed]; simp; omega
          have hwb : IntKind.i64.wrap ((b' : Int) + 1) = (b' : Int) + 1 := by simp only [IntKind.wrap, IntKind.bits, IntKind.signed]; simp; omega
          obtain ⟨ro0, rc0, -, hs, he0⟩ := H.out.look (lok_of (a := (a : Int) + 1) (b := (b' : Int) + 1) (by constructor <;> omega) (by constructor <;> omega))
          obtain ⟨ro, rc, hl, -, he⟩ := (H.out.stay (chg_below HS.out.below) (fun _ _ h => h)).look (lok_of (a := (a : Int) + 1) (b := (b' : Int) + 1) (by constructor <;> omega) (by constructor <;> omega))
          rw [he0] at he
          simp only [Value.slice.injEq] at he
          obtain ⟨rfl, -, rfl⟩ := he
          clear he0
          have c0 : wr.cell? ⟨b, 0, none⟩ = some (.map (some r)) := (H.out.stay (chg_below HS.out.below) (fun _ _ h => h)).cell0
          unfold lkv at hl
          simp only at hl
          obtain ⟨T, hT⟩ : ∃ T, q n.l ((a : Int) + 1, (b' : Int) + 1) = T := ⟨_, rfl⟩
          rw [hT] at hl hs
          have hTk : lkL n.l ((a : Int) + 1, (b' : Int) + 1) = T.map fun s => ((a : Int) + 1, (b' : Int) + 1, s) := by unfold lkL; rw [hT]
          have hTl : T.length ≤ 16384 := by have := lkL_len n.l ((a : Int) + 1, (b' : Int) + 1); rw [hTk, List.length_map] at this; omega
          have HT := Lib.hid hTk
          have HROW := Lib.hid hs
          obtain ⟨m, hm⟩ : ∃ m, T.length = m := ⟨_, rfl⟩
          rw [hm] at hl hTl
          have HM := Lib.hid hm
          clear hT hTk hs hm
          go_wp2
          go_loopw [3, 29] (fun o i w3 => ∃ (j : Nat) (ao : Option Addr) (c cap : Nat), j ≤ m ∧ i = .int .i64 j ∧ o = .slice ao c cap ∧ Hid (PkS w' (outL n.l N a ++ midL n.l a b' ++ (lkL n.l ((a : Int) + 1, (b' : Int) + 1)).take j) (.slice ao c cap) w3)) (fun _ i _ => m - (intOf i).toNat)
          case atStart => exact ⟨0, ao, c, cap, by omega, rfl, rfl, Lib.hid (by simpa using HS.out)⟩
          case round =>
            obtain ⟨j, ao, c, cap, hj, rfl, rfl, H1⟩ := hrel
            by_cases hltj : j < m
            · have hdj : decide (j < m) = true := by simpa using hltj
              have hjT : j < T.length := by rw [HM.out]; exact hltj
              obtain ⟨g, cap3, hv, hc⟩ := (HROW.out.stay (fun g hg => H1.out.below.block _ (HROW.out.lt hg))).cell (i := j) (u := .string T[j]) (by simp [hjT])
              rw [HM.out] at hv
              simp only [Value.slice.injEq] at hv
              obtain ⟨rfl, -, -⟩ := hv
              obtain ⟨t, ht⟩ : ∃ t, T[j] = t := ⟨_, rfl⟩
              rw [ht] at hc
              obtain ⟨LL, hLL⟩ : ∃ LL, outL n.l N a ++ midL n.l a b' ++ (lkL n.l ((a : Int) + 1, (b' : Int) + 1)).take j = LL := ⟨_, rfl⟩
              have hn1 : LL ++ [((a : Int) + 1, (b' : Int) + 1, t)] = outL n.l N a ++ midL n.l a b' ++ (lkL n.l ((a : Int) + 1, (b' : Int) + 1)).take (j + 1) := by
                rw [← hLL, HT.out, List.take_succ_eq_append_getElem (by simpa using hjT)]
                simp [ht]
              have hlen : LL.length ≤ 100000000 := by
                rw [← hLL]
                have e1 := outL_len n.l N a
                have e2 := midL_len n.l a b'
                have e3 : N * n.l.length ≤ 64 * 16384 := Nat.mul_le_mul hfew hund
                have e4 : a * (N * n.l.length) ≤ 64 * (64 * 16384) := Nat.mul_le_mul (by omega) e3
                have e5 : b' * n.l.length ≤ 64 * 16384 := Nat.mul_le_mul (by omega) hund
                have e6 : (List.take j (lkL n.l ((a : Int) + 1, (b' : Int) + 1))).length ≤ 16384 := by rw [List.length_take]; omega
                simp only [List.length_append]
                omega
              rw [hLL] at H1
              have HN1 := Lib.hid hn1
              have l0 : (0 : Int) ≤ j := by omega
              have l1 : (j : Int) < m := by omega
              clear hn1 hLL ht
              go_wp2_with (refine wpList_append_sl (by rfl) _ _ 49 (by rfl) 42 i42 z42 3 32 Try.underlying49 hi42 hz42 hsz42 hby42 hzs42 (by decide) (.slice ao c cap) LL.length (LL.flatMap pkc) (by rfl) (H1.out.alloc _).sl (some ⟨wr.heap.size, 0, none⟩) 1 1 [.int .i64 ((a : Int) + 1), .int .i64 ((b' : Int) + 1), .string t] (by rfl) (by rfl) (fun _ => ⟨_, rfl, cell_new_three (Go.heap_alloc_new _ _)⟩) (fun h => absurd h (by decide)) (by simp [Value.oneCell']) (by simp only [maxLen]; omega) (by omega) ?_; intro v' w2 hsl hgrow hat; have H2 := (H1.out.alloc _).grown (x := ((a : Int) + 1, (b' : Int) + 1, t)) hsl hgrow hat; obtain ⟨ao2, n2, cap2, rfl⟩ := H2.shape; have H5 := Lib.hid H2; clear hsl hgrow hat H1 H2)
              go_wp2
              go_round
              case rel => exact ⟨j + 1, ao2, n2, cap2, by omega, by go_num, rfl, Lib.hid (by rw [← HN1.out]; exact H5.out)⟩
              case measure => simp [intOf]; omega
            · have hdj : decide (j < m) = false := by simpa using hltj
              have hjm : j = m := by omega
              subst hjm
              have HE : Hid (PkS w' (outL n.l N a ++ midL n.l a (b' + 1)) (.slice ao c cap) ‹World›) := Lib.hid (by have h := H1.out; rw [List.take_of_length_le (by rw [HT.out, List.length_map, HM.out]; exact Nat.le_refl _), List.append_assoc, ← midL_succ] at h; exact h)
              clear H1
              go_wp2
              go_round
              case rel => exact ⟨b' + 1, ao, c, cap, by omega, by go_num, rfl, HE⟩
              case measure => simp [intOf]; omega
        · have hdb : decide (b' < N) = false := by simpa using hltb
          have hbm : b' = N := by omega
          subst hbm
          have HE : Hid (PkS w' (outL n.l b' (a + 1)) (.slice ao c cap) ‹World›) := Lib.hid (by have h := HS.out; rw [← outL_succ] at h; exact h)
          clear HS
          go_wp2
          go_round
          case rel => exact ⟨a + 1, ao, c, cap, by omega, by go_num, rfl, HE⟩
          case measure => simp [intOf]; omega
    · have hd : decide (a < N) = false := by simpa using hlt
      have hbm : a = N := by omega
      subst hbm
      have CL := Lib.hid (clip_any HS.out)
      go_wp2_with fail
      refine CL.out.mono ?_
      rintro e w2 ⟨⟨v', rfl, hk⟩, rfl⟩
      have HK := Lib.hid hk
      obtain ⟨ao3, n3, cap3, rfl⟩ := hk.shape
      clear hk
      go_wp2
      go_ret
      exact ⟨_, rfl, HK.out⟩
end Go.Proofs.Ytpgioccbnkcjcaa
