/- Walks: the document's does. -/
import Derived.Test.YtjflkmihkfbgpaaX5
import Derived.Deep.RegionHeld3
namespace Go.Proofs.Ytjflkmihkfbgpaa
open Go.RowKit Mk Go.Sort
set_option linter.unusedVariables false
set_option linter.unusedSimpArgs false

/-- A thing's four fields. -/
def opK : Do → Nat
  | .app _ => 1
  | .wr _ => 2
  | .trunc _ _ => 3
  | .ren _ _ => 4
  | .rem _ => 5
def opName : Do → ByteArray
  | .app n => n
  | .wr n => n
  | .trunc n _ => n
  | .ren a _ => a
  | .rem n => n
def opText : Thing → ByteArray
  | (.ren _ b, _) => b
  | (_, s) => s
def opN : Do → Nat
  | .trunc _ k => k
  | _ => 0
def opL (t : Thing) : List Value := [.int .i64 (opK t.1), .string (opName t.1), .string (opText t), .int .i64 (opN t.1)]
/-- The document's files behind a thing. -/
def refAct : Thing → Files → Files
  | (.app n, s), L => laidM L n (byt L n ++ s)
  | (.wr n, s), L => laidM L n s
  | (.trunc n k, _), L => laidM L n ((byt L n).extract 0 k)
  | (.ren a b, _), L => laidM (goneM L a) b (byt L a)
  | (.rem n, _), L => goneM L n
theorem goneM_len (L : Files) (n : ByteArray) : (goneM L n).length ≤ L.length := by
  induction L with
  | nil => exact Nat.le_refl _
  | cons p L ih => rw [goneM_cons]; split <;> simp <;> omega
/-- The box of the thing. -/
theorem does_box {w W1 : World} {t : Thing} (h : w.alloc (.cells (opL t).toArray 68) = W1) : Below w.heap.size w W1 ∧ W1.heap[w.heap.size]? = some (.cells (opL t).toArray 68) ∧ W1.heap.size = w.heap.size + 1 := by
  subst h
  exact ⟨(Below.refl _ w).alloc (Nat.le_refl _) _, Go.heap_alloc_new _ _, by simp⟩
theorem FPost.up {w w1 : World} {M : Files} {e : Ending} {w' : World} (h : FPost w1 M e w') (k : Below w.heap.size w w1) : FPost w M e w' := by
  obtain ⟨o, c, h1, h2, h3, h4⟩ := h
  exact ⟨o, c, h1, h2, k.trans (h3.mono k.size), fun g hg => Nat.le_trans k.size (h4 g hg)⟩

set_option maxRecDepth 100000 in
set_option maxHeartbeats 4000000 in
theorem rdoes_any {w : World} {v : Value} {L : Files} (h : FL w v L) (hL : L.length ≤ 1099511627776) (t : Thing) (hm : may t.1 L) (hs : tot L + t.2.size ≤ 1099511627776) :
    Calls Try.prog 54 #[v, .agg (opL t).toArray] w fun e w' => FPost w (refAct t L) e w' := by
  obtain ⟨W1, HW1⟩ : ∃ W, Hid (w.alloc (.cells (opL t).toArray 68) = W) := ⟨_, Lib.hid rfl⟩
  obtain ⟨hb1, hx1, hz1⟩ := does_box HW1.out
  have h1 : FL W1.drew v L := h.stay hb1.drew
  have hbd : Below w.heap.size w W1.drew := hb1.drew
  obtain ⟨o, c, rfl⟩ := h.shape
  obtain ⟨d, s⟩ := t
  cases d with
  | app n =>
    have c0 : W1.cell? ⟨w.heap.size, 0, none⟩ = some (.int .i64 1) := cell_of hx1 rfl
    have c1 : W1.cell? ⟨w.heap.size, 1, none⟩ = some (.string n) := cell_of hx1 rfl
    have c2 : W1.cell? ⟨w.heap.size, 2, none⟩ = some (.string s) := cell_of hx1 rfl
    have c3 : W1.cell? ⟨w.heap.size, 3, none⟩ = some (.int .i64 0) := cell_of hx1 rfl
    have HW1' : Hid (w.alloc (.cells #[.int .i64 1, .string n, .string s, .int .i64 0] 68) = W1) := HW1

    have hby := byt_le L n
    have hs1 : (byt L n).size ≤ 1099511627776 := by omega
    have hs2 : s.size ≤ 1099511627776 := by simp only at hs; omega
    have BY := Lib.hid (bytes_any h1 hL n)
    have LD := Lib.hid (laid_any h1 hL n (byt L n ++ s))
    have hs3 : (byt L n).size + s.size ≤ 9223372036854775807 := by omega
    obtain ⟨M, HM⟩ : ∃ M, Hid (refAct (.app n, s) L = M) := ⟨_, Lib.hid rfl⟩
    have hM : laidM L n (byt L n ++ s) = M := HM.out
    rw [hM] at LD
    rw [HM.out]
    obtain ⟨Y, HY⟩ : ∃ Y, Hid (byt L n ++ s = Y) := ⟨_, Lib.hid rfl⟩
    generalize byt L n = y at *
    have hadd : ∀ u : World, (Op.stringOp .add y s).run Try.prog u = .ok (.string (y ++ s)) u := fun u => run_string_add_sum u y s hs3
    have HBD := Lib.hid hbd
    have hbl : w.heap.size < W1.heap.size := by omega
    clear h h1 hm hs hM hx1 hb1 hbd hz1 HW1 hby

    show Calls Try.prog 54 #[.slice o L.length c, .agg #[.int .i64 1, .string n, .string s, .int .i64 0]] w _
    go_enter Try.func54, Try.ntmps54
    go_wp2_with fail
    rw [HW1'.out]

    go_region_held3 (fun v => v.cell? ⟨w.heap.size, 1, none⟩ = some (.string n) ∧ v.cell? ⟨w.heap.size, 2, none⟩ = some (.string s)) (first | go_keep | (go_split_ands; refine ⟨?_, ?_⟩ <;> assumption)) (first | (go_at_call 53; (with_reducible refine BY.out.mono ?_); rintro e w3 ⟨rfl, rfl⟩) | (go_at_call 57; (with_reducible refine LD.out.mono ?_); rintro e w3 hf; obtain ⟨fo, fc, rfl, f1, f2, f3⟩ := hf; have d1 := (World.cell?_of_block (a := ⟨w.heap.size, 1, none⟩) (f2.block w.heap.size hbl)).trans c1; have d2 := (World.cell?_of_block (a := ⟨w.heap.size, 2, none⟩) (f2.block w.heap.size hbl)).trans c2; have HF := Lib.hid (FPost.up ⟨fo, fc, rfl, f1, f2, f3⟩ HBD.out); clear f1 f2 f3))

    go_wp2
    go_ret
    exact HF.out
  | wr n =>
    have c0 : W1.cell? ⟨w.heap.size, 0, none⟩ = some (.int .i64 2) := cell_of hx1 rfl
    have c1 : W1.cell? ⟨w.heap.size, 1, none⟩ = some (.string n) := cell_of hx1 rfl
    have c2 : W1.cell? ⟨w.heap.size, 2, none⟩ = some (.string s) := cell_of hx1 rfl
    have c3 : W1.cell? ⟨w.heap.size, 3, none⟩ = some (.int .i64 0) := cell_of hx1 rfl
    have HW1' : Hid (w.alloc (.cells #[.int .i64 2, .string n, .string s, .int .i64 0] 68) = W1) := HW1

    have LD := Lib.hid (laid_any (h.stay hb1) hL n s)
    obtain ⟨M, HM⟩ : ∃ M, Hid (refAct (.wr n, s) L = M) := ⟨_, Lib.hid rfl⟩
    have hM : laidM L n s = M := HM.out
    rw [hM] at LD
    rw [HM.out]
    have HBD := Lib.hid hb1
    clear h h1 hm hs hM hx1 hb1 hbd hz1 HW1

    show Calls Try.prog 54 #[.slice o L.length c, .agg #[.int .i64 2, .string n, .string s, .int .i64 0]] w _
    go_enter Try.func54, Try.ntmps54
    go_wp2_with fail
    rw [HW1'.out]

    refine LD.out.mono ?_
    rintro e w3 hf
    obtain ⟨fo, fc, rfl, f1, f2, f3⟩ := hf
    have HF := Lib.hid (FPost.up ⟨fo, fc, rfl, f1, f2, f3⟩ HBD.out)
    clear f1 f2 f3 LD

    go_wp2
    go_ret
    exact HF.out
  | trunc n k =>
    have c0 : W1.cell? ⟨w.heap.size, 0, none⟩ = some (.int .i64 3) := cell_of hx1 rfl
    have c1 : W1.cell? ⟨w.heap.size, 1, none⟩ = some (.string n) := cell_of hx1 rfl
    have c2 : W1.cell? ⟨w.heap.size, 2, none⟩ = some (.string s) := cell_of hx1 rfl
    have c3 : W1.cell? ⟨w.heap.size, 3, none⟩ = some (.int .i64 k) := cell_of hx1 rfl
    have HW1' : Hid (w.alloc (.cells #[.int .i64 3, .string n, .string s, .int .i64 k] 68) = W1) := HW1

    have hby := byt_le L n
    have hs1 : (byt L n).size ≤ 1099511627776 := by omega
    have BY := Lib.hid (bytes_any h1 hL n)
    have LD := Lib.hid (laid_any h1 hL n ((byt L n).extract 0 k))
    have hk : k ≤ (byt L n).size := hm
    have l0 : (0 : Int) ≤ k := by omega
    have l1 : (k : Int) ≤ (byt L n).size := by omega
    obtain ⟨M, HM⟩ : ∃ M, Hid (refAct (.trunc n k, s) L = M) := ⟨_, Lib.hid rfl⟩
    have hM : laidM L n ((byt L n).extract 0 k) = M := HM.out
    rw [hM] at LD
    rw [HM.out]
    generalize byt L n = y at *
    have HBD := Lib.hid hbd
    have hbl : w.heap.size < W1.heap.size := by omega
    clear h h1 hm hs hM hx1 hb1 hbd hz1 HW1 hby

    show Calls Try.prog 54 #[.slice o L.length c, .agg #[.int .i64 3, .string n, .string s, .int .i64 k]] w _
    go_enter Try.func54, Try.ntmps54
    go_wp2_with fail
    rw [HW1'.out]

    go_region_held3 (fun v => v.cell? ⟨w.heap.size, 1, none⟩ = some (.string n) ∧ v.cell? ⟨w.heap.size, 3, none⟩ = some (.int .i64 k)) (first | go_keep | (go_split_ands; refine ⟨?_, ?_⟩ <;> assumption)) (first | (go_at_call 53; (with_reducible refine BY.out.mono ?_); rintro e w3 ⟨rfl, rfl⟩) | (go_at_call 57; (with_reducible refine LD.out.mono ?_); rintro e w3 hf; obtain ⟨fo, fc, rfl, f1, f2, f3⟩ := hf; have d1 := (World.cell?_of_block (a := ⟨w.heap.size, 1, none⟩) (f2.block w.heap.size hbl)).trans c1; have d2 := (World.cell?_of_block (a := ⟨w.heap.size, 3, none⟩) (f2.block w.heap.size hbl)).trans c3; have HF := Lib.hid (FPost.up ⟨fo, fc, rfl, f1, f2, f3⟩ HBD.out); clear f1 f2 f3))

    go_wp2
    go_ret
    exact HF.out
  | ren n m =>
    have c0 : W1.cell? ⟨w.heap.size, 0, none⟩ = some (.int .i64 4) := cell_of hx1 rfl
    have c1 : W1.cell? ⟨w.heap.size, 1, none⟩ = some (.string n) := cell_of hx1 rfl
    have c2 : W1.cell? ⟨w.heap.size, 2, none⟩ = some (.string m) := cell_of hx1 rfl
    have c3 : W1.cell? ⟨w.heap.size, 3, none⟩ = some (.int .i64 0) := cell_of hx1 rfl
    have HW1' : Hid (w.alloc (.cells #[.int .i64 4, .string n, .string m, .int .i64 0] 68) = W1) := HW1

    have BY := Lib.hid (bytes_any (h.stay hb1) hL n)
    have GN := Lib.hid (gone_any h1 hL n)
    have LD := Lib.hid (fun (u : World) (o : Option Addr) (c : Nat) (hf : FL u (.slice o (goneM L n).length c) (goneM L n)) => laid_any hf (Nat.le_trans (goneM_len L n) hL) m (byt L n))
    obtain ⟨M, HM⟩ : ∃ M, Hid (refAct (.ren n m, s) L = M) := ⟨_, Lib.hid rfl⟩
    have hM : laidM (goneM L n) m (byt L n) = M := HM.out
    rw [hM] at LD
    rw [HM.out]
    generalize byt L n = y at *
    have HBD := Lib.hid hbd
    have hbl : w.heap.size < W1.heap.size := by omega
    clear h h1 hm hs hM hx1 hb1 hbd hz1 HW1

    show Calls Try.prog 54 #[.slice o L.length c, .agg #[.int .i64 4, .string n, .string m, .int .i64 0]] w _
    go_enter Try.func54, Try.ntmps54
    go_wp2_with fail
    rw [HW1'.out]

    refine BY.out.mono ?_
    rintro e w3 ⟨rfl, rfl⟩
    clear BY
    go_wp2_with fail
    go_region_held3 (fun v => v.cell? ⟨w.heap.size, 1, none⟩ = some (.string n) ∧ v.cell? ⟨w.heap.size, 2, none⟩ = some (.string m)) (first | go_keep | (go_split_ands; refine ⟨?_, ?_⟩ <;> assumption)) (first | (go_at_call 58; (with_reducible refine GN.out.mono ?_); rintro e w3 hf; obtain ⟨go, gc, rfl, g1, g2, g3⟩ := hf; have d1 := (World.cell?_of_block (a := ⟨w.heap.size, 1, none⟩) (g2.block w.heap.size hbl)).trans c1; have d2 := (World.cell?_of_block (a := ⟨w.heap.size, 2, none⟩) (g2.block w.heap.size hbl)).trans c2; have L2 := Lib.hid (LD.out _ _ _ g1); have B2 := Lib.hid (HBD.out.trans (g2.mono HBD.out.size)); have hbl2 := Nat.lt_of_lt_of_le hbl g2.size; clear g1 g2 g3) | (go_at_call 57; (with_reducible refine L2.out.mono ?_); rintro e w4 hf; obtain ⟨fo, fc, rfl, f1, f2, f3⟩ := hf; have e1 := (World.cell?_of_block (a := ⟨w.heap.size, 1, none⟩) (f2.block w.heap.size hbl2)).trans d1; have e2 := (World.cell?_of_block (a := ⟨w.heap.size, 2, none⟩) (f2.block w.heap.size hbl2)).trans d2; have HF := Lib.hid (FPost.up ⟨fo, fc, rfl, f1, f2, f3⟩ B2.out); clear f1 f2 f3))

    go_wp2
    go_ret
    exact HF.out
  | rem n =>
    have c0 : W1.cell? ⟨w.heap.size, 0, none⟩ = some (.int .i64 5) := cell_of hx1 rfl
    have c1 : W1.cell? ⟨w.heap.size, 1, none⟩ = some (.string n) := cell_of hx1 rfl
    have c2 : W1.cell? ⟨w.heap.size, 2, none⟩ = some (.string s) := cell_of hx1 rfl
    have c3 : W1.cell? ⟨w.heap.size, 3, none⟩ = some (.int .i64 0) := cell_of hx1 rfl
    have HW1' : Hid (w.alloc (.cells #[.int .i64 5, .string n, .string s, .int .i64 0] 68) = W1) := HW1

    have GN := Lib.hid (gone_any (h.stay hb1) hL n)
    obtain ⟨M, HM⟩ : ∃ M, Hid (refAct (.rem n, s) L = M) := ⟨_, Lib.hid rfl⟩
    have hM : goneM L n = M := HM.out
    rw [hM] at GN
    rw [HM.out]
    have HBD := Lib.hid hb1
    clear h h1 hm hs hM hx1 hb1 hbd hz1 HW1

    show Calls Try.prog 54 #[.slice o L.length c, .agg #[.int .i64 5, .string n, .string s, .int .i64 0]] w _
    go_enter Try.func54, Try.ntmps54
    go_wp2_with fail
    rw [HW1'.out]

    refine GN.out.mono ?_
    rintro e w3 hf
    obtain ⟨fo, fc, rfl, f1, f2, f3⟩ := hf
    have HF := Lib.hid (FPost.up ⟨fo, fc, rfl, f1, f2, f3⟩ HBD.out)
    clear f1 f2 f3 GN

    go_wp2
    go_ret
    exact HF.out
end Go.Proofs.Ytjflkmihkfbgpaa
