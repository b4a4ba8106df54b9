/- Heads in memory; walks: Len, Less. -/
import Derived.Test.YtnhookblhckmlaaV2
import Derived.Test.YtnhookblhckmlaaRF
import Derived.Test.YtnhookblhckmlaaK6
import Derived.Deep.RegionHeld3
namespace Go.Proofs.Ytnhookblhckmlaa
set_option linter.unusedVariables false
set_option linter.unusedSimpArgs false
open Go.RowKit Mk Go.Sort

def hdL (h : HdM) : List Value := [.string h.c.key, .int .u64 h.c.time, .bool h.c.del, .string h.c.val, .int .i64 h.fr, .func (.func 56) #[] #[.pointer (some ⟨h.nb, 0, none⟩)]]
def hdsL (H : List HdM) : List Value := H.flatMap hdL
theorem hdsL_len (H : List HdM) : (hdsL H).length = H.length * 6 := by
  induction H with
  | nil => rfl
  | cons h H ih => simp only [hdsL, List.flatMap_cons, List.length_append, List.length_cons] at *; rw [ih]; simp [hdL]; omega
theorem hdsL_get {H : List HdM} {i : Nat} {h : HdM} (hi : H[i]? = some h) {j : Nat} (hj : j < 6) : (hdsL H)[i * 6 + j]? = (hdL h)[j]? := by
  induction H generalizing i with
  | nil => simp at hi
  | cons a H ih =>
    show (hdL a ++ hdsL H)[i * 6 + j]? = _
    cases i with
    | zero =>
      simp at hi; subst hi
      rw [Nat.zero_mul, Nat.zero_add, List.getElem?_append_left (by simp [hdL]; omega)]
    | succ i =>
      rw [List.getElem?_append_right (by simp [hdL]; omega)]
      have : (i + 1) * 6 + j - (hdL a).length = i * 6 + j := by simp [hdL]; omega
      rw [this]
      exact ih (by simpa using hi)
/-- The slice v has these heads. -/
def HB (w : World) (v : Value) (H : List HdM) : Prop := sl w 90 6 v H.length (hdsL H)
theorem HB.cells {w : World} {v : Value} {H : List HdM} (h : HB w v H) {i : Nat} {a : HdM} (ha : H[i]? = some a) : ∃ g cap, v = .slice (some ⟨g, 0, none⟩) H.length cap ∧ g < w.heap.size ∧ w.cell? ⟨g, i * 6, none⟩ = some (.string a.c.key) ∧ w.cell? ⟨g, i * 6 + 1, none⟩ = some (.int .u64 a.c.time) ∧
    w.cell? ⟨g, i * 6 + 2, none⟩ = some (.bool a.c.del) ∧ w.cell? ⟨g, i * 6 + 3, none⟩ = some (.string a.c.val) ∧ w.cell? ⟨g, i * 6 + 4, none⟩ = some (.int .i64 a.fr) ∧ w.cell? ⟨g, i * 6 + 5, none⟩ = some (.func (.func 56) #[] #[.pointer (some ⟨a.nb, 0, none⟩)]) := by
  have key : ∀ j u, j < 6 → (hdL a)[j]? = some u → ∃ g cap, v = .slice (some ⟨g, 0, none⟩) H.length cap ∧ w.cell? ⟨g, i * 6 + j, none⟩ = some u := fun j u hj hu => sl.cell h (by rw [hdsL_get ha hj]; exact hu)
  obtain ⟨g, cap, e, c0⟩ := key 0 _ (by decide) rfl
  obtain ⟨g1, cap1, e1, c1⟩ := key 1 _ (by decide) rfl
  obtain ⟨g2, cap2, e2, c2⟩ := key 2 _ (by decide) rfl
  obtain ⟨g3, cap3, e3, c3⟩ := key 3 _ (by decide) rfl
  obtain ⟨g4, cap4, e4, c4⟩ := key 4 _ (by decide) rfl
  obtain ⟨g5, cap5, e5, c5⟩ := key 5 _ (by decide) rfl
  rw [e] at e1 e2 e3 e4 e5
  cases e1; cases e2; cases e3; cases e4; cases e5
  exact ⟨g, cap, e, sl.lt h (by rw [e]; rfl), c0, c1, c2, c3, c4, c5⟩
theorem HB.shape {w : World} {v : Value} {H : List HdM} (h : HB w v H) : ∃ o c, v = .slice o H.length c := by
  rcases h.2 with ⟨rfl, e⟩ | ⟨g, cap, cur, rfl, _⟩
  · exact ⟨_, _, by rw [e]⟩
  · exact ⟨_, _, rfl⟩
theorem hlen_any (o : Option Addr) (n c : Nat) (w : World) : Calls Try.prog 78 #[.slice o n c] w fun e w' => e = .returned (.int .i64 n) ∧ w' = w := by
  go_enter Try.func78, Try.ntmps78
  go_wp2
  go_ret
  exact ⟨rfl, rfl⟩
theorem nan3_any (a : Nat) (w : World) : Calls Try.prog 82 #[.int .i64 a] w fun e w' => e = .returned (.bool false) ∧ w' = w := by
  have q : ((a : Int) != (a : Int)) = false := by simp
  go_enter Try.func82, Try.ntmps82
  go_wp2
  go_ret
  exact ⟨rfl, rfl⟩
theorem cmpF_any (a b : Nat) (w : World) :
    Calls Try.prog 81 #[.int .i64 a, .int .i64 b] w fun e w' => e = .returned (.int .i64 (ordN a b)) ∧ w' = w := by
  have A := nan3_any a w
  have B := nan3_any b w
  obtain ⟨p, hp⟩ : ∃ p, decide (a < b) = p := ⟨_, rfl⟩
  obtain ⟨q, hq⟩ : ∃ q, decide (b < a) = q := ⟨_, rfl⟩
  have ev : ordN a b = if p then -1 else if q then 1 else 0 := by
    unfold ordN
    rw [← hp, ← hq]
    simp
  rw [ev]
  clear ev
  go_enter Try.func81, Try.ntmps81
  go_wp2_with fail
  refine A.mono ?_
  rintro e w' ⟨rfl, rfl⟩
  go_wp2_with fail
  refine B.mono ?_
  rintro e w' ⟨rfl, rfl⟩
  cases p
  · cases q
    · go_wp2
      go_ret
      exact ⟨by simp, rfl⟩
    · go_wp2
      go_ret
      exact ⟨by simp, rfl⟩
  · go_wp2
    go_ret
    exact ⟨by simp, rfl⟩
set_option maxRecDepth 100000 in
set_option maxHeartbeats 4000000 in
theorem hless_any {w : World} {v : Value} {H : List HdM} (h : HB w v H) {i j : Nat} {a b : HdM} (ha : H[i]? = some a) (hb : H[j]? = some b) (hl : H.length ≤ 1099511627776) :
    Calls Try.prog 79 #[v, .int .i64 i, .int .i64 j] w fun e w' => e = .returned (.bool (lessH a b)) ∧ RowKit.Below w.heap.size w w' := by
  obtain ⟨g, cap, rfl, hg, c0, c1, c2, c3, c4, c5⟩ := h.cells ha
  obtain ⟨g', cap', e, hg', d0, d1, d2, d3, d4, d5⟩ := h.cells hb
  cases e
  have hi := (List.getElem?_eq_some_iff.1 ha).1
  have hj := (List.getElem?_eq_some_iff.1 hb).1
  have A := Lib.hid (fun u => cmp_any a.c b.c u)
  have B := Lib.hid (fun u => cmpF_any a.fr b.fr u)
  have HZ : Hid (lessH a b = decide (cmpH a b < 0)) := Lib.hid rfl
  have hcz : cmpH a b = if cmpM a.c b.c ≠ 0 then cmpM a.c b.c else ordN a.fr b.fr := rfl
  unfold cellV at A
  generalize cmpM a.c b.c = x at *
  generalize ordN a.fr b.fr = y at *
  have C := Lib.hid (fun (w : World) (b : Nat) (t : TypeId) (h : w.heap[b]? = some (.cells #[.int .i64 x, .int .i64 y] t)) => or_two x y h)
  rw [← hcz] at C
  rw [HZ.out]
  generalize cmpH a b = z at *
  have l0 : (0 : Int) ≤ i := by omega
  have l1 : (i : Int) < H.length := by omega
  have l2 : (0 : Int) ≤ j := by omega
  have l3 : (j : Int) < H.length := by omega
  have HG := Lib.hid hg
  clear h ha hb hcz HZ hg hg' c5 d5 hi hj
  generalize H.length = n at *
  generalize a.c.key = ak at *
  generalize a.c.time = at_ at *
  generalize a.c.del = ad at *
  generalize a.c.val = av at *
  generalize b.c.key = bk at *
  generalize b.c.time = bt at *
  generalize b.c.del = bd at *
  generalize b.c.val = bv at *
  generalize a.fr = af at *
  generalize b.fr = bf at *
  go_enter Try.func79, Try.ntmps79
  go_wp2_with fail
  go_region_held3 (fun v => v.cell? ⟨g, i * 6, none⟩ = some (.string ak) ∧ v.cell? ⟨g, i * 6 + 1, none⟩ = some (.int .u64 at_) ∧ v.cell? ⟨g, i * 6 + 2, none⟩ = some (.bool ad) ∧ v.cell? ⟨g, i * 6 + 3, none⟩ = some (.string av) ∧ v.cell? ⟨g, i * 6 + 4, none⟩ = some (.int .i64 af) ∧ v.cell? ⟨g, j * 6, none⟩ = some (.string bk) ∧ v.cell? ⟨g, j * 6 + 1, none⟩ = some (.int .u64 bt) ∧ v.cell? ⟨g, j * 6 + 2, none⟩ = some (.bool bd) ∧ v.cell? ⟨g, j * 6 + 3, none⟩ = some (.string bv) ∧ v.cell? ⟨g, j * 6 + 4, none⟩ = some (.int .i64 bf))
    (first | (refine ⟨?_, ?_, ?_, ?_, ?_, ?_, ?_, ?_, ?_, ?_⟩ <;> with_reducible assumption) | (refine ⟨?_, ?_, ?_, ?_, ?_, ?_, ?_, ?_, ?_, ?_⟩ <;> (rw [World.cell?_alloc_lt _ _ _ _ (by have := HG.out; have := HB8.out.size; simp at *; omega)]; with_reducible assumption)) | go_keep)
    (first
      | (go_at_call 8; refine (A.out _).mono ?_; rintro e w8 ⟨rfl, hb8⟩; have HB8 := Lib.hid hb8; have k0 := (hb8.cell (p := ⟨g, i * 6, none⟩) HG.out).trans c0; have k1 := (hb8.cell (p := ⟨g, i * 6 + 1, none⟩) HG.out).trans c1; have k2 := (hb8.cell (p := ⟨g, i * 6 + 2, none⟩) HG.out).trans c2; have k3 := (hb8.cell (p := ⟨g, i * 6 + 3, none⟩) HG.out).trans c3; have k4 := (hb8.cell (p := ⟨g, i * 6 + 4, none⟩) HG.out).trans c4; have m0 := (hb8.cell (p := ⟨g, j * 6, none⟩) HG.out).trans d0; have m1 := (hb8.cell (p := ⟨g, j * 6 + 1, none⟩) HG.out).trans d1; have m2 := (hb8.cell (p := ⟨g, j * 6 + 2, none⟩) HG.out).trans d2; have m3 := (hb8.cell (p := ⟨g, j * 6 + 3, none⟩) HG.out).trans d3; have m4 := (hb8.cell (p := ⟨g, j * 6 + 4, none⟩) HG.out).trans d4; clear hb8)
      | (go_at_call 81; refine (B.out _).mono ?_; rintro e w' ⟨rfl, rfl⟩)
      | (go_at_call 27; refine (C.out _ _ _ (Go.heap_alloc_new _ _)).mono ?_; rintro e w' ⟨rfl, rfl⟩))
  all_goals
    go_wp2
    go_ret
    exact ⟨rfl, (⟨HB8.out.os, HB8.out.tape, HB8.out.output, HB8.out.size, HB8.out.block⟩ : RowKit.Below w.heap.size w _).alloc HB8.out.size _⟩
end Go.Proofs.Ytnhookblhckmlaa
