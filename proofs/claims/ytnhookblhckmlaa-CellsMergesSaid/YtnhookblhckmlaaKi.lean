/- Walks: Trim; Put, whatever is put. -/
import Derived.Test.YtnhookblhckmlaaKh
namespace Go.Proofs.Ytnhookblhckmlaa
open Go.RowKit Mk Go.Sort

theorem delGo_len (b : Nat) (s : TrS) (L : List CellM) : (delGo b s L).length ≤ L.length := (delGo_sub b s L).length_le
def TrimPost (w : World) (b : Nat) (lv : Value) (L : List CellM) (below : Nat) (w' : World) : Prop :=
  ∃ lv', CR w' b lv' (trimM L below) ∧ lv'.ownBlock = lv.ownBlock ∧ Chg (fun g => g = b ∨ lv.ownBlock = some g) w w'

set_option maxRecDepth 100000 in
set_option maxHeartbeats 2000000 in
theorem trim_any {w : World} {b : Nat} {lv : Value} {L : List CellM} (h : CR w b lv L) (hL : L.length ≤ 1099511627776) (below : Nat) :
    Calls Try.prog 15 #[.pointer (some ⟨b, 0, none⟩), .int .u64 below] w fun e w' => e = .returned (.int .i64 ((L.length : Int) - (trimM L below).length)) ∧ TrimPost w b lv L below w' := by
  obtain ⟨W1, HW1⟩ : ∃ W, Hid (w.alloc (.cells #[.int .u64 below] 22) = W) := ⟨_, Lib.hid rfl⟩
  obtain ⟨W3, HW3⟩ : ∃ W, Hid ((W1.alloc (.cells #[.string ⟨#[]⟩] 9)).alloc (.cells #[.bool false] 4) = W) := ⟨_, Lib.hid rfl⟩
  have hb1 : RowKit.Below w.heap.size w W1 := by rw [← HW1.out]; exact (Below.refl _ w).alloc (Nat.le_refl _) _
  have hs1 : W1.heap.size = w.heap.size + 1 := by rw [← HW1.out]; simp
  have h3 : W1.heap[w.heap.size]? = some (.cells #[.int .u64 below] 22) := by rw [← HW1.out]; exact Go.heap_alloc_new _ _
  have hb3 : RowKit.Below W1.heap.size W1 W3 := by rw [← HW3.out]; exact ((Below.refl _ W1).alloc (Nat.le_refl _) _).alloc (by simp) _
  have h6 : W3.heap[W1.heap.size]? = some (.cells #[.string ⟨#[]⟩] 9) := by
    rw [← HW3.out, RowKit.Below.heap_alloc _ _ _ (by simp)]; exact Go.heap_alloc_new _ _
  have h7 : W3.heap[W1.heap.size + 1]? = some (.cells #[.bool false] 4) := by
    rw [← HW3.out]
    have := Go.heap_alloc_new (W1.alloc (.cells #[.string ⟨#[]⟩] 9)) (.cells #[.bool false] 4)
    rw [World.size_alloc] at this
    exact this
  have h33 := (hb3.block _ (by omega : w.heap.size < W1.heap.size)).trans h3
  have hcr1 := h.stay hb1
  have hcr3 := hcr1.stay hb3
  have hblt := h.lt
  have hbl1 : b < W1.heap.size := by omega
  have hown : ∀ g, lv.ownBlock = some g → g < w.heap.size := fun g hg => sl.lt h.has hg
  have D := delete_any hcr3.has hL (b3 := w.heap.size) (b7 := W1.heap.size + 1) (b6 := W1.heap.size) (below := below) (s := ⟨⟨#[]⟩, false⟩) ⟨h33, h7, h6, by omega, by omega, by omega⟩ (fun g hg => by have := hown g hg; omega)
  have N := Lib.hid (not_some hcr1.blk)
  have d1 : W1.cell? ⟨b, 0, none⟩ = some lv := cell_of hcr1.blk rfl
  have d3 : W3.cell? ⟨b, 0, none⟩ = some lv := cell_of hcr3.blk rfl
  have hch3 : Chg (fun g => g = b ∨ lv.ownBlock = some g) w W3 := ((chg_of_below hb1).trans' (chg_of_below hb3) (fun _ f => f.elim)).mono (fun _ f => f.elim)
  have HFIN := Lib.hid (fun (w4 : World) (v' : Value) (h4 : Has w4 v' (trimM L below)) (hc : Chg (fun i => i = W1.heap.size ∨ i = W1.heap.size + 1 ∨ lv.ownBlock = some i) W3 w4) (ho : v'.ownBlock = lv.ownBlock) =>
    (show w4.heap[b]? = some (.cells #[lv, .bool true] 65) ∧ TrimPost w b lv L below (w4.setCell ⟨b, 0, none⟩ v') from by
      have hbb : w4.heap[b]? = some (.cells #[lv, .bool true] 65) := (hc.block b hcr3.lt (fun e => by rcases e with e | e | e; omega; omega; exact h.apart e)).trans hcr3.blk
      refine ⟨hbb, v', ⟨?_, ?_, by rw [ho]; exact h.apart⟩, ho, ?_⟩
      · rw [Mk.heap_setCell_same hbb]; rfl
      · exact sl.stay h4 (fun g hg => Below.heap_setCell _ _ _ _ (fun e => h.apart (by rw [← ho, hg, e])))
      · refine (hch3.trans' hc (fun i e => ?_)).setCell (Or.inl (Or.inl rfl)) _
        rcases e with e | e | e
        · exact Or.inr (by omega)
        · exact Or.inr (by omega)
        · exact Or.inl (Or.inr e)))
  obtain ⟨lo, lc, rfl⟩ := h.has.shape
  have htl : (trimM L below).length ≤ L.length := trimM_len L below
  have HD := Lib.hid D
  clear h hcr1 hcr3 h3 h6 h7 h33 hb1 hb3 hown hch3 D hs1
  go_enter Try.func15, Try.ntmps15
  go_wp2_with fail
  rw [HW1.out]
  refine N.out.mono ?_
  rintro e w' ⟨rfl, rfl⟩
  go_wp2_with fail
  rw [HW3.out]
  refine HD.out.mono ?_
  rintro e w4 ⟨v', rfl, h4, hc4, ho4⟩
  have h4 : Has w4 v' (trimM L below) := h4
  obtain ⟨o4, c4, rfl⟩ := h4.shape
  obtain ⟨hbb, hp⟩ := HFIN.out w4 _ h4 hc4 ho4
  have f0 : w4.frozen? ⟨b, 0, none⟩ = false := frozen_of hbb
  have e0 : w4.cell? ⟨b, 0, none⟩ = some (.slice lo L.length lc) := cell_of hbb rfl
  have HP := Lib.hid hp
  have b1 : (0 : Int) ≤ (L.length : Int) - (trimM L below).length := by omega
  clear h4 hc4 ho4 hp hbb
  go_wp2
  go_ret
  exact ⟨rfl, HP.out⟩

/-- What Put answers, and what there is behind it. -/
def putR : List CellM → Nat → Int × Int
  | [], i => (i, 0)
  | x :: P, i => if mayM x ≠ 0 then (i, mayM x) else putR P (i + 1)
def putOk (P : List CellM) : Bool := P.all (fun x => decide (mayM x = 0))
def putM (L P : List CellM) : List CellM := if putOk P then P.foldl layM L else L
theorem putR_ok {P : List CellM} (h : putOk P = true) (i : Nat) : putR P i = (((i + P.length : Nat) : Int), 0) := by
  induction P generalizing i with
  | nil => simp [putR]
  | cons x P ih =>
    simp only [putOk, List.all_cons, Bool.and_eq_true, decide_eq_true_eq] at h
    unfold putR
    rw [if_neg (by simp [h.1]), ih (by unfold putOk; exact h.2)]
    simp only [List.length_cons, Prod.mk.injEq, and_true]
    congr 1
    omega
theorem putR_bad {P : List CellM} (h : putOk P = false) (i : Nat) : ∃ n x, P[n]? = some x ∧ (∀ j y, j < n → P[j]? = some y → mayM y = 0) ∧ mayM x ≠ 0 ∧ putR P i = (((i + n : Nat) : Int), mayM x) := by
  induction P generalizing i with
  | nil => simp [putOk] at h
  | cons x P ih =>
    by_cases hx : mayM x = 0
    · have h2 : putOk P = false := by
        simp only [putOk, List.all_cons, Bool.and_eq_false_iff, decide_eq_false_iff_not] at h
        rcases h with h | h
        · exact absurd hx h
        · exact h
      obtain ⟨n, y, h3, h4, h5, h6⟩ := ih h2 (i + 1)
      refine ⟨n + 1, y, by simpa using h3, fun j z hj hz => ?_, h5, ?_⟩
      · cases j with
        | zero => simp at hz; subst hz; exact hx
        | succ j => exact h4 j z (by omega) (by simpa using hz)
      · unfold putR
        rw [if_neg (by simp [hx]), h6]
        simp only [Prod.mk.injEq, and_true]
        congr 1
        omega
    · exact ⟨0, x, rfl, fun j y hj => by omega, hx, by unfold putR; rw [if_pos hx]; rfl⟩
theorem putM_len (L P : List CellM) : (putM L P).length ≤ L.length + P.length := by
  unfold putM
  split
  · exact fold_len L P
  · omega
theorem Ord.put {L : List CellM} (h : Ord L) (P : List CellM) : Ord (putM L P) := by
  unfold putM
  split
  · exact h.fold P
  · exact h

/-- Cells at b that hold M: all their blocks are B or more, and none of K. -/
structure CS (B : Nat) (K : Nat → Prop) (b : Nat) (M : List CellM) (W : World) : Prop where
  row : ∃ lv, CR W b lv M ∧ ∀ g, lv.ownBlock = some g → B ≤ g ∧ ¬ K g
  ord : Ord M
  here : B ≤ b ∧ ¬ K b
theorem CS.stay {B : Nat} {K : Nat → Prop} {b : Nat} {M : List CellM} {W W' : World} (h : CS B K b M W) (k : RowKit.Below W.heap.size W W') : CS B K b M W' := by
  obtain ⟨⟨lv, h1, h2⟩, h3, h4⟩ := h
  exact ⟨⟨lv, h1.stay k, h2⟩, h3, h4⟩
theorem CS.mono {B : Nat} {K K' : Nat → Prop} {b : Nat} {M : List CellM} {W : World} (h : CS B K b M W) (k : ∀ g, K' g → K g) : CS B K' b M W := by
  obtain ⟨⟨lv, h1, h2⟩, h3, h4⟩ := h
  exact ⟨⟨lv, h1, fun g hg => ⟨(h2 g hg).1, fun f => (h2 g hg).2 (k g f)⟩⟩, h3, h4.1, fun f => h4.2 (k b f)⟩
theorem CS.keep {B : Nat} {K : Nat → Prop} {b : Nat} {M : List CellM} {W W' : World} (h : CS B K b M W) (k : RowKit.Below W.heap.size W W') : CS B (fun g => K g ∨ W.heap.size ≤ g) b M W' := by
  obtain ⟨⟨lv, h1, h2⟩, h3, h4⟩ := h
  refine ⟨⟨lv, h1.stay k, fun g hg => ⟨(h2 g hg).1, fun f => f.elim (h2 g hg).2 (fun f => ?_)⟩⟩, h3, h4.1, fun f => f.elim h4.2 (fun f => ?_)⟩
  · have := sl.lt h1.has hg; omega
  · have := h1.lt; omega
theorem CS.other {B : Nat} {K : Nat → Prop} {b : Nat} {M : List CellM} {W W' : World} (h : CS B K b M W) {F : Nat → Prop} (k : Chg F W W') (hF : ∀ g, g < W.heap.size → F g → K g) : CS B K b M W' := by
  obtain ⟨⟨lv, h1, h2⟩, h3, h4⟩ := h
  refine ⟨⟨lv, ⟨(k.block b h1.lt (fun f => h4.2 (hF b h1.lt f))).trans h1.blk, sl.stay h1.has (fun g hg => k.block g (sl.lt h1.has hg) (fun f => (h2 g hg).2 (hF g (sl.lt h1.has hg) f))), h1.apart⟩, h2⟩, h3, h4⟩
theorem CS.new (B : Nat) (W : World) (hB : B ≤ W.heap.size) (K : Nat → Prop) (hK : ∀ g, K g → g < W.heap.size) : CS B K W.heap.size [] (W.alloc (.cells #[.slice none 0 0, .bool true] 65)) :=
  ⟨⟨.slice none 0 0, ⟨Go.heap_alloc_new _ _, sl_nil _ _ _, by simp [Value.ownBlock]⟩, fun g hg => by simp [Value.ownBlock] at hg⟩, List.Pairwise.nil, hB, fun f => absurd (hK _ f) (Nat.lt_irrefl _)⟩

theorem CS.put {B : Nat} {K : Nat → Prop} {b : Nat} {M : List CellM} {W : World} (h : CS B K b M W) (hK : ∀ g, K g → g < W.heap.size) (hB : B ≤ W.heap.size) {so : Option Addr} {P : List CellM} (hp : At W so P) (hs : P ≠ [] → ∀ g o, so = some ⟨g, o, none⟩ → g < B ∨ K g) (hL : M.length + P.length ≤ 1099511627776) (cap : Nat) :
    Calls Try.prog 12 #[.pointer (some ⟨b, 0, none⟩), .slice so P.length cap] W fun e w' => e = .returned (.tuple #[.int .i64 (putR P 0).1, .int .i64 (putR P 0).2]) ∧ CS B K b (putM M P) w' ∧ Chg (fun g => B ≤ g ∧ ¬ K g) W w' := by
  obtain ⟨⟨lv, h1, h2⟩, h3, h4⟩ := h
  unfold putM
  cases hok : putOk P
  · obtain ⟨n, x, g1, g2, g3, g4⟩ := putR_bad hok 0
    refine (putF_bad (cap := cap) h1 hp g1 g2 g3).mono ?_
    rintro e w' ⟨rfl, hb⟩
    refine ⟨by rw [g4]; simp, ?_, (chg_of_below hb).mono (fun _ f => f.elim)⟩
    simp only [Bool.false_eq_true, if_false]
    exact (CS.mk ⟨lv, h1, h2⟩ h3 h4).stay hb
  · have ha : ∀ x ∈ P, mayM x = 0 := fun x hx => by
      have := List.all_eq_true.1 hok x hx
      simpa using this
    refine (putF_all (cap := cap) h1 h3 hp (fun hne g o e => ?_) ha hL).mono ?_
    · have := hs hne g o e
      refine ⟨fun e2 => ?_, fun e2 => ?_⟩
      · subst e2; rcases this with f | f; omega; exact h4.2 f
      · have h5 := h2 g e2; rcases this with f | f; omega; exact h5.2 f
    · rintro e w' ⟨rfl, ⟨lv', h5, h6⟩, h7⟩
      rw [List.take_length] at h5
      refine ⟨by rw [putR_ok hok]; simp, ?_, h7.mono (fun g e => ?_)⟩
      · simp only [if_true]
        refine ⟨⟨lv', h5, fun g hg => ?_⟩, h3.fold P, h4⟩
        rcases h6 with e | ⟨g', e, e2⟩
        · exact h2 g (by rw [← e, hg])
        · rw [hg] at e; cases e
          exact ⟨by omega, fun f => by have := hK _ f; omega⟩
      · rcases e with rfl | e
        · exact h4
        · exact h2 g e
theorem CS.get {B : Nat} {K : Nat → Prop} {b : Nat} {M : List CellM} {W : World} (h : CS B K b M W) (hL : M.length ≤ 1099511627776) (k : ByteArray) (t : Nat) :
    Calls Try.prog 13 #[.pointer (some ⟨b, 0, none⟩), .string k, .int .u64 t] W fun e w' => e = .returned (seenV (getM M k t)) ∧ RowKit.Below W.heap.size W w' := by
  obtain ⟨⟨lv, h1, h2⟩, h3, h4⟩ := h
  rw [← seenM_get h3]
  exact get_any h1.blk h1.has hL k t
theorem CS.trim {B : Nat} {K : Nat → Prop} {b : Nat} {M : List CellM} {W : World} (h : CS B K b M W) (hL : M.length ≤ 1099511627776) (below : Nat) :
    Calls Try.prog 15 #[.pointer (some ⟨b, 0, none⟩), .int .u64 below] W fun e w' => e = .returned (.int .i64 ((M.length : Int) - (trimM M below).length)) ∧ CS B K b (trimM M below) w' ∧ Chg (fun g => B ≤ g ∧ ¬ K g) W w' := by
  obtain ⟨⟨lv, h1, h2⟩, h3, h4⟩ := h
  refine (trim_any h1 hL below).mono ?_
  rintro e w' ⟨rfl, lv', h5, h6, h7⟩
  refine ⟨rfl, ⟨⟨lv', h5, fun g hg => h2 g (by rw [← h6, hg])⟩, h3.trim below, h4⟩, h7.mono (fun g e => ?_)⟩
  rcases e with rfl | e
  · exact h4
  · exact h2 g e
theorem CS.copy {B : Nat} {K : Nat → Prop} {b : Nat} {M : List CellM} {W : World} (h : CS B K b M W) (hL : M.length ≤ 1099511627776) (hB : B ≤ W.heap.size) :
    Calls Try.prog 14 #[.pointer (some ⟨b, 0, none⟩)] W fun e w' => ∃ d, e = .returned (.pointer (some ⟨d, 0, none⟩)) ∧ CS B (fun g => g < W.heap.size) d M w' ∧ RowKit.Below W.heap.size W w' := by
  obtain ⟨⟨lv, h1, h2⟩, h3, h4⟩ := h
  refine (copy_any h1 hL).mono ?_
  rintro e w' ⟨d, lv', rfl, h5, h6, h7, h8⟩
  exact ⟨d, rfl, ⟨⟨lv', h6, fun g hg => ⟨by have := h8 g hg; omega, by have := h8 g hg; omega⟩⟩, h3, by omega, by omega⟩, h7⟩
theorem CS.len {B : Nat} {K : Nat → Prop} {b : Nat} {M : List CellM} {W : World} (h : CS B K b M W) :
    Calls Try.prog 24 #[.pointer (some ⟨b, 0, none⟩)] W fun e w' => e = .returned (.int .i64 M.length) ∧ w' = W := by
  obtain ⟨⟨lv, h1, h2⟩, h3, h4⟩ := h
  obtain ⟨o, c, rfl⟩ := h1.has.shape
  exact len_any h1.blk
end Go.Proofs.Ytnhookblhckmlaa
