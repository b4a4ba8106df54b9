/- The merge: its lists; a head more. -/
import Derived.Test.YtnhookblhckmlaaVA
import Derived.Test.YtnhookblhckmlaaS1
namespace Go.Proofs.Ytnhookblhckmlaa
set_option linter.unusedVariables false
set_option linter.unusedSimpArgs false
open Go.RowKit Mk

/-- A list of the merge. -/
structure ItM where
  g : Nat
  lb : Array Value
  L : List CellM
def itV : Option ItM → Value
  | none => .nilFunc
  | some x => .func (.func x.g) #[] x.lb
def itL : Option ItM → List CellM
  | none => []
  | some x => x.L
structure ItOk (w : World) (x : ItM) : Prop where
  is : x.g = 41 ∨ x.g = 49
  tells : Tells w x.g x.lb x.L
  ord : Ord x.L
theorem Tells.move {w w' : World} {g : Nat} {lb : Array Value} {L : List CellM} (h : Tells w g lb L) (hs : w.heap.size ≤ w'.heap.size) (k : ∀ i, i < w.heap.size → w'.heap[i]? = w.heap[i]?) : Tells w' g lb L := by
  obtain ⟨h0, R, h1, h2⟩ := h
  refine ⟨h0, R, fun l J Jx W F0 hs' hR hF hJ hJx hY hj => h1 l J Jx W F0 (Nat.le_trans hs hs') (fun g hg => (hR g hg).trans (k _ (h2 g hg))) hF hJ hJx hY hj, fun g hg => Nat.lt_of_lt_of_le (h2 g hg) hs⟩
theorem ItOk.move {w w' : World} {x : ItM} (h : ItOk w x) (hs : w.heap.size ≤ w'.heap.size) (k : ∀ i, i < w.heap.size → w'.heap[i]? = w.heap[i]?) : ItOk w' x := ⟨h.is, h.tells.move hs k, h.ord⟩
theorem ItOk.enters {w : World} {x : ItM} (h : ItOk w x) : ∀ args w, (callFunc x.g args).run Try.prog w = .ok (.enter x.g args) w := by
  rcases h.is with e | e
  · rw [e]; exact enters_of Try.func41 (by kernel_rfl) rfl
  · rw [e]; exact enters_of Try.func49 (by kernel_rfl) rfl
theorem ItOk.collect {w : World} {x : ItM} (h : ItOk w x) : Calls Try.prog 51 #[.func (.func x.g) #[] x.lb] w fun e w' => ∃ so cap, e = .returned (.slice so x.L.length cap) ∧ Has w' (.slice so x.L.length cap) x.L ∧ RowKit.Below w.heap.size w w' ∧ ∀ g o, so = some ⟨g, o, none⟩ → w.heap.size ≤ g := by
  obtain ⟨h0, R, h1, h2⟩ := h.tells
  refine (collect_any h.enters h0 h1 h2).mono ?_
  rintro e w' ⟨v, rfl, h3, h4, h5⟩
  obtain ⟨o, c, rfl⟩ := h3.shape
  exact ⟨o, c, rfl, h3, h4, fun g o2 e => h5 g (by rw [e]; rfl)⟩
/-- What Collect gave, put into a box. -/
theorem Has.rx {w : World} {P : Nat → Prop} {so : Option Addr} {cap : Nat} {L : List CellM} (h : Has w (.slice so L.length cap) L) (hP : ∀ g o, so = some ⟨g, o, none⟩ → P g) (hp : P w.heap.size) : RX (w.alloc (.cells #[.slice so L.length cap] 28)) P w.heap.size L := by
  obtain ⟨so', cap', e, hat, hown⟩ := h.at
  cases e
  have hB : RowKit.Below w.heap.size w (w.alloc (.cells #[.slice so L.length cap] 28)) := (Below.refl _ w).alloc (Nat.le_refl _) _
  rcases h.2 with ⟨e, e0⟩ | ⟨g, cap', cur, e, hg, hnc, hcm, hcs, ht⟩
  · obtain ⟨rfl, _, rfl⟩ : so = none ∧ L.length = 0 ∧ cap = 0 := by injection e with a b c; exact ⟨a, b, c⟩
    exact ⟨⟨none, 0, Go.heap_alloc_new _ _, hat.below hB, by omega, by simp [maxLen], fun g o e => by cases e⟩, hp⟩
  · cases e
    refine ⟨⟨_, cap, Go.heap_alloc_new _ _, hat.below hB, hnc, hcm, fun g2 o2 e2 => ?_⟩, hp⟩
    cases e2
    exact ⟨hP _ _ rfl, cur, (0, 0), (hB.block _ (Array.getElem?_eq_some_iff.1 hg).1).trans hg⟩
theorem MgAt.none {P : Nat → Prop} {hb : Nat} {v : Value} {H : List HdM} {rem : List (List CellM)} {w : World} (h : MgAt P hb v H rem w) : MgAt P hb v H (rem ++ [[]]) w := by
  refine ⟨h.hx, h.phb, h.pv, fun x hx => ?_, fun i c rest e => ?_, h.apart⟩
  · obtain ⟨rest, e, hr⟩ := h.heads x hx
    exact ⟨rest, by rw [List.getElem?_append_left (List.getElem?_eq_some_iff.1 e).1]; exact e, hr⟩
  · by_cases hi : i < rem.length
    · rw [List.getElem?_append_left hi] at e
      exact h.all i c rest e
    · rw [List.getElem?_append_right (by omega)] at e
      have : i - rem.length = 0 ∨ 0 < i - rem.length := by omega
      rcases this with e2 | e2
      · rw [e2] at e; simp at e
      · rw [List.getElem?_eq_none (by simp; omega)] at e; cases e
theorem MgAt.more {P : Nat → Prop} {hb : Nat} {v v' : Value} {H : List HdM} {rem : List (List CellM)} {w w' : World} {nb : Nat} {c : CellM} {rest : List CellM} (h : MgAt P hb v H rem w) (hr : RX w P nb rest) (hnb : ∀ x ∈ H, x.nb ≠ nb)
    (hx : HX w' hb v' (H ++ [⟨c, rem.length, nb⟩])) (hv : ∀ g, v'.ownBlock = some g → P g) (hs : w.heap.size ≤ w'.heap.size) (k : ∀ i, i < w.heap.size → i ≠ hb → v.ownBlock ≠ some i → w'.heap[i]? = w.heap[i]?) :
    MgAt P hb v' (H ++ [⟨c, rem.length, nb⟩]) (rem ++ [c :: rest]) w' := by
  have keep : ∀ nb rest, RX w P nb rest → RX w' P nb rest := fun nb rest hr => hr.stay (fun _ p _ => p) hs (fun i p hk hi => k i hi (fun e => by
      have h85 := h.hx.blk
      rw [← e] at h85
      rcases hk with rfl | ⟨cs2, f, h24⟩
      · obtain ⟨cs3, h28⟩ := hr.kind
        rw [h85] at h28; cases h28
      · rw [h85] at h24; cases h24) (fun e => by
      obtain ⟨cs, h90⟩ := h.hx.kindv e
      rcases hk with rfl | ⟨cs2, f, h24⟩
      · obtain ⟨cs3, h28⟩ := hr.kind
        rw [h90] at h28; cases h28
      · rw [h90] at h24; cases h24))
  refine ⟨hx, h.phb, hv, fun x hx => ?_, fun i c' rest' e => ?_, ?_⟩
  · rcases List.mem_append.1 hx with hx | hx
    · obtain ⟨rest', e, hr'⟩ := h.heads x hx
      exact ⟨rest', by rw [List.getElem?_append_left (List.getElem?_eq_some_iff.1 e).1]; exact e, keep _ _ hr'⟩
    · simp at hx; subst hx
      exact ⟨rest, by rw [List.getElem?_append_right (by simp)]; simp, keep _ _ hr⟩
  · by_cases hi : i < rem.length
    · rw [List.getElem?_append_left hi] at e
      obtain ⟨x, hx, e2⟩ := h.all i c' rest' e
      exact ⟨x, List.mem_append_left _ hx, e2⟩
    · have : i = rem.length := by
        have := (List.getElem?_eq_some_iff.1 e).1
        simp at this; omega
      exact ⟨_, List.mem_append_right _ (List.mem_singleton.2 rfl), this.symm⟩
  · refine List.pairwise_append.2 ⟨h.apart, List.pairwise_singleton _ _, fun a ha b hb => ?_⟩
    simp at hb; subst hb
    obtain ⟨rest', e, _⟩ := h.heads a ha
    exact ⟨fun e2 => by have := (List.getElem?_eq_some_iff.1 e).1; simp only at e2; omega, hnb a ha⟩
theorem info90 : ∃ (i : TypeInfo) (z : Value), Try.prog.info? 90 = some i ∧ i.zero = some z ∧ i.size = 6 ∧ i.bytes = 64 ∧ z.cells.size = 6 := by
  have h : ((Try.prog.info? 90).map fun i => (i.size, i.bytes, i.zero.map (·.cells.size))) = some (6, 64, some 6) := by kernel_rfl
  cases hi : Try.prog.info? 90 with
  | none => rw [hi] at h; cases h
  | some i =>
    rw [hi] at h
    simp only [Option.map_some, Option.some.injEq, Prod.mk.injEq] at h
    obtain ⟨h1, h2, h3⟩ := h
    cases hz : i.zero with
    | none => rw [hz] at h3; cases h3
    | some z => rw [hz] at h3; exact ⟨i, z, rfl, hz, h1, h2, by simpa using h3⟩
theorem cell_new_six {w : World} {g : Nat} {a b c d e f : Value} {t : TypeId} (h : w.heap[g]? = some (.cells #[a, b, c, d, e, f] t)) : ∀ j u, [a, b, c, d, e, f][j]? = some u → w.cell? ((⟨g, 0, none⟩ : Addr).add j) = some u := by
  intro j u hj
  match j, hj with
  | 0, hj => simp at hj; subst hj; simp [Addr.add, World.cell?, h]
  | 1, hj => simp at hj; subst hj; simp [Addr.add, World.cell?, h]
  | 2, hj => simp at hj; subst hj; simp [Addr.add, World.cell?, h]
  | 3, hj => simp at hj; subst hj; simp [Addr.add, World.cell?, h]
  | 4, hj => simp at hj; subst hj; simp [Addr.add, World.cell?, h]
  | 5, hj => simp at hj; subst hj; simp [Addr.add, World.cell?, h]
theorem hdsL_append (A B : List HdM) : hdsL (A ++ B) = hdsL A ++ hdsL B := by simp [hdsL]
/-- The first loop, k lists looked at. -/
structure CoAt (W : World) (its : List (Option ItM)) (hb k : Nat) (v : Value) (H : List HdM) (wr : World) : Prop where
  at_ : MgAt (fun g => W.heap.size ≤ g) hb v H ((its.take k).map itL) wr
  below : RowKit.Below W.heap.size W wr
  few : H.length ≤ k
theorem CoAt.more {W w4 w6 w7 : World} {its : List (Option ItM)} {hb k nb : Nat} {o4 : Option Addr} {c4 : Nat} {H : List HdM} {c : CellM} {rest : List CellM} {v' : Value}
    (hC : MgAt (fun g => W.heap.size ≤ g) hb (.slice o4 H.length c4) H ((its.take k).map itL) w4) (hB4 : RowKit.Below W.heap.size W w4) (hr : RX w4 (fun g => W.heap.size ≤ g) nb rest) (hnb : ∀ x ∈ H, x.nb ≠ nb) (hfew : H.length ≤ k)
    (hkt : (its.take (k + 1)).map itL = (its.take k).map itL ++ [c :: rest]) (hlk : ((its.take k).map itL).length = k) (hB6 : RowKit.Below w4.heap.size w4 w6)
    (hs7 : sl w7 90 6 v' (H.length + 1) (hdsL H ++ hdL ⟨c, k, nb⟩)) (hg : w6.grownBy w7 (Value.slice o4 H.length c4).ownBlock) (ha : v'.ownBlock = (Value.slice o4 H.length c4).ownBlock ∨ v'.ownBlock = some w6.heap.size) :
    (w7.heap[hb]? = some (.cells #[.slice o4 H.length c4] 85) ∧ ∃ o' c', v' = .slice o' (H.length + 1) c') ∧ CoAt W its hb (k + 1) v' (H ++ [⟨c, k, nb⟩]) (w7.setCell ⟨hb, 0, none⟩ v') := by
  have hC6 := hC.below hB6
  have hr6 : RX w6 (fun g => W.heap.size ≤ g) nb rest := hr.stay (fun _ p _ => p) hB6.size (fun i _ _ hi => hB6.block i hi)
  have hap : (Value.slice o4 H.length c4).ownBlock ≠ some hb := hC6.hx.apart
  have hhb := hC6.hx.lt
  have hW6 : W.heap.size ≤ w6.heap.size := Nat.le_trans hB4.size hB6.size
  have hr4 : w7.heap[hb]? = some (.cells #[.slice o4 H.length c4] 85) := (hg.block hb hhb (fun e => hap e.symm)).trans hC6.hx.blk
  have hv : v'.ownBlock ≠ some hb := fun e => by
    rcases ha with e2 | e2
    · rw [e2] at e; exact hap e
    · rw [e2] at e; have := Option.some.inj e; omega
  have hhas : HB w7 v' (H ++ [⟨c, k, nb⟩]) := by
    unfold HB
    rw [hdsL_append]
    have : (H ++ [(⟨c, k, nb⟩ : HdM)]).length = H.length + 1 := by simp
    rw [this]
    have e : hdsL [(⟨c, k, nb⟩ : HdM)] = hdL ⟨c, k, nb⟩ := by simp [hdsL]
    rw [e]
    exact hs7
  have hsh := hhas.shape
  have hlen : (H ++ [(⟨c, k, nb⟩ : HdM)]).length = H.length + 1 := by simp
  rw [hlen] at hsh
  have hc67 : Chg (fun g => g = hb ∨ (Value.slice o4 H.length c4).ownBlock = some g) w6 (w7.setCell ⟨hb, 0, none⟩ v') :=
    ((Chg.refl (fun g => g = hb ∨ (Value.slice o4 H.length c4).ownBlock = some g) w6).grown hg (fun i e => .inl (.inr e))).setCell (.inl (.inl rfl)) _
  refine ⟨⟨hr4, hsh⟩, ?_, ?_, by simp; omega⟩
  · rw [hkt]
    have hfr : (⟨c, k, nb⟩ : HdM) = ⟨c, ((its.take k).map itL).length, nb⟩ := by rw [hlk]
    rw [hfr]
    rw [hfr] at hhas
    refine hC6.more hr6 hnb ⟨?_, ?_, hv⟩ (fun g e => ?_) hc67.size (fun i hi h1 h2 => hc67.block i hi (fun f => f.elim h1 h2))
    · rw [Mk.heap_setCell_same hr4]; rfl
    · exact sl.stay hhas (fun i e => Below.heap_setCell _ _ _ _ (fun e2 => hv (by rw [e, e2])))
    · rcases ha with e2 | e2
      · exact hC6.pv g (by rw [← e2]; exact e)
      · rw [e2] at e; cases e; exact hW6
  · exact (hB4.trans (hB6.mono hB4.size)).trans (hc67.below (B := W.heap.size) (fun i f => by
      rcases f with f | f
      · rw [f]; exact hC6.phb
      · exact hC6.pv i f) hW6)
end Go.Proofs.Ytnhookblhckmlaa
/- The merge's second loop: its state, and what a round does. -/
namespace Go.Proofs.Ytnhookblhckmlaa
set_option linter.unusedVariables false
set_option linter.unusedSimpArgs false
open Go.RowKit Mk

theorem flatten_set : ∀ {rem : List (List CellM)} {i : Nat} {c : CellM} {rest : List CellM}, rem[i]? = some (c :: rest) → (rem.set i rest).flatten.length + 1 = rem.flatten.length := by
  intro rem
  induction rem with
  | nil => intro i c rest h; simp at h
  | cons a rem ih =>
    intro i c rest h
    cases i with
    | zero => simp at h; subst h; simp
    | succ i =>
      have := ih (i := i) (by simpa using h)
      simp only [List.set_cons_succ, List.flatten_cons, List.length_append]
      omega
/-- Four cells of a head set: it has another cell. -/
theorem set4_HB {w : World} {g n cap : Nat} {x : HdM} {T : List HdM} (h : HB w (.slice (some ⟨g, 0, none⟩) n cap) (x :: T)) (c : CellM) :
    HB ((((w.setCell ⟨g, 0, none⟩ (.string c.key)).setCell ⟨g, 1, none⟩ (.int .u64 c.time)).setCell ⟨g, 2, none⟩ (.bool c.del)).setCell ⟨g, 3, none⟩ (.string c.val)) (.slice (some ⟨g, 0, none⟩) n cap) (⟨c, x.fr, x.nb⟩ :: T) := by
  rcases h.2 with ⟨e, e0⟩ | ⟨g', cap', cur, e, hg, hnc, hcm, hcs, ht⟩
  · cases e
  · cases e
    have h4 := Mk.heap_setCell_same (Mk.heap_setCell_same (Mk.heap_setCell_same (Mk.heap_setCell_same (i := 0) hg (.string c.key)) (i := 1) (.int .u64 c.time)) (i := 2) (.bool c.del)) (i := 3) (.string c.val)
    refine ⟨by rw [hdsL_len], Or.inr ⟨g, cap, _, rfl, h4, hnc, hcm, by simpa using hcs, ?_⟩⟩
    simp only [Array.toList_setIfInBounds, List.take_set]
    have ht' : List.take ((⟨c, x.fr, x.nb⟩ :: T : List HdM).length * 6) cur.toList = hdsL (x :: T) := ht
    rw [ht']
    simp [hdsL, hdL]
theorem set4_chg {F : Nat → Prop} {w w1 : World} {g : Nat} (h : Chg F w w1) (hF : F g) (c : CellM) : Chg F w ((((w1.setCell ⟨g, 0, none⟩ (.string c.key)).setCell ⟨g, 1, none⟩ (.int .u64 c.time)).setCell ⟨g, 2, none⟩ (.bool c.del)).setCell ⟨g, 3, none⟩ (.string c.val)) :=
  (((h.setCell (a := ⟨g, 0, none⟩) (Or.inl hF) _).setCell (a := ⟨g, 1, none⟩) (Or.inl hF) _).setCell (a := ⟨g, 2, none⟩) (Or.inl hF) _).setCell (a := ⟨g, 3, none⟩) (Or.inl hF) _
section
variable {W : World} {J : List CellM → (Nat → Prop) → World → Prop} {M : List CellM} {hb lc b11 : Nat}
/-- The state ahead of a round. -/
structure LoAt (W : World) (J : List CellM → (Nat → Prop) → World → Prop) (M : List CellM) (hb lc : Nat) (fi : Bool) (v : Value) (H : List HdM) (rem : List (List CellM)) (F : Nat → Prop) (pre : List CellM) (last : CellM) (wr : World) : Prop where
  mg : MgAt (fun g => W.heap.size ≤ g ∧ g < lc ∧ ¬ F g) hb v H rem wr
  heap : HeapFrom H 0 H.length
  ord : ∀ l ∈ rem, Ord l
  lcr : wr.heap[lc]? = some (.cells (cellL last).toArray 24)
  nlc : ¬ F lc
  wlc : W.heap.size ≤ lc
  fsz : ∀ g, F g → g < wr.heap.size
  say : J pre F wr
  eq : M = pre ++ (if fi then mergeM rem else less0 last (mergeM rem))
  few : H.length ≤ 1048576
/-- .. with n cells still to come. -/
def LoN (W : World) (J : List CellM → (Nat → Prop) → World → Prop) (M : List CellM) (hb lc : Nat) (n : Nat) (fi : Bool) (wr : World) : Prop :=
  ∃ v H rem F pre last, LoAt W J M hb lc fi v H rem F pre last wr ∧ n = rem.flatten.length
/-- The state behind what a round hands over. -/
structure LoMid (W : World) (J : List CellM → (Nat → Prop) → World → Prop) (M : List CellM) (hb lc b11 : Nat) (v : Value) (x : HdM) (T : List HdM) (rem : List (List CellM)) (rest : List CellM) (F : Nat → Prop) (pre : List CellM) (last : CellM) (wt : World) : Prop where
  mg : MgAt (fun g => W.heap.size ≤ g ∧ g < lc ∧ ¬ F g) hb v (x :: T) rem wt
  heap : HeapFrom (x :: T) 0 (T.length + 1)
  ord : ∀ l ∈ rem, Ord l
  lcr : wt.heap[lc]? = some (.cells (cellL last).toArray 24)
  nlc : ¬ F lc
  wlc : W.heap.size ≤ lc
  fsz : ∀ g, F g → g < wt.heap.size
  say : J pre F wt
  eq : M = pre ++ less0 last (mergeM (rem.set x.fr rest))
  few : T.length + 1 ≤ 1048576
  row : wt.heap[b11]? = some (.cells (hdL x).toArray 90)
  is : rem[x.fr]? = some (x.c :: rest)
  rx : RX wt (fun g => W.heap.size ≤ g ∧ g < lc ∧ ¬ F g) x.nb rest
theorem chg_of_Below {F : Nat → Prop} {w w' : World} (h : RowKit.Below w.heap.size w w') : Chg F w w' := ⟨h.os, h.tape, h.output, h.size, fun i hi _ => h.block i hi⟩
/-- Handed over. -/
theorem LoAt.told {fi : Bool} {v : Value} {x : HdM} {T : List HdM} {rem : List (List CellM)} {F F' : Nat → Prop} {pre : List CellM} {last : CellM} {wr w1 W' : World} (hJ : ∀ pre F W1 W2, J pre F W1 → Chg (fun g => W.heap.size ≤ g ∧ ¬ F g) W1 W2 → J pre F W2)
    (h : LoAt W J M hb lc fi v (x :: T) rem F pre last wr) {rest : List CellM} (hi : rem[x.fr]? = some (x.c :: rest)) (hrx : RX wr (fun g => W.heap.size ≤ g ∧ g < lc ∧ ¬ F g) x.nb rest)
    (hM : M = (pre ++ [x.c]) ++ less0 x.c (mergeM (rem.set x.fr rest)))
    (hB : RowKit.Below wr.heap.size wr w1) (hrow : w1.heap[b11]? = some (.cells (hdL x).toArray 90)) (hb11 : wr.heap.size ≤ b11)
    (hw : Wider F F' w1) (hc : Chg F w1 W') (hs : ∀ g, F' g → g < W'.heap.size) (hj : J (pre ++ [x.c]) F' W') :
    (W'.heap[lc]? = some (.cells (cellL last).toArray 24)) ∧ LoMid W J M hb lc b11 v x T rem rest F' (pre ++ [x.c]) x.c ((((W'.setCell ⟨lc, 0, none⟩ (.string x.c.key)).setCell ⟨lc, 1, none⟩ (.int .u64 x.c.time)).setCell ⟨lc, 2, none⟩ (.bool x.c.del)).setCell ⟨lc, 3, none⟩ (.string x.c.val)) := by
  have hlcl := (Array.getElem?_eq_some_iff.1 h.lcr).1
  have hlc1 : w1.heap[lc]? = some (.cells (cellL last).toArray 24) := (hB.block _ hlcl).trans h.lcr
  have hlc2 : W'.heap[lc]? = some (.cells (cellL last).toArray 24) := (hc.block _ (Nat.lt_of_lt_of_le hlcl hB.size) h.nlc).trans hlc1
  obtain ⟨hh, hc4⟩ := fin4 hlc2 (.string x.c.key) (.int .u64 x.c.time) (.bool x.c.del) (.string x.c.val)
  have hnF : ∀ i, ¬ F i → i < w1.heap.size → ¬ F' i := fun i h1 h2 f => by
    rcases hw i f with f | f
    · exact h1 f
    · omega
  have hnlc : ¬ F' lc := hnF lc h.nlc (Nat.lt_of_lt_of_le hlcl hB.size)
  have hP : ∀ i, (W.heap.size ≤ i ∧ i < lc ∧ ¬ F i) → i < wr.heap.size → (W.heap.size ≤ i ∧ i < lc ∧ ¬ F' i) := fun i p hi => ⟨p.1, p.2.1, hnF i p.2.2 (Nat.lt_of_lt_of_le hi hB.size)⟩
  have hsz : wr.heap.size ≤ W'.heap.size := Nat.le_trans hB.size hc.size
  have key : ∀ i, (W.heap.size ≤ i ∧ i < lc ∧ ¬ F i) → i < wr.heap.size → ((((W'.setCell ⟨lc, 0, none⟩ (.string x.c.key)).setCell ⟨lc, 1, none⟩ (.int .u64 x.c.time)).setCell ⟨lc, 2, none⟩ (.bool x.c.del)).setCell ⟨lc, 3, none⟩ (.string x.c.val)).heap[i]? = wr.heap[i]? := fun i p hi =>
    (hc4.block i (by omega) (fun e => by have := p.2.1; omega)).trans ((hc.block i (Nat.lt_of_lt_of_le hi hB.size) p.2.2).trans (hB.block i hi))
  have hb1l := (Array.getElem?_eq_some_iff.1 hrow).1
  have hnb : ¬ F b11 := fun f => by have := h.fsz _ f; omega
  refine ⟨hlc2, h.mg.stay hP (Nat.le_trans hsz hc4.size) key, h.heap, h.ord, hh, hnlc, h.wlc, fun g f => Nat.lt_of_lt_of_le (hs g f) hc4.size, ?_, hM, h.few, ?_, hi, hrx.stay hP (Nat.le_trans hsz hc4.size) (fun i p _ hi => key i p hi)⟩
  · exact hJ _ _ _ _ hj (hc4.mono (fun g e => by rw [e]; exact ⟨h.wlc, hnlc⟩))
  · exact (hc4.block b11 (Nat.lt_of_lt_of_le hb1l hc.size) (fun e => by omega)).trans ((hc.block b11 hb1l hnb).trans hrow)
/-- The cell is like the last one: passed by. -/
theorem LoAt.skip {v : Value} {x : HdM} {T : List HdM} {rem : List (List CellM)} {F : Nat → Prop} {pre : List CellM} {last : CellM} {wr w1 : World} (hJ : ∀ pre F W1 W2, J pre F W1 → Chg (fun g => W.heap.size ≤ g ∧ ¬ F g) W1 W2 → J pre F W2)
    (h : LoAt W J M hb lc false v (x :: T) rem F pre last wr) {rest : List CellM} (hi : rem[x.fr]? = some (x.c :: rest)) (hrx : RX wr (fun g => W.heap.size ≤ g ∧ g < lc ∧ ¬ F g) x.nb rest)
    (hm : mergeM rem = x.c :: less0 x.c (mergeM (rem.set x.fr rest))) (hz : cmpM last x.c = 0)
    (hB : RowKit.Below wr.heap.size wr w1) (hrow : w1.heap[b11]? = some (.cells (hdL x).toArray 90)) : LoMid W J M hb lc b11 v x T rem rest F pre last w1 := by
  have hlcl := (Array.getElem?_eq_some_iff.1 h.lcr).1
  refine ⟨h.mg.below hB, h.heap, h.ord, (hB.block _ hlcl).trans h.lcr, h.nlc, h.wlc, fun g f => Nat.lt_of_lt_of_le (h.fsz g f) hB.size, hJ _ _ _ _ h.say (chg_of_Below hB), ?_, h.few, hrow, hi, hrx.stay (fun _ p _ => p) hB.size (fun i _ _ hi => hB.block i hi)⟩
  have := h.eq
  rw [this, hm]
  simp only [Bool.false_eq_true, if_false]
  rw [less0_less0 hz]
/-- The list is at its end: its head is taken off. -/
theorem LoMid.popped {v v' : Value} {x : HdM} {T H' : List HdM} {rem : List (List CellM)} {F : Nat → Prop} {pre : List CellM} {last : CellM} {wt w5 w6 : World} (hJ : ∀ pre F W1 W2, J pre F W1 → Chg (fun g => W.heap.size ≤ g ∧ ¬ F g) W1 W2 → J pre F W2)
    (h : LoMid W J M hb lc b11 v x T rem [] F pre last wt) (hB : RowKit.Below wt.heap.size wt w5)
    (hx : HX w6 hb v' H') (hf : HeapFrom H' 0 H'.length) (hp : (x :: H').Perm (x :: T)) (hv : v'.ownBlock = v.ownBlock) (hc : Chg (fun g => g = hb ∨ v.ownBlock = some g) w5 w6) {n : Nat} (hn : n = rem.flatten.length) :
    ∃ m, m < n ∧ LoN W J M hb lc m false w6 := by
  have hlcl := (Array.getElem?_eq_some_iff.1 h.lcr).1
  have mg5 := h.mg.below hB
  have hown : ∀ g, (g = hb ∨ v.ownBlock = some g) → W.heap.size ≤ g ∧ g < lc ∧ ¬ F g := fun g f => by
    rcases f with rfl | f
    · exact mg5.phb
    · exact mg5.pv g f
  refine ⟨(rem.set x.fr []).flatten.length, by have := flatten_set h.is; omega, v', H', rem.set x.fr [], F, pre, last, ⟨mg5.pop hx hp hv hc, hf, fun l hl => ?_, ?_, h.nlc, h.wlc, fun g f => Nat.lt_of_lt_of_le (h.fsz g f) (Nat.le_trans hB.size hc.size), ?_, ?_, ?_⟩, rfl⟩
  · rcases List.mem_or_eq_of_mem_set hl with hl | rfl
    · exact h.ord l hl
    · exact List.Pairwise.nil
  · exact (hc.block lc (Nat.lt_of_lt_of_le hlcl hB.size) (fun f => by have := (hown lc f).2.1; omega)).trans ((hB.block _ hlcl).trans h.lcr)
  · exact hJ _ _ _ _ (hJ _ _ _ _ h.say (chg_of_Below hB)) (hc.mono (fun g f => ⟨(hown g f).1, (hown g f).2.2⟩))
  · exact h.eq
  · have := hp.length_eq
    have := h.few
    simp at this
    simp only [List.length_cons] at *
    omega
/-- The list's next cell is laid into the root. -/
theorem LoMid.laid {v : Value} {x : HdM} {T : List HdM} {rem : List (List CellM)} {c : CellM} {rest : List CellM} {F : Nat → Prop} {pre : List CellM} {last : CellM} {wt w3 w4 : World}
    (h : LoMid W J M hb lc b11 v x T rem (c :: rest) F pre last wt) (hr3 : RX w3 (fun g => W.heap.size ≤ g ∧ g < lc ∧ ¬ F g) x.nb rest) (hc : Chg (fun i => i = x.nb) wt w3)
    (hB : HB w4 v (⟨c, x.fr, x.nb⟩ :: T)) (hc4 : Chg (fun i => v.ownBlock = some i) w3 w4) :
    MgAt (fun g => W.heap.size ≤ g ∧ g < lc ∧ ¬ F g) hb v (⟨c, x.fr, x.nb⟩ :: T) (rem.set x.fr (c :: rest)) w4 ∧ HeapBut (⟨c, x.fr, x.nb⟩ :: T) 0 (T.length + 1) 0 := by
  refine ⟨h.mg.next hr3 hc hB hc4, ?_⟩
  have := h.heap.root ⟨c, x.fr, x.nb⟩
  simpa using this
theorem LoMid.fixed {v : Value} {x : HdM} {T H' : List HdM} {rem : List (List CellM)} {c : CellM} {rest : List CellM} {F : Nat → Prop} {pre : List CellM} {last : CellM} {wt w3 w4 w5 : World} (hJ : ∀ pre F W1 W2, J pre F W1 → Chg (fun g => W.heap.size ≤ g ∧ ¬ F g) W1 W2 → J pre F W2)
    (h : LoMid W J M hb lc b11 v x T rem (c :: rest) F pre last wt) (hc : Chg (fun i => i = x.nb) wt w3) (hc4 : Chg (fun i => v.ownBlock = some i) w3 w4)
    (hm : MgAt (fun g => W.heap.size ≤ g ∧ g < lc ∧ ¬ F g) hb v (⟨c, x.fr, x.nb⟩ :: T) (rem.set x.fr (c :: rest)) w4)
    (hx : HX w5 hb v H') (hf : HeapFrom H' 0 (T.length + 1)) (hp : H'.Perm (⟨c, x.fr, x.nb⟩ :: T)) (hc5 : Chg (fun g => v.ownBlock = some g) w4 w5) {n : Nat} (hn : n = rem.flatten.length) :
    ∃ m, m < n ∧ LoN W J M hb lc m false w5 := by
  have hlcl := (Array.getElem?_eq_some_iff.1 h.lcr).1
  have hnb := h.rx.mine
  have hpv := h.mg.pv
  have hl : H'.length = T.length + 1 := by have := hp.length_eq; simpa using this
  refine ⟨(rem.set x.fr (c :: rest)).flatten.length, by have := flatten_set h.is; omega, v, H', rem.set x.fr (c :: rest), F, pre, last, ⟨hm.perm hx hp hc5, by rw [hl]; exact hf, fun l hl => ?_, ?_, h.nlc, h.wlc, fun g f => Nat.lt_of_lt_of_le (h.fsz g f) (Nat.le_trans hc.size (Nat.le_trans hc4.size hc5.size)), ?_, h.eq, by rw [hl]; exact h.few⟩, rfl⟩
  · rcases List.mem_or_eq_of_mem_set hl with hl | rfl
    · exact h.ord l hl
    · exact (List.pairwise_cons.1 (h.ord _ (List.mem_of_getElem? h.is))).2
  · have e1 : lc ≠ x.nb := fun e => by have := hnb.2.1; omega
    have e2 : v.ownBlock ≠ some lc := fun e => by have := (hpv lc e).2.1; omega
    have s1 := hc.size
    have s2 := hc4.size
    exact (hc5.block lc (by omega) e2).trans ((hc4.block lc (by omega) e2).trans ((hc.block lc hlcl e1).trans h.lcr))
  · refine hJ _ _ _ _ (hJ _ _ _ _ (hJ _ _ _ _ h.say (hc.mono (fun g f => ?_))) (hc4.mono (fun g f => ⟨(hpv g f).1, (hpv g f).2.2⟩))) (hc5.mono (fun g f => ⟨(hpv g f).1, (hpv g f).2.2⟩))
    rw [f]
    exact ⟨hnb.1, hnb.2.2⟩
/-- The heads are as they were when the list has been asked for its next cell. -/
theorem LoMid.asked {v : Value} {x : HdM} {T : List HdM} {rem : List (List CellM)} {c : CellM} {rest : List CellM} {F : Nat → Prop} {pre : List CellM} {last : CellM} {wt w4 : World}
    (h : LoMid W J M hb lc b11 v x T rem (c :: rest) F pre last wt) (hc : Chg (fun i => i = x.nb) wt w4) : HX w4 hb v (x :: T) := by
  obtain ⟨cs, h28⟩ := h.rx.kind
  refine ⟨(hc.block hb h.mg.hx.lt (fun e => ?_)).trans h.mg.hx.blk, sl.stay h.mg.hx.has (fun g hg => hc.block g (sl.lt h.mg.hx.has hg) (fun e => ?_)), h.mg.hx.apart⟩
  · have := h.mg.hx.blk
    rw [e, h28] at this; cases this
  · obtain ⟨cs2, h90⟩ := h.mg.hx.kindv hg
    rw [e, h28] at h90; cases h90
end
end Go.Proofs.Ytnhookblhckmlaa
