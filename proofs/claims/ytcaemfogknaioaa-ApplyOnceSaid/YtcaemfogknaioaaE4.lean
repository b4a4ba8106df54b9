/- The walk of ApplyOnce. -/
import Derived.Test.YtcaemfogknaioaaE3
import Derived.Deep.RegionHeld3
import Derived.Deep.DrawnRows
import Derived.Test.YtcaemfogknaioaaRange
namespace Go.Proofs.Ytcaemfogknaioaa
open Go.RowKit Mk Go.Sort

theorem u64_nxt (i : Nat) : IntKind.u64.wrap ((i : Int) + 1) = (nxt i : Nat) := by unfold nxt; simp only [IntKind.wrap, IntKind.bits, IntKind.signed]; simp
theorem nxt_lt (i : Nat) : nxt i < 18446744073709551616 := Nat.mod_lt _ (by decide)

/-- The slice v has these numbers. -/
def intsAt (w : World) (v : Value) (len : Nat) (f : Nat → Int) : Prop :=
  (∃ ao cap, v = .slice ao len cap) ∧ len ≤ maxLen ∧ ∀ i, i < len → ∃ g o cap, v = .slice (some ⟨g, o, none⟩) len cap ∧ g < w.heap.size ∧ w.cell? ⟨g, o + i, none⟩ = some (.int .i64 (f i))
theorem Try.cells3 : Try.prog.cellsOf 3 = 1 := by kernel_rfl
theorem open_twice {H : Type} {enc : TypeId × Value → H} {w : World} {base : Nat} {spare : Nat → Bool} {held : Bool} {v : Value} {d : DataW H} {p : List MemPlace} (hv1 : v.cells.toList = [v])
    (h : DataW.Trod enc Try.prog w base spare held 35 v d p) : ∃ len f, intsAt w v len f := by
  obtain ⟨m0, hm0⟩ := h
  rw [hv1] at hm0
  rcases Go.Deep.open_slice Try.underlying35 hm0 with ⟨e, _⟩ | ⟨a, len, cap, m, n, D, Pl, e, _, hle, hcap, hm, _, hi⟩
  · cases e
    exact ⟨0, fun _ => 0, ⟨_, _, rfl⟩, Nat.zero_le _, fun i hi => by omega⟩
  · simp only [List.cons.injEq, and_true] at e
    subst e
    have hlm : len ≤ m := by rw [hm]; split <;> omega
    have hi : ∀ i, i < m → ∃ cs', w.cells? base (a.add (i * 1)) 1 = some cs' ∧ DataW.trod enc Try.prog w base spare held n 3 cs' = some (D i, Pl i) := fun i h => by
      have := hi i h
      rw [Try.cells3] at this
      exact this
    have key : ∀ i, i < len → ∃ x : Int, ∃ g o, a = ⟨g, o, none⟩ ∧ g < w.heap.size ∧ w.cell? ⟨g, o + i, none⟩ = some (.int .i64 x) := by
      intro i hil
      obtain ⟨cs, hc, ht⟩ := hi i (by omega)
      obtain ⟨_, hcl, hcell⟩ := World.cells?_some hc
      obtain ⟨c0, rfl⟩ : ∃ c, cs = [c] := by
        match cs, hcl with
        | [c], _ => exact ⟨c, rfl⟩
      obtain ⟨n0, h0, _, w0⟩ := DataW.trod_int Try.underlying3 ht
      simp at h0
      subst h0
      have hsp : a.spot = none := by
        obtain ⟨cs0, hc0, _⟩ := hi 0 (by omega)
        obtain ⟨_, hcl0, hcell0⟩ := World.cells?_some hc0
        have h6 := hcell0 0 (by omega)
        rw [List.getElem?_eq_getElem (by omega)] at h6
        exact spot_none (a := a) h6
      obtain ⟨g, o, sp⟩ := a
      simp only at hsp
      subst hsp
      have h7 := hcell 0 (by omega)
      rw [List.getElem?_cons_zero] at h7
      have h8 := World.block_lt_of_cell? w _ h7
      have e8 : (((⟨g, o, none⟩ : Addr).add (i * 1)).add 0) = ⟨g, o + i, none⟩ := by rw [Addr.add_mid, Addr.add_mid]; simp
      rw [e8] at h7 h8
      exact ⟨n0, g, o, rfl, h8, h7⟩
    refine ⟨len, fun i => if h : i < len then Classical.choose (key i h) else 0, ⟨_, _, rfl⟩, by omega, fun i hil => ?_⟩
    obtain ⟨g, o, ha, hg, hr⟩ := Classical.choose_spec (key i hil)
    simp only [dif_pos hil]
    exact ⟨g, o, cap, by rw [ha], hg, hr⟩
theorem LoopIs.tight {w : World} {b S : Nat} {F : Nat → Prop} {m : LoopM} (h : LoopIs w b F S m) : LoopIs w b (fun g => F g ∧ g < w.heap.size) S m := by
  obtain ⟨r, h⟩ := h
  exact ⟨r, h.loop, h.map, h.idx, h.size, ⟨h.fb, (Array.getElem?_eq_some_iff.1 h.loop).1⟩, ⟨h.fr, h.map.lt⟩⟩

/-- What is good of clients and of what was told, behind so many rounds. -/
structure Good (k : Nat) (L : List (Nat × Last)) (T : List ((Nat × Nat) × ByteArray)) : Prop where
  nums : ∀ c n a, lk L c = some (n, a) → 0 < n ∧ n ≤ k
  keys : ∀ p ∈ L, 0 < p.1 ∧ p.1 < 6
  tells : ∀ c n a, lk L c = some (n, a) → lk T (c, n) = some a
def numsOf (L : List (Nat × Last)) : List (Nat × Nat) := L.map fun p => (p.1, p.2.1)
theorem lk_nums (L : List (Nat × Last)) (c : Nat) : lk (numsOf L) c = (lk L c).map (·.1) := lk_map (fun x : Last => x.1) L c
theorem upd_nums (L : List (Nat × Last)) (c n : Nat) (a : ByteArray) : upd (numsOf L) c n = numsOf (upd L c (n, a)) := upd_map (fun x : Last => x.1) L c (n, a)

theorem Good.step {k : Nat} {L : List (Nat × Last)} {T : List ((Nat × Nat) × ByteArray)} (h : Good k L T) {c n : Nat} (hc : 0 < c ∧ c < 6) (hn : n = (lk (numsOf L) c).getD 0 + 1) (hk : n ≤ k + 1) (a : ByteArray) :
    Good (k + 1) (upd L c (n, a)) (upd T (c, n) a) := by
  refine ⟨fun c' n' a' h' => ?_, fun p hp => ?_, fun c' n' a' h' => ?_⟩
  · rw [lk_upd] at h'
    split at h'
    · simp only [Option.some.injEq, Prod.mk.injEq] at h'
      omega
    · have := h.nums _ _ _ h'
      omega
  · rcases mem_upd hp with rfl | ⟨hp, _⟩ | hp
    · exact hc
    · exact h.keys p hp
    · exact h.keys p hp
  · rw [lk_upd] at h' ⊢
    split at h'
    · rename_i e
      simp only [Option.some.injEq, Prod.mk.injEq] at h'
      obtain ⟨rfl, rfl⟩ := h'
      rw [if_pos (by rw [e])]
    · rename_i e
      rw [if_neg (by simp [e])]
      exact h.tells _ _ _ h'
theorem Good.next {k : Nat} {L : List (Nat × Last)} {T : List ((Nat × Nat) × ByteArray)} (h : Good k L T) {c q : Nat} {a : ByteArray} (hq : lk L c = some (q, a)) : q < (lk (numsOf L) c).getD 0 + 1 ∧ (lk (numsOf L) c).getD 0 ≤ k := by
  rw [lk_nums, hq]
  have := h.nums _ _ _ hq
  simp
  omega
theorem Good.le {k : Nat} {L : List (Nat × Last)} {T : List ((Nat × Nat) × ByteArray)} (h : Good k L T) (c : Nat) : (lk (numsOf L) c).getD 0 ≤ k := by
  rw [lk_nums]
  cases hq : lk L c with
  | none => simp
  | some x => have := h.nums c x.1 x.2 hq; simp; omega

structure OnceAt (Fa Fb : Nat → Prop) (w : World) (ba bb r1 r2 k : Nat) (L : List (Nat × Last)) (st : ByteArray) (ia ib : Nat) (T : List ((Nat × Nat) × ByteArray)) (wr : World) : Prop where
  mid : Mid Fa Fb w ba bb r1 r2 (3000 * k) ⟨st, ia, L⟩ ⟨st, ib, L⟩ (numsOf L) T wr
  good : Good k L T

theorem i64_and3 (n : Int) : bits .and .i64 n 3 = n % 4 := by
  have h127 : (BitVec.ofInt 64 3).toNat = 2 ^ 2 - 1 := by decide
  have key : (BitVec.ofInt 64 n &&& BitVec.ofInt 64 3).toNat = (n % ((2 ^ 64 : Nat) : Int)).toNat % 2 ^ 2 := by
    rw [BitVec.toNat_and, BitVec.toNat_ofInt, h127, Nat.and_two_pow_sub_one_eq_mod]
  show IntKind.i64.wrap ((BitVec.ofInt 64 n &&& BitVec.ofInt 64 3).toNat : Nat) = n % 4
  rw [key, IntKind.wrap_i64]
  omega

/-- The numbers are gone over. -/
structure EndAt (Fa Fb : Nat → Prop) (w : World) (ba bb r1 k : Nat) (L : List (Nat × Last)) (st : ByteArray) (ia ib : Nat) (T : List ((Nat × Nat) × ByteArray)) (R : Nat) (left : List (Nat × Value)) (wr : World) : Prop where
  mid : Mid Fa Fb w ba bb r1 (r1 + 1) (3000 * k) ⟨st, ia, L⟩ ⟨st, ib, L⟩ (numsOf L) T wr
  over : rangeAt okU kvU wr R r1 (nkv (numsOf L)) left
theorem last_mem {L : List (Nat × Last)} {p : Nat × Value} (h : p ∈ nkv (numsOf L)) : ∃ c n a, (c, (n, a)) ∈ L ∧ p = (c, .int .u64 (n : Nat)) := by
  unfold nkv numsOf at h
  rw [List.map_map] at h
  obtain ⟨q, hq, rfl⟩ := List.mem_map.1 h
  obtain ⟨c, n, a⟩ := q
  exact ⟨c, n, a, hq, rfl⟩
theorem lk_of_apart {L : List (Nat × Last)} (h : (nkv (numsOf L)).Pairwise (fun p q => p.1 ≠ q.1)) {c : Nat} {x : Last} (hm : (c, x) ∈ L) : lk L c = some x := by
  unfold nkv numsOf at h
  rw [List.map_map] at h
  have h2 : L.Pairwise (fun p q => p.1 ≠ q.1) := (List.pairwise_map (f := ((fun p : Nat × Nat => (p.1, Value.int .u64 (p.2 : Nat))) ∘ fun p : Nat × Last => (p.1, p.2.1)))).1 h
  obtain ⟨j, hj, e⟩ := List.getElem_of_mem hm
  exact (lk_some (j := j) h2 (by rw [List.getElem?_eq_getElem hj, e])).1
/-- A change of the loop's own place. -/
theorem Mid.other {Fa Fb : Nat → Prop} {w W W' : World} {ba bb r1 S : Nat} {A B : LoopM} {N : List (Nat × Nat)} {T : List ((Nat × Nat) × ByteArray)} (h : Mid Fa Fb w ba bb r1 (r1 + 1) S A B N T W) {R : Nat} (c : Chg (fun i => i = R) W W')
    (hR : ¬ (Fa R ∨ Fb R) ∧ R ≠ r1 ∧ R ≠ r1 + 1 ∧ w.heap.size ≤ R) : Mid Fa Fb w ba bb r1 (r1 + 1) S A B N T W' :=
  ⟨h.a.stay c (fun g hg e => hR.1 (Or.inl (e ▸ hg))), h.b.stay c (fun g hg e => hR.1 (Or.inr (e ▸ hg))), h.last.stay (c.block _ h.last.lt (fun e => hR.2.1 e.symm)), h.told.stay (c.block _ h.told.lt (fun e => hR.2.2.1 e.symm)), h.chg.trans' c (fun g e => Or.inr (e ▸ hR.2.2.2))⟩

/-- Behind j rounds of the inner loop. -/
structure InAt (Fa Fb : Nat → Prop) (w : World) (ba bb r1 k j ib : Nat) (A B : LoopM) (T : List ((Nat × Nat) × ByteArray)) (X E : Nat) (s : ByteArray) (xs : List Value) (wr : World) : Prop where
  mid : Mid Fa Fb w ba bb r1 (r1 + 1) (3000 * k + 400 + 400 * j) A B (numsOf A.clients) T wr
  e : wr.heap[E]? = some (.cells #[.int .u64 1, .int .u8 0, .string s, .slice none 0 0] 45)
  x : wr.heap[X]? = some (.cells xs.toArray 43)

set_option maxRecDepth 100000 in
set_option maxHeartbeats 8000000 in
theorem walkApplyOnce (v0 v1 : Value) (w : World) (hacts : ∃ len f, actsAt w v0 len f) (htw : ∃ len f, intsAt w v1 len f) :
    Calls Try.prog 4 #[v0, v1] w fun e w' => e = .returned (.bool true) ∧ Below w.heap.size w w' := by
  obtain ⟨len, f, hV⟩ := hacts
  obtain ⟨tl, tf, hT⟩ := htw
  obtain ⟨ao, cap, rfl⟩ := hV.1
  obtain ⟨to, tc, rfl⟩ := hT.1
  have HV := Lib.hid hV
  have HT := Lib.hid hT
  have hlm : len ≤ 9223372036854775807 := hV.2.1
  have htlm : tl ≤ 9223372036854775807 := hT.2.1
  have NW := Lib.hid (fun w => new_any ⟨#[]⟩ (by decide) w)
  have hmm : ∀ v : World, (Instr.makeMap 39 none).run Try.prog v = .ok (.map (some v.heap.size)) (v.alloc (.map #[] 0)) := fun v => run_makeMap 39 v
  have hmm2 : ∀ v : World, (Instr.makeMap 40 none).run Try.prog v = .ok (.map (some v.heap.size)) (v.alloc (.map #[] 0)) := fun v => run_makeMap 40 v
  clear hV hT
  go_enter Try.func4, Try.ntmps4
  go_wp2_with fail
  refine (NW.out w).mono ?_
  rintro e w1 ⟨ba, rfl, ha, ca⟩
  have HA := Lib.hid ha
  have CA := Lib.hid ca
  clear ha ca
  go_wp2_with fail
  refine (NW.out w1).mono ?_
  rintro e w2 ⟨bb, rfl, hb, cb⟩
  have HM : Hid (Mid (fun g => w.heap.size ≤ g ∧ g < w1.heap.size) (fun g => w1.heap.size ≤ g ∧ g < w2.heap.size) w ba bb w2.heap.size (w2.heap.size + 1) 0 ⟨⟨#[]⟩, 0, []⟩ ⟨⟨#[]⟩, 0, []⟩ [] [] ((w2.alloc (.map #[] 0)).alloc (.map #[] 0))) := by
    have z1 : (w2.alloc (.map #[] 0)).heap.size = w2.heap.size + 1 := by simp
    have c3 : Chg (fun _ => False) w2 ((w2.alloc (.map #[] 0)).alloc (.map #[] 0)) := ((Chg.refl _ _).alloc _).alloc _
    refine Lib.hid ⟨((HA.out.tight.stay cb (fun _ _ f => f)).stay c3 (fun _ _ f => f)), (hb.tight.stay c3 (fun _ _ f => f)), ?_, ?_, (CA.out.trans cb).trans c3⟩
    · exact (mapAt_made w2).stay (RowKit.Below.heap_alloc _ _ _ (by omega))
    · have := mapAt_made (ok := okA) (kv := kvA) (w2.alloc (.map #[] 0))
      rwa [z1] at this
  have HS : Hid (Sep (fun g => w.heap.size ≤ g ∧ g < w1.heap.size) (fun g => w1.heap.size ≤ g ∧ g < w2.heap.size) w w2.heap.size (w2.heap.size + 1)) := by
    have l1 := CA.out.size
    have l2 := cb.size
    exact Lib.hid ⟨fun g h1 h2 => by omega, fun h => by omega, fun h => by omega, fun h => by omega, fun h => by omega, by omega, fun g h => h.1, fun g h => by omega, by omega, by omega⟩
  have HFl : Hid ((∀ g, (fun g => w.heap.size ≤ g ∧ g < w1.heap.size) g → g < w2.heap.size) ∧ ∀ g, (fun g => w1.heap.size ≤ g ∧ g < w2.heap.size) g → g < w2.heap.size) := by
    have l2 := cb.size
    exact Lib.hid ⟨fun g h => by have := h.2; omega, fun g h => h.2⟩
  generalize hFa : (fun g => w.heap.size ≤ g ∧ g < w1.heap.size) = Fa at *
  generalize hFb : (fun g => w1.heap.size ≤ g ∧ g < w2.heap.size) = Fb at *
  clear hFa hFb hb cb HA CA NW
  go_wp2
  generalize w2.heap.size = r1 at *
  generalize (w2.alloc (.map #[] 0)).alloc (.map #[] 0) = W3 at *
  go_loopw [9] (fun i wr => ∃ (k : Nat) (L : List (Nat × Last)) (st : ByteArray) (ia ib : Nat) (T : List ((Nat × Nat) × ByteArray)), k ≤ 60 ∧ k ≤ len ∧ i = .int .i64 k ∧ Hid (OnceAt Fa Fb w ba bb r1 (r1 + 1) k L st ia ib T wr)) (fun i _ => 60 - (intOf i).toNat)
  case atStart =>
    refine ⟨0, [], ⟨#[]⟩, 0, 0, [], by omega, by omega, rfl, Lib.hid ⟨HM.out, ⟨fun c n a h => by simp [lk] at h, by simp, fun c n a h => by simp [lk] at h⟩⟩⟩
  case round =>
    obtain ⟨k, L, st, ia, ib, T, k6, kl, rfl, HO⟩ := hrel
    clear HM
    by_cases hlt : k < len
    · have hd : decide ((k : Int) < len) = true := by simp; omega
      by_cases h60 : k < 60
      · have hd2 : decide ((k : Int) < 60) = true := by simp; omega
        obtain ⟨g, o, rfl, hgs, c0, c1, c2, c3, c4, c5⟩ := HV.out.load hlt (fun g hg => HO.out.mid.chg.block g hg (fun h => h))
        have hok := (HV.out.2.2 k hlt).1
        generalize (f k).c = xc at *
        generalize (f k).n = xn at *
        generalize (f k).d = xd at *
        generalize (f k).raw = xr at *
        generalize (f k).k = xk at *
        generalize (f k).at_ = xa at *
        have hxd := hok.d
        have hb0 : (0 : Int) ≤ k := by omega
        have hb1 : (k : Int) < len := by omega
        clear hok
        by_cases hbig : 300 < xd.size
        · have hd3 : decide ((300 : Int) < xd.size) = true := by simp; omega
          have HN := Lib.hid (HO.out.mid.same (W' := wr.alloc (.cells #[.int .u64 xc, .int .u64 xn, .string xd, .bool xr, .int .u8 xk, .int .u64 xa] 43)) ((Chg.refl _ _).alloc _))
          go_wp2
          go_roundw
          case rel => exact ⟨k + 1, L, st, ia, ib, T, by omega, by omega, by go_num, Lib.hid ⟨HN.out.larger (by omega) (by omega), ⟨fun c n a h => by have := HO.out.good.nums c n a h; omega, HO.out.good.keys, HO.out.good.tells⟩⟩⟩
          case measure => first | (simp [intOf]; done) | (simp [intOf]; omega)
        · have hd3 : decide ((300 : Int) < xd.size) = false := by simp; omega
          have hxd3 : xd.size ≤ 300 := by omega
          obtain ⟨cc, hcc⟩ : ∃ cc, xc % 5 = cc := ⟨_, rfl⟩
          have hcc5 : cc < 5 := by omega
          have hr1 : (xc : Int) % 5 = cc := by omega
          have hr2 : (xc : Int).tmod 5 = cc := by rw [Int.tmod_eq_emod_of_nonneg (by omega)]; omega
          obtain ⟨c, hc⟩ : ∃ c, 1 + cc = c := ⟨_, rfl⟩
          have hc1 : (1 : Int) + (cc : Int) = c := by omega
          have hcr : 0 < c ∧ c < 6 := by omega
          have hcU : okU c := by unfold okU; omega
          obtain ⟨n0, hn0⟩ : ∃ n0, (lk (numsOf L) c).getD 0 = n0 := ⟨_, rfl⟩
          have hn0k : n0 ≤ k := by rw [← hn0]; exact HO.out.good.le c
          obtain ⟨n, hn⟩ : ∃ n, n0 + 1 = n := ⟨_, rfl⟩
          have hn1 : (n0 : Int) + 1 = n := by omega
          have hwn : IntKind.u64.wrap (n : Int) = n := by simp only [IntKind.wrap, IntKind.bits, IntKind.signed]; simp; omega
          obtain ⟨s, hcv, hss, hrc⟩ := cmd_of c n xd hcr (by omega) hxd3
          have M1 := HO.out.mid.same (W' := wr.alloc (.cells #[.int .u64 xc, .int .u64 xn, .string xd, .bool xr, .int .u8 xk, .int .u64 xa] 43)) ((Chg.refl _ _).alloc _)
          have hX1 : (wr.alloc (.cells #[.int .u64 xc, .int .u64 xn, .string xd, .bool xr, .int .u8 xk, .int .u64 xa] 43)).heap[wr.heap.size]? = some (.cells #[.int .u64 xc, .int .u64 xn, .string xd, .bool xr, .int .u8 xk, .int .u64 xa] 43) := Go.heap_alloc_new _ _
          have hXr : wr.heap.size ≠ r1 ∧ wr.heap.size ≠ r1 + 1 := by
            have h1 := HO.out.mid.last.lt
            have h2 := HO.out.mid.told.lt
            omega
          obtain ⟨W1, HW1⟩ : ∃ W, Hid (wr.alloc (.cells #[.int .u64 xc, .int .u64 xn, .string xd, .bool xr, .int .u8 xk, .int .u64 xa] 43) = W) := ⟨_, Lib.hid rfl⟩
          have d0 : (wr.alloc (.cells #[.int .u64 xc, .int .u64 xn, .string xd, .bool xr, .int .u8 xk, .int .u64 xa] 43)).cell? ⟨wr.heap.size, 0, none⟩ = some (.int .u64 xc) := cell_of hX1 (by simp)
          rw [HW1.out] at M1 hX1
          have hl1 := M1.look hcU
          rw [hn0] at hl1
          obtain ⟨o1, hu1, M2, cg2⟩ := M1.count HS.out hcU n
          rw [← HW1.out] at hl1 hu1
          have hX2 : (ChangeMaps.setBlock W1 r1 o1).heap[wr.heap.size]? = some (.cells #[.int .u64 xc, .int .u64 xn, .string xd, .bool xr, .int .u8 xk, .int .u64 xa] 43) := (heap_setBlock_ne hXr.1).trans hX1
          obtain ⟨W2, HW2⟩ : ∃ W, Hid (ChangeMaps.setBlock W1 r1 o1 = W) := ⟨_, Lib.hid rfl⟩
          rw [HW2.out] at M2 hX2
          have hl2 := M2.look hcU
          rw [lk_upd_same] at hl2
          simp only [Option.getD_some] at hl2
          have d2 : W2.cell? ⟨wr.heap.size, 2, none⟩ = some (.string xd) := cell_of hX2 (by simp)
          rw [← HW2.out, ← HW1.out] at hl2 d2
          rw [upd_nums L c n (stepM st xd).2] at M2
          have EC := Lib.hid (entry_any c n 0 0 xd s 0 (by omega) (by omega) (by omega) hcv W2)
          have HM2 := Lib.hid M2
          have HX2 := Lib.hid hX2
          have HCV := Lib.hid hrc
          have HN := Lib.hid (show n0 ≤ k ∧ n0 + 1 = n ∧ (lk (numsOf L) c).getD 0 = n0 from ⟨hn0k, hn, hn0⟩)
          clear M1 M2 hX1 hX2 cg2 hcv hrc hn0 hn hcc hn0k
          go_wp2_with fail
          rw [HW1.out, HW2.out]
          refine EC.out.mono ?_
          rintro e w3 ⟨rfl, b3⟩
          unfold entryV
          obtain ⟨W4, HW4⟩ : ∃ W, Hid (w3.alloc (.cells #[.int .u64 1, .int .u8 0, .string s, .slice none 0 0] 45) = W) := ⟨_, Lib.hid rfl⟩
          have c34 : Chg (fun _ => False) w3 W4 := by rw [← HW4.out]; exact (Chg.refl _ _).alloc _
          have hE : W4.heap[w3.heap.size]? = some (.cells #[.int .u64 1, .int .u8 0, .string s, .slice none 0 0] 45) := by rw [← HW4.out]; exact Go.heap_alloc_new _ _
          have hX4 : W4.heap[wr.heap.size]? = some (.cells #[.int .u64 xc, .int .u64 xn, .string xd, .bool xr, .int .u8 xk, .int .u64 xa] 43) := by
            have hx := HX2.out
            have hlt := (Array.getElem?_eq_some_iff.1 hx).1
            rw [c34.block _ (by have := b3.size; omega) (fun f => f), b3.block _ hlt, hx]
          have M4 := ((HM2.out.same (chg_of_below b3)).same c34).same (W' := W4.drew) ⟨rfl, rfl, rfl, Nat.le_refl _, fun _ _ _ => rfl⟩
          have hEa : ¬ Fa w3.heap.size ∧ ¬ Fb w3.heap.size ∧ w3.heap.size ≠ r1 ∧ w3.heap.size ≠ r1 + 1 := by
            have h1 := HM2.out.last.lt
            have h2 := HM2.out.told.lt
            have h3 := b3.size
            refine ⟨fun h => ?_, fun h => ?_, by omega, by omega⟩
            · have := HFl.out.1 _ h; omega
            · have := HFl.out.2 _ h; omega
          have hXa : ¬ Fa wr.heap.size ∧ ¬ Fb wr.heap.size := by
            have h1 := HO.out.mid.last.lt
            refine ⟨fun h => ?_, fun h => ?_⟩
            · have := HFl.out.1 _ h; omega
            · have := HFl.out.2 _ h; omega
          obtain ⟨E, hEE⟩ : ∃ E, w3.heap.size = E := ⟨_, rfl⟩
          obtain ⟨X, hXX⟩ : ∃ X, wr.heap.size = X := ⟨_, rfl⟩
          rw [hEE] at hE hEa
          rw [hXX] at hX4 hXa hXr
          obtain ⟨st', an, hst⟩ : ∃ st' an, stepM st xd = (st', an) := ⟨_, _, rfl⟩
          have hnew : applyM ⟨st, ia, L⟩ (nxt ia) 0 s = (⟨st', nxt ia, upd L c (n, an)⟩, an, 0) := by
            have h1 := apply_new (m := ⟨st, ia, L⟩) HCV.out (fun q a hq => by have := (HO.out.good.next hq).1; have := HN.out; omega)
            have e1 : st ++ xd = st' := congrArg Prod.fst hst
            have e2 : (stepM st xd).2 = an := congrArg Prod.snd hst
            rw [h1, e1, e2]
          rw [show (stepM st xd).2 = an from congrArg Prod.snd hst] at M4
          have IX := Lib.hid (index_any M4.a)
          have AP := apply_any M4.a (nxt ia) 1 0 s none 0 0 (nxt_lt _) (by omega) (by omega)
          rw [hnew] at AP
          have HAP := Lib.hid AP
          have hnx := u64_nxt ia
          have HM4 := Lib.hid M4
          have HE := Lib.hid hE
          have HX4 := Lib.hid hX4
          have HEa := Lib.hid hEa
          have HXa := Lib.hid hXa
          have HHst := Lib.hid hst
          have q0 : W4.cell? ⟨E, 0, none⟩ = some (.int .u64 1) := cell_of hE (by simp)
          have q1 : W4.cell? ⟨E, 1, none⟩ = some (.int .u8 0) := cell_of hE (by simp)
          have q2 : W4.cell? ⟨E, 2, none⟩ = some (.string s) := cell_of hE (by simp)
          have q3 : W4.cell? ⟨E, 3, none⟩ = some (.slice none 0 0) := cell_of hE (by simp)
          clear AP M4 hE hX4 hEa hXa hnew hst c34 b3 EC HM2 HX2
          go_wp2_with fail
          rw [HW4.out]
          simp only [hEE, hXX] at *
          go_region_held3 (fun v => v.cell? ⟨E, 0, none⟩ = some (.int .u64 1) ∧ v.cell? ⟨E, 1, none⟩ = some (.int .u8 0) ∧ v.cell? ⟨E, 2, none⟩ = some (.string s) ∧ v.cell? ⟨E, 3, none⟩ = some (.slice none 0 0))
            (first | go_keep | (refine ⟨?_, ?_, ?_, ?_⟩ <;> assumption))
            (first | (go_at_call 17; refine IX.out.mono ?_; rintro e w' ⟨rfl, rfl⟩) | (go_at_call 16; refine HAP.out.mono ?_; rintro e w5 ⟨rfl, hto⟩; have hE5 := (hto.chg.block E (Array.getElem?_eq_some_iff.1 HE.out).1 HEa.out.1).trans HE.out; have p0 := cell_of (i := 0) (v := .int .u64 1) hE5 rfl; have p1 := cell_of (i := 1) (v := .int .u8 0) hE5 rfl; have p2 := cell_of (i := 2) (v := .string s) hE5 rfl; have p3 := cell_of (i := 3) (v := .slice none 0 0) hE5 rfl))
          have M5 := (HM4.out.toA HS.out hto (by omega) (by omega)).larger (S' := 3000 * k + 400) (by omega) (by omega)
          have hX5 := (hto.chg.block X (Array.getElem?_eq_some_iff.1 HX4.out).1 HXa.out.1).trans HX4.out
          have HI : Hid (InAt Fa Fb w ba bb r1 k 0 ib ⟨st', nxt ia, upd L c (n, an)⟩ ⟨st, ib, L⟩ T X E s [.int .u64 xc, .int .u64 xn, .string xd, .bool xr, .int .u8 xk, .int .u64 xa] w5) := Lib.hid ⟨M5, hE5, hX5⟩
          have HM5 := Lib.hid M5
          clear M5 hX5 hE5 hto HAP IX q0 q1 q2 q3 p0 p1 p2 p3 HM4
          by_cases hkt : k < tl
          · have hd4 : decide ((k : Int) < tl) = true := by simp; omega
            obtain ⟨gt, ot, ct, e, hg, htc⟩ := HT.out.2.2 k hkt
            simp only [Value.slice.injEq] at e
            obtain ⟨rfl, -, -⟩ := e
            have t5 : w5.cell? ⟨gt, ot + k, none⟩ = some (.int .i64 (tf k)) := (World.cell?_of_block (HM5.out.chg.block gt hg (fun f => f))).trans htc
            have hand := i64_and3 (tf k)
            obtain ⟨t4, ht4⟩ : ∃ t4 : Nat, tf k % 4 = t4 := ⟨(tf k % 4).toNat, by omega⟩
            have ht44 : t4 < 4 := by omega
            rw [ht4] at hand
            obtain ⟨nn, hnn⟩ : ∃ nn : Nat, 1 + t4 = nn := ⟨_, rfl⟩
            have hn4 : (1 : Int) + (t4 : Int) = nn := by omega
            have hn5 : 1 ≤ nn ∧ nn ≤ 4 := by omega
            have hb2 : (k : Int) < tl := by omega
            generalize tf k = tw at *
            clear htc ht4 hnn
            go_wp2
            go_loopw [16] (fun x wq => ∃ (j ib' : Nat), j ≤ nn ∧ x = .int .i64 j ∧ Hid (InAt Fa Fb w ba bb r1 k j ib' ⟨st', nxt ia, upd L c (n, an)⟩ (if j = 0 then ⟨st, ib', L⟩ else ⟨st', ib', upd L c (n, an)⟩) T X E s [.int .u64 xc, .int .u64 xn, .string xd, .bool xr, .int .u8 xk, .int .u64 xa] wq)) (fun x _ => nn - (intOf x).toNat)
            case atStart => exact ⟨0, ib, by omega, rfl, by rw [if_pos rfl]; exact HI⟩
            case round =>
              obtain ⟨j, ib', hj, rfl, HJ⟩ := hrel
              clear HI HM5
              by_cases hjn : j < nn
              · have hdj : decide ((j : Int) < nn) = true := by simp; omega
                obtain ⟨B, hB⟩ : ∃ B : LoopM, (if j = 0 then ⟨st, ib', L⟩ else ⟨st', ib', upd L c (n, an)⟩) = B := ⟨_, rfl⟩
                rw [hB] at HJ
                have hBi : B.index = ib' := by rw [← hB]; split <;> rfl
                have hBa : applyM B (nxt ib') 0 s = (⟨st', nxt ib', upd L c (n, an)⟩, an, 0) := by
                  have e1 : st ++ xd = st' := congrArg Prod.fst HHst.out
                  have e2 : (stepM st xd).2 = an := congrArg Prod.snd HHst.out
                  by_cases hj0 : j = 0
                  · rw [if_pos hj0] at hB
                    subst hB
                    have h1 := apply_new (m := ⟨st, ib', L⟩) HCV.out (fun q a hq => by have := (HO.out.good.next hq).1; have := HN.out; omega)
                    rw [h1, e1, e2]
                  · rw [if_neg hj0] at hB
                    subst hB
                    exact apply_again (m := ⟨st', ib', upd L c (n, an)⟩) HCV.out (lk_upd_same _ _ _)
                have MJ := HJ.out.mid.same (W' := wr.drew) ⟨rfl, rfl, rfl, Nat.le_refl _, fun _ _ _ => rfl⟩
                have IX2 := index_any MJ.b
                rw [hBi] at IX2
                have AP2 := apply_any MJ.b (nxt ib') 1 0 s none 0 0 (nxt_lt _) (by omega) (by omega)
                rw [hBa] at AP2
                have HIX2 := Lib.hid IX2
                have HAP2 := Lib.hid AP2
                have HMJ := Lib.hid MJ
                have hnx2 := u64_nxt ib'
                have hEj := HJ.out.e
                have q0 : wr.cell? ⟨E, 0, none⟩ = some (.int .u64 1) := cell_of hEj (by simp)
                have q1 : wr.cell? ⟨E, 1, none⟩ = some (.int .u8 0) := cell_of hEj (by simp)
                have q2 : wr.cell? ⟨E, 2, none⟩ = some (.string s) := cell_of hEj (by simp)
                have q3 : wr.cell? ⟨E, 3, none⟩ = some (.slice none 0 0) := cell_of hEj (by simp)
                have HEj := Lib.hid hEj
                clear hEj IX2 AP2 MJ hB hBa hBi
                go_wp2_with fail
                go_region_held3 (fun v => v.cell? ⟨E, 0, none⟩ = some (.int .u64 1) ∧ v.cell? ⟨E, 1, none⟩ = some (.int .u8 0) ∧ v.cell? ⟨E, 2, none⟩ = some (.string s) ∧ v.cell? ⟨E, 3, none⟩ = some (.slice none 0 0))
                  (first | go_keep | (refine ⟨?_, ?_, ?_, ?_⟩ <;> assumption))
                  (first | (go_at_call 17; refine HIX2.out.mono ?_; rintro e w' ⟨rfl, rfl⟩) | (go_at_call 16; refine HAP2.out.mono ?_; rintro e w6 ⟨rfl, hto6⟩; have hE6 := (hto6.chg.block E (Array.getElem?_eq_some_iff.1 HEj.out).1 HEa.out.2.1).trans HEj.out; have p0 := cell_of (i := 0) (v := .int .u64 1) hE6 rfl; have p1 := cell_of (i := 1) (v := .int .u8 0) hE6 rfl; have p2 := cell_of (i := 2) (v := .string s) hE6 rfl; have p3 := cell_of (i := 3) (v := .slice none 0 0) hE6 rfl))
                have HM6 : Hid (Mid Fa Fb w ba bb r1 (r1 + 1) (3000 * k + 400 + 400 * (j + 1)) ⟨st', nxt ia, upd L c (n, an)⟩ ⟨st', nxt ib', upd L c (n, an)⟩ (numsOf (upd L c (n, an))) T w6) := Lib.hid ((HMJ.out.toB HS.out hto6 (by omega) (by omega)).larger (by omega) (by omega))
                have HX6 := Lib.hid ((hto6.chg.block X (Array.getElem?_eq_some_iff.1 HJ.out.x).1 HXa.out.2).trans HJ.out.x)
                have HE6 := Lib.hid hE6
                clear hto6 hE6 q0 q1 q2 q3 p0 p1 p2 p3 HIX2 HAP2 HMJ HJ HEj
                by_cases hj0 : j = 0
                · subst hj0
                  rw [Nat.zero_add] at HM6
                  cases xr
                  · have hx3 : w6.cell? ⟨X, 3, none⟩ = some (.bool false) := cell_of HX6.out (by simp)
                    have HQ : Hid (InAt Fa Fb w ba bb r1 k 1 (nxt ib') ⟨st', nxt ia, upd L c (n, an)⟩ ⟨st', nxt ib', upd L c (n, an)⟩ T X E s _ w6) := Lib.hid ⟨HM6.out, HE6.out, HX6.out⟩
                    go_wp2
                    go_roundw
                    case rel => exact ⟨1, nxt ib', by omega, rfl, Lib.hid (by rw [if_neg (by omega)]; exact HQ.out)⟩
                    case measure => first | (simp [intOf]; done) | (simp [intOf]; omega)
                  · have hx3 : w6.cell? ⟨X, 3, none⟩ = some (.bool true) := cell_of HX6.out (by simp)
                    have IX7 := Lib.hid (index_any HM6.out.b)
                    have AP7 := apply_any HM6.out.b (nxt (nxt ib')) 1 1 ⟨#[]⟩ none 0 0 (nxt_lt _) (by decide) (by show 3000 * k + 400 + 400 * 1 + 0 ≤ _; omega)
                    have hno := apply_noop (m := ⟨st', nxt ib', upd L c (n, an)⟩) ⟨#[]⟩
                    simp only at hno
                    rw [hno] at AP7
                    have HAP7 := Lib.hid AP7
                    have hnx7 := u64_nxt (nxt ib')
                    clear AP7 hno
                    go_wp2_with fail
                    refine IX7.out.mono ?_
                    rintro e w7 ⟨rfl, rfl⟩
                    go_wp2_with fail
                    refine HAP7.out.mono ?_
                    rintro e w8 ⟨rfl, hto8⟩
                    have M8 := HM6.out.toB HS.out hto8 (Nat.le_add_right _ _) (by show 3000 * k + 400 + 400 * 1 + 0 ≤ _; omega)
                    have hE8 := (hto8.chg.block E (Array.getElem?_eq_some_iff.1 HE6.out).1 HEa.out.2.1).trans HE6.out
                    have hX8 := (hto8.chg.block X (Array.getElem?_eq_some_iff.1 HX6.out).1 HXa.out.2).trans HX6.out
                    have HQ : Hid (InAt Fa Fb w ba bb r1 k 1 (nxt (nxt ib')) ⟨st', nxt ia, upd L c (n, an)⟩ ⟨st', nxt (nxt ib'), upd L c (n, an)⟩ T X E s _ w8) := Lib.hid ⟨M8, hE8, hX8⟩
                    clear M8 hE8 hX8 hto8
                    go_wp2
                    go_roundw
                    case rel => exact ⟨1, nxt (nxt ib'), by omega, rfl, Lib.hid (by rw [if_neg (by omega)]; exact HQ.out)⟩
                    case measure => first | (simp [intOf]; done) | (simp [intOf]; omega)
                · have hj1 : decide ((j : Int) = 0) = false := by simp; omega
                  have HQ : Hid (InAt Fa Fb w ba bb r1 k (j + 1) (nxt ib') ⟨st', nxt ia, upd L c (n, an)⟩ ⟨st', nxt ib', upd L c (n, an)⟩ T X E s _ w6) := Lib.hid ⟨HM6.out, HE6.out, HX6.out⟩
                  go_wp2
                  go_roundw
                  case rel => exact ⟨j + 1, nxt ib', by omega, by go_num, Lib.hid (by rw [if_neg (by omega)]; exact HQ.out)⟩
                  case measure => first | (simp [intOf]; done) | (simp [intOf]; omega)
              · have hjn2 : j = nn := by omega
                have hdj : decide ((j : Int) < nn) = false := by simp; omega
                rw [if_neg (by omega)] at HJ
                have SA := Lib.hid (state_any HJ.out.mid.a)
                have SB := Lib.hid (state_any HJ.out.mid.b)
                have hl3 := HJ.out.mid.look hcU
                rw [show numsOf (upd L c (n, an)) = upd (numsOf L) c n from (upd_nums L c n an).symm, lk_upd_same] at hl3
                simp only [Option.getD_some] at hl3
                obtain ⟨o9, hu9, M9⟩ := HJ.out.mid.tell HS.out (x := (c, n)) ⟨by show c < 18446744073709551616; omega, by have := HN.out; show n < 18446744073709551616; omega⟩ an
                unfold kvA at hu9
                simp only at hu9
                have HM9 := Lib.hid M9
                clear M9
                go_wp2_with fail
                refine SA.out.mono ?_
                rintro e w7 ⟨rfl, rfl⟩
                go_wp2_with fail
                refine SB.out.mono ?_
                rintro e w8 ⟨rfl, rfl⟩
                go_wp2
                go_roundw
                case rel => exact ⟨k + 1, upd L c (n, an), st', nxt ia, ib', upd T (c, n) an, by omega, by omega, by go_num, Lib.hid ⟨HM9.out.larger (by omega) (by omega), HO.out.good.step hcr (by have := HN.out; omega) (by have := HN.out; omega) an⟩⟩
                case measure => first | (simp [intOf]; done) | (simp [intOf]; omega)
          · have hd4 : decide ((k : Int) < tl) = false := by simp; omega
            go_wp2
            go_loopw [16] (fun x wq => ∃ (j ib' : Nat), j ≤ 1 ∧ x = .int .i64 j ∧ Hid (InAt Fa Fb w ba bb r1 k j ib' ⟨st', nxt ia, upd L c (n, an)⟩ (if j = 0 then ⟨st, ib', L⟩ else ⟨st', ib', upd L c (n, an)⟩) T X E s [.int .u64 xc, .int .u64 xn, .string xd, .bool xr, .int .u8 xk, .int .u64 xa] wq)) (fun x _ => 1 - (intOf x).toNat)
            case atStart => exact ⟨0, ib, by omega, rfl, by rw [if_pos rfl]; exact HI⟩
            case round =>
              obtain ⟨j, ib', hj, rfl, HJ⟩ := hrel
              clear HI HM5
              by_cases hjn : j < 1
              · have hdj : decide ((j : Int) < 1) = true := by simp; omega
                obtain ⟨B, hB⟩ : ∃ B : LoopM, (if j = 0 then ⟨st, ib', L⟩ else ⟨st', ib', upd L c (n, an)⟩) = B := ⟨_, rfl⟩
                rw [hB] at HJ
                have hBi : B.index = ib' := by rw [← hB]; split <;> rfl
                have hBa : applyM B (nxt ib') 0 s = (⟨st', nxt ib', upd L c (n, an)⟩, an, 0) := by
                  have e1 : st ++ xd = st' := congrArg Prod.fst HHst.out
                  have e2 : (stepM st xd).2 = an := congrArg Prod.snd HHst.out
                  by_cases hj0 : j = 0
                  · rw [if_pos hj0] at hB
                    subst hB
                    have h1 := apply_new (m := ⟨st, ib', L⟩) HCV.out (fun q a hq => by have := (HO.out.good.next hq).1; have := HN.out; omega)
                    rw [h1, e1, e2]
                  · rw [if_neg hj0] at hB
                    subst hB
                    exact apply_again (m := ⟨st', ib', upd L c (n, an)⟩) HCV.out (lk_upd_same _ _ _)
                have MJ := HJ.out.mid.same (W' := wr.drew) ⟨rfl, rfl, rfl, Nat.le_refl _, fun _ _ _ => rfl⟩
                have IX2 := index_any MJ.b
                rw [hBi] at IX2
                have AP2 := apply_any MJ.b (nxt ib') 1 0 s none 0 0 (nxt_lt _) (by omega) (by omega)
                rw [hBa] at AP2
                have HIX2 := Lib.hid IX2
                have HAP2 := Lib.hid AP2
                have HMJ := Lib.hid MJ
                have hnx2 := u64_nxt ib'
                have hEj := HJ.out.e
                have q0 : wr.cell? ⟨E, 0, none⟩ = some (.int .u64 1) := cell_of hEj (by simp)
                have q1 : wr.cell? ⟨E, 1, none⟩ = some (.int .u8 0) := cell_of hEj (by simp)
                have q2 : wr.cell? ⟨E, 2, none⟩ = some (.string s) := cell_of hEj (by simp)
                have q3 : wr.cell? ⟨E, 3, none⟩ = some (.slice none 0 0) := cell_of hEj (by simp)
                have HEj := Lib.hid hEj
                clear hEj IX2 AP2 MJ hB hBa hBi
                go_wp2_with fail
                go_region_held3 (fun v => v.cell? ⟨E, 0, none⟩ = some (.int .u64 1) ∧ v.cell? ⟨E, 1, none⟩ = some (.int .u8 0) ∧ v.cell? ⟨E, 2, none⟩ = some (.string s) ∧ v.cell? ⟨E, 3, none⟩ = some (.slice none 0 0))
                  (first | go_keep | (refine ⟨?_, ?_, ?_, ?_⟩ <;> assumption))
                  (first | (go_at_call 17; refine HIX2.out.mono ?_; rintro e w' ⟨rfl, rfl⟩) | (go_at_call 16; refine HAP2.out.mono ?_; rintro e w6 ⟨rfl, hto6⟩; have hE6 := (hto6.chg.block E (Array.getElem?_eq_some_iff.1 HEj.out).1 HEa.out.2.1).trans HEj.out; have p0 := cell_of (i := 0) (v := .int .u64 1) hE6 rfl; have p1 := cell_of (i := 1) (v := .int .u8 0) hE6 rfl; have p2 := cell_of (i := 2) (v := .string s) hE6 rfl; have p3 := cell_of (i := 3) (v := .slice none 0 0) hE6 rfl))
                have HM6 : Hid (Mid Fa Fb w ba bb r1 (r1 + 1) (3000 * k + 400 + 400 * (j + 1)) ⟨st', nxt ia, upd L c (n, an)⟩ ⟨st', nxt ib', upd L c (n, an)⟩ (numsOf (upd L c (n, an))) T w6) := Lib.hid ((HMJ.out.toB HS.out hto6 (by omega) (by omega)).larger (by omega) (by omega))
                have HX6 := Lib.hid ((hto6.chg.block X (Array.getElem?_eq_some_iff.1 HJ.out.x).1 HXa.out.2).trans HJ.out.x)
                have HE6 := Lib.hid hE6
                clear hto6 hE6 q0 q1 q2 q3 p0 p1 p2 p3 HIX2 HAP2 HMJ HJ HEj
                by_cases hj0 : j = 0
                · subst hj0
                  rw [Nat.zero_add] at HM6
                  rcases to with _ | to
                  · have HQ : Hid (InAt Fa Fb w ba bb r1 k 1 (nxt ib') ⟨st', nxt ia, upd L c (n, an)⟩ ⟨st', nxt ib', upd L c (n, an)⟩ T X E s _ w6) := Lib.hid ⟨HM6.out, HE6.out, HX6.out⟩
                    go_wp2
                    go_roundw
                    case rel => exact ⟨1, nxt ib', by omega, rfl, Lib.hid (by rw [if_neg (by omega)]; exact HQ.out)⟩
                    case measure => first | (simp [intOf]; done) | (simp [intOf]; omega)
                  · cases xr
                    · have hx3 : w6.cell? ⟨X, 3, none⟩ = some (.bool false) := cell_of HX6.out (by simp)
                      have HQ : Hid (InAt Fa Fb w ba bb r1 k 1 (nxt ib') ⟨st', nxt ia, upd L c (n, an)⟩ ⟨st', nxt ib', upd L c (n, an)⟩ T X E s _ w6) := Lib.hid ⟨HM6.out, HE6.out, HX6.out⟩
                      go_wp2
                      go_roundw
                      case rel => exact ⟨1, nxt ib', by omega, rfl, Lib.hid (by rw [if_neg (by omega)]; exact HQ.out)⟩
                      case measure => first | (simp [intOf]; done) | (simp [intOf]; omega)
                    · have hx3 : w6.cell? ⟨X, 3, none⟩ = some (.bool true) := cell_of HX6.out (by simp)
                      have IX7 := Lib.hid (index_any HM6.out.b)
                      have AP7 := apply_any HM6.out.b (nxt (nxt ib')) 1 1 ⟨#[]⟩ none 0 0 (nxt_lt _) (by decide) (by show 3000 * k + 400 + 400 * 1 + 0 ≤ _; omega)
                      have hno := apply_noop (m := ⟨st', nxt ib', upd L c (n, an)⟩) ⟨#[]⟩
                      simp only at hno
                      rw [hno] at AP7
                      have HAP7 := Lib.hid AP7
                      have hnx7 := u64_nxt (nxt ib')
                      clear AP7 hno
                      go_wp2_with fail
                      refine IX7.out.mono ?_
                      rintro e w7 ⟨rfl, rfl⟩
                      go_wp2_with fail
                      refine HAP7.out.mono ?_
                      rintro e w8 ⟨rfl, hto8⟩
                      have M8 := HM6.out.toB HS.out hto8 (Nat.le_add_right _ _) (by show 3000 * k + 400 + 400 * 1 + 0 ≤ _; omega)
                      have hE8 := (hto8.chg.block E (Array.getElem?_eq_some_iff.1 HE6.out).1 HEa.out.2.1).trans HE6.out
                      have hX8 := (hto8.chg.block X (Array.getElem?_eq_some_iff.1 HX6.out).1 HXa.out.2).trans HX6.out
                      have HQ : Hid (InAt Fa Fb w ba bb r1 k 1 (nxt (nxt ib')) ⟨st', nxt ia, upd L c (n, an)⟩ ⟨st', nxt (nxt ib'), upd L c (n, an)⟩ T X E s _ w8) := Lib.hid ⟨M8, hE8, hX8⟩
                      clear M8 hE8 hX8 hto8
                      go_wp2
                      go_roundw
                      case rel => exact ⟨1, nxt (nxt ib'), by omega, rfl, Lib.hid (by rw [if_neg (by omega)]; exact HQ.out)⟩
                      case measure => first | (simp [intOf]; done) | (simp [intOf]; omega)
                · exact absurd hjn (by omega)
              · have hjn2 : j = 1 := by omega
                have hdj : decide ((j : Int) < 1) = false := by simp; omega
                rw [if_neg (by omega)] at HJ
                have SA := Lib.hid (state_any HJ.out.mid.a)
                have SB := Lib.hid (state_any HJ.out.mid.b)
                have hl3 := HJ.out.mid.look hcU
                rw [show numsOf (upd L c (n, an)) = upd (numsOf L) c n from (upd_nums L c n an).symm, lk_upd_same] at hl3
                simp only [Option.getD_some] at hl3
                obtain ⟨o9, hu9, M9⟩ := HJ.out.mid.tell HS.out (x := (c, n)) ⟨by show c < 18446744073709551616; omega, by have := HN.out; show n < 18446744073709551616; omega⟩ an
                unfold kvA at hu9
                simp only at hu9
                have HM9 := Lib.hid M9
                clear M9
                go_wp2_with fail
                refine SA.out.mono ?_
                rintro e w7 ⟨rfl, rfl⟩
                go_wp2_with fail
                refine SB.out.mono ?_
                rintro e w8 ⟨rfl, rfl⟩
                go_wp2
                go_roundw
                case rel => exact ⟨k + 1, upd L c (n, an), st', nxt ia, ib', upd T (c, n) an, by omega, by omega, by go_num, Lib.hid ⟨HM9.out.larger (by omega) (by omega), HO.out.good.step hcr (by have := HN.out; omega) (by have := HN.out; omega) an⟩⟩
                case measure => first | (simp [intOf]; done) | (simp [intOf]; omega)
      · have hk60 : k = 60 := by omega
        have hd2 : decide ((k : Int) < 60) = false := by simp; omega
        obtain ⟨it, hrg, hra⟩ := HO.out.mid.last.range (P := Try.prog) Try.underlying39
        have HN : Hid (EndAt Fa Fb w ba bb r1 k L st ia ib T wr.heap.size (nkv (numsOf L)) (wr.alloc it)) := Lib.hid ⟨HO.out.mid.same ((Chg.refl _ _).alloc _), hra⟩
        have HG := Lib.hid HO.out.good
        have HD := Lib.hid HO.out.mid.last.apart
        have hrs : r1 < wr.heap.size := HO.out.mid.last.lt
        have hrs2 : r1 + 1 < wr.heap.size := HO.out.mid.told.lt
        have hrw := HO.out.mid.chg.size
        obtain ⟨R, hR⟩ : ∃ R, wr.heap.size = R := ⟨_, rfl⟩
        rw [hR] at hrg HN
        have HRO : Hid (¬ (Fa R ∨ Fb R) ∧ R ≠ r1 ∧ R ≠ r1 + 1 ∧ w.heap.size ≤ R) := Lib.hid ⟨fun h => h.elim (fun h => by have := HFl.out.1 _ h; omega) (fun h => by have := HFl.out.2 _ h; omega), by omega, by omega, by omega⟩
        clear hra HO
        go_wp2
        go_loopw [] (fun wq => ∃ left : List (Nat × Value), Hid (EndAt Fa Fb w ba bb r1 k L st ia ib T R left wq)) (fun wq => wq.rangeLeft r1 R)
        case atStart => exact ⟨_, HN⟩
        case round =>
          obtain ⟨left, HU⟩ := hrel
          clear HN hrg
          rcases HU.out.over.next (P := Try.prog) with ⟨h0, hnx⟩ | ⟨a, p, bb2, w9, h0, hnx, hcg, hsz, ho, hen⟩
          · have AL := Lib.hid (alive_any wr)
            have HC := Lib.hid HU.out.mid.chg
            clear HU
            go_wp2_with fail
            refine AL.out.mono ?_
            rintro e w10 ⟨rfl, b10⟩
            go_wp2
            go_ret
            exact ⟨rfl, (below_of_chg HC.out).trans (b10.mono HC.out.size)⟩
          · have hpm : p ∈ nkv (numsOf L) := HU.out.over.sub.subset (by rw [h0]; simp)
            obtain ⟨c, n, a9, hL, rfl⟩ := last_mem hpm
            have hlk : lk L c = some (n, a9) := lk_of_apart HD.out hL
            have hT := HG.out.tells c n a9 hlk
            have hcr := HG.out.keys _ hL
            have hnr := HG.out.nums c n a9 hlk
            have M9 := HU.out.mid.other hcg HRO.out
            have hen' := hen w9 rfl rfl
            have LA := last_any M9.b c (by unfold okU; simp only at hcr; omega)
            simp only at LA
            rw [hlk] at LA
            simp only [Option.getD_some, Option.isSome_some] at LA
            have HLA := Lib.hid LA
            have HM9 := Lib.hid M9
            have HO2 := Lib.hid ho
            have H0 := Lib.hid h0
            have HTT := Lib.hid hT
            have HCN := Lib.hid (show okA (c, n) from ⟨by simp only at hcr; show c < 18446744073709551616; omega, by show n < 18446744073709551616; omega⟩)
            unfold kvU at hnx hen'
            clear LA M9 ho h0 hen hpm hL hlk hT hcr hnr hcg hsz
            go_wp2_with fail
            refine HLA.out.mono ?_
            rintro e w10 ⟨rfl, b10⟩
            have M10 := HM9.out.same (chg_of_below b10)
            have hak := M10.ask HCN.out
            rw [HTT.out] at hak
            unfold kvA at hak
            simp only [Option.getD_some] at hak
            have HQ : Hid (EndAt Fa Fb w ba bb r1 k L st ia ib T R (a ++ bb2) w10) := Lib.hid ⟨M10, HO2.out.stay (b10.block _ HO2.out.lt.1) (b10.block _ HO2.out.lt.2.1)⟩
            clear M10 b10
            go_wp2
            go_roundw
            case rel => exact ⟨_, HQ⟩
            case measure => rw [HQ.out.over.left_eq, HU.out.over.left_eq, H0.out]; simp
    · have hd : decide ((k : Int) < len) = false := by simp; omega
      obtain ⟨it, hrg, hra⟩ := HO.out.mid.last.range (P := Try.prog) Try.underlying39
      have HN : Hid (EndAt Fa Fb w ba bb r1 k L st ia ib T wr.heap.size (nkv (numsOf L)) (wr.alloc it)) := Lib.hid ⟨HO.out.mid.same ((Chg.refl _ _).alloc _), hra⟩
      have HG := Lib.hid HO.out.good
      have HD := Lib.hid HO.out.mid.last.apart
      have hrs : r1 < wr.heap.size := HO.out.mid.last.lt
      have hrs2 : r1 + 1 < wr.heap.size := HO.out.mid.told.lt
      have hrw := HO.out.mid.chg.size
      obtain ⟨R, hR⟩ : ∃ R, wr.heap.size = R := ⟨_, rfl⟩
      rw [hR] at hrg HN
      have HRO : Hid (¬ (Fa R ∨ Fb R) ∧ R ≠ r1 ∧ R ≠ r1 + 1 ∧ w.heap.size ≤ R) := Lib.hid ⟨fun h => h.elim (fun h => by have := HFl.out.1 _ h; omega) (fun h => by have := HFl.out.2 _ h; omega), by omega, by omega, by omega⟩
      clear hra HO
      go_wp2
      go_loopw [] (fun wq => ∃ left : List (Nat × Value), Hid (EndAt Fa Fb w ba bb r1 k L st ia ib T R left wq)) (fun wq => wq.rangeLeft r1 R)
      case atStart => exact ⟨_, HN⟩
      case round =>
        obtain ⟨left, HU⟩ := hrel
        clear HN hrg
        rcases HU.out.over.next (P := Try.prog) with ⟨h0, hnx⟩ | ⟨a, p, bb2, w9, h0, hnx, hcg, hsz, ho, hen⟩
        · have AL := Lib.hid (alive_any wr)
          have HC := Lib.hid HU.out.mid.chg
          clear HU
          go_wp2_with fail
          refine AL.out.mono ?_
          rintro e w10 ⟨rfl, b10⟩
          go_wp2
          go_ret
          exact ⟨rfl, (below_of_chg HC.out).trans (b10.mono HC.out.size)⟩
        · have hpm : p ∈ nkv (numsOf L) := HU.out.over.sub.subset (by rw [h0]; simp)
          obtain ⟨c, n, a9, hL, rfl⟩ := last_mem hpm
          have hlk : lk L c = some (n, a9) := lk_of_apart HD.out hL
          have hT := HG.out.tells c n a9 hlk
          have hcr := HG.out.keys _ hL
          have hnr := HG.out.nums c n a9 hlk
          have M9 := HU.out.mid.other hcg HRO.out
          have hen' := hen w9 rfl rfl
          have LA := last_any M9.b c (by unfold okU; simp only at hcr; omega)
          simp only at LA
          rw [hlk] at LA
          simp only [Option.getD_some, Option.isSome_some] at LA
          have HLA := Lib.hid LA
          have HM9 := Lib.hid M9
          have HO2 := Lib.hid ho
          have H0 := Lib.hid h0
          have HTT := Lib.hid hT
          have HCN := Lib.hid (show okA (c, n) from ⟨by simp only at hcr; show c < 18446744073709551616; omega, by show n < 18446744073709551616; omega⟩)
          unfold kvU at hnx hen'
          clear LA M9 ho h0 hen hpm hL hlk hT hcr hnr hcg hsz
          go_wp2_with fail
          refine HLA.out.mono ?_
          rintro e w10 ⟨rfl, b10⟩
          have M10 := HM9.out.same (chg_of_below b10)
          have hak := M10.ask HCN.out
          rw [HTT.out] at hak
          unfold kvA at hak
          simp only [Option.getD_some] at hak
          have HQ : Hid (EndAt Fa Fb w ba bb r1 k L st ia ib T R (a ++ bb2) w10) := Lib.hid ⟨M10, HO2.out.stay (b10.block _ HO2.out.lt.1) (b10.block _ HO2.out.lt.2.1)⟩
          clear M10 b10
          go_wp2
          go_roundw
          case rel => exact ⟨_, HQ⟩
          case measure => rw [HQ.out.over.left_eq, HU.out.over.left_eq, H0.out]; simp
end Go.Proofs.Ytcaemfogknaioaa
