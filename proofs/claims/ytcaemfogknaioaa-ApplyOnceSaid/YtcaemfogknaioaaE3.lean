/- ApplyOnce: two loops, and what was told; plain steps. -/
import Derived.Test.YtcaemfogknaioaaE2
namespace Go.Proofs.Ytcaemfogknaioaa
open Go.RowKit Mk Go.Sort

def nkv (N : List (Nat × Nat)) : List (Nat × Value) := N.map fun p => (p.1, .int .u64 (p.2 : Nat))
def tkv (T : List ((Nat × Nat) × ByteArray)) : List ((Nat × Nat) × Value) := T.map fun p => (p.1, .string p.2)

/-- The blocks do not meet. -/
structure Sep (Fa Fb : Nat → Prop) (w : World) (r1 r2 : Nat) : Prop where
  ab : ∀ g, Fa g → ¬ Fb g
  a1 : ¬ Fa r1
  a2 : ¬ Fa r2
  b1 : ¬ Fb r1
  b2 : ¬ Fb r2
  ne : r1 ≠ r2
  la : ∀ g, Fa g → w.heap.size ≤ g
  lb : ∀ g, Fb g → w.heap.size ≤ g
  l1 : w.heap.size ≤ r1
  l2 : w.heap.size ≤ r2

/-- Two loops, the numbers that were given, what was answered. -/
structure Mid (Fa Fb : Nat → Prop) (w : World) (ba bb r1 r2 S : Nat) (A B : LoopM) (N : List (Nat × Nat)) (T : List ((Nat × Nat) × ByteArray)) (W : World) : Prop where
  a : LoopIs W ba Fa S A
  b : LoopIs W bb Fb S B
  last : mapAt okU kvU W r1 (nkv N)
  told : mapAt okA kvA W r2 (tkv T)
  chg : Chg (fun _ => False) w W

section
variable {Fa Fb : Nat → Prop} {w W W' : World} {ba bb r1 r2 S : Nat} {A B : LoopM} {N : List (Nat × Nat)} {T : List ((Nat × Nat) × ByteArray)}
theorem LoopIs.larger {b : Nat} {F : Nat → Prop} {m : LoopM} (h : LoopIs w b F S m) {S' : Nat} (hs : S ≤ S') (h' : S' ≤ 1099511627776) : LoopIs w b F S' m := by obtain ⟨r, h⟩ := h; exact ⟨r, h.larger hs h'⟩
theorem Mid.same (h : Mid Fa Fb w ba bb r1 r2 S A B N T W) (c : Chg (fun _ => False) W W') : Mid Fa Fb w ba bb r1 r2 S A B N T W' :=
  ⟨h.a.stay c (fun _ _ f => f), h.b.stay c (fun _ _ f => f), h.last.stay (c.block _ h.last.lt (fun f => f)), h.told.stay (c.block _ h.told.lt (fun f => f)), h.chg.trans c⟩
theorem Mid.larger (h : Mid Fa Fb w ba bb r1 r2 S A B N T W) {S' : Nat} (hs : S ≤ S') (h' : S' ≤ 1099511627776) : Mid Fa Fb w ba bb r1 r2 S' A B N T W :=
  ⟨h.a.larger hs h', h.b.larger hs h', h.last, h.told, h.chg⟩
theorem Mid.toA (h : Mid Fa Fb w ba bb r1 r2 S A B N T W) (s : Sep Fa Fb w r1 r2) {S' : Nat} {A' : LoopM} (t : To W ba Fa S' A' W') (hs : S ≤ S') (h' : S' ≤ 1099511627776) : Mid Fa Fb w ba bb r1 r2 S' A' B N T W' :=
  ⟨t.is, (h.b.stay t.chg (fun g hb ha => s.ab g ha hb)).larger hs h', h.last.stay (t.chg.block _ h.last.lt s.a1), h.told.stay (t.chg.block _ h.told.lt s.a2), h.chg.trans' t.chg (fun g hg => Or.inr (s.la g hg))⟩
theorem Mid.toB (h : Mid Fa Fb w ba bb r1 r2 S A B N T W) (s : Sep Fa Fb w r1 r2) {S' : Nat} {B' : LoopM} (t : To W bb Fb S' B' W') (hs : S ≤ S') (h' : S' ≤ 1099511627776) : Mid Fa Fb w ba bb r1 r2 S' A B' N T W' :=
  ⟨(h.a.stay t.chg (fun g ha hb => s.ab g ha hb)).larger hs h', t.is, h.last.stay (t.chg.block _ h.last.lt s.b1), h.told.stay (t.chg.block _ h.told.lt s.b2), h.chg.trans' t.chg (fun g hg => Or.inr (s.lb g hg))⟩

theorem Mid.look (h : Mid Fa Fb w ba bb r1 r2 S A B N T W) {c : Nat} (hc : okU c) : (Instr.lookup 39 (.map (some r1)) (.int .u64 c) false).run Try.prog W = .ok (.int .u64 (((lk N c).getD 0 : Nat) : Int)) W := by
  have hr := run_lookup keysU Try.underlying39 (Try.zeroValue22 W) h.last hc false
  rw [show nkv N = N.map (fun p => (p.1, Value.int .u64 (p.2 : Nat))) from rfl, lk_map (fun n : Nat => Value.int .u64 (n : Nat))] at hr
  refine hr.trans ?_
  cases lk N c <;> rfl
theorem Mid.count (h : Mid Fa Fb w ba bb r1 r2 S A B N T W) (s : Sep Fa Fb w r1 r2) {c : Nat} (hc : okU c) (n : Nat) :
    ∃ o, (Instr.mapUpdate 39 (.map (some r1)) (.int .u64 c) (.int .u64 (n : Nat))).run Try.prog W = .ok () (ChangeMaps.setBlock W r1 o) ∧ Mid Fa Fb w ba bb r1 r2 S A B (upd N c n) T (ChangeMaps.setBlock W r1 o) ∧ Chg (fun g => g = r1) W (ChangeMaps.setBlock W r1 o) := by
  obtain ⟨es, k, h3, h4⟩ := run_update keysU Try.underlying39 h.last hc (.int .u64 (n : Nat))
  rw [show nkv N = N.map (fun p => (p.1, Value.int .u64 (p.2 : Nat))) from rfl, upd_map (fun n : Nat => Value.int .u64 (n : Nat))] at h4
  have c1 : Chg (fun g => g = r1) W (ChangeMaps.setBlock W r1 (.map es k)) := Mk.Chg.setBlock (F := fun g => g = r1) (Chg.refl _ W) (Or.inl rfl) _
  refine ⟨_, h3, ⟨h.a.stay c1 (fun g ha e => s.a1 (e ▸ ha)), h.b.stay c1 (fun g hb e => s.b1 (e ▸ hb)), ⟨es, k, heap_setBlock_eq h.last.lt, h4⟩, h.told.stay (c1.block _ h.told.lt s.ne.symm), h.chg.trans' c1 (fun g e => Or.inr (e ▸ s.l1))⟩, c1⟩
theorem Mid.ask (h : Mid Fa Fb w ba bb r1 r2 S A B N T W) {x : Nat × Nat} (hx : okA x) : (Instr.lookup 40 (.map (some r2)) (kvA x) false).run Try.prog W = .ok (.string ((lk T x).getD ⟨#[]⟩)) W := by
  have hr := run_lookup keysA Try.underlying40 (Try.zeroValue9 W) h.told hx false
  rw [show tkv T = T.map (fun p => (p.1, Value.string p.2)) from rfl, lk_map] at hr
  refine hr.trans ?_
  cases lk T x <;> rfl
theorem Mid.tell (h : Mid Fa Fb w ba bb r1 r2 S A B N T W) (s : Sep Fa Fb w r1 r2) {x : Nat × Nat} (hx : okA x) (v : ByteArray) :
    ∃ o, (Instr.mapUpdate 40 (.map (some r2)) (kvA x) (.string v)).run Try.prog W = .ok () (ChangeMaps.setBlock W r2 o) ∧ Mid Fa Fb w ba bb r1 r2 S A B N (upd T x v) (ChangeMaps.setBlock W r2 o) := by
  obtain ⟨es, k, h3, h4⟩ := run_update keysA Try.underlying40 h.told hx (.string v)
  rw [show tkv T = T.map (fun p => (p.1, Value.string p.2)) from rfl, upd_map Value.string] at h4
  have c1 : Chg (fun g => g = r2) W (ChangeMaps.setBlock W r2 (.map es k)) := Mk.Chg.setBlock (F := fun g => g = r2) (Chg.refl _ W) (Or.inl rfl) _
  exact ⟨_, h3, ⟨h.a.stay c1 (fun g ha e => s.a2 (e ▸ ha)), h.b.stay c1 (fun g hb e => s.b2 (e ▸ hb)), h.last.stay (c1.block _ h.last.lt s.ne), ⟨es, k, heap_setBlock_eq h.told.lt, h4⟩, h.chg.trans' c1 (fun g e => Or.inr (e ▸ s.l2))⟩⟩
end

/-! Plain: what a command does that is new, and one that came already. -/
theorem cmd_of (c n : Nat) (d : ByteArray) (hc : 0 < c ∧ c < 6) (hn : 0 < n ∧ n < 1000) (hd : d.size ≤ 300) :
    ∃ s, cmdV c n d.data.toList = .tuple #[.string s, .int .i64 0] ∧ s.size ≤ 400 ∧ Cod.rcmd s.data.toList = some (c, n, d.data.toList) := by
  have hl : (Cod.cmd c n d.data.toList).length ≤ 400 := by
    have h1 := num_size c
    have h2 := num_size n
    have h3 := text_size d
    have h4 : (str (Cod.num c)).size = (Cod.num c).length := rfl
    have h5 : (str (Cod.num n)).size = (Cod.num n).length := rfl
    have h6 : (str (Cod.text d.data.toList)).size = (Cod.text d.data.toList).length := rfl
    unfold Cod.cmd
    simp only [List.length_append]
    omega
  refine ⟨str (Cod.cmd c n d.data.toList), ?_, hl, ?_⟩
  · unfold cmdV
    rw [if_neg (by omega), if_neg (by omega)]
  · exact Cod.rcmd_cmd c n d.data.toList ⟨hc.1, by omega⟩ ⟨hn.1, by omega⟩ (by omega)

def nxt (i : Nat) : Nat := (i + 1) % 18446744073709551616
/-- A new command. -/
theorem apply_new {m : LoopM} {c n : Nat} {d s : ByteArray} (hs : Cod.rcmd s.data.toList = some (c, n, d.data.toList)) (hk : ∀ q a, lk m.clients c = some (q, a) → q < n) :
    applyM m (nxt m.index) 0 s = (⟨m.state ++ d, nxt m.index, upd m.clients c (n, (stepM m.state d).2)⟩, (stepM m.state d).2, 0) := by
  unfold applyM nxt
  rw [if_neg (by simp), if_neg (by simp)]
  unfold cmdM atM
  rw [hs]
  simp only
  cases h : lk m.clients c with
  | none => simp only [doM, str_self]
  | some x =>
    obtain ⟨q, a⟩ := x
    have := hk q a h
    simp only
    rw [if_neg (by omega), if_neg (by omega)]
    simp only [doM, str_self]
/-- One that came already. -/
theorem apply_again {m : LoopM} {c n : Nat} {d s a : ByteArray} (hs : Cod.rcmd s.data.toList = some (c, n, d.data.toList)) (hk : lk m.clients c = some (n, a)) :
    applyM m (nxt m.index) 0 s = (⟨m.state, nxt m.index, m.clients⟩, a, 0) := by
  unfold applyM nxt
  rw [if_neg (by simp), if_neg (by simp)]
  unfold cmdM atM
  rw [hs]
  simp only [hk]
  rw [if_neg (by omega), if_pos trivial]
theorem apply_noop {m : LoopM} (s : ByteArray) : applyM m (nxt m.index) 1 s = (⟨m.state, nxt m.index, m.clients⟩, ⟨#[]⟩, 0) := by
  unfold applyM nxt
  rw [if_neg (by simp), if_pos (by simp)]
  rfl
end Go.Proofs.Ytcaemfogknaioaa
