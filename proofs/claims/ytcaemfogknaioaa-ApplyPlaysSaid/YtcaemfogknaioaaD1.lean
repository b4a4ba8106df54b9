/- The loop: what its memory is; New, State, Index, the statements' own step. -/
import Derived.Test.YtcaemfogknaioaaC7
import Derived.Test.YtcaemfogknaioaaStep
import Derived.Lib.QuietBelow
import Derived.Laws.EntriesVeiled
namespace Go.Proofs.Ytcaemfogknaioaa
open Go.RowKit Mk Go.Sort

def okU (x : Nat) : Prop := x < 18446744073709551616
def kvU (x : Nat) : Value := .int .u64 x
theorem keysU : Mk.Keys Try.prog 22 okU kvU where
  keyed := Go.Maps.int_keyed Try.underlying22
  inj a b h := by simp [kvU] at h; omega
  lit x hx := ⟨_, Go.Maps.keyOf_int_mk Try.underlying22 (by unfold okU at hx; exact WalkArith.wf_u64 (by omega))⟩

/-- A client's last command: its number, what was answered. -/
abbrev Last := Nat × ByteArray
def lastV (x : Last) : Value := .agg #[.int .u64 x.1, .string x.2]
def clv (L : List (Nat × Last)) : List (Nat × Value) := L.map fun p => (p.1, lastV p.2)

theorem lk_map {K V W : Type} [DecidableEq K] (f : V → W) (L : List (K × V)) (x : K) : lk (L.map fun p => (p.1, f p.2)) x = (lk L x).map f := by
  induction L with
  | nil => rfl
  | cons p L ih => simp only [List.map_cons, lk, ih]; split <;> rfl
theorem upd_map {K V W : Type} [DecidableEq K] (f : V → W) (L : List (K × V)) (x : K) (v : V) : upd (L.map fun p => (p.1, f p.2)) x (f v) = (upd L x v).map fun p => (p.1, f p.2) := by
  induction L with
  | nil => rfl
  | cons p L ih => simp only [List.map_cons, upd, ih]; split <;> rfl

structure LoopM where
  state : ByteArray
  index : Nat
  clients : List (Nat × Last)

structure LoopRep (w : World) (b r : Nat) (F : Nat → Prop) (S : Nat) (m : LoopM) : Prop where
  loop : w.heap[b]? = some (.cells #[.string m.state, .func (.func 14) #[] #[], .int .u64 m.index, .map (some r)] 79)
  map : mapAt okU kvU w r (clv m.clients)
  idx : m.index < 18446744073709551616
  size : m.state.size ≤ S ∧ S ≤ 1099511627776
  fb : F b
  fr : F r
def LoopIs (w : World) (b : Nat) (F : Nat → Prop) (S : Nat) (m : LoopM) : Prop := ∃ r, LoopRep w b r F S m

section
variable {w w' : World} {b r : Nat} {F G : Nat → Prop} {S : Nat} {m : LoopM}
theorem LoopRep.stay (h : LoopRep w b r F S m) (c : Chg G w w') (hd : ∀ i, F i → ¬ G i) : LoopRep w' b r F S m :=
  ⟨(c.block b (Array.getElem?_eq_some_iff.1 h.loop).1 (hd b h.fb)).trans h.loop, h.map.stay (c.block r h.map.lt (hd r h.fr)), h.idx, h.size, h.fb, h.fr⟩
theorem LoopIs.stay (h : LoopIs w b F S m) (c : Chg G w w') (hd : ∀ i, F i → ¬ G i) : LoopIs w' b F S m := by
  obtain ⟨r, h⟩ := h; exact ⟨r, h.stay c hd⟩
theorem LoopRep.foot (h : LoopRep w b r F S m) (hF : ∀ i, F i → G i) : LoopRep w b r G S m := ⟨h.loop, h.map, h.idx, h.size, hF _ h.fb, hF _ h.fr⟩
theorem LoopIs.foot (h : LoopIs w b F S m) (hF : ∀ i, F i → G i) : LoopIs w b G S m := by obtain ⟨r, h⟩ := h; exact ⟨r, h.foot hF⟩
theorem LoopRep.ne (h : LoopRep w b r F S m) : b ≠ r := fun e => by
  obtain ⟨es, c, hr, _⟩ := h.map
  have := h.loop; rw [e, hr] at this; simp at this
theorem LoopRep.cells (h : LoopRep w b r F S m) : w.cell? ⟨b, 0, none⟩ = some (.string m.state) ∧ w.cell? ⟨b, 1, none⟩ = some (.func (.func 14) #[] #[]) ∧ w.cell? ⟨b, 2, none⟩ = some (.int .u64 m.index) ∧ w.cell? ⟨b, 3, none⟩ = some (.map (some r)) :=
  ⟨cell_of h.loop (by simp), cell_of h.loop (by simp), cell_of h.loop (by simp), cell_of h.loop (by simp)⟩
theorem LoopRep.free (h : LoopRep w b r F S m) (i : Nat) : w.frozen? ⟨b, i, none⟩ = false := frozen_of h.loop

theorem chg_of_below {w w' : World} (h : Below w.heap.size w w') : Chg (fun _ => False) w w' := ⟨h.os, h.tape, h.output, h.size, fun i hi _ => h.block i hi⟩
theorem below_of_chg {w w' : World} (h : Chg (fun _ => False) w w') : Below w.heap.size w w' := ⟨h.os, h.tape, h.output, h.size, fun i hi => h.block i hi (fun f => f)⟩

theorem run_eql_func {P : Program} (w : World) (t : TypeId) (h : ∃ a b c, P.underlying t = some (.func a b c)) (fn : Fn) (fs cs : Array Value) : (binOp .eql t (.func fn fs cs) .nilFunc).run P w = .ok (.bool false) w := by
  obtain ⟨a, b, c, h⟩ := h
  have h1 : ∀ d, (Op.equalIn (d + 1) t (.func fn fs cs) .nilFunc).run P w = .ok false w := fun d => by simp [Op.equalIn, run_underlying h]
  simp only [binOp]
  simp [show Op.equal t (.func fn fs cs) .nilFunc = Op.equalIn (9999 + 1) t (.func fn fs cs) .nilFunc from rfl, h1 9999]
theorem func38 : ∃ a b c, Try.prog.underlying 38 = some (.func a b c) := by
  have h : (match Try.prog.underlying 38 with | some (.func ..) => true | _ => false) = true := by kernel_rfl
  split at h
  · rename_i a b c e; exact ⟨a, b, c, e⟩
  · cases h

/-- The statements' own step. -/
def stepM (s d : ByteArray) : ByteArray × ByteArray := (s ++ d, str (Cod.num s.size) ++ d)
theorem step_any (s d : ByteArray) (hs : s.size ≤ 1099511627776) (hd : d.size ≤ 1099511627776) (w : World) :
    Calls Try.prog 14 #[.string s, .string d] w fun e w' => e = .returned (.tuple #[.string (stepM s d).1, .string (stepM s d).2]) ∧ Below w.heap.size w w' := by
  have N := Lib.hid (fun w => rnumw_any s.size (by omega) w)
  have hz := num_size s.size
  unfold stepM
  generalize str (Cod.num s.size) = X at *
  have k1 : s.size + d.size ≤ 9223372036854775807 := by omega
  have k2 : X.size + d.size ≤ 9223372036854775807 := by omega
  have C : Calls Try.prog 37 #[.string s, .string d] w fun e w' => e = .returned (.tuple #[.string (s ++ d), .string (X ++ d)]) ∧ Below w.heap.size w w' := by
    go_enter Try.func37, Try.ntmps37
    go_wp2_with fail
    refine (N.out w).mono ?_
    rintro e w' ⟨rfl, hb⟩
    go_wp2
    go_ret2
    exact ⟨rfl, hb⟩
  have HC := Lib.hid C
  clear C N k1 k2 hz hs hd
  go_enter Try.func14, Try.ntmps14
  go_wp2_with fail
  refine HC.out.mono ?_
  rintro e w' ⟨rfl, hb⟩
  go_wp2
  go_ret2
  exact ⟨rfl, hb⟩

set_option maxRecDepth 100000 in
theorem not_any (h : LoopRep w b r F S m) : Calls Try.prog 38 #[.pointer (some ⟨b, 0, none⟩)] w fun e w' => e = .returned (.bool false) ∧ w' = w := by
  have c1 := h.cells.2.1
  have hq := run_eql_func (P := Try.prog) w 38 func38 (.func 14) #[] #[]
  clear h
  go_enter Try.func38, Try.ntmps38
  go_wp2
  go_ret
  exact ⟨rfl, rfl⟩
theorem index_any (h : LoopIs w b F S m) : Calls Try.prog 17 #[.pointer (some ⟨b, 0, none⟩)] w fun e w' => e = .returned (.int .u64 m.index) ∧ w' = w := by
  obtain ⟨r, h⟩ := h
  have N := Lib.hid (not_any h)
  have c2 := h.cells.2.2.1
  clear h
  go_enter Try.func17, Try.ntmps17
  go_wp2_with fail
  refine N.out.mono ?_
  rintro e w' ⟨rfl, rfl⟩
  go_wp2
  go_ret
  exact ⟨rfl, rfl⟩
theorem state_any (h : LoopIs w b F S m) : Calls Try.prog 18 #[.pointer (some ⟨b, 0, none⟩)] w fun e w' => e = .returned (.string m.state) ∧ w' = w := by
  obtain ⟨r, h⟩ := h
  have N := Lib.hid (not_any h)
  have c2 := h.cells.1
  clear h
  go_enter Try.func18, Try.ntmps18
  go_wp2_with fail
  refine N.out.mono ?_
  rintro e w' ⟨rfl, rfl⟩
  go_wp2
  go_ret
  exact ⟨rfl, rfl⟩

theorem new_rep (w : World) (s : ByteArray) (hs : s.size ≤ 1099511627776) :
    LoopIs ((w.alloc (.map #[] 0)).alloc (.cells #[.string s, .func (.func 14) #[] #[], .int .u64 0, .map (some w.heap.size)] 79)) (w.heap.size + 1) (fun g => w.heap.size ≤ g) s.size ⟨s, 0, []⟩ := by
  have z1 : (w.alloc (.map #[] 0)).heap.size = w.heap.size + 1 := by simp
  refine ⟨w.heap.size, ?_, ?_, Nat.zero_lt_succ _, ⟨Nat.le_refl _, hs⟩, by omega, Nat.le_refl _⟩
  · have := Go.heap_alloc_new (w.alloc (.map #[] 0)) (.cells #[.string s, .func (.func 14) #[] #[], .int .u64 0, .map (some w.heap.size)] 79)
    rwa [z1] at this
  · exact (mapAt_made w).stay (Below.heap_alloc _ _ _ (by omega))
set_option maxRecDepth 100000 in
theorem new_any (s : ByteArray) (hs : s.size ≤ 1099511627776) (w : World) :
    Calls Try.prog 13 #[.string s, .func (.func 14) #[] #[]] w fun e w' => ∃ b, e = .returned (.pointer (some ⟨b, 0, none⟩)) ∧ LoopIs w' b (fun g => w.heap.size ≤ g) s.size ⟨s, 0, []⟩ ∧ Chg (fun _ => False) w w' := by
  have hmm : ∀ v : World, (Instr.makeMap 77 none).run Try.prog v = .ok (.map (some v.heap.size)) (v.alloc (.map #[] 0)) := fun v => run_makeMap 77 v
  have hq := run_eql_func (P := Try.prog) w 38 func38 (.func 14) #[] #[]
  go_enter Try.func13, Try.ntmps13
  go_wp2
  go_ret
  exact ⟨_, rfl, new_rep w s hs, ((Chg.refl _ _).alloc _).alloc _⟩
end
end Go.Proofs.Ytcaemfogknaioaa
