/- Walks: fits; what is captured does its thing. -/
import Derived.Test.YtjflkmihkfbgpaaW1
import Derived.Lib.QuietBelow
namespace Go.Proofs.Ytjflkmihkfbgpaa
open Go.RowKit Mk Go.Sort

section
variable {w : World} {b r1 r2 : Nat} {v : Value} {ts : List (Value × Thing)} {F : Nat → Prop} {S : Nat} {d : DiskM}

theorem heap_regrown {w : World} {i : Nat} (h : i < w.heap.size) (d : Nat) (os : Array Obj) : (grow (redrawn w d) os).heap[i]? = w.heap[i]? := (below_regrown w d os).block i h
/-- A contract that turns nothing, in every world of the class. -/
theorem regrown_chg {P : Program} {f : FuncId} {args : Array Value} {v : Value} {w : World}
    (h : ∀ w', Chg (fun _ => False) w w' → Calls P f args w' fun e w'' => e = .returned v ∧ Chg (fun _ => False) w' w'') :
    ∀ (d : Nat) (os : Array Obj), Calls P f args (grow (redrawn w d) os) fun e w'' => e = .returned v ∧ ∃ p : Regrown, w'' = grow (redrawn w p.d) p.os :=
  fun d os => Calls.regrown_of ((h _ (chg_of_below (below_regrown w d os))).mono fun _ _ ⟨he, hc⟩ => ⟨he, below_of_chg hc⟩)

/-- May a file have so many bytes? -/
def fitsM (d : DiskM) (x : ByteArray) (n : Nat) : Bool := decide (tot d.now + n ≤ d.room + (byt d.now x).size) && ((lk d.now x).isSome || decide (d.now.length < 4096))

set_option maxRecDepth 100000 in
set_option maxHeartbeats 2000000 in
theorem fits_any (h : DiskRep w b r1 r2 v ts F S d) (x : ByteArray) (n : Nat) (hx : okS x) (hn : n ≤ 2199023255552) :
    Calls Try.prog 29 #[.pointer (some ⟨b, 0, none⟩), .string x, .int .i64 n] w fun e w' => e = .returned (.bool (fitsM d x n)) ∧ Chg (fun _ => False) w w' := by
  have c0 := h.cells.1
  have c1 := h.cells.2.1
  have hc0 := fun a os => cell_regrown c0 a os
  have hc1 := fun a os => cell_regrown c1 a os
  have hU := regrown_chg (w := w) (fun w' hw => used_any (h.same hw))
  have hl := h.now.lookup (P := Try.prog) Try.underlying54 Try.underlying9 (Try.zeroValue9 w) hx true
  have hlen : ∀ (a : Nat) (os : Array Obj) (ty : TypeId), (Builtin.len_ #[54] ty #[.map (some r1)]).run Try.prog (grow (redrawn w a) os) = .ok (.int .i64 d.now.length) (grow (redrawn w a) os) := fun a os ty => (h.now.stay (heap_regrown h.now.lt a os)).len Try.underlying54 ty
  have hb : tot d.now ≤ 1099511627776 := Nat.le_trans h.size.1 h.size.2.2
  have hs := byt_le d.now x
  have hr := h.room
  simp only [if_true] at hl
  obtain ⟨X, HX⟩ : ∃ X, Hid (decide (tot d.now + n ≤ d.room + (byt d.now x).size) = X) := ⟨_, Lib.hid rfl⟩
  obtain ⟨Y, HY⟩ : ∃ Y, Hid ((lk d.now x).isSome = Y) := ⟨_, Lib.hid rfl⟩
  obtain ⟨Z, HZ⟩ : ∃ Z, Hid (decide (d.now.length < 4096) = Z) := ⟨_, Lib.hid rfl⟩
  have HE := Lib.hid (show fitsM d x n = (X && (Y || Z)) by unfold fitsM; rw [HX.out, HY.out, HZ.out])
  rw [HE.out]
  rw [HY.out] at hl
  have q1 : decide ((tot d.now : Int) - (byt d.now x).size + n ≤ d.room) = X := by rw [← HX.out]; simp only [decide_eq_decide]; omega
  have q2 : decide ((d.now.length : Int) < 4096) = Z := by rw [← HZ.out]; simp only [decide_eq_decide]; omega
  have w1 : IntKind.i64.wrap ((tot d.now : Int) - (byt d.now x).size) = (tot d.now : Int) - (byt d.now x).size := by simp only [IntKind.wrap, IntKind.bits, IntKind.signed]; simp; omega
  have w2 : IntKind.i64.wrap ((tot d.now : Int) - (byt d.now x).size + n) = (tot d.now : Int) - (byt d.now x).size + n := by simp only [IntKind.wrap, IntKind.bits, IntKind.signed]; simp; omega
  clear HX HY HZ HE h
  generalize tot d.now = T at *
  generalize (byt d.now x) = s at *
  generalize d.now.length = L at *
  generalize d.room = R at *
  cases X <;> cases Y <;> cases Z
  all_goals
    go_enter Try.func29, Try.ntmps29
    go_wp2_with fail
    refine wp_region_quiet_below (by kernel_rfl) (by kernel_rfl) ?_
    repeat (go_big_quiet_step (exact hU _ _))
    refine wpQuiet_nil ?_
    intro _ hw'
    obtain ⟨⟨dq, osq⟩, hw''⟩ := hw'
    subst hw''
    go_wp2
    go_ret
    exact ⟨rfl, chg_of_below (below_regrown _ _ _)⟩
end
end Go.Proofs.Ytjflkmihkfbgpaa
