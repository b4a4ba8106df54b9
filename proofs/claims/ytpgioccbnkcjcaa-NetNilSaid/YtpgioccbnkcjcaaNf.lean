/- Walks: NetNil. -/
import Derived.Test.YtpgioccbnkcjcaaNe
namespace Go.Proofs.Ytpgioccbnkcjcaa
open Go.RowKit Mk

set_option maxRecDepth 100000 in
set_option maxHeartbeats 2000000 in
theorem nil_law (a b i : Int) (s : ByteArray) (w : World) : Calls Try.prog 7 #[.int .i64 a, .int .i64 b, .int .i64 i, .string s] w fun e w' => e = .returned (.bool true) ∧ Chg (fun _ => False) w w' := by
  go_enter Try.func7, Try.ntmps7
  go_wp2_with fail
  refine (nil_peek _ _ _ w).mono ?_
  rintro e w1 ⟨rfl, rfl⟩
  go_wp2_with fail
  refine (nil_take _ _ _ _).mono ?_
  rintro e w2 ⟨rfl, hc⟩
  have H2 := Lib.hid hc
  clear hc
  go_wp2_with fail
  have H3 := Lib.hid (H2.out.alloc (.cells #[.int .i64 0, .int .i64 0, .string ⟨#[]⟩] 42))
  have hq : (w2.alloc (.cells #[.int .i64 0, .int .i64 0, .string ⟨#[]⟩] 42)).heap[w2.heap.size]? = some (.cells #[.int .i64 0, .int .i64 0, .string ⟨#[]⟩] 42) := Go.heap_alloc_new _ _
  have q0 := cell_of (i := 0) (v := .int .i64 0) hq rfl
  have q1 := cell_of (i := 1) (v := .int .i64 0) hq rfl
  have q2 := cell_of (i := 2) (v := .string ⟨#[]⟩) hq rfl
  clear hq H2
  generalize w2.alloc (.cells #[.int .i64 0, .int .i64 0, .string ⟨#[]⟩] 42) = w3 at *
  refine (nil_tick _ _).mono ?_
  rintro e w4 ⟨rfl, rfl⟩
  go_wp2_with fail
  refine (nil_draw _ _ _).mono ?_
  rintro e w4 ⟨rfl, rfl⟩
  go_wp2_with fail
  refine (nil_send _ _ _ _).mono ?_
  rintro e w4 ⟨rfl, rfl⟩
  go_wp2_with fail
  refine (nil_drop _ _ _ _).mono ?_
  rintro e w4 ⟨rfl, rfl⟩
  go_wp2_with fail
  refine (nil_double _ _ _ _).mono ?_
  rintro e w4 ⟨rfl, rfl⟩
  go_wp2_with fail
  refine (nil_part _ _).mono ?_
  rintro e w5 ⟨rfl, hc⟩
  have H5 := Lib.hid ((H3.out.alloc _).trans hc)
  clear hc H3
  go_wp2_with fail
  refine (nil_parted _ _ _).mono ?_
  rintro e w6 ⟨rfl, hc⟩
  have H6 := Lib.hid (H5.out.trans hc)
  clear hc H5
  go_wp2_with fail
  refine (nil_len _ _ _).mono ?_
  rintro e w7 ⟨rfl, rfl⟩
  go_wp2_with fail
  refine (nil_waiting _).mono ?_
  rintro e w7 ⟨rfl, rfl⟩
  go_wp2_with fail
  refine (nil_ticks _ _).mono ?_
  rintro e w7 ⟨rfl, rfl⟩
  go_wp2_with fail
  refine (nil_nodes _).mono ?_
  rintro e w7 ⟨rfl, rfl⟩
  go_wp2_with fail
  refine (nil_copy _).mono ?_
  rintro e w7 ⟨rfl, rfl⟩
  go_wp2_with fail
  refine (alive_any _).mono ?_
  rintro e w8 ⟨rfl, hc⟩
  have H8 := Lib.hid (H6.out.trans hc)
  clear hc H6
  go_wp2
  go_ret
  exact ⟨rfl, H8.out⟩

theorem walkNetNil (a b i : Int) (s : ByteArray) (_ : (Lit.int .i64 a).wf = true) (_ : (Lit.int .i64 b).wf = true) (_ : (Lit.int .i64 i).wf = true) (_ : s.size ≤ 140737488351232) (w : World) :
    Calls Try.prog 7 #[.int .i64 a, .int .i64 b, .int .i64 i, .string s] w fun e w' => e = .returned (.bool true) ∧ Below w.heap.size w w' :=
  (nil_law a b i s w).mono (fun e w' h => ⟨h.1, h.2.below (fun _ h => h.elim) (Nat.le_refl _)⟩)
end Go.Proofs.Ytpgioccbnkcjcaa
