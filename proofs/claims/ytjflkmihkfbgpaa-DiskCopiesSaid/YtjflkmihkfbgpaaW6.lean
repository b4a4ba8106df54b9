/- Walks: Append, Read, Loose, New. -/
import Derived.Test.YtjflkmihkfbgpaaW5
namespace Go.Proofs.Ytjflkmihkfbgpaa
open Go.RowKit Mk Go.Sort

section
variable {w : World} {b : Nat} {F : Nat → Prop} {S : Nat} {d : DiskM}

set_option maxRecDepth 100000 in
set_option maxHeartbeats 1000000 in
theorem append_any (h : DiskIs w b F S d) (n s : ByteArray) (hS : S + s.size + 1 ≤ 1099511627776) :
    Calls Try.prog 11 #[.pointer (some ⟨b, 0, none⟩), .string n, .string s] w fun e w' => e = .returned (.int .i64 (appendM d n s).2) ∧ To w b F (S + s.size + 1) (appendM d n s).1 w' := by
  have hB := boxed w n
  obtain ⟨W, HW⟩ : ∃ W, Hid ((w.alloc (.cells #[.string n] 9)).alloc (.cells #[.string n] 9) = W) := ⟨_, Lib.hid rfl⟩
  rw [HW.out] at hB
  have HB := Lib.hid hB
  have H := Lib.hid h
  have A := Lib.hid (able_to h false n _ hB.chg hB.list)
  have hs : s.size ≤ 1099511627776 := by omega
  obtain ⟨E, HE⟩ : ∃ E, Hid (appendM d n s = E) := ⟨_, Lib.hid rfl⟩
  rw [HE.out]
  cases hn : named n
  · have e0 : E = (d, 2) := by rw [← HE.out]; simp [appendM, hn]
    subst e0
    have ea : ableM false n d.now = 2 := by simp [ableM, hn]
    rw [ea] at A
    clear h HE hn ea hB
    go_enter Try.func11, Try.ntmps11
    go_wp2_with fail
    rw [HW.out]
    refine A.out.mono ?_
    rintro e w1 ⟨rfl, k1⟩
    go_wp2
    go_ret
    exact ⟨rfl, (To.of_same H.out (HB.out.chg.trans k1)).larger (by omega) hS⟩
  · have ea : ableM false n d.now = 0 := by simp [ableM, hn]
    have hok := Lib.hid (named_ok hn)
    rw [ea] at A
    have hz : (byt d.now n).size ≤ 1099511627776 := by obtain ⟨r1, r2, v, ts, hh⟩ := h; have := hh.size; have := byt_le d.now n; omega
    have FT := Lib.hid (fun (W : World) c => fits_to h n ((byt d.now n).size + s.size) (named_ok hn) (by omega) (W := W) c)
    have HD := Lib.hid (fun (w1 : World) (k : Chg (fun _ => False) w w1) (hb : w1.heap[w.heap.size]? = some (.cells #[.string n] 9)) => does_to (h.same k) (capt_app (named_ok hn) hb) trivial s hS)
    obtain ⟨r1, r2, v, ts, hh⟩ := h
    have HL := Lib.hid (fun (w1 : World) (k : Chg (fun _ => False) w w1) => (hh.same k).cells.2.1)
    have HM := Lib.hid (fun (w1 : World) (k : Chg (fun _ => False) w w1) => (hh.same k).now.lookup (P := Try.prog) Try.underlying54 Try.underlying9 (Try.zeroValue9 _) (named_ok hn) false)
    simp only [Bool.false_eq_true, if_false] at HM
    have e1 : fitsM d n ((byt d.now n).size + s.size) = true ∧ E = (putM d (.app n, s), 0) ∨ fitsM d n ((byt d.now n).size + s.size) = false ∧ E = (d, 6) := by
      rw [← HE.out]
      unfold appendM
      rw [hn]
      cases fitsM d n ((byt d.now n).size + s.size) <;> simp
    generalize byt d.now n = y at *
    generalize hff : fitsM d n (y.size + s.size) = f0 at *
    clear hn ea hB hh HE hff
    rw [Int.natCast_add] at FT
    go_enter Try.func11, Try.ntmps11
    go_wp2_with fail
    rw [HW.out]
    refine A.out.mono ?_
    rintro e w1 ⟨rfl, k1⟩
    have K1 := Lib.hid (HB.out.chg.trans k1)
    have HX := Lib.hid (k1.stays HB.out.box)
    have dX := fun a os => cell_regrown (cell_of (i := 0) (v := .string n) HX.out rfl) a os
    have dL := fun a os => cell_regrown (HL.out w1 K1.out) a os
    have dM := fun a os => HM.out (grow (redrawn w1 a) os) (K1.out.trans (chg_of_below (below_regrown w1 a os)))
    have FC := regrown_chg (w := w1) (fun w' hw => FT.out w' (K1.out.trans hw))
    clear k1 A HL HM FT
    go_wp2_with fail
    refine wp_region_quiet_below (by kernel_rfl) (by kernel_rfl) ?_
    repeat (go_big_quiet_step (exact FC _ _))
    refine wpQuiet_nil ?_
    intro _ hw'
    obtain ⟨⟨dq, osq⟩, hw''⟩ := hw'
    subst hw''
    have k2 := chg_of_below (below_regrown w1 dq osq)
    clear dX dL dM FC
    generalize grow (redrawn w1 dq) osq = w2 at *
    have K2 := Lib.hid (K1.out.trans k2)
    have D := Lib.hid (HD.out w2 K2.out (k2.stays HX.out))
    have dX := cell_of (i := 0) (v := .string n) (k2.stays HX.out) rfl
    clear k2 HD HX
    rcases e1 with ⟨e1, rfl⟩ | ⟨e1, rfl⟩
    · subst e1
      go_wp2_with fail
      refine D.out.mono ?_
      rintro e w3 ⟨rfl, k3⟩
      have K3 := Lib.hid k3
      clear k3 D
      go_wp2
      go_ret
      exact ⟨rfl, To.behind K2.out K3.out⟩
    · subst e1
      clear D
      go_wp2
      go_ret
      exact ⟨rfl, (To.of_same H.out K2.out).larger (by omega) hS⟩

/-- What Read says. -/
def readM (d : DiskM) (n : ByteArray) : ByteArray × Int := if ableM true n d.now = 0 then (byt d.now n, 0) else (⟨#[]⟩, ableM true n d.now)

set_option maxRecDepth 100000 in
theorem read_any (h : DiskIs w b F S d) (n : ByteArray) :
    Calls Try.prog 13 #[.pointer (some ⟨b, 0, none⟩), .string n] w fun e w' => e = .returned (.tuple #[.string (readM d n).1, .int .i64 (readM d n).2]) ∧ Chg (fun _ => False) w w' := by
  obtain ⟨W, HW⟩ : ∃ W, Hid (w.alloc (.cells #[.string n] 9) = W) := ⟨_, Lib.hid rfl⟩
  have hc : Chg (fun _ => False) w W := by rw [← HW.out]; exact (Chg.refl _ _).alloc _
  have hb : W.cell? ⟨w.heap.size, 0, none⟩ = some (.string n) := by rw [← HW.out]; exact cell_of (Go.heap_alloc_new _ _) (by simp)
  have A := Lib.hid (able_to h true n _ hc hb)
  obtain ⟨E, HE⟩ : ∃ E, Hid ((readM d n).1 = E) := ⟨_, Lib.hid rfl⟩
  obtain ⟨G, HG⟩ : ∃ E, Hid ((readM d n).2 = E) := ⟨_, Lib.hid rfl⟩
  rw [HE.out, HG.out]
  have HC := Lib.hid hc
  have ha : ableM true n d.now = 0 ∧ named n = true ∧ E = byt d.now n ∧ G = 0 ∨ (ableM true n d.now = 2 ∨ ableM true n d.now = 5) ∧ E = ⟨#[]⟩ ∧ G = ableM true n d.now := by
    rw [← HE.out, ← HG.out]
    unfold readM ableM
    cases named n <;> cases (lk d.now n).isSome <;> simp
  rcases ha with ⟨ea, hn, rfl, rfl⟩ | ⟨ea, rfl, rfl⟩
  · rw [ea] at A
    obtain ⟨r1, r2, v, ts, hh⟩ := h
    have HL := Lib.hid (fun (w1 : World) (k : Chg (fun _ => False) w w1) => (hh.same k).cells.2.1)
    have HM := Lib.hid (fun (w1 : World) (k : Chg (fun _ => False) w w1) => (hh.same k).now.lookup (P := Try.prog) Try.underlying54 Try.underlying9 (Try.zeroValue9 _) (named_ok hn) false)
    simp only [Bool.false_eq_true, if_false] at HM
    generalize byt d.now n = y at *
    clear ea hn hh HE HG hc hb
    go_enter Try.func13, Try.ntmps13
    go_wp2_with fail
    rw [HW.out]
    refine A.out.mono ?_
    rintro e w1 ⟨rfl, k1⟩
    have dL := HL.out w1 (HC.out.trans k1)
    have dM := HM.out w1 (HC.out.trans k1)
    go_wp2
    go_ret2
    exact ⟨rfl, HC.out.trans k1⟩
  · generalize ableM true n d.now = c at *
    clear h HE HG hc hb
    rcases ea with rfl | rfl
    all_goals
      go_enter Try.func13, Try.ntmps13
      go_wp2_with fail
      rw [HW.out]
      refine A.out.mono ?_
      rintro e w1 ⟨rfl, k1⟩
      go_wp2
      go_ret2
      exact ⟨rfl, HC.out.trans k1⟩

theorem loose_any (h : DiskIs w b F S d) : Calls Try.prog 18 #[.pointer (some ⟨b, 0, none⟩)] w fun e w' => e = .returned (.int .i64 d.T.length) ∧ w' = w := by
  obtain ⟨r1, r2, v, ts, hh⟩ := h
  obtain ⟨ao, cp, rfl⟩ := hh.shape
  have c3 := hh.cells.2.2.2
  rw [← hh.things, List.length_map]
  clear hh
  generalize ts.length = m at *
  go_enter Try.func18, Try.ntmps18
  go_wp2
  go_ret
  exact ⟨rfl, rfl⟩

def newM (room : Int) : DiskM := ⟨room.toNat, [], [], []⟩
theorem new_rep (w : World) (k : Nat) (hk : k ≤ 9223372036854775807) :
    DiskIs (((w.alloc (.map #[] 0)).alloc (.map #[] 0)).alloc (.cells #[.int .i64 k, .map (some w.heap.size), .map (some (w.heap.size + 1)), .slice none 0 0] 57)) (w.heap.size + 1 + 1) (fun g => w.heap.size ≤ g) 0 ⟨k, [], [], []⟩ := by
  have z1 : (w.alloc (.map #[] 0)).heap.size = w.heap.size + 1 := by simp
  have z2 : ((w.alloc (.map #[] 0)).alloc (.map #[] 0)).heap.size = w.heap.size + 1 + 1 := by simp
  have f1 : files (w.alloc (.map #[] 0)) w.heap.size [] := files_made w
  have f2 : files ((w.alloc (.map #[] 0)).alloc (.map #[] 0)) (w.heap.size + 1) [] := by have := files_made (w.alloc (.map #[] 0)); rwa [z1] at this
  refine ⟨w.heap.size, w.heap.size + 1, .slice none 0 0, [], ?_, ?_, ?_, by omega, rfl, sl_nil _ _ _, by simp, trivial, List.Perm.refl _, by simp [tot, bulk], by simp, hk, by omega, Nat.le_refl _, by omega, fun g hg => by simp [Value.ownBlock] at hg⟩
  · have := Go.heap_alloc_new ((w.alloc (.map #[] 0)).alloc (.map #[] 0)) (.cells #[.int .i64 k, .map (some w.heap.size), .map (some (w.heap.size + 1)), .slice none 0 0] 57)
    rwa [z2] at this
  · refine f1.stay ?_
    rw [Below.heap_alloc _ _ _ (by omega), Below.heap_alloc _ _ _ (by omega)]
  · refine f2.stay ?_
    rw [Below.heap_alloc _ _ _ (by omega)]

set_option maxRecDepth 100000 in
theorem new_any (w : World) (room : Int) (h1 : room ≤ 9223372036854775807) (h2 : -9223372036854775808 ≤ room) :
    Calls Try.prog 8 #[.int .i64 room] w fun e w' => ∃ b, e = .returned (.pointer (some ⟨b, 0, none⟩)) ∧ DiskIs w' b (fun g => w.heap.size ≤ g) 0 (newM room) ∧ Chg (fun _ => False) w w' := by
  have hmm : ∀ v : World, (Instr.makeMap 54 none).run Try.prog v = .ok (.map (some v.heap.size)) (v.alloc (.map #[] 0)) := fun v => run_makeMap 54 v
  by_cases h0 : 0 ≤ room
  · obtain ⟨k, rfl⟩ : ∃ k : Nat, room = k := ⟨room.toNat, by omega⟩
    have hk : k ≤ 9223372036854775807 := by omega
    go_enter Try.func8, Try.ntmps8
    go_wp2
    go_ret
    exact ⟨_, rfl, new_rep w k hk, (((Chg.refl _ _).alloc _).alloc _).alloc _⟩
  · have e0 : newM room = ⟨0, [], [], []⟩ := by simp [newM]; omega
    rw [e0]
    have hm : max room 0 = 0 := by omega
    have hlt : room < 0 := by omega
    clear e0
    go_enter Try.func8, Try.ntmps8
    go_wp2
    go_ret
    exact ⟨_, rfl, new_rep w 0 (by omega), (((Chg.refl _ _).alloc _).alloc _).alloc _⟩
end
end Go.Proofs.Ytjflkmihkfbgpaa
