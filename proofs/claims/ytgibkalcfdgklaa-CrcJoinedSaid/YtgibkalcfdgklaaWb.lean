/- The walk of CrcJoined. -/
import Derived.Test.YtgibkalcfdgklaaWa
import Derived.Lib.QuietBelow
import Derived.Deep.OwnRows
namespace Go.Proofs.Ytgibkalcfdgklaa
open Go.RowKit Go.Sort

theorem info5 : (Try.prog.info? 5).map (fun i => (i.zero, i.size, i.bytes)) = some (some (.int .u8 0), 1, 1) := by kernel_rfl

/-- A contract that ends in 'Below', in every world of the class. -/
theorem regrown_all {P : Program} {f : FuncId} {args : Array Value} {v : Value} (w : World)
    (h : ∀ w, Calls P f args w fun e w' => e = .returned v ∧ Below w.heap.size w w') :
    ∀ (d : Nat) (os : Array Obj), Calls P f args (grow (redrawn w d) os) fun e w'' => e = .returned v ∧ ∃ p : Regrown, w'' = grow (redrawn w p.d) p.os :=
  fun d os => Calls.regrown_of (h _)

theorem regrown_same {P : Program} {f : FuncId} {args : Array Value} {v : Value} (w : World)
    (h : ∀ w, Calls P f args w fun e w' => e = .returned v ∧ w = w') :
    ∀ (d : Nat) (os : Array Obj), Calls P f args (grow (redrawn w d) os) fun e w'' => e = .returned v ∧ ∃ p : Regrown, w'' = grow (redrawn w p.d) p.os :=
  fun d os => (h _).mono fun _ _ ⟨he, hw⟩ => ⟨he, ⟨⟨d, os⟩, hw.symm⟩⟩

theorem madeCells_one (z : Value) (n j : Nat) (h : j < n) : (madeCells #[z] n)[j]? = some z := by
  simp [madeCells, h, Nat.mod_one]

theorem app_toList (a b : ByteArray) : (a ++ b).data.toList = a.data.toList ++ b.data.toList := by simp [ByteArray.data_append]

set_option maxHeartbeats 2000000 in
theorem walkCrcJoined (a0 : ByteArray) (a1 : ByteArray) (a2 : Int) (w0 : a0.size ≤ 140737488351232) (w1 : a1.size ≤ 140737488351232) (w2 : (Lit.int .i64 a2).wf = true) (w : World) :
    Calls Try.prog 7 #[.string a0, .string a1, .int .i64 a2] w fun e w' => e = .returned (.bool true) ∧ Below w.heap.size w w' := by
  obtain ⟨m, hm, e1⟩ : ∃ m : Nat, m ≤ 255 ∧ bits .and .i64 a2 255 = m := and_i64 a2 255 (by decide)
  have hs0 : a0.size ≤ maxLen := by unfold maxLen; omega
  have hs1 : a1.size ≤ maxLen := by unfold maxLen; omega
  have hsz : (a0 ++ a1).size = a0.size + a1.size := ByteArray.size_append
  have hsab : (a0 ++ a1).size ≤ maxLen := by rw [hsz]; unfold maxLen; omega
  obtain ⟨zs, hzs⟩ : ∃ zs : ByteArray, zs = ⟨(List.replicate m (0 : UInt8)).toArray⟩ := ⟨_, rfl⟩
  have hzsz : zs.size = m := by rw [hzs, str_size]; simp
  have hzz : (a0 ++ zs).size = a0.size + zs.size := ByteArray.size_append
  have hsaz : (a0 ++ zs).size ≤ maxLen := by rw [hzz, hzsz]; unfold maxLen; omega
  have hA : Crc.more 0 a0.data.toList < 4294967296 := Crc.more_lt _ (by decide)
  have hBl : Crc.more 0 a1.data.toList < 4294967296 := Crc.more_lt _ (by decide)
  have q1 : Crc.more (Crc.more 0 a0.data.toList) a1.data.toList = Crc.more 0 (a0 ++ a1).data.toList := by rw [app_toList]; exact Crc.more_append _ _ _
  have q2 : Crc.shift (Crc.more 0 a0.data.toList) ((a1.size : Int)).toNat ^^^ Crc.more 0 a1.data.toList = Crc.more 0 (a0 ++ a1).data.toList := by
    rw [app_toList, Int.toNat_natCast, ← len_eq a1]; exact Crc.join_eq _ _
  have q3 : nou (Crc.more 0 a0.data.toList) (m : Int) = Crc.more 0 (a0 ++ zs).data.toList := by
    unfold nou
    rw [app_toList, Int.toNat_natCast, hzs]; exact Crc.noughts_eq _ _
  -- the contracts, in whatever world of the class
  have hmk := run_make_row' (P := Try.prog) 33 5 (.int .u8 0) 1 Try.underlying33 info5 rfl .i64 .i64 m (by omega) (by omega)
  obtain ⟨W, hW⟩ : ∃ W, W = w.alloc (.cells (madeCells #[Value.int .u8 0] m) 5) := ⟨_, rfl⟩
  have c8a := regrown_same W (fun w => of_any a0 hs0 w)
  have c8b := regrown_same W (fun w => of_any a1 hs1 w)
  have c10 := regrown_same W (fun w => more_any _ a1 hA hs1 w)
  rw [q1] at c10
  have c8ab := regrown_same W (fun w => of_any (a0 ++ a1) hsab w)
  have c8az := regrown_same W (fun w => of_any (a0 ++ zs) hsaz w)
  have c19 := regrown_all W (fun w => join_any _ _ (a1.size : Int) hA hBl (WalkArith.wf_i64 (by omega)) w)
  rw [q2] at c19
  have c17 := regrown_all W (fun w => noughts_any _ (m : Int) hA (WalkArith.wf_i64 (by omega)) w)
  rw [q3] at c17
  have c12 := regrown_all W (fun w => alive_any w)
  have hcv : ∀ (d : Nat) (os : Array Obj), (convert 33 9 (.slice (some ⟨w.heap.size, 0, none⟩) m m)).run Try.prog (grow (redrawn W d) os) = .ok (.string zs) (grow (redrawn W d) os) := by
    intro d os
    have h := run_convert_bytes_back (P := Try.prog) (grow (redrawn W d) os) 33 9 5 ⟨w.heap.size, 0, none⟩ m (List.replicate m (0 : UInt8)) Try.underlying33 Try.underlying5 Try.underlying9 (fun j hj => by
      have hj' : j < m := by simpa using hj
      have hc : W.cell? ⟨w.heap.size, j, none⟩ = some (Value.int .u8 0) := by
        rw [hW, World.cell?_alloc_new]; exact madeCells_one _ _ _ hj'
      have := cell_regrown hc d os
      by_cases h0 : j = 0
      · subst h0; simpa [Addr.add] using this
      · simpa [Addr.add, h0] using this)
    rw [List.length_replicate] at h
    rw [h, hzs]
  have HW := Lib.hid hW
  have k1 : ¬ 9223372036854775807 < a0.size + a1.size := by omega
  have k2 : ¬ 9223372036854775807 < a0.size + zs.size := by omega
  clear q1 q2 q3 hsz hzz hzs hsab hsaz hA hBl hs0 hs1
  clear hW
  have HZ := Lib.hid hzsz
  clear hzsz
  go_enter Try.func7, Try.ntmps7
  go_wp2_with fail
  rw [← HW.out]
  clear hmk e1
  refine wp_region_quiet_below (by kernel_rfl) (by kernel_rfl) ?_
  repeat (quiet_step (first | exact c8a _ _ | exact c10 _ _ | exact c8ab _ _ | exact c8b _ _ | exact c19 _ _ | exact c17 _ _ | exact c8az _ _ | exact c12 _ _))
  refine wpQuiet_nil ?_
  intro _ hw'
  obtain ⟨⟨dq, osq⟩, hw''⟩ := hw'
  subst hw''
  go_wp2
  go_ret
  have hbW : Below w.heap.size w W := by rw [HW.out]; exact (Below.refl _ _).alloc (Nat.le_refl _) _
  exact ⟨rfl, hbW.trans ((below_regrown W dq osq).mono hbW.size)⟩
end Go.Proofs.Ytgibkalcfdgklaa
