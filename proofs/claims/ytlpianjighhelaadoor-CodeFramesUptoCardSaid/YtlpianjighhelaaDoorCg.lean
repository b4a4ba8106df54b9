/- Walks: Frames, of both. -/
import Derived.Test.YtlpianjighhelaaDoorO4
namespace Go.Proofs.YtlpianjighhelaaDoor
open Go.RowKit Mk

def frT (S : ByteArray) : ByteArray := str (Cod.rframe S.data.toList).1
def frE (S : ByteArray) : Nat := (Cod.rframe S.data.toList).2.2
def frR (S : ByteArray) : ByteArray := str (Cod.rframe S.data.toList).2.1
theorem fr_value (S : ByteArray) : rframeV S.data.toList = .tuple #[.string (frT S), .string (frR S), .int .i64 (frE S : Nat)] := rfl
theorem frT_size (S : ByteArray) : frE S = 0 → (frT S).size + 8 ≤ S.size := by
  unfold frE frT Cod.rframe
  have hl := len_list S
  intro h
  show (_ : List UInt8).length + 8 ≤ _
  split at h
  · simp at h
  · split at h
    · simp at h
    · split at h
      · simp at h
      · split at h
        · simp at h
        · rename_i h1 h2 h3 h4
          rw [if_neg h1, if_neg h2, if_neg h3, if_neg h4]
          simp only [List.length_take, List.length_drop]
          omega
/-- All frames that are whole, and why there is no further one. -/
def frGo (s : ByteArray) : Nat → Nat → List ByteArray → List ByteArray × Nat × Nat
  | 0, u, acc => (acc, u, 0)
  | f + 1, u, acc => if u < s.size then (if frE (s.extract u s.size) ≠ 0 then (acc, u, frE (s.extract u s.size)) else frGo s f (u + (8 + (frT (s.extract u s.size)).size)) (acc ++ [frT (s.extract u s.size)])) else (acc, u, 0)
def frames (s : ByteArray) : List ByteArray × Nat × Nat := frGo s s.size 0 []

/-- A slice of strings in new memory. -/
structure SS (w : World) (L : List ByteArray) (v : Value) (wr : World) : Prop where
  sl : sl wr 9 1 v L.length (L.map Value.string)
  below : Below w.heap.size w wr
  new : ∀ g, v.ownBlock = some g → w.heap.size ≤ g
theorem SS.nil (w wr : World) (hb : Below w.heap.size w wr) : SS w [] (.slice none 0 0) wr := ⟨sl_nil _ _ _, hb, fun g h => by simp [Value.ownBlock] at h⟩
theorem SS.stay {w : World} {L : List ByteArray} {v : Value} {wr w' : World} (H : SS w L v wr) (hb : Below wr.heap.size wr w') : SS w L v w' :=
  ⟨H.sl.stay (fun g hg => hb.block _ (H.sl.lt hg)), H.below.trans (hb.mono H.below.size), H.new⟩
theorem SS.alloc {w : World} {L : List ByteArray} {v : Value} {wr : World} (H : SS w L v wr) (o : Obj) : SS w L v (wr.alloc o) := H.stay ((Below.refl _ _).alloc (Nat.le_refl _) o)
theorem SS.grown {w : World} {L : List ByteArray} {v v' : Value} {wr w2 : World} {c : ByteArray} (H : SS w L v wr) (hsl : Mk.sl w2 9 1 v' (L.length + 1) (L.map Value.string ++ [.string c])) (hg : wr.grownBy w2 v.ownBlock) (hat : v'.ownBlock = v.ownBlock ∨ v'.ownBlock = some wr.heap.size) :
    SS w (L ++ [c]) v' w2 := by
  refine ⟨by simpa using hsl, ?_, ?_⟩
  · have h1 : Chg (fun g => w.heap.size ≤ g) wr w2 := (Chg.refl _ wr).grown hg (fun i hi => Or.inl (H.new i hi))
    exact H.below.trans (h1.below (fun _ h => h) H.below.size)
  · intro g h
    rcases hat with e | e
    · exact H.new g (e ▸ h)
    · rw [e] at h
      cases h
      exact H.below.size
theorem SS.shape {w : World} {L : List ByteArray} {v : Value} {wr : World} (H : SS w L v wr) : ∃ ao n cap, v = .slice ao n cap := by
  rcases H.sl.2 with ⟨rfl, h⟩ | ⟨g, cap, cur, rfl, _⟩
  · exact ⟨none, 0, 0, rfl⟩
  · exact ⟨_, _, _, rfl⟩
theorem info9 : (Tryd.prog.info? 9).map (fun i => (i.zero, i.size, i.bytes)) = some (some (.string ⟨#[]⟩), 1, 16) := by kernel_rfl
theorem info9b : ∃ i z, Tryd.prog.info? 9 = some i ∧ i.zero = some z ∧ i.size = 1 ∧ i.bytes = 16 ∧ z.cells.size = 1 := by
  obtain ⟨i, hi, hzz⟩ := Option.map_eq_some_iff.1 info9
  simp only [Prod.mk.injEq] at hzz
  exact ⟨i, _, hi, hzz.1, hzz.2.1, hzz.2.2, rfl⟩

set_option maxRecDepth 100000 in
set_option maxHeartbeats 2000000 in
theorem frames_any (s : ByteArray) (hs : s.size ≤ 1048576) (w : World) :
    Calls Tryd.prog 24 #[.string s] w fun e w' => ∃ v, e = .returned (.tuple #[v, .int .i64 ((frames s).2.1 : Nat), .int .i64 ((frames s).2.2 : Nat)]) ∧ SS w (frames s).1 v w' := by
  obtain ⟨i9, z9, hi9, hz9, hsz9, hby9, hzs9⟩ := info9b
  obtain ⟨K, hK⟩ : ∃ K, frames s = K := ⟨_, rfl⟩
  have HK := Lib.hid hK
  rw [hK]
  clear hK
  go_enter Tryd.func24, Tryd.ntmps24
  go_wp2
  go_loopw [2, 3] (fun b i wr => ∃ (u f : Nat) (ao : Option Addr) (n cap : Nat) (acc : List ByteArray), u ≤ s.size ∧ b = .slice ao n cap ∧ i = .int .i64 u ∧ acc.length ≤ u ∧ s.size - u ≤ f ∧ Hid (SS w acc (.slice ao n cap) wr ∧ frGo s f u acc = K)) (fun _ i _ => s.size - (intOf i).toNat)
  case atStart => exact ⟨0, s.size, none, 0, 0, [], by omega, rfl, rfl, by simp, by omega, Lib.hid ⟨SS.nil _ _ (Below.refl _ _), HK.out⟩⟩
  case round =>
    obtain ⟨u, f, ao, n, cap, acc, hu, rfl, rfl, hacc, hf, HS⟩ := hrel
    by_cases hlt : u < s.size
    · have hd : decide (u < s.size) = true := by simpa using hlt
      obtain ⟨f', rfl⟩ : ∃ f', f = f' + 1 := ⟨f - 1, by omega⟩
      have hG := HS.out.2
      unfold frGo at hG
      rw [if_pos hlt] at hG
      obtain ⟨S, hS⟩ : ∃ S, s.extract u s.size = S := ⟨_, rfl⟩
      have hSz : S.size = s.size - u := by rw [← hS, ByteArray.size_extract]; omega
      have RF := Lib.hid (fun w => readFrame_any S (by unfold maxLen; omega) w)
      have hv := fr_value S
      rw [hv] at RF
      have hroom := frT_size S
      rw [hS] at hG
      generalize frT S = T at *
      generalize frE S = er at *
      clear hv
      by_cases he : er = 0
      · subst he
        rw [if_neg (by simp)] at hG
        have hT := hroom rfl
        have HG := Lib.hid hG
        have g1 : IntKind.i64.wrap (8 + (T.size : Int)) = 8 + (T.size : Int) := by simp only [IntKind.wrap, IntKind.bits, IntKind.signed]; simp; omega
        have g2 : IntKind.i64.wrap ((u : Int) + (8 + (T.size : Int))) = (u : Int) + (8 + (T.size : Int)) := by simp only [IntKind.wrap, IntKind.bits, IntKind.signed]; simp; omega
        have g3 : IntKind.i64.wrap ((u : Int) + 8) = (u : Int) + 8 := by simp only [IntKind.wrap, IntKind.bits, IntKind.signed]; simp; omega
        have g4 : IntKind.i64.wrap ((u : Int) + 8 + (T.size : Int)) = (u : Int) + 8 + (T.size : Int) := by simp only [IntKind.wrap, IntKind.bits, IntKind.signed]; simp; omega
        clear hG hroom
        go_wp2_with fail
        refine (RF.out _).mono ?_
        rintro e w1 ⟨rfl, hb1⟩
        have H1 := Lib.hid ((HS.out.1.stay hb1).alloc (.cells #[.string T] 9))
        clear hb1
        go_wp2_with (refine wpList_append_sl (by rfl) _ _ 41 (by rfl) 9 i9 z9 1 16 Tryd.underlying41 hi9 hz9 hsz9 hby9 hzs9 (by decide) (.slice ao n cap) acc.length (acc.map Value.string) (by rfl) H1.out.sl (some ⟨w1.heap.size, 0, none⟩) 1 1 [.string T] (by rfl) (by rfl) (fun _ => ⟨_, rfl, cell_new_one (Go.heap_alloc_new _ _)⟩) (fun h => absurd h (by decide)) (by simp [Value.oneCell']) (by simp only [maxLen]; omega) (by omega) ?_; intro v' w2 hsl hgrow hat; have H2 := H1.out.grown hsl hgrow hat; obtain ⟨ao2, n2, cap2, rfl⟩ := H2.shape; have H5 := Lib.hid H2; clear hsl hgrow hat H1 H2)
        go_round
        case rel => exact ⟨u + (8 + T.size), f', ao2, n2, cap2, acc ++ [T], by omega, rfl, by go_num, by simp; omega, by omega, Lib.hid ⟨H5.out, HG.out⟩⟩
        case measure => simp [intOf]; omega
      · rw [if_pos (by simpa using he)] at hG
        have q1 : decide ((er : Int) = 0) = false := by simp; omega
        have q2 : ((er : Int) == 0) = false := by rw [beq_eq_false_iff_ne]; omega
        have q3 : ((er : Int) != 0) = true := by rw [bne_iff_ne]; omega
        have HG := Lib.hid hG
        clear hG hroom
        go_wp2_with fail
        refine (RF.out _).mono ?_
        rintro e w1 ⟨rfl, hb1⟩
        have H1 := Lib.hid (HS.out.1.stay hb1)
        clear hb1
        go_wp2
        go_ret3
        refine ⟨.slice ao n cap, ?_, ?_⟩
        · rw [← HG.out]; rfl
        · rw [← HG.out]; exact H1.out
    · have hd : decide (u < s.size) = false := by simpa using hlt
      have hG : (acc, u, 0) = K := by
        have := HS.out.2
        cases f with
        | zero => exact this
        | succ f => unfold frGo at this; rw [if_neg hlt] at this; exact this
      have HG := Lib.hid hG
      clear hG
      go_wp2
      go_ret3
      refine ⟨.slice ao n cap, ?_, ?_⟩
      · rw [← HG.out]; rfl
      · rw [← HG.out]; exact HS.out.1

set_option maxRecDepth 100000 in
set_option maxHeartbeats 2000000 in
theorem rframes_any (s : ByteArray) (hs : s.size ≤ 1048576) (w : World) :
    Calls Tryd.prog 25 #[.string s] w fun e w' => ∃ v, e = .returned (.tuple #[v, .int .i64 ((frames s).2.1 : Nat), .int .i64 ((frames s).2.2 : Nat)]) ∧ SS w (frames s).1 v w' := by
  obtain ⟨i9, z9, hi9, hz9, hsz9, hby9, hzs9⟩ := info9b
  obtain ⟨K, hK⟩ : ∃ K, frames s = K := ⟨_, rfl⟩
  have HK := Lib.hid hK
  rw [hK]
  clear hK
  go_enter Tryd.func25, Tryd.ntmps25
  go_wp2
  go_loopw [5, 6] (fun b i wr => ∃ (u f : Nat) (ao : Option Addr) (n cap : Nat) (acc : List ByteArray), u ≤ s.size ∧ b = .slice ao n cap ∧ i = .int .i64 u ∧ acc.length ≤ u ∧ s.size - u ≤ f ∧ Hid (SS w acc (.slice ao n cap) wr ∧ frGo s f u acc = K)) (fun _ i _ => s.size - (intOf i).toNat)
  case atStart => exact ⟨0, s.size, none, 0, 0, [], by omega, rfl, rfl, by simp, by omega, Lib.hid ⟨SS.nil _ _ (Below.refl _ _), HK.out⟩⟩
  case round =>
    obtain ⟨u, f, ao, n, cap, acc, hu, rfl, rfl, hacc, hf, HS⟩ := hrel
    by_cases hlt : u < s.size
    · have hd : decide (u < s.size) = true := by simpa using hlt
      obtain ⟨f', rfl⟩ : ∃ f', f = f' + 1 := ⟨f - 1, by omega⟩
      have hG := HS.out.2
      unfold frGo at hG
      rw [if_pos hlt] at hG
      obtain ⟨S, hS⟩ : ∃ S, s.extract u s.size = S := ⟨_, rfl⟩
      have hSz : S.size = s.size - u := by rw [← hS, ByteArray.size_extract]; omega
      have RF := Lib.hid (fun w => rreadFrame_any S (by unfold maxLen; omega) w)
      have hv := fr_value S
      rw [hv] at RF
      have hroom := frT_size S
      rw [hS] at hG
      generalize frT S = T at *
      generalize frE S = er at *
      clear hv
      by_cases he : er = 0
      · subst he
        rw [if_neg (by simp)] at hG
        have hT := hroom rfl
        have HG := Lib.hid hG
        have g1 : IntKind.i64.wrap (8 + (T.size : Int)) = 8 + (T.size : Int) := by simp only [IntKind.wrap, IntKind.bits, IntKind.signed]; simp; omega
        have g2 : IntKind.i64.wrap ((u : Int) + (8 + (T.size : Int))) = (u : Int) + (8 + (T.size : Int)) := by simp only [IntKind.wrap, IntKind.bits, IntKind.signed]; simp; omega
        have g3 : IntKind.i64.wrap ((u : Int) + 8) = (u : Int) + 8 := by simp only [IntKind.wrap, IntKind.bits, IntKind.signed]; simp; omega
        have g4 : IntKind.i64.wrap ((u : Int) + 8 + (T.size : Int)) = (u : Int) + 8 + (T.size : Int) := by simp only [IntKind.wrap, IntKind.bits, IntKind.signed]; simp; omega
        clear hG hroom
        go_wp2_with fail
        refine (RF.out _).mono ?_
        rintro e w1 ⟨rfl, hb1⟩
        have H1 := Lib.hid ((HS.out.1.stay hb1).alloc (.cells #[.string T] 9))
        clear hb1
        go_wp2_with (refine wpList_append_sl (by rfl) _ _ 41 (by rfl) 9 i9 z9 1 16 Tryd.underlying41 hi9 hz9 hsz9 hby9 hzs9 (by decide) (.slice ao n cap) acc.length (acc.map Value.string) (by rfl) H1.out.sl (some ⟨w1.heap.size, 0, none⟩) 1 1 [.string T] (by rfl) (by rfl) (fun _ => ⟨_, rfl, cell_new_one (Go.heap_alloc_new _ _)⟩) (fun h => absurd h (by decide)) (by simp [Value.oneCell']) (by simp only [maxLen]; omega) (by omega) ?_; intro v' w2 hsl hgrow hat; have H2 := H1.out.grown hsl hgrow hat; obtain ⟨ao2, n2, cap2, rfl⟩ := H2.shape; have H5 := Lib.hid H2; clear hsl hgrow hat H1 H2)
        go_round
        case rel => exact ⟨u + (8 + T.size), f', ao2, n2, cap2, acc ++ [T], by omega, rfl, by go_num, by simp; omega, by omega, Lib.hid ⟨H5.out, HG.out⟩⟩
        case measure => simp [intOf]; omega
      · rw [if_pos (by simpa using he)] at hG
        have q1 : decide ((er : Int) = 0) = false := by simp; omega
        have q2 : ((er : Int) == 0) = false := by rw [beq_eq_false_iff_ne]; omega
        have q3 : ((er : Int) != 0) = true := by rw [bne_iff_ne]; omega
        have HG := Lib.hid hG
        clear hG hroom
        go_wp2_with fail
        refine (RF.out _).mono ?_
        rintro e w1 ⟨rfl, hb1⟩
        have H1 := Lib.hid (HS.out.1.stay hb1)
        clear hb1
        go_wp2
        go_ret3
        refine ⟨.slice ao n cap, ?_, ?_⟩
        · rw [← HG.out]; rfl
        · rw [← HG.out]; exact H1.out
    · have hd : decide (u < s.size) = false := by simpa using hlt
      have hG : (acc, u, 0) = K := by
        have := HS.out.2
        cases f with
        | zero => exact this
        | succ f => unfold frGo at this; rw [if_neg hlt] at this; exact this
      have HG := Lib.hid hG
      clear hG
      go_wp2
      go_ret3
      refine ⟨.slice ao n cap, ?_, ?_⟩
      · rw [← HG.out]; rfl
      · rw [← HG.out]; exact HS.out.1
end Go.Proofs.YtlpianjighhelaaDoor
