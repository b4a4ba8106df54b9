/- Walks: ReadFrame, of both. -/
import Derived.Test.YtlpianjighhelaaDoorCa
import Derived.Lib.QuietBelow
namespace Go.Proofs.YtlpianjighhelaaDoor
open Go.RowKit Mk Go.Sort

theorem Cod.hdr_read (l : List UInt8) (h8 : 8 ≤ l.length) (hx : Cod.big (l.take 4) ≤ l.length - 8) :
    Cod.hdr ((l.drop 8).take (Cod.big (l.take 4))) = l.take 4 ++ Cod.beL 4 (Crc.more 0 (l.take 4 ++ (l.drop 8).take (Cod.big (l.take 4)))) := by
  have h4 : (l.take 4).length = 4 := by simp; omega
  have hT : ((l.drop 8).take (Cod.big (l.take 4))).length = Cod.big (l.take 4) := by simp; omega
  have hb := (Cod.big_back (l.take 4) (by omega)).1
  rw [h4] at hb
  unfold Cod.hdr
  rw [hT, hb]
theorem Cod.take8 (l : List UInt8) : l.take 8 = l.take 4 ++ (l.drop 4).take 4 := by
  have := List.take_add (l := l) (i := 4) (j := 4)
  exact this

def rframeV (l : List UInt8) : Value := .tuple #[.string (str (Cod.rframe l).1), .string (str (Cod.rframe l).2.1), .int .i64 ((Cod.rframe l).2.2 : Nat)]
/-- What ReadFrame comes to, by the string's parts. -/
theorem rframe_parts (s : ByteArray) :
    (s.size < 8 → rframeV s.data.toList = .tuple #[.string ⟨#[]⟩, .string ⟨#[]⟩, .int .i64 20]) ∧
    (¬ s.size < 8 → ∀ x, Cod.big (s.extract 0 4).data.toList = x → (16777216 < x → rframeV s.data.toList = .tuple #[.string ⟨#[]⟩, .string ⟨#[]⟩, .int .i64 4]) ∧
      (¬ 16777216 < x → (s.size - 8 < x → rframeV s.data.toList = .tuple #[.string ⟨#[]⟩, .string ⟨#[]⟩, .int .i64 20]) ∧
        (¬ s.size - 8 < x → ∀ T, s.extract 8 (8 + x) = T → T.size = x ∧
          str (Cod.hdr T.data.toList) = s.extract 0 4 ++ str (Cod.beL 4 (Crc.more 0 (s.extract 0 4 ++ T).data.toList)) ∧
          (s.extract 0 8 = s.extract 0 4 ++ s.extract 4 8) ∧
          (str (Cod.hdr T.data.toList) ≠ s.extract 0 8 → rframeV s.data.toList = .tuple #[.string ⟨#[]⟩, .string ⟨#[]⟩, .int .i64 22]) ∧
          (str (Cod.hdr T.data.toList) = s.extract 0 8 → rframeV s.data.toList = .tuple #[.string T, .string (s.extract (8 + x) s.size), .int .i64 0])))) := by
  have hl := len_list s
  have e4 : (s.extract 0 4).data.toList = s.data.toList.take 4 := by rw [str_extract]; simp
  have e8 : s.extract 0 8 = str (s.data.toList.take 8) := by rw [str_extract]; simp
  have e48 : s.extract 4 8 = str ((s.data.toList.drop 4).take 4) := by rw [str_extract]
  have f4 : s.extract 0 4 = str (s.data.toList.take 4) := by rw [str_extract]; simp
  refine ⟨fun h => ?_, fun h8 x hx => ⟨fun h => ?_, fun hle => ⟨fun h => ?_, fun hfit T hT => ?_⟩⟩⟩
  · unfold rframeV Cod.rframe; rw [if_pos (by omega)]; rfl
  · rw [e4] at hx
    unfold rframeV Cod.rframe; rw [if_neg (by omega), hx, if_pos h]; rfl
  · rw [e4] at hx
    unfold rframeV Cod.rframe; rw [if_neg (by omega), hx, if_neg hle, if_pos (by omega)]; rfl
  · rw [e4] at hx
    have hTl : T.data.toList = (s.data.toList.drop 8).take x := by rw [← hT, str_extract]; simp
    have hr := Cod.hdr_read s.data.toList (by omega) (by omega)
    rw [hx, ← hTl] at hr
    have hTs : T.size = x := by
      have : T.data.toList.length = x := by rw [hTl]; simp; omega
      rwa [len_list] at this
    have ers : s.extract (8 + x) s.size = str (s.data.toList.drop (8 + x)) := by
      rw [str_extract, List.take_of_length_le (by rw [List.length_drop, hl]; omega)]
    have eT : str T.data.toList = T := str_self T
    refine ⟨hTs, ?_, ?_, fun h => ?_, fun h => ?_⟩
    · rw [hr, f4]
      apply ByteArray.ext
      apply Array.ext'
      simp [str]
    · rw [e8, f4, e48, Cod.take8]
      apply ByteArray.ext
      apply Array.ext'
      simp [str]
    · have hne : Cod.hdr T.data.toList ≠ s.data.toList.take 8 := fun e => h (by rw [e8, e])
      unfold rframeV Cod.rframe
      rw [if_neg (by omega), hx, if_neg hle, if_neg (by omega), ← hTl, if_pos hne]; rfl
    · have heq : Cod.hdr T.data.toList = s.data.toList.take 8 := by
        rw [e8] at h
        have := congrArg (fun b : ByteArray => b.data.toList) h
        simpa [str] using this
      unfold rframeV Cod.rframe
      rw [if_neg (by omega), hx, if_neg hle, if_neg (by omega), ← hTl, if_neg (by simpa using heq), ers]
      simp only
      rw [eT]; rfl
theorem regrown_below {P : Program} {f : FuncId} {args : Array Value} {v : Value} (w : World)
    (h : ∀ w, Calls P f args w fun e w' => e = .returned v ∧ Below w.heap.size w w') :
    ∀ (d : Nat) (os : Array Obj), Calls P f args (grow (redrawn w d) os) fun e w'' => e = .returned v ∧ ∃ p : Regrown, w'' = grow (redrawn w p.d) p.os :=
  fun d os => Calls.regrown_of (h _)
end Go.Proofs.YtlpianjighhelaaDoor
