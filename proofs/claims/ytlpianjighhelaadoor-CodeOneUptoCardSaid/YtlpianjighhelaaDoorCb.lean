/- Walks: the document's Key. -/
import Derived.Test.YtlpianjighhelaaDoorCa
namespace Go.Proofs.YtlpianjighhelaaDoor
open Go.RowKit Mk

/-- A slice of bytes in new memory. -/
structure BS (w : World) (L : List UInt8) (v : Value) (wr : World) : Prop where
  sl : sl wr 5 1 v L.length (L.map B)
  below : Below w.heap.size w wr
  new : ∀ g, v.ownBlock = some g → w.heap.size ≤ g
theorem BS.nil (w wr : World) (hb : Below w.heap.size w wr) : BS w [] (.slice none 0 0) wr := ⟨sl_nil _ _ _, hb, fun g h => by simp [Value.ownBlock] at h⟩
theorem BS.stay {w : World} {L : List UInt8} {v : Value} {wr w' : World} (H : BS w L v wr) (hb : Below wr.heap.size wr w') : BS w L v w' :=
  ⟨H.sl.stay (fun g hg => hb.block _ (H.sl.lt hg)), H.below.trans (hb.mono H.below.size), H.new⟩
theorem BS.alloc {w : World} {L : List UInt8} {v : Value} {wr : World} (H : BS w L v wr) (o : Obj) : BS w L v (wr.alloc o) := H.stay ((Below.refl _ _).alloc (Nat.le_refl _) o)
theorem BS.grown {w : World} {L : List UInt8} {v v' : Value} {wr w2 : World} {c : UInt8} (H : BS w L v wr) (hsl : Mk.sl w2 5 1 v' (L.length + 1) (L.map B ++ [B c])) (hg : wr.grownBy w2 v.ownBlock) (hat : v'.ownBlock = v.ownBlock ∨ v'.ownBlock = some wr.heap.size) :
    BS w (L ++ [c]) v' w2 := by
  refine ⟨by simpa using hsl, ?_, ?_⟩
  · have h1 : Chg (fun g => w.heap.size ≤ g) wr w2 := (Chg.refl _ wr).grown hg (fun i hi => Or.inl (H.new i hi))
    exact H.below.trans (h1.below (fun _ h => h) H.below.size)
  · intro g h
    rcases hat with e | e
    · exact H.new g (e ▸ h)
    · rw [e] at h
      cases h
      exact H.below.size
theorem BS.shape {w : World} {L : List UInt8} {v : Value} {wr : World} (H : BS w L v wr) : ∃ ao n cap, v = .slice ao n cap := by
  rcases H.sl.2 with ⟨rfl, h⟩ | ⟨g, cap, cur, rfl, _⟩
  · exact ⟨none, 0, 0, rfl⟩
  · exact ⟨_, _, _, rfl⟩
theorem BS.back {w : World} {L : List UInt8} {v : Value} {wr : World} (H : BS w L v wr) (h0 : 0 < L.length) : (convert 55 9 v).run Tryd.prog wr = .ok (.string (str L)) wr := by
  rcases H.sl.2 with ⟨-, h⟩ | ⟨g, cap, cur, rfl, hg, hn, hc, hs, ht⟩
  · omega
  · exact run_convert_bytes_back (P := Tryd.prog) wr 55 9 5 ⟨g, 0, none⟩ cap L Tryd.underlying55 Tryd.underlying5 Tryd.underlying9 (fun i hi => by
      have hg' : cur[i]? = some (B L[i]) := by
        have e1 : (cur.toList.take (L.length * 1))[i]? = (L.map B)[i]? := by rw [ht]
        rw [List.getElem?_take, if_pos (by omega), List.getElem?_map, List.getElem?_eq_getElem hi] at e1
        simpa using e1
      have hcl : wr.cell? ⟨g, i, none⟩ = some (B L[i]) := cell_of hg hg'
      by_cases h0 : i = 0
      · subst h0; exact hcl
      · simpa [Addr.add, h0, B] using hcl)
theorem info5b : ∃ i z, Tryd.prog.info? 5 = some i ∧ i.zero = some z ∧ i.size = 1 ∧ i.bytes = 1 ∧ z.cells.size = 1 := by
  obtain ⟨i, hi, hzz⟩ := Option.map_eq_some_iff.1 info5
  simp only [Prod.mk.injEq] at hzz
  exact ⟨i, _, hi, hzz.1, hzz.2.1, hzz.2.2, rfl⟩

set_option maxRecDepth 100000 in
set_option maxHeartbeats 1000000 in
theorem rkey_any (s : ByteArray) (hs : s.size ≤ 1099511627776) (w : World) :
    Calls Tryd.prog 19 #[.string s] w fun e w' => e = .returned (.string (str (Cod.key s.data.toList))) ∧ Below w.heap.size w w' := by
  obtain ⟨i5, z5, hi5, hz5, hsz5, hby5, hzs5⟩ := info5b
  obtain ⟨R, hR⟩ : ∃ R, str (Cod.key s.data.toList) = R := ⟨_, rfl⟩
  rw [hR]
  have HR := Lib.hid hR
  clear hR
  go_enter Tryd.func19, Tryd.ntmps19
  go_wp2
  go_loopw [3, 4] (fun b i wr => ∃ (k : Nat) (ao : Option Addr) (n cap : Nat), k ≤ s.size ∧ b = .slice ao n cap ∧ i = .int .i64 k ∧ Hid (BS w (Cod.keyB (s.data.toList.take k)) (.slice ao n cap) wr)) (fun _ i _ => s.size - (intOf i).toNat)
  case atStart => exact ⟨0, none, 0, 0, by omega, rfl, rfl, Lib.hid (BS.nil _ _ (Below.refl _ _))⟩
  case round =>
    obtain ⟨k, ao, n, cap, hk, rfl, rfl, HS⟩ := hrel
    by_cases hlt : k < s.size
    · have hd : decide (k < s.size) = true := by simpa using hlt
      have hts := take_snoc s k hlt
      have hlen := Cod.keyB_len (s.data.toList.take k)
      rw [List.length_take, len_list] at hlen
      have hmin : min k s.size = k := by omega
      rw [hmin] at hlen
      obtain ⟨L, hL⟩ : ∃ L, Cod.keyB (s.data.toList.take k) = L := ⟨_, rfl⟩
      rw [hL] at HS hlen
      by_cases h0 : s[k].toNat = 0
      · have HN' := Lib.hid (show Cod.keyB (s.data.toList.take (k + 1)) = L ++ [0] ++ [255] by
          have e0 : s[k] = 0 := UInt8.toNat_inj.1 (by simpa using h0)
          rw [hts, ← hL, e0]; simp [Cod.keyB, Cod.keyC])
        have hz : ((s[k].toNat : Nat) : Int) = 0 := by omega
        have H1 := Lib.hid (HS.out.alloc (.cells #[.int .u8 0] 5))
        clear hts hL
        go_wp2_with (first | (refine wpList_append_sl (by rfl) _ _ 55 (by rfl) 5 i5 z5 1 1 Tryd.underlying55 hi5 hz5 hsz5 hby5 hzs5 (by decide) (.slice ao n cap) L.length (L.map B) (by rfl) H1.out.sl (some ⟨wr.heap.size, 0, none⟩) 1 1 [.int .u8 0] (by rfl) (by rfl) (fun _ => ⟨_, rfl, cell_new_one (Go.heap_alloc_new _ _)⟩) (fun h => absurd h (by decide)) (by simp [Value.oneCell']) (by simp only [maxLen]; (try simp only [List.length_append, List.length_cons, List.length_nil]); omega) (by (try simp only [List.length_append, List.length_cons, List.length_nil]); omega) ?_; intro v' w2 hsl hgrow hat; have H2 := H1.out.grown (c := 0) hsl hgrow hat; obtain ⟨ao2, n2, cap2, rfl⟩ := H2.shape; have H3 := Lib.hid (H2.alloc (.cells #[.int .u8 255] 5)); clear hsl hgrow hat H1 H2) | (refine wpList_append_sl (by rfl) _ _ 55 (by rfl) 5 i5 z5 1 1 Tryd.underlying55 hi5 hz5 hsz5 hby5 hzs5 (by decide) (.slice ao2 n2 cap2) (L ++ [0]).length ((L ++ [0]).map B) (by rfl) H3.out.sl (some ⟨w2.heap.size, 0, none⟩) 1 1 [.int .u8 255] (by rfl) (by rfl) (fun _ => ⟨_, rfl, cell_new_one (Go.heap_alloc_new _ _)⟩) (fun h => absurd h (by decide)) (by simp [Value.oneCell']) (by simp only [maxLen]; (try simp only [List.length_append, List.length_cons, List.length_nil]); omega) (by (try simp only [List.length_append, List.length_cons, List.length_nil]); omega) ?_; intro v' w3 hsl hgrow hat; have H4 := H3.out.grown (c := 255) hsl hgrow hat; obtain ⟨ao4, n4, cap4, rfl⟩ := H4.shape; have H5 := Lib.hid H4; clear hsl hgrow hat H4 H3))
        go_round
        case rel => exact ⟨k + 1, ao4, _, cap4, by omega, rfl, by go_num, by rw [HN'.out]; exact H5⟩
        case measure => simp [intOf]; omega
      · have HN' := Lib.hid (show Cod.keyB (s.data.toList.take (k + 1)) = L ++ [s[k]] by
          have e0 : s[k] ≠ 0 := fun e => h0 (by rw [e]; rfl)
          rw [hts, ← hL]; simp [Cod.keyB, Cod.keyC, e0])
        have q0 : decide ((s[k].toNat : Int) = 0) = false := by simp; omega
        have H1 := Lib.hid (HS.out.alloc (.cells #[.int .u8 (s[k].toNat : Int)] 5))
        clear hts hL
        go_wp2_with (refine wpList_append_sl (by rfl) _ _ 55 (by rfl) 5 i5 z5 1 1 Tryd.underlying55 hi5 hz5 hsz5 hby5 hzs5 (by decide) (.slice ao n cap) L.length (L.map B) (by rfl) H1.out.sl (some ⟨wr.heap.size, 0, none⟩) 1 1 [.int .u8 (s[k].toNat : Int)] (by rfl) (by rfl) (fun _ => ⟨_, rfl, cell_new_one (Go.heap_alloc_new _ _)⟩) (fun h => absurd h (by decide)) (by simp [Value.oneCell']) (by simp only [maxLen]; (try simp only [List.length_append, List.length_cons, List.length_nil]); omega) (by (try simp only [List.length_append, List.length_cons, List.length_nil]); omega) ?_; intro v' w2 hsl hgrow hat; have H2 := H1.out.grown (c := s[k]) hsl hgrow hat; obtain ⟨ao2, n2, cap2, rfl⟩ := H2.shape; have H5 := Lib.hid H2; clear hsl hgrow hat H1 H2)
        go_round
        case rel => exact ⟨k + 1, ao2, _, cap2, by omega, rfl, by go_num, by rw [HN'.out]; exact H5⟩
        case measure => simp [intOf]; omega
    · have hke : k = s.size := by omega
      subst hke
      have hd : decide (s.size < s.size) = false := by simp
      rw [take_all] at HS
      have hlen := Cod.keyB_len s.data.toList
      rw [len_list] at hlen
      unfold Cod.key at HR
      obtain ⟨L, hL⟩ : ∃ L, Cod.keyB s.data.toList = L := ⟨_, rfl⟩
      rw [hL] at HS hlen HR
      have H1 := Lib.hid (HS.out.alloc (.cells #[.int .u8 0] 5))
      go_wp2_with (first | (refine wpList_append_sl (by rfl) _ _ 55 (by rfl) 5 i5 z5 1 1 Tryd.underlying55 hi5 hz5 hsz5 hby5 hzs5 (by decide) (.slice ao n cap) L.length (L.map B) (by rfl) H1.out.sl (some ⟨wr.heap.size, 0, none⟩) 1 1 [.int .u8 0] (by rfl) (by rfl) (fun _ => ⟨_, rfl, cell_new_one (Go.heap_alloc_new _ _)⟩) (fun h => absurd h (by decide)) (by simp [Value.oneCell']) (by simp only [maxLen]; (try simp only [List.length_append, List.length_cons, List.length_nil]); omega) (by (try simp only [List.length_append, List.length_cons, List.length_nil]); omega) ?_; intro v' w2 hsl hgrow hat; have H2 := H1.out.grown (c := 0) hsl hgrow hat; obtain ⟨ao2, n2, cap2, rfl⟩ := H2.shape; have H3 := Lib.hid (H2.alloc (.cells #[.int .u8 1] 5)); clear hsl hgrow hat H1 H2) | (refine wpList_append_sl (by rfl) _ _ 55 (by rfl) 5 i5 z5 1 1 Tryd.underlying55 hi5 hz5 hsz5 hby5 hzs5 (by decide) (.slice ao2 n2 cap2) (L ++ [0]).length ((L ++ [0]).map B) (by rfl) H3.out.sl (some ⟨w2.heap.size, 0, none⟩) 1 1 [.int .u8 1] (by rfl) (by rfl) (fun _ => ⟨_, rfl, cell_new_one (Go.heap_alloc_new _ _)⟩) (fun h => absurd h (by decide)) (by simp [Value.oneCell']) (by simp only [maxLen]; (try simp only [List.length_append, List.length_cons, List.length_nil]); omega) (by (try simp only [List.length_append, List.length_cons, List.length_nil]); omega) ?_; intro v' w3 hsl hgrow hat; have H4 := H3.out.grown (c := 1) hsl hgrow hat; obtain ⟨ao4, n4, cap4, rfl⟩ := H4.shape; have H5 := Lib.hid H4; have hcv := H4.back (by simp); have e : str (L ++ [0] ++ [1]) = R := (by rw [← HR.out, List.append_assoc]; rfl); rw [e] at hcv; clear hsl hgrow hat H4 H3 e))
      go_ret
      exact ⟨rfl, H5.out.below⟩
end Go.Proofs.YtlpianjighhelaaDoor
