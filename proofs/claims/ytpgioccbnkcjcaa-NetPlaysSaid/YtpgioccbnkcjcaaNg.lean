/- Walks: Index, Contains, IndexFunc, ContainsFunc over ints; Part's closure. -/
import Derived.Test.YtpgioccbnkcjcaaNe
namespace Go.Proofs.Ytpgioccbnkcjcaa
open Go.RowKit Mk

/-- The slice v has these ints. -/
structure IntsAt (w : World) (so : Option Addr) (xs : List Int) : Prop where
  ok : ∀ x ∈ xs, i64 x
  len : xs.length ≤ 9223372036854775807
  cell : ∀ i (h : i < xs.length), ∃ g o, so = some ⟨g, o, none⟩ ∧ g < w.heap.size ∧ w.cell? ⟨g, o + i, none⟩ = some (.int .i64 xs[i])
theorem IntsAt.stay {w w' : World} {so : Option Addr} {xs : List Int} (h : IntsAt w so xs) (hs : ∀ g, g < w.heap.size → w'.heap[g]? = w.heap[g]?) (hz : w.heap.size ≤ w'.heap.size) : IntsAt w' so xs where
  ok := h.ok
  len := h.len
  cell i hi := by
    obtain ⟨g, o, e, hg, hc⟩ := h.cell i hi
    exact ⟨g, o, e, by omega, (World.cell?_of_block (a := ⟨g, o + i, none⟩) (hs g hg)).trans hc⟩

set_option maxRecDepth 100000 in
theorem index_any {w : World} {so : Option Addr} {sc : Nat} {xs : List Int} (h : IntsAt w so xs) (x : Int) :
    Calls Try.prog 49 #[.slice so xs.length sc, .int .i64 x] w fun e w' => (∃ r : Int, e = .returned (.int .i64 r) ∧ (0 ≤ r ↔ x ∈ xs)) ∧ w' = w := by
  have hl := h.len
  have H := Lib.hid h
  obtain ⟨n, hn⟩ : ∃ n, xs.length = n := ⟨_, rfl⟩
  have HN := Lib.hid hn
  rw [hn] at hl ⊢
  clear h hn
  go_enter Try.func49, Try.ntmps49
  go_wp2
  go_loop [8] (fun i => ∃ k : Nat, k ≤ n ∧ i = .int .i64 k ∧ ∀ j (hj : j < xs.length), j < k → xs[j] ≠ x) (fun i => n - (intOf i).toNat)
  case atStart => exact ⟨0, by omega, rfl, fun j _ hj => by omega⟩
  case round =>
    obtain ⟨k, hk, rfl, hno⟩ := hrel
    have HO := Lib.hid hno
    clear hno
    by_cases hlt : k < n
    · have hd : decide (k < n) = true := by simpa using hlt
      have hkx : k < xs.length := by rw [HN.out]; exact hlt
      obtain ⟨g, o, e, hg, hc⟩ := H.out.cell k hkx
      subst e
      obtain ⟨y, hy⟩ : ∃ y, xs[k] = y := ⟨_, rfl⟩
      rw [hy] at hc
      have HY := Lib.hid hy
      have l0 : (0 : Int) ≤ k := by omega
      have l1 : (k : Int) < n := by omega
      clear hy
      by_cases hx : x = y
      · have q : (x == y) = true := by simpa using hx
        have q' : decide (x = y) = true := by simpa using hx
        have HM := Lib.hid (show x ∈ xs by rw [hx, ← HY.out]; exact List.getElem_mem hkx)
        clear hx
        go_wp2
        go_ret
        exact ⟨⟨k, rfl, ⟨fun _ => HM.out, fun _ => by omega⟩⟩, rfl⟩
      · have q : (x == y) = false := by simpa using hx
        have q' : decide (x = y) = false := by simpa using hx
        have HX := Lib.hid hx
        clear hx
        go_wp2
        go_round
        case rel => exact ⟨k + 1, by omega, by go_num, fun j hj hjk => by
          by_cases e : j = k
          · subst e; rw [HY.out]; exact fun e => HX.out e.symm
          · exact HO.out j hj (by omega)⟩
        case measure => simp [intOf]; omega
    · have hd : decide (k < n) = false := by simpa using hlt
      have HM := Lib.hid (show x ∉ xs from fun hm => by
        obtain ⟨j, hj, e⟩ := List.getElem_of_mem hm
        exact HO.out j hj (by have := HN.out; omega) e)
      go_wp2
      go_ret
      exact ⟨⟨-1, rfl, ⟨fun h => absurd h (by decide), fun h => absurd h HM.out⟩⟩, rfl⟩
theorem contains_any {w : World} {so : Option Addr} {sc : Nat} {xs : List Int} (h : IntsAt w so xs) (x : Int) :
    Calls Try.prog 32 #[.slice so xs.length sc, .int .i64 x] w fun e w' => e = .returned (.bool (decide (x ∈ xs))) ∧ w' = w := by
  have I := index_any (sc := sc) h x
  generalize xs.length = n at *
  clear h
  obtain ⟨p, hp⟩ : ∃ p, decide (x ∈ xs) = p := ⟨_, rfl⟩
  rw [hp]
  have HP := Lib.hid hp
  clear hp
  go_enter Try.func32, Try.ntmps32
  go_wp2_with fail
  refine I.mono ?_
  rintro e w' ⟨⟨r, rfl, hr⟩, rfl⟩
  have q : decide (0 ≤ r) = p := by rw [← HP.out]; exact decide_eq_decide.2 hr
  clear hr
  go_wp2
  go_ret
  exact ⟨rfl, rfl⟩

theorem near_any {w : World} {b mb n cp bx : Nat} {m f : Value} {t : TypeId} (h : w.heap[b]? = some (.cells #[m, .slice (some ⟨mb, 0, none⟩) n cp, f] t)) (hb : w.cell? ⟨bx, 0, none⟩ = some (.pointer (some ⟨b, 0, none⟩))) (i : Int) (hi : i64 i) :
    Calls Try.prog 31 #[.int .i64 i, .pointer (some ⟨bx, 0, none⟩)] w fun e w' => e = .returned (.bool (!may n i)) ∧ w' = w := by
  have A := at_any h i hi
  cases hm : may n i
  · rw [atv_out hm] at A
    clear h hi hm
    go_enter Try.func31, Try.ntmps31
    go_wp2_with fail
    refine A.mono ?_
    rintro e w' ⟨rfl, rfl⟩
    go_wp2
    go_ret
    exact ⟨rfl, rfl⟩
  · obtain ⟨j, -, e⟩ := atv_in' (mb := mb) hm
    rw [e] at A
    clear h hi hm e
    go_enter Try.func31, Try.ntmps31
    go_wp2_with fail
    refine A.mono ?_
    rintro e w' ⟨rfl, rfl⟩
    go_wp2
    go_ret
    exact ⟨rfl, rfl⟩

set_option maxRecDepth 100000 in
theorem indexFunc_any {w : World} {so : Option Addr} {sc : Nat} {xs : List Int} (h : IntsAt w so xs) {b mb n cp bx : Nat} {m f : Value} {t : TypeId} (hn : w.heap[b]? = some (.cells #[m, .slice (some ⟨mb, 0, none⟩) n cp, f] t)) (hb : w.cell? ⟨bx, 0, none⟩ = some (.pointer (some ⟨b, 0, none⟩))) :
    Calls Try.prog 48 #[.slice so xs.length sc, .func (.func 31) #[] #[.pointer (some ⟨bx, 0, none⟩)]] w fun e w' => (∃ r : Int, e = .returned (.int .i64 r) ∧ (0 ≤ r ↔ ∃ x ∈ xs, may n x = false)) ∧ w' = w := by
  have hl := h.len
  have H := Lib.hid h
  have FN := Lib.hid (fun i hi => near_any hn hb i hi)
  obtain ⟨N, hN⟩ : ∃ N, xs.length = N := ⟨_, rfl⟩
  have HN := Lib.hid hN
  rw [hN] at hl ⊢
  clear h hN hn hb
  go_enter Try.func48, Try.ntmps48
  go_wp2
  go_loop [8] (fun i => ∃ k : Nat, k ≤ N ∧ i = .int .i64 k ∧ ∀ j (hj : j < xs.length), j < k → may n xs[j] = true) (fun i => N - (intOf i).toNat)
  case atStart => exact ⟨0, by omega, rfl, fun j _ hj => by omega⟩
  case round =>
    obtain ⟨k, hk, rfl, hno⟩ := hrel
    have HO := Lib.hid hno
    clear hno
    by_cases hlt : k < N
    · have hd : decide (k < N) = true := by simpa using hlt
      have hkx : k < xs.length := by rw [HN.out]; exact hlt
      obtain ⟨g, o, e, hg, hc⟩ := H.out.cell k hkx
      subst e
      have HI := Lib.hid (H.out.ok _ (List.getElem_mem hkx))
      obtain ⟨y, hy⟩ : ∃ y, xs[k] = y := ⟨_, rfl⟩
      rw [hy] at hc HI
      have HY := Lib.hid hy
      have l0 : (0 : Int) ≤ k := by omega
      have l1 : (k : Int) < N := by omega
      have FY := Lib.hid (FN.out y HI.out)
      clear hy
      cases hm : may n y
      · rw [hm] at FY
        have HM := Lib.hid (show ∃ x ∈ xs, may n x = false from ⟨xs[k], List.getElem_mem hkx, by rw [HY.out]; exact hm⟩)
        go_wp2_with fail
        refine FY.out.mono ?_
        rintro e w' ⟨rfl, rfl⟩
        go_wp2
        go_ret
        exact ⟨⟨k, rfl, ⟨fun _ => HM.out, fun _ => by omega⟩⟩, rfl⟩
      · rw [hm] at FY
        have HX := Lib.hid hm
        clear hm
        go_wp2_with fail
        refine FY.out.mono ?_
        rintro e w' ⟨rfl, rfl⟩
        go_wp2
        go_round
        case rel => exact ⟨k + 1, by omega, by go_num, fun j hj hjk => by
          by_cases e : j = k
          · subst e; rw [HY.out]; exact HX.out
          · exact HO.out j hj (by omega)⟩
        case measure => simp [intOf]; omega
    · have hd : decide (k < N) = false := by simpa using hlt
      have HM := Lib.hid (show ¬ ∃ x ∈ xs, may n x = false from fun ⟨x, hx, hm⟩ => by
        obtain ⟨j, hj, e⟩ := List.getElem_of_mem hx
        have := HO.out j hj (by have := HN.out; omega)
        rw [e, hm] at this
        cases this)
      go_wp2
      go_ret
      exact ⟨⟨-1, rfl, ⟨fun h => absurd h (by decide), fun h => absurd h HM.out⟩⟩, rfl⟩
theorem containsFunc_any {w : World} {so : Option Addr} {sc : Nat} {xs : List Int} (h : IntsAt w so xs) {b mb n cp bx : Nat} {m f : Value} {t : TypeId} (hn : w.heap[b]? = some (.cells #[m, .slice (some ⟨mb, 0, none⟩) n cp, f] t)) (hb : w.cell? ⟨bx, 0, none⟩ = some (.pointer (some ⟨b, 0, none⟩))) :
    Calls Try.prog 30 #[.slice so xs.length sc, .func (.func 31) #[] #[.pointer (some ⟨bx, 0, none⟩)]] w fun e w' => e = .returned (.bool (xs.any fun x => !may n x)) ∧ w' = w := by
  have I := indexFunc_any (sc := sc) h hn hb
  generalize xs.length = N at *
  clear h hn hb
  obtain ⟨p, hp⟩ : ∃ p, (xs.any fun x => !may n x) = p := ⟨_, rfl⟩
  rw [hp]
  have HP := Lib.hid (show (∃ x ∈ xs, may n x = false) ↔ p = true by rw [← hp]; simp [List.any_eq_true])
  clear hp
  go_enter Try.func30, Try.ntmps30
  go_wp2_with fail
  refine I.mono ?_
  rintro e w' ⟨⟨r, rfl, hr⟩, rfl⟩
  have q : decide (0 ≤ r) = p := by
    have h1 := hr.trans HP.out
    cases p
    · simpa using h1
    · simpa using h1
  clear hr
  go_wp2
  go_ret
  exact ⟨rfl, rfl⟩
end Go.Proofs.Ytpgioccbnkcjcaa
