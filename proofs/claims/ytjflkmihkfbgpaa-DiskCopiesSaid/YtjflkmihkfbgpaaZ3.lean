/- Walks: maps.Equal; Same of two disks. -/
import Derived.Test.YtjflkmihkfbgpaaY2
namespace Go.Proofs.Ytjflkmihkfbgpaa
open Go.RowKit Mk Go.Sort
set_option linter.unusedVariables false
set_option linter.unusedSimpArgs false

/-- All files of L are in M. -/
def allIn (L M : Files) : Bool := L.all fun p => decide (lk M p.1 = some p.2)
def eqF (L M : Files) : Bool := decide (L.length = M.length) && allIn L M
theorem allIn_perm {L L' : Files} (h : L.Perm L') (M : Files) : allIn L M = allIn L' M := by
  rw [Bool.eq_iff_iff]
  unfold allIn
  simp only [List.all_eq_true]
  exact ⟨fun a p hp => a p (h.mem_iff.2 hp), fun a p hp => a p (h.mem_iff.1 hp)⟩
theorem allIn_mid (a b : Files) (x s : ByteArray) (M : Files) : allIn (a ++ (x, s) :: b) M = (decide (lk M x = some s) && allIn (a ++ b) M) := by
  rw [allIn_perm List.perm_middle]
  rfl
theorem lk_mem' {L : Files} {n s : ByteArray} (h : lk L n = some s) : (n, s) ∈ L := by
  induction L with
  | nil => cases h
  | cons p L ih =>
    unfold lk at h
    split at h
    · rename_i hp
      have := Option.some.inj h
      obtain ⟨a, b⟩ := p
      simp only at hp this
      rw [← hp, ← this]; exact List.mem_cons_self
    · exact List.mem_cons_of_mem _ (ih h)
theorem lk_of_mem {L : Files} (ha : Apart L) {n s : ByteArray} (hm : (n, s) ∈ L) : lk L n = some s := by
  induction L with
  | nil => cases hm
  | cons p L ih =>
    obtain ⟨h1, h2⟩ := List.pairwise_cons.1 ha
    unfold lk
    rcases List.mem_cons.1 hm with rfl | hm
    · rw [if_pos rfl]
    · rw [if_neg (h1 _ hm)]; exact ih h2 hm
theorem rises_tail {p q : ByteArray × ByteArray} {A B : Files} (ha : Rises (p :: A)) (hb : Rises (q :: B)) (hs : ∀ z ∈ p :: A, z ∈ q :: B) : ∀ z ∈ A, z ∈ B := by
  obtain ⟨a1, a2⟩ := List.pairwise_cons.1 ha
  obtain ⟨b1, b2⟩ := List.pairwise_cons.1 hb
  intro z hz
  rcases List.mem_cons.1 (hs z (List.mem_cons_of_mem _ hz)) with rfl | h
  · have hpz := a1 z hz
    rcases List.mem_cons.1 (hs p List.mem_cons_self) with rfl | h
    · exact absurd hpz (List.lt_irrefl _)
    · exact absurd (List.lt_trans hpz (b1 p h)) (List.lt_irrefl _)
  · exact h
theorem rises_eq {A B : Files} (ha : Rises A) (hb : Rises B) (hs : ∀ z ∈ A, z ∈ B) (hl : A.length = B.length) : A = B := by
  induction B generalizing A with
  | nil => exact List.eq_nil_of_length_eq_zero hl
  | cons q B ih =>
    cases A with
    | nil => simp at hl
    | cons p A =>
      have ht := rises_tail ha hb hs
      obtain ⟨a1, a2⟩ := List.pairwise_cons.1 ha
      obtain ⟨b1, b2⟩ := List.pairwise_cons.1 hb
      have e := ih a2 b2 ht (by simpa using hl)
      subst e
      rcases List.mem_cons.1 (hs p List.mem_cons_self) with rfl | h
      · rfl
      · exact absurd (a1 p h) (List.lt_irrefl _)
/-- Two disks' files are the same just if the document's lists are. -/
theorem eqF_iff {A B L M : Files} (ha : Rises A) (hb : Rises B) (hA : A.Perm L) (hB : B.Perm M) : eqF L M = decide (A = B) := by
  rw [Bool.eq_iff_iff]
  unfold eqF allIn
  simp only [Bool.and_eq_true, decide_eq_true_eq, List.all_eq_true]
  constructor
  · rintro ⟨h1, h2⟩
    refine rises_eq ha hb (fun z hz => ?_) (by rw [hA.length_eq, hB.length_eq, h1])
    exact hB.mem_iff.2 (lk_mem' (h2 z (hA.mem_iff.1 hz)))
  · rintro rfl
    refine ⟨by rw [← hA.length_eq, ← hB.length_eq], fun p hp => ?_⟩
    exact lk_of_mem (ha.apart.perm hB) (hB.mem_iff.1 (hA.mem_iff.2 hp))

/-- Behind some rounds of Equal. -/
structure EqAt (w : World) (r1 r2 : Nat) (L M left : Files) (wr : World) : Prop where
  over : filesOver wr w.heap.size r1 L left
  all : allIn L M = allIn left M
  chg : Chg (fun _ => False) w wr

set_option maxRecDepth 100000 in
theorem equal_any {w : World} {r1 r2 : Nat} {L M : Files} (h1 : files w r1 L) (h2 : files w r2 M) :
    Calls Try.prog 42 #[.map (some r1), .map (some r2)] w fun e w' => e = .returned (.bool (eqF L M)) ∧ Chg (fun _ => False) w w' := by
  have hl1 := fun ty => h1.len (P := Try.prog) Try.underlying54 ty
  have hl2 := fun ty => h2.len (P := Try.prog) Try.underlying54 ty
  by_cases hlen : L.length = M.length
  · have he : eqF L M = allIn L M := by unfold eqF; simp [hlen]
    obtain ⟨E, HE⟩ : ∃ E, Hid (allIn L M = E) := ⟨_, Lib.hid rfl⟩
    rw [he, HE.out]
    obtain ⟨it, left, hrg, hp, ho⟩ := h1.range (P := Try.prog) Try.underlying54
    have HA := Lib.hid (show EqAt w r1 r2 L M left (w.alloc it) from ⟨ho, (allIn_perm hp M).symm, (Chg.refl _ _).alloc _⟩)
    have hr2 := h2.lt
    have H2 := Lib.hid h2
    have HOK := Lib.hid h1.ok
    have ql : decide ((L.length : Int) = M.length) = true := by rw [hlen]; simp
    have ql' : ((L.length : Int) == M.length) = true := by rw [hlen]; simp
    clear ho hp h1 h2 he
    go_enter Try.func42, Try.ntmps42
    go_wp2
    go_loopw [] (fun wr => ∃ (left : Files), Hid (EqAt w r1 r2 L M left wr)) (fun wr => wr.rangeLeft r1 w.heap.size)
    case atStart => exact ⟨left, HA⟩
    case round =>
      obtain ⟨left, HU⟩ := hrel
      rcases HU.out.over.next (P := Try.prog) with ⟨h0, hn⟩ | ⟨a, x, s, bb, w1, h0, hx, hn, hc, hsz, ho, hen⟩
      · have hs := Lib.hid (show allIn L M = true by rw [HU.out.all, h0]; rfl)
        go_wp2
        go_ret
        exact ⟨by rw [← HE.out, hs.out]; rfl, HU.out.chg⟩
      · have HC := Lib.hid hc
        have HO := Lib.hid ho
        have hen' := hen w1 rfl rfl
        have hC1 := HU.out.chg.trans' hc (fun i hi => Or.inr (by omega))
        have HC1 := Lib.hid hC1
        have hf2 : files w1 r2 M := H2.out.stay (hC1.block r2 hr2 (fun f => f))
        have hlk := hf2.lookup (P := Try.prog) Try.underlying54 Try.underlying9 (Try.zeroValue9 w1) (HOK.out _ hx) true
        simp only [if_true] at hlk
        have hall := HU.out.all
        rw [h0, allIn_mid] at hall
        have HS := Lib.hid hall
        have H0 := Lib.hid h0
        clear hen h0 hc ho hx hsz hrg HA hC1 hf2 hall
        cases hk : lk M x with
        | none =>
          rw [hk] at hlk
          have hE := Lib.hid (show allIn L M = false by rw [HS.out, hk]; simp)
          simp only [Option.isSome_none] at hlk
          clear HS
          go_wp2
          go_ret
          exact ⟨by rw [← HE.out, hE.out]; rfl, HC1.out⟩
        | some s2 =>
          rw [hk] at hlk
          have hby : byt M x = s2 := by unfold byt; rw [hk]; rfl
          simp only [Option.isSome_some, hby] at hlk
          by_cases hs : s = s2
          · subst hs
            have v1 : (s.toList == s.toList) = true := by simp
            have HS2 := Lib.hid (show allIn L M = allIn (a ++ bb) M by rw [HS.out, hk]; simp)
            clear HS hk hby
            go_wp2
            go_roundw
            case rel => exact ⟨a ++ bb, Lib.hid ⟨HO.out, HS2.out, HC1.out⟩⟩
            case measure => rw [HO.out.left_eq, HU.out.over.left_eq, H0.out]; simp
          · have v1 : (s.toList == s2.toList) = false := by rw [beq_eq_false_iff_ne]; exact fun e => hs (toList_inj e)
            have hE := Lib.hid (show allIn L M = false by rw [HS.out, hk]; simp; exact fun e => absurd e.symm hs)
            clear HS hk hby hs
            go_wp2
            go_ret
            exact ⟨by rw [← HE.out, hE.out]; rfl, HC1.out⟩
  · have he : eqF L M = false := by unfold eqF; simp [hlen]
    rw [he]
    have ql : decide ((L.length : Int) = M.length) = false := by simp; omega
    have ql' : ((L.length : Int) == M.length) = false := by rw [beq_eq_false_iff_ne]; omega
    clear h1 h2 he hlen
    go_enter Try.func42, Try.ntmps42
    go_wp2
    go_ret
    exact ⟨rfl, Chg.refl _ _⟩
end Go.Proofs.Ytjflkmihkfbgpaa
