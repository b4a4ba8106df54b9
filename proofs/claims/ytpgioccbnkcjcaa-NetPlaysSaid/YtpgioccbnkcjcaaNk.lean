/- NetOnly: what the memory is, and the calls. -/
import Derived.Test.YtpgioccbnkcjcaaNj
namespace Go.Proofs.Ytpgioccbnkcjcaa
open Go.RowKit Mk

namespace Mk
open Go Go.ChangeMaps Go.MapKept Go.RowKit
open Go.Maps (Keyed)
open Go.WideElems (findIdx_born findIdx_arr modify_last set_self)
section
variable {K : Type} [DecidableEq K] {ok : K → Prop} {kv : K → Value} {P : Program} {k e t : TypeId} {r : Nat} {L : List (K × Value)} {x : K}
theorem run_entry2 (A : Keys P k ok kv) (ht : P.underlying t = some (.map k e)) {z : Value} (hz : ∀ u : World, (zeroValue e).run P u = .ok z u) {es : Array MapEntry} {clock : Nat} (E : Ent ok kv es clock L) (hx : ok x) :
    ∃ (st : Nat) (es1 : Array MapEntry) (clock1 : Nat), Ent ok kv es1 clock1 (upd L x ((lk L x).getD z)) ∧ (∀ w : World, w.heap[r]? = some (.map es clock) → (Instr.mapEntry t (.map (some r)) (kv x)).run P w = .ok (.tuple #[(lk L x).getD z, .int .i64 st]) (setBlock w r (.map es1 clock1))) ∧
      ∀ val, ∃ es' clock', (∀ w2 : World, w2.heap[r]? = some (.map es1 clock1) → (Instr.entryStore t (.map (some r)) (.int .i64 st) val).run P w2 = .ok () (setBlock w2 r (.map es' clock'))) ∧ Ent ok kv es' clock' (upd L x val) := by
  obtain ⟨l, hl⟩ := A.lit x hx
  have s2 := ((stamped_iff es clock).1 E.stamped).2.1
  have s1 := ((stamped_iff es clock).1 E.stamped).1
  rcases find_spec A E hx default with ⟨_, h2, h3⟩ | ⟨j, en, _, h2, h3, h4⟩
  · refine ⟨clock, es.push ⟨kv x, z, clock⟩, clock + 1, by rw [(lk_none h3).1]; exact E.push hx h2 h3 z, fun w hb => ?_, fun val => ⟨es.push ⟨kv x, val, clock⟩, clock + 1, fun w2 hw2 => ?_, E.push hx h2 h3 val⟩⟩
    · rcases find_spec A E hx w with ⟨h1, _, _⟩ | ⟨j, en, _, _, _, h4⟩
      · rw [(lk_none h3).1]
        simp [Instr.mapEntry, run_underlying ht, MapKept.run_getObj_map hb, A.keyed.check w false hl, h1, hz, MapKept.run_setObj_map _ hb, Result.andThen, setBlock, goInt]
      · exact absurd rfl (h3 _ (List.mem_of_getElem? h4))
    · have hidx : (es.push ⟨kv x, z, clock⟩).findIdx? (fun e => ((e.born : Nat) : Int) == ((clock : Nat) : Int)) = some es.size := by
        rw [findIdx_arr]
        have := findIdx_born (l := (es.push ⟨kv x, z, clock⟩).toList) (j := es.size) (e0 := ⟨kv x, z, clock⟩) (by
          simp only [Array.toList_push, List.map_append, List.map_cons, List.map_nil]
          refine List.nodup_append.2 ⟨s2, by simp, fun a ha c hc e1 => ?_⟩
          simp only [List.mem_singleton] at hc
          obtain ⟨y, hy, rfl⟩ := List.mem_map.1 ha
          have := s1 y hy
          omega) (by simp)
        exact this
      have hmod : (es.push ⟨kv x, z, clock⟩).modify es.size (fun e => { e with val := val }) = es.push ⟨kv x, val, clock⟩ := by
        apply Array.ext'
        rw [Array.toList_modify, Array.toList_push, Array.toList_push, ← Array.length_toList, modify_last]
      simp [Instr.entryStore, MapKept.run_getObj_map hw2, asInt, asIntOf, hidx, hmod, MapKept.run_setObj_map _ hw2, Result.andThen, setBlock]
  · have hj : es[j]? = some en := by simpa using h2
    have hsame : es.modify j (fun e => { e with key := kv x }) = es := by
      apply Array.ext'
      rw [Array.toList_modify, modify_eq_set _ _ _ _ h2]
      have : ({ en with key := kv x } : MapEntry) = en := by rw [← h3]
      rw [this]
      exact set_self _ _ _ h2
    refine ⟨en.born, es, clock, by rw [(lk_some E.apart h4).1, Option.getD_some, (lk_some E.apart h4).2.1, set_self _ _ _ h4]; exact E, fun w hb => ?_, fun val => ⟨es.modify j (fun e' => { e' with key := kv x, val := val }), clock, fun w2 hw2 => ?_, E.modify hx h2 h3 h4 val⟩⟩
    · rcases find_spec A E hx w with ⟨_, _, h5⟩ | ⟨j', en', h1, h2', h3', h4'⟩
      · exact absurd rfl (h5 _ (List.mem_of_getElem? h4))
      · have hjj : j' = j := by
          have hp := E.apart
          rcases Nat.lt_trichotomy j' j with hlt | he | hgt
          · exfalso
            obtain ⟨a1, a2⟩ := List.getElem?_eq_some_iff.1 h4'
            obtain ⟨b1, b2⟩ := List.getElem?_eq_some_iff.1 h4
            exact List.pairwise_iff_getElem.1 hp j' j a1 b1 hlt (by rw [a2, b2])
          · exact he
          · exfalso
            obtain ⟨a1, a2⟩ := List.getElem?_eq_some_iff.1 h4'
            obtain ⟨b1, b2⟩ := List.getElem?_eq_some_iff.1 h4
            exact List.pairwise_iff_getElem.1 hp j j' b1 a1 hgt (by rw [a2, b2])
        subst hjj
        rw [h2] at h2'
        cases h2'
        rw [(lk_some E.apart h4).1]
        simp [Instr.mapEntry, run_underlying ht, MapKept.run_getObj_map hb, A.keyed.check w false hl, h1, hj, h3, A.keyed.stays w hl, hsame, MapKept.run_setObj_map _ hb, Result.andThen, setBlock, goInt]
    · have hidx : es.findIdx? (fun e => ((e.born : Nat) : Int) == ((en.born : Nat) : Int)) = some j := by
        rw [findIdx_arr]
        exact findIdx_born s2 h2
      have hmod : es.modify j (fun e => { e with val := val }) = es.modify j (fun e' => { e' with key := kv x, val := val }) := by
        apply Array.ext'
        rw [Array.toList_modify, Array.toList_modify, modify_eq_set _ _ _ _ h2, modify_eq_set _ _ _ _ h2, ← h3]
      simp [Instr.entryStore, MapKept.run_getObj_map hw2, asInt, asIntOf, hidx, hmod, MapKept.run_setObj_map _ hw2, Result.andThen, setBlock]
end
end Mk

def vT (T : List (Pk × Nat)) : List (Pk × Value) := T.map fun p => (p.1, .int .i64 (p.2 : Nat))
theorem lk_vT (T : List (Pk × Nat)) (p : Pk) : lk (vT T) p = (lk T p).map fun n : Nat => Value.int .i64 n := by
  induction T with
  | nil => rfl
  | cons a T ih =>
    simp only [vT, List.map_cons, lk] at ih ⊢
    split
    · rfl
    · exact ih
theorem upd_vT (T : List (Pk × Nat)) (p : Pk) (n : Nat) : upd (vT T) p (.int .i64 n) = vT (upd T p n) := by
  induction T with
  | nil => rfl
  | cons a T ih =>
    simp only [vT, List.map_cons, upd] at ih ⊢
    split
    · rfl
    · rw [ih]; rfl

/-- A net and a map of packets, both new. -/
structure St (w : World) (b r : Nat) (F : Nat → Prop) (n : NetM) (T : List (Pk × Nat)) (W : World) : Prop where
  net : NetIs W b F n
  map : mapAt okP kvP W r (vT T)
  f : ∀ g, F g → w.heap.size ≤ g ∧ g ≠ r ∧ g < W.heap.size
  r : w.heap.size ≤ r
  chg : Chg (fun _ => False) w W

section
variable {w W W' : World} {b r : Nat} {F : Nat → Prop} {n n' : NetM} {T : List (Pk × Nat)}
theorem St.same (h : St w b r F n T W) (c : Chg (fun _ => False) W W') : St w b r F n T W' :=
  ⟨h.net.stay c (fun _ _ f => f), h.map.stay (c.block _ h.map.lt (fun f => f)), fun g hg => ⟨(h.f g hg).1, (h.f g hg).2.1, Nat.lt_of_lt_of_le (h.f g hg).2.2 c.size⟩, h.r, h.chg.trans c⟩
theorem St.few (h : St w b r F n T W) : n.l.length ≤ 16384 := by obtain ⟨_, _, _, h⟩ := h.net; exact h.under
def wide (F : Nat → Prop) (W W' : World) : Nat → Prop := fun g => (F g ∨ W.heap.size ≤ g) ∧ g < W'.heap.size
theorem St.turn (h : St w b r F n T W) (hn : NetIs W' b (fun g => F g ∨ W.heap.size ≤ g) n') (c : Chg F W W') : St w b r (wide F W W') n' T W' := by
  refine ⟨hn.tight, h.map.stay (c.block _ h.map.lt (fun f => (h.f r f).2.1 rfl)), ?_, h.r, h.chg.trans' c (fun g hg => Or.inr (h.f g hg).1)⟩
  rintro g ⟨h1 | h1, h2⟩
  · exact ⟨(h.f g h1).1, (h.f g h1).2.1, h2⟩
  · have := h.map.lt
    have := h.chg.size
    exact ⟨by omega, by omega, h2⟩
theorem St.not (h : St w b r F n T W) {B : Nat} (hB : W.heap.size ≤ B) : ¬ F B := fun f => by have := (h.f B f).2.2; omega
theorem wide_not {B : Nat} (h : ¬ F B) (hB : B < W.heap.size) : ¬ wide F W W' B := by
  rintro ⟨h1 | h1, _⟩
  · exact h h1
  · omega

theorem St.send (h : St w b r F n T W) (i k : Int) (s : ByteArray) (hi : i64 i) (hk : i64 k) :
    Calls Try.prog 9 #[.pointer (some ⟨b, 0, none⟩), .int .i64 i, .int .i64 k, .string s] W fun e w2 => e = .returned (.int .i64 (sendM n i k s).2) ∧ St w b r (wide F W w2) (sendM n i k s).1 T w2 ∧ Chg F W w2 :=
  (send_is h.net i k s hi hk).mono fun _ _ h2 => ⟨h2.1, h.turn h2.2.1 h2.2.2, h2.2.2⟩
theorem St.take (h : St w b r F n T W) (i k j : Int) (hi : i64 i) (hk : i64 k) (hj : i64 j) :
    Calls Try.prog 16 #[.pointer (some ⟨b, 0, none⟩), .int .i64 i, .int .i64 k, .int .i64 j] W fun e w2 => e = .returned (.tuple #[(takeM n i k j).2.1, .int .i64 (takeM n i k j).2.2]) ∧ St w b r (wide F W w2) (takeM n i k j).1 T w2 ∧ Chg F W w2 :=
  (take_is h.net i k j hi hk hj).mono fun _ _ h2 => ⟨h2.1, h.turn h2.2.1 h2.2.2, h2.2.2⟩
theorem St.double (h : St w b r F n T W) (i k j : Int) (hi : i64 i) (hk : i64 k) (hj : i64 j) :
    Calls Try.prog 11 #[.pointer (some ⟨b, 0, none⟩), .int .i64 i, .int .i64 k, .int .i64 j] W fun e w2 => e = .returned (.int .i64 (doubleM n i k j).2) ∧ St w b r (wide F W w2) (doubleM n i k j).1 T w2 ∧ Chg F W w2 := by
  obtain ⟨_, _, _, hn⟩ := h.net
  exact (double_any hn i k j hi hk hj).mono fun _ _ h2 => ⟨h2.1, h.turn h2.2.1 h2.2.2, h2.2.2⟩
theorem St.peek (h : St w b r F n T W) (i k j : Int) (hi : i64 i) (hk : i64 k) (hj : i64 j) :
    Calls Try.prog 15 #[.pointer (some ⟨b, 0, none⟩), .int .i64 i, .int .i64 k, .int .i64 j] W fun e w2 => e = .returned (.tuple #[.string (peekM n i k j).1, .int .i64 (peekM n i k j).2]) ∧ w2 = W := by
  obtain ⟨_, _, _, hn⟩ := h.net
  exact peek_any hn i k j hi hk hj
theorem St.parted (h : St w b r F n T W) (i k : Int) (hi : i64 i) (hk : i64 k) :
    Calls Try.prog 17 #[.pointer (some ⟨b, 0, none⟩), .int .i64 i, .int .i64 k] W fun e w2 => e = .returned (.bool (partedM n.ms i k)) ∧ St w b r F n T w2 ∧ Chg (fun _ => False) W w2 := by
  obtain ⟨_, _, _, hn⟩ := h.net
  exact (parted_any hn i k hi hk).mono fun _ _ h2 => ⟨h2.1, h.same h2.2, h2.2⟩
theorem St.part (h : St w b r F n T W) {so : Option Addr} {sc : Nat} {xs : List Int} (hi : IntsAt w so xs) :
    Calls Try.prog 18 #[.pointer (some ⟨b, 0, none⟩), .slice so xs.length sc] W fun e w2 => (∃ c : Int, e = .returned (.int .i64 c)) ∧ St w b r (wide F W w2) (partM n xs).1 T w2 ∧ Chg F W w2 := by
  obtain ⟨_, _, _, hn⟩ := h.net
  have hs : IntsAt W so xs := hi.stay (fun g hg => h.chg.block g hg (fun f => f)) h.chg.size
  have hsep : ∀ g o, so = some ⟨g, o, none⟩ → 0 < xs.length → ¬ F g := fun g o e h0 hF => by
    obtain ⟨g', o', e', hg', _⟩ := hi.cell 0 h0
    rw [e] at e'
    simp at e'
    have := (h.f g hF).1
    omega
  exact (part_any hn hs hsep (fun g hg => (h.f g hg).2.2)).mono fun _ _ h2 => ⟨⟨_, h2.1⟩, h.turn ⟨_, _, _, h2.2.1.wide (fun _ => Or.inl)⟩ h2.2.2, h2.2.2⟩
theorem St.look (h : St w b r F n T W) {p : Pk} (hp : okP p) : (Instr.lookup 40 (.map (some r)) (kvP p) false).run Try.prog W = .ok (.int .i64 (((lk T p).getD 0 : Nat) : Int)) W := by
  have hr := run_lookup keysP Try.underlying40 (Try.zeroValue3 W) h.map hp false
  simp only [if_neg (show ¬ (false = true) by decide)] at hr
  rw [hr, lk_vT]
  cases lk T p <;> rfl
/-- One more or one less. -/
theorem St.bump (h : St w b r F n T W) {p : Pk} (hp : okP p) : ∃ (st : Nat) (o1 : Obj), (Instr.lookup 40 (.map (some r)) (kvP p) false).run Try.prog W.drew = .ok (.int .i64 (((lk T p).getD 0 : Nat) : Int)) W.drew ∧ (Instr.lookup 40 (.map (some r)) (kvP p) false).run Try.prog (ChangeMaps.setBlock W.drew r o1) = .ok (.int .i64 (((lk T p).getD 0 : Nat) : Int)) (ChangeMaps.setBlock W.drew r o1) ∧
    (Instr.mapEntry 40 (.map (some r)) (kvP p)).run Try.prog W.drew = .ok (.tuple #[.int .i64 (((lk T p).getD 0 : Nat) : Int), .int .i64 st]) (ChangeMaps.setBlock W.drew r o1) ∧
    ∀ k : Nat, ∃ o2, (Instr.entryStore 40 (.map (some r)) (.int .i64 st) (.int .i64 k)).run Try.prog (ChangeMaps.setBlock W.drew r o1) = .ok () (ChangeMaps.setBlock (ChangeMaps.setBlock W.drew r o1) r o2) ∧
      St w b r F n (upd T p k) (ChangeMaps.setBlock (ChangeMaps.setBlock W.drew r o1) r o2) ∧ Chg (fun g => g = r) W (ChangeMaps.setBlock (ChangeMaps.setBlock W.drew r o1) r o2) := by
  have h1 := h.same (W' := W.drew) ((Chg.refl _ _).drew)
  have hlt := h1.map.lt
  have hr := run_lookup keysP Try.underlying40 (Try.zeroValue3 W.drew) h1.map hp false
  simp only [if_neg (show ¬ (false = true) by decide)] at hr
  obtain ⟨es, clock, hb, E⟩ := h1.map
  obtain ⟨st, es1, c1, E1, hm, hs⟩ := run_entry2 (r := r) keysP Try.underlying40 (fun u => Try.zeroValue3 u) E hp
  have hv : ∀ z : Value, z = .int .i64 0 → (lk (vT T) p).getD z = .int .i64 (((lk T p).getD 0 : Nat) : Int) := by
    rintro z rfl
    rw [lk_vT]
    cases lk T p <;> rfl
  have hm1 := hm _ hb
  rw [hv _ rfl] at hm1
  refine ⟨st, .map es1 c1, ?_, ?_, hm1, fun k => ?_⟩
  · rw [hr, hv _ rfl]
  · have hr2 := run_lookup keysP Try.underlying40 (Try.zeroValue3 (ChangeMaps.setBlock W.drew r (.map es1 c1))) (⟨es1, c1, heap_setBlock_eq hlt, E1⟩ : mapAt okP kvP _ r _) hp false
    simp only [if_neg (show ¬ (false = true) by decide)] at hr2
    rw [hr2, lk_upd_same, hv _ rfl]
    rfl
  · obtain ⟨es2, c2, h2, E2⟩ := hs (.int .i64 k)
    rw [upd_vT] at E2
    have hlt1 : r < (ChangeMaps.setBlock W.drew r (.map es1 c1)).heap.size := by rw [size_setBlock]; exact hlt
    have c3 : Chg (fun g => g = r) W.drew (ChangeMaps.setBlock (ChangeMaps.setBlock W.drew r (.map es1 c1)) r (.map es2 c2)) := Mk.Chg.setBlock (Mk.Chg.setBlock (Chg.refl (fun g => g = r) W.drew) (Or.inl rfl) _) (Or.inl rfl) _
    refine ⟨.map es2 c2, h2 _ (heap_setBlock_eq hlt), ⟨?_, ⟨es2, c2, heap_setBlock_eq hlt1, E2⟩, ?_, h.r, h1.chg.trans' c3 (fun g e => Or.inr (e ▸ h.r))⟩, ((Chg.refl _ _).drew).trans c3⟩
    · exact h1.net.stay c3 (fun g hg e => (h.f g hg).2.1 e)
    · intro g hg
      have := h1.f g hg
      exact ⟨this.1, this.2.1, Nat.lt_of_lt_of_le this.2.2 c3.size⟩
end

/-! Plain: the counts. -/
structure Cn (n : NetM) (T : List (Pk × Nat)) : Prop where
  three : n.ms.length = 3
  all : ∀ m ∈ n.l, good 3 m
  count : ∀ p, (lk T p).getD 0 = cnt n.l p
theorem ct_le (p : Pk) (L : List Pk) : ct p L ≤ L.length := List.countP_le_length
theorem Cn.le {n : NetM} {T : List (Pk × Nat)} (h : Cn n T) (hl : n.l.length ≤ 16384) (p : Pk) : (lk T p).getD 0 ≤ 16384 := by
  rw [h.count]
  have := ct_le p (n.l.map pkm)
  rw [List.length_map] at this
  exact Nat.le_trans this hl
theorem may_good {n : Nat} {i : Int} (h : may n i = true) : 1 ≤ i ∧ i ≤ n := by simpa [may] using h
theorem good_ok {m : Msg} (h : good 3 m) : okP (pkm m) := by
  have h1 := h.1
  have h2 := h.2.1
  have h3 := h.2.2
  refine ⟨⟨?_, ?_⟩, ⟨?_, ?_⟩, ?_⟩ <;> simp only [pkm] <;> first | omega | (simp only [maxLen]; omega)
theorem Cn.sent {n : NetM} {T : List (Pk × Nat)} (h : Cn n T) {i k : Int} {s : ByteArray} (e : (sendM n i k s).2 = 0) :
    Cn (sendM n i k s).1 (upd T (i, k, s) ((lk T (i, k, s)).getD 0 + 1)) ∧ okP (i, k, s) := by
  unfold sendM at e ⊢
  by_cases hm : (may n.ms.length i && may n.ms.length k) = false
  · rw [if_pos hm] at e; simp at e
  · rw [if_neg hm] at e ⊢
    by_cases h4 : 4194304 < s.size
    · rw [if_pos h4] at e; simp at e
    · rw [if_neg h4] at e ⊢
      by_cases h6 : 16384 ≤ n.l.length
      · rw [if_pos h6] at e; simp at e
      · rw [if_neg h6]
        simp only [Bool.not_eq_false, Bool.and_eq_true] at hm
        have g : good 3 ⟨i, k, s⟩ := by rw [h.three] at hm; exact ⟨may_good hm.1, may_good hm.2, Nat.le_of_not_lt h4⟩
        refine ⟨⟨h.three, fun m hm => ?_, fun p => ?_⟩, good_ok g⟩
        · rcases List.mem_append.1 hm with hm | hm
          · exact h.all m hm
          · simp at hm; subst hm; exact g
        · rw [lk_upd, cnt_send]
          by_cases hp : p = (i, k, s)
          · subst hp; simp [h.count]
          · rw [if_neg hp, if_neg (Ne.symm hp), h.count]; rfl
theorem send_bad {n : NetM} {i k : Int} {s : ByteArray} (e : (sendM n i k s).2 ≠ 0) : (sendM n i k s).1 = n := by
  unfold sendM at e ⊢
  split
  · rfl
  · split
    · rfl
    · split
      · rfl
      · simp_all
theorem double_ok {n : NetM} {i k j : Int} (e : (doubleM n i k j).2 = 0) : (peekM n i k j).2 = 0 ∧ doubleM n i k j = sendM n i k (peekM n i k j).1 := by
  unfold doubleM at e ⊢
  by_cases h : (peekM n i k j).2 = 0
  · rw [if_pos h]; exact ⟨h, rfl⟩
  · rw [if_neg h] at e; exact absurd e h
theorem double_bad {n : NetM} {i k j : Int} (e : (doubleM n i k j).2 ≠ 0) : (doubleM n i k j).1 = n := by
  unfold doubleM at e ⊢
  by_cases h : (peekM n i k j).2 = 0
  · rw [if_pos h] at e ⊢; exact send_bad e
  · rw [if_neg h]
theorem take_bad {n : NetM} {i k j : Int} (e : (takeM n i k j).2.2 ≠ 0) : (takeM n i k j).1 = n := by
  unfold takeM at e ⊢
  split
  · split
    · rfl
    · simp_all
  · rfl
theorem take_bad2 {n : NetM} {i k j : Int} (e : (takeM n i k j).2.2 ≠ 0) : (takeM n i k j).2.1 = pkt 0 0 ⟨#[]⟩ := by
  unfold takeM at e ⊢
  split
  · split
    · rfl
    · simp_all
  · rfl
theorem Cn.took {n : NetM} {T : List (Pk × Nat)} (h : Cn n T) {i k j : Int} (e : (takeM n i k j).2.2 = 0) :
    ∃ (s : ByteArray) (m : Nat), (takeM n i k j).2.1 = kvP (i, k, s) ∧ okP (i, k, s) ∧ (lk T (i, k, s)).getD 0 = m + 1 ∧ Cn (takeM n i k j).1 (upd T (i, k, s) m) ∧ partedM (takeM n i k j).1.ms i k = false := by
  unfold takeM at e ⊢
  by_cases hp : (peekM n i k j).2 = 0
  · rw [if_pos hp] at e ⊢
    by_cases hq : partedM n.ms i k = true
    · rw [if_pos hq] at e; simp at e
    · rw [if_neg hq]
      have hd : dropM n i k j = (⟨n.ms, dropL n.l (i, k) j.toNat⟩, 0) := by unfold dropM; rw [if_pos hp]
      rw [hd]
      unfold peekM at hp
      by_cases hm : (may n.ms.length i && may n.ms.length k) = true
      · rw [if_pos hm] at hp
        by_cases hj : j < 0 ∨ (q n.l (i, k)).length ≤ j
        · rw [if_pos hj] at hp; simp at hp
        · have hu : j.toNat < (q n.l (i, k)).length := by omega
          have hs : (peekM n i k j).1 = (q n.l (i, k))[j.toNat] := by unfold peekM; rw [if_pos hm, if_neg hj]; simp [List.getD, hu]
          have hcd := cnt_drop n.l (i, k) j.toNat hu
          obtain ⟨s, hse⟩ : ∃ s, (q n.l (i, k))[j.toNat] = s := ⟨_, rfl⟩
          rw [hs, hse]
          simp only [hse] at hcd
          have hmem : s ∈ q n.l (i, k) := by rw [← hse]; exact List.getElem_mem hu
          have hg : good 3 ⟨i, k, s⟩ := by
            unfold q at hmem
            obtain ⟨m, hm1, rfl⟩ := List.mem_map.1 hmem
            obtain ⟨hm2, hm3⟩ := List.mem_filter.1 hm1
            have := h.all m hm2
            simp at hm3
            obtain ⟨rfl, rfl⟩ := hm3
            exact this
          have hc := hcd (i, k, s)
          rw [if_pos rfl] at hc
          refine ⟨s, Ytpgioccbnkcjcaa.cnt (dropL n.l (i, k) j.toNat) (i, k, s), rfl, good_ok hg, ?_, ⟨h.three, fun m hm => h.all m (drop_mem _ _ _ _ hm), fun p => ?_⟩, by simpa using hq⟩
          · rw [h.count, ← hc]
          · rw [lk_upd]
            by_cases hp2 : p = (i, k, s)
            · subst hp2; simp
            · rw [if_neg hp2, h.count, ← hcd p, if_neg (Ne.symm hp2)]; rfl
      · rw [if_neg hm] at hp; simp at hp
  · rw [if_neg hp] at e; exact absurd e hp
theorem Cn.parted {n : NetM} {T : List (Pk × Nat)} (h : Cn n T) (xs : List Int) : Cn (partM n xs).1 T := by
  unfold partM
  split
  · exact h
  · exact ⟨by simp only [sided_len]; exact h.three, h.all, h.count⟩
/-- What is under way, and what of it is left. -/
theorem Cn.outs {n : NetM} {T : List (Pk × Nat)} (h : Cn n T) : (∀ p, (lk T p).getD 0 = ct p ((outL n.l 3 3).drop 0)) ∧ ∀ p ∈ outL n.l 3 3, okP p :=
  ⟨fun p => by rw [List.drop_zero, cnt_all n.l 3 h.all, h.count], fun p hp => good_ok (out_good n.l 3 h.all p hp)⟩
theorem out_le (l : List Msg) (h : l.length ≤ 16384) : (outL l 3 3).length ≤ 200000 := by
  have := outL_len l 3 3
  omega
theorem ct_next {L : List Pk} {j : Nat} (hj : j < L.length) (p : Pk) : ct p (L.drop j) = ct p (L.drop (j + 1)) + if L[j] = p then 1 else 0 := by
  rw [List.drop_eq_getElem_cons hj, ct_cons]
/-- One of those that wait is counted. -/
theorem left_next {L : List Pk} {T : List (Pk × Nat)} {j : Nat} (hj : j < L.length) (h : ∀ p, (lk T p).getD 0 = ct p (L.drop j)) :
    ∃ m, (lk T L[j]).getD 0 = m + 1 ∧ ∀ p, (lk (upd T L[j] m) p).getD 0 = ct p (L.drop (j + 1)) := by
  refine ⟨ct L[j] (L.drop (j + 1)), by rw [h, ct_next hj, if_pos rfl], fun p => ?_⟩
  rw [lk_upd]
  by_cases e : p = L[j]
  · rw [if_pos e, e]; rfl
  · rw [if_neg e, h, ct_next hj, if_neg (Ne.symm e)]; rfl
theorem pk_get (L : List Pk) (j : Nat) (h : j < L.length) (i : Nat) (hi : i < 3) : (L.flatMap pkc)[j * 3 + i]? = (pkc L[j])[i]? := by
  induction L generalizing j with
  | nil => simp at h
  | cons p L ih =>
    cases j with
    | zero =>
      simp only [List.flatMap_cons, Nat.zero_mul, Nat.zero_add, List.getElem_cons_zero]
      rw [List.getElem?_append_left (by simpa [pkc] using hi)]
    | succ j =>
      simp only [List.flatMap_cons, List.getElem_cons_succ] at ih ⊢
      rw [List.getElem?_append_right (by simp [pkc]; omega), ← ih j (by simpa using h)]
      congr 1
      simp [pkc]; omega
theorem PkS.shape2 {w : World} {L : List Pk} {v : Value} {wr : World} (H : PkS w L v wr) : ∃ ao cap, v = .slice ao L.length cap := by
  rcases H.sl.2 with ⟨rfl, h⟩ | ⟨g, cap, cur, rfl, _⟩
  · exact ⟨none, 0, by rw [h]⟩
  · exact ⟨_, _, rfl⟩
theorem vT_zero {T : List (Pk × Nat)} (hd : (vT T).Pairwise (fun p q => p.1 ≠ q.1)) (h : ∀ p, (lk T p).getD 0 = 0) {x : Pk × Value} (hx : x ∈ vT T) : x.2 = .int .i64 0 := by
  obtain ⟨j, hj, e⟩ := List.getElem_of_mem hx
  have := (lk_some (x := x.1) (v := x.2) (j := j) hd (by rw [List.getElem?_eq_getElem hj, e])).1
  rw [lk_vT] at this
  have h0 := h x.1
  cases hl : lk T x.1 with
  | none => rw [hl] at this; simp at this
  | some n =>
    rw [hl] at this h0
    simp at this h0
    rw [← this, h0]
    rfl
theorem Cn.new : Cn (newM 3 1) [] := ⟨msN_len 3 1 3, fun m hm => by simp [newM] at hm, fun p => rfl⟩
end Go.Proofs.Ytpgioccbnkcjcaa
