/- Walks: a disk that a law made; alive. -/
import Derived.Test.YtjflkmihkfbgpaaW9
namespace Go.Proofs.Ytjflkmihkfbgpaa
open Go.RowKit Mk Go.Sort

/-- A disk that was made since w. -/
structure Live (w : World) (b S : Nat) (d : DiskM) (w' : World) : Prop where
  is : DiskIs w' b (fun g => w.heap.size ≤ g) S d
  below : Below w.heap.size w w'

section
variable {w w1 : World} {b S : Nat} {d : DiskM}

theorem Live.to {S' : Nat} {d' : DiskM} {w2 : World} (h : Live w b S d w1) (t : To w1 b (fun g => w.heap.size ≤ g) S' d' w2) : Live w b S' d' w2 :=
  ⟨t.is.foot (fun g hg => hg.elim id (fun e => Nat.le_trans h.below.size e)), h.below.trans (t.chg.below (fun _ h => h) h.below.size)⟩
theorem Live.same {w2 : World} (h : Live w b S d w1) (c : Chg (fun _ => False) w1 w2) : Live w b S d w2 :=
  ⟨h.is.same c, h.below.trans ((below_of_chg c).mono h.below.size)⟩

theorem live_new (w : World) (room : Int) (h1 : room ≤ 9223372036854775807) (h2 : -9223372036854775808 ≤ room) :
    Calls Try.prog 8 #[.int .i64 room] w fun e w' => ∃ b, e = .returned (.pointer (some ⟨b, 0, none⟩)) ∧ Hid (Live w b 0 (newM room) w') := by
  refine (new_any w room h1 h2).mono ?_
  rintro e w' ⟨b, rfl, h, c⟩
  exact ⟨b, rfl, Lib.hid ⟨h, below_of_chg c⟩⟩
theorem live_write (h : Live w b S d w1) (n s : ByteArray) (hS : S + s.size + 1 ≤ 1099511627776) {d' : DiskM} {c : Int} (hd : writeM d n s = (d', c)) :
    Calls Try.prog 9 #[.pointer (some ⟨b, 0, none⟩), .string n, .string s] w1 fun e w' => e = .returned (.int .i64 c) ∧ Hid (Live w b (S + s.size + 1) d' w') := by
  refine (write_any h.is n s hS).mono ?_
  rintro e w' ⟨rfl, t⟩
  rw [hd] at t ⊢
  exact ⟨rfl, Lib.hid (h.to t)⟩
theorem live_append (h : Live w b S d w1) (n s : ByteArray) (hS : S + s.size + 1 ≤ 1099511627776) {d' : DiskM} {c : Int} (hd : appendM d n s = (d', c)) :
    Calls Try.prog 11 #[.pointer (some ⟨b, 0, none⟩), .string n, .string s] w1 fun e w' => e = .returned (.int .i64 c) ∧ Hid (Live w b (S + s.size + 1) d' w') := by
  refine (append_any h.is n s hS).mono ?_
  rintro e w' ⟨rfl, t⟩
  rw [hd] at t ⊢
  exact ⟨rfl, Lib.hid (h.to t)⟩
theorem live_sync (h : Live w b S d w1) : Calls Try.prog 10 #[.pointer (some ⟨b, 0, none⟩)] w1 fun e w' => e = .returned (.int .i64 0) ∧ Hid (Live w b S (syncM d) w') := by
  refine (sync_any h.is).mono ?_
  rintro e w' ⟨rfl, t⟩
  exact ⟨rfl, Lib.hid (h.to t)⟩
theorem live_crash (h : Live w b S d w1) (k t : Nat) (hk : k ≤ d.T.length) (ht : t ≤ 9223372036854775807) {C : Files} (hC : crash d.kept d.T k t = C) :
    Calls Try.prog 12 #[.pointer (some ⟨b, 0, none⟩), .int .i64 k, .int .i64 t] w1 fun e w' => e = .returned (.int .i64 0) ∧ Hid (Live w b S ⟨d.room, C, C, []⟩ w') := by
  have h0 := h
  obtain ⟨⟨r1, r2, v, ts, hh⟩, hb⟩ := h0
  subst hC
  refine (crash_good hh k t hk ht).mono ?_
  rintro e w' ⟨rfl, t⟩
  exact ⟨rfl, Lib.hid (h.to t)⟩
theorem live_read (h : Live w b S d w1) (n : ByteArray) {s : ByteArray} {c : Int} (hd : readM d n = (s, c)) :
    Calls Try.prog 13 #[.pointer (some ⟨b, 0, none⟩), .string n] w1 fun e w' => e = .returned (.tuple #[.string s, .int .i64 c]) ∧ Hid (Live w b S d w') := by
  refine (read_any h.is n).mono ?_
  rintro e w' ⟨rfl, t⟩
  rw [hd]
  exact ⟨rfl, Lib.hid (h.same t)⟩
theorem live_loose (h : Live w b S d w1) {m : Nat} (hm : d.T.length = m) : Calls Try.prog 18 #[.pointer (some ⟨b, 0, none⟩)] w1 fun e w' => e = .returned (.int .i64 m) ∧ w' = w1 := by
  have := loose_any h.is
  rwa [hm] at this
end

def nA : ByteArray := ⟨#[97]⟩
theorem alive1 : appendM (newM 9) nA ⟨#[120, 121, 122]⟩ = (⟨9, [(nA, ⟨#[120, 121, 122]⟩)], [], [(.app nA, ⟨#[120, 121, 122]⟩)]⟩, 0) := by rfl
theorem alive2 : appendM ⟨9, [(nA, ⟨#[120, 121, 122]⟩)], [], [(.app nA, ⟨#[120, 121, 122]⟩)]⟩ nA ⟨#[49, 50, 51, 52, 53, 54]⟩ =
    (⟨9, [(nA, ⟨#[120, 121, 122, 49, 50, 51, 52, 53, 54]⟩)], [], [(.app nA, ⟨#[120, 121, 122]⟩), (.app nA, ⟨#[49, 50, 51, 52, 53, 54]⟩)]⟩, 0) := by rfl
theorem alive3 : appendM ⟨9, [(nA, ⟨#[120, 121, 122, 49, 50, 51, 52, 53, 54]⟩)], [], [(.app nA, ⟨#[120, 121, 122]⟩), (.app nA, ⟨#[49, 50, 51, 52, 53, 54]⟩)]⟩ nA ⟨#[55]⟩ =
    (⟨9, [(nA, ⟨#[120, 121, 122, 49, 50, 51, 52, 53, 54]⟩)], [], [(.app nA, ⟨#[120, 121, 122]⟩), (.app nA, ⟨#[49, 50, 51, 52, 53, 54]⟩)]⟩, 6) := by rfl
theorem alive4 : crash [] [(.app nA, ⟨#[120, 121, 122]⟩), (.app nA, ⟨#[49, 50, 51, 52, 53, 54]⟩)] 1 2 = [(nA, ⟨#[120, 121, 122, 49, 50]⟩)] := by rfl
theorem alive5 : readM ⟨9, [(nA, ⟨#[120, 121, 122, 49, 50]⟩)], [(nA, ⟨#[120, 121, 122, 49, 50]⟩)], []⟩ nA = (⟨#[120, 121, 122, 49, 50]⟩, 0) := by rfl

set_option maxRecDepth 100000 in
theorem alive_any (w : World) : Calls Try.prog 7 #[] w fun e w' => e = .returned (.bool true) ∧ Below w.heap.size w w' := by
  go_enter Try.func7, Try.ntmps7
  go_wp2_with fail
  refine (live_new w 9 (by omega) (by omega)).mono ?_
  rintro e w1 ⟨b, rfl, h1⟩
  go_wp2_with fail
  refine (live_append h1.out nA ⟨#[120, 121, 122]⟩ (by decide) alive1).mono ?_
  rintro e w2 ⟨rfl, h2⟩
  clear h1
  go_wp2_with fail
  refine (live_append h2.out nA ⟨#[49, 50, 51, 52, 53, 54]⟩ (by decide) alive2).mono ?_
  rintro e w3 ⟨rfl, h3⟩
  clear h2
  go_wp2_with fail
  refine (live_append h3.out nA ⟨#[55]⟩ (by decide) alive3).mono ?_
  rintro e w4 ⟨rfl, h4⟩
  clear h3
  go_wp2_with fail
  refine (live_loose h4.out (m := 2) rfl).mono ?_
  rintro e w5 ⟨rfl, rfl⟩
  go_wp2_with fail
  refine (live_crash h4.out 1 2 (by decide) (by decide) alive4).mono ?_
  rintro e w5 ⟨rfl, h5⟩
  clear h4
  go_wp2_with fail
  refine (live_read h5.out nA alive5).mono ?_
  rintro e w6 ⟨rfl, h6⟩
  clear h5
  go_wp2_with fail
  refine (live_loose h6.out (m := 0) rfl).mono ?_
  rintro e w7 ⟨rfl, rfl⟩
  go_wp2
  go_ret
  exact ⟨rfl, h6.out.below⟩
end Go.Proofs.Ytjflkmihkfbgpaa
