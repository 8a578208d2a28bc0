/- Ledgers as the laws hold them. -/
import Derived.Test.YthfncgbkigmmcaaL21
namespace Go.Proofs.Ythfncgbkigmmcaa
open Go.RowKit

variable {w w' w1 wr : World} {B lp p n : Nat} {d D : DS} {dead : Bool} {c : Nat → Bs}
/-- blocks beyond B make a ledger -/
def LedIn (w : World) (B lp p : Nat) (d : DS) (dead : Bool) : Prop := ∃ O R, LedO w O R lp p d dead ∧ ∀ j, O j → B ≤ j
theorem LedIn.below (h : LedIn w B lp p d dead) (hb : Below w.heap.size w w') : LedIn w' B lp p d dead := let ⟨O, R, h1, h2⟩ := h; ⟨O, R, h1.below hb, h2⟩
theorem LedIn.drew (h : LedIn w B lp p d dead) : LedIn w.drew B lp p d dead := h.below (Below.refl _ _).drew
theorem LedIn.disk (h : LedIn w B lp p d dead) : DiskIn w B p d := by
  obtain ⟨O, R, h1, h2⟩ := h
  obtain ⟨Od, a, b, _⟩ := h1.disk
  exact ⟨Od, R, a, fun j hj => h2 j (b j hj)⟩
theorem LedIn.n2 (h : LedIn w B lp p d dead) : d.n ≤ 4096 := h.disk.len.2.2.1
theorem LedIn.of_turned {O R O' R' : Nat → Prop} {d' : DS} {dead' : Bool} (hO : ∀ j, O j → B ≤ j) (hB : B ≤ w.heap.size) (h : LedO w' O' R' lp p d' dead') (t : Turned w w' O R O' R') : LedIn w' B lp p d' dead' ∧ Below B w w' :=
  ⟨⟨O', R', h, fun j hj => (t.o j hj).elim (hO j) (fun e => Nat.le_trans hB e.1)⟩, t.keeps.below_of hB (fun k hk e => by have := hO k e; omega)⟩
theorem PutsF.weaken {O O1 : Nat → Prop} {v : Value} {ps : List (Nat × Bs)} (h : PutsF w O v ps) (ho : ∀ j, O1 j → O j) : PutsF w O1 v ps := by
  obtain ⟨a, cap, e, h1⟩ := h
  refine ⟨a, cap, e, fun k hk => ?_⟩
  obtain ⟨g, off, g0, off0, cap0, e1, hg, c1, c2, hg0, hx⟩ := h1 k hk
  exact ⟨g, off, g0, off0, cap0, e1, fun e => hg (ho g e), c1, c2, fun e => hg0 (ho g0 e), hx⟩
/-- how a commit ends, as a law sees it -/
def CommIn (w : World) (B lp p : Nat) (Z : DS × Bool) (e : Ending) (w' : World) : Prop :=
  ((Z.2 = true ∧ e = .returned (.int .i64 0) ∧ LedIn w' B lp p Z.1 false) ∨ (Z.2 = false ∧ e = .returned (.int .i64 11) ∧ LedIn w' B lp p Z.1 true)) ∧ Below B w w'
theorem commit_in (h : LedIn w B lp p d false) (hb : Below w.heap.size w w') (hB : B ≤ w.heap.size) (ps : List (Nat × Bs)) (v : Value) (hp : PutsF w' (fun j => j < w.heap.size) v ps) (hok : PutOk d.n ps) (hr : Room 200 d) :
    Calls Try.prog 15 #[.pointer (some ⟨lp, 0, none⟩), v] w' fun e w2 => CommIn w' B lp p (runL (commOps ps) d) e w2 := by
  have hn2 := h.n2
  obtain ⟨O, R, h1, h2⟩ := h
  refine (commit_any (h1.below hb) ps v (hp.weaken (fun j hj => h1.lt j hj)) hok hn2 hr).mono ?_
  rintro e w2 (⟨q1, q2, O', R', q3, q4⟩ | ⟨q1, q2, O', R', q3, q4⟩)
  · have := LedIn.of_turned h2 (Nat.le_trans hB hb.size) q3 q4
    exact ⟨.inl ⟨q1, q2, this.1⟩, this.2⟩
  · have := LedIn.of_turned h2 (Nat.le_trans hB hb.size) q3 q4
    exact ⟨.inr ⟨q1, q2, this.1⟩, this.2⟩
/-- a ledger at rest, with power for good -/
def QL (w : World) (B lp p n : Nat) (c : Nat → Bs) : Prop := ∃ d, LedIn w B lp p d false ∧ Quiet n c d ∧ Live d
theorem QL.below (h : QL w B lp p n c) (hb : Below w.heap.size w w') : QL w' B lp p n c := let ⟨d, h1, h2⟩ := h; ⟨d, h1.below hb, h2⟩
theorem QL.ext {c' : Nat → Bs} (h : QL w B lp p n c) (e : ∀ j, j + 96 < n → c j = c' j) : QL w B lp p n c' := let ⟨d, h1, h2, h3⟩ := h; ⟨d, h1, h2.ext e, h3⟩
theorem Quiet.room {m : Nat} (h : Quiet n c d) (hl : d.left ≤ 9223372036854775807) (hm : m ≤ 65535) : Room m d := ⟨hl, by rw [h.back]; simpa using hm⟩
theorem commit_quiet (h : QL w B lp p n c) (hb : Below w.heap.size w w') (hB : B ≤ w.heap.size) (ps : List (Nat × Bs)) (v : Value) (hp : PutsF w' (fun j => j < w.heap.size) v ps) (hok : PutOk n ps) :
    Calls Try.prog 15 #[.pointer (some ⟨lp, 0, none⟩), v] w' fun e w2 => e = .returned (.int .i64 0) ∧ QL w2 B lp p n (putC c ps) ∧ Below B w' w2 := by
  obtain ⟨d, h1, h2, h3⟩ := h
  have hn2 := h1.n2
  rw [h2.n] at hn2
  refine (commit_in h1 hb hB ps v hp (by rw [h2.n]; exact hok) (h2.room (by have := h3.2; omega) (by omega))).mono ?_
  obtain ⟨l1, l2⟩ := runL_live (commOps ps) h3
  rintro e w2 ⟨⟨q1, q2, q3⟩ | ⟨q1, q2, q3⟩, hb2⟩
  · rcases comm_done h2 hn2 hok with ⟨D', e1, _⟩ | ⟨D', e1, e2⟩
    · rw [e1] at q1
      cases q1
    · rw [e1] at q3 l2
      exact ⟨q2, ⟨D', q3, e2, l2⟩, hb2⟩
  · rw [l1] at q1
    cases q1
theorem lread_in (h : LedIn w B lp p d false) (ho : d.off = false) (k : Nat) (hk : k + 96 < d.n) : Calls Try.prog 17 #[.pointer (some ⟨lp, 0, none⟩), .int .i64 k] w fun e w' => ∃ g cap, e = .returned (.tuple #[.slice (some ⟨g, 0, none⟩) 512 cap, .int .i64 0]) ∧ Bytes w' (.slice (some ⟨g, 0, none⟩) 512 cap) (blockAt d.now (k + 96)) ∧ w.heap.size ≤ g ∧ Below w.heap.size w w' := by
  have hn2 := h.n2
  obtain ⟨O, R, h1, h2⟩ := h
  exact (lRead_ok h1 ho k hk hn2).mono fun e w' ⟨g, cap, q1, q2, q3, q4⟩ => ⟨g, cap, q1, q2, q3, by first | exact q4.2 | exact q4.2.2 | exact q4.2.2.2 | exact q4.2.2.2.1⟩
theorem read_quiet (h : QL w B lp p n c) (k : Nat) (hk : k + 96 < n) : Calls Try.prog 17 #[.pointer (some ⟨lp, 0, none⟩), .int .i64 k] w fun e w' => ∃ g cap, e = .returned (.tuple #[.slice (some ⟨g, 0, none⟩) 512 cap, .int .i64 0]) ∧ Bytes w' (.slice (some ⟨g, 0, none⟩) 512 cap) (c k) ∧ w.heap.size ≤ g ∧ Below w.heap.size w w' := by
  obtain ⟨d, h1, h2, h3⟩ := h
  have := lread_in h1 h3.1 k (by rw [h2.n]; exact hk)
  rw [h2.at k hk] at this
  exact this
theorem lblocks_in (h : LedIn w B lp p d dead) : Calls Try.prog 27 #[.pointer (some ⟨lp, 0, none⟩)] w fun x w' => x = .returned (.int .i64 ((d.n : Int) - 96)) ∧ w' = w := let ⟨_, _, h1, _⟩ := h; lblocks_any h1
theorem lblocks_quiet (h : QL w B lp p n c) : Calls Try.prog 27 #[.pointer (some ⟨lp, 0, none⟩)] w fun x w' => x = .returned (.int .i64 ((n : Int) - 96)) ∧ w' = w := by
  obtain ⟨d, h1, h2, h3⟩ := h
  have := lblocks_in h1
  rw [h2.n] at this
  exact this
/-- Format -/
theorem format_in {I : Bs} (h : DiskIn w B p d) (hB : B ≤ w.heap.size) (hr : Rest n I d) (hl : Live d) (hn : 97 ≤ n) :
    Calls Try.prog 26 #[.pointer (some ⟨p, 0, none⟩)] w fun e w' => ∃ lp, e = .returned (.tuple #[.pointer (some ⟨lp, 0, none⟩), .int .i64 0]) ∧ QL w' B lp p n (fun _ => zeroB) ∧ Below B w w' := by
  have hn2 := h.len.2.2.1
  obtain ⟨O, R, h1, h2⟩ := h
  refine (format_any h1 (by rw [hr.hn]; exact hn) hn2 ⟨by have := hl.2; omega, by rw [hr.back]; simp⟩ hl.1).mono ?_
  obtain ⟨l1, l2⟩ := runL_live (fmtOps d) hl
  rintro e w2 (⟨q1, lp, O', R', q2, q3, q4⟩ | ⟨q1, _⟩)
  · rcases fmt_done hr hn with ⟨D', e1⟩ | ⟨D', e1, e2⟩
    · rw [e1] at q1
      cases q1
    · rw [e1] at q3 l2
      have := LedIn.of_turned h2 hB q3 q4
      exact ⟨lp, q2, ⟨D', this.1, e2, l2⟩, this.2⟩
  · rw [l1] at q1
    cases q1
theorem rest_new (n : Nat) : Rest n (List.replicate (512 * n) 0) (DS.new n) := ⟨rfl, rfl, rfl, rfl, List.length_replicate⟩
theorem live_new (n : Nat) : Live (DS.new n) := ⟨rfl, by show (-1 : Int) ≤ 0; decide⟩
set_option maxHeartbeats 800000 in
theorem fresh_in (k : Nat) (w : World) (hk : 1 ≤ k) (hk2 : k ≤ 4000) : Calls Try.prog 14 #[.int .i64 k] w fun e w' => ∃ p lp, e = .returned (.tuple #[.pointer (some ⟨p, 0, none⟩), .pointer (some ⟨lp, 0, none⟩), .bool true]) ∧ QL w' w.heap.size lp p (96 + k) (fun _ => zeroB) ∧ Below w.heap.size w w' := by
  have k0 : (0 : Int) ≤ (k : Int) := by omega
  have k1 : (k : Int) ≤ 4000 := by omega
  have hnew := new_in (96 + k) w (by omega) (by omega)
  rw [show ((96 + k : Nat) : Int) = 96 + (k : Int) by omega] at hnew
  have HNEW := Lib.hid hnew
  clear hnew
  go_enter Try.func14, Try.ntmps14
  go_wp2_with fail
  refine (HNEW.out).mono ?_
  rintro e w1 ⟨p, rfl, h1, hb1⟩
  have HF := Lib.hid (format_in h1 hb1.size (rest_new _) (live_new _) (by omega))
  have HB1 := Lib.hid hb1
  clear h1 hb1 HNEW
  go_wp2_with fail
  refine (num_any _ _).mono ?_
  rintro e w2 ⟨rfl, rfl⟩
  go_wp2_with fail
  refine (HF.out).mono ?_
  rintro e w3 ⟨lp, rfl, h3, hb3⟩
  have H3 := Lib.hid h3
  have HB3 := Lib.hid hb3
  clear h3 hb3 HF
  go_wp2_with fail
  refine (num_any _ _).mono ?_
  rintro e w4 ⟨rfl, rfl⟩
  go_wp2_with fail
  go_ret3
  exact ⟨p, lp, rfl, H3.out, HB1.out.trans (HB3.out.mono (Nat.le_refl _))⟩
end Go.Proofs.Ythfncgbkigmmcaa
