/- The disk under a ledger; Open. -/
import Derived.Test.YthfncgbkigmmcaaL24
namespace Go.Proofs.Ythfncgbkigmmcaa
open Go.RowKit

variable {w w' w1 wr : World} {B lp p n : Nat} {d D : DS} {dead : Bool} {c : Nat → Bs}
theorem LedIn.turn (h : LedIn w B lp p d dead) (hB : B ≤ w.heap.size) : ∃ Od R, DiskO w Od R p d ∧ ∀ w' Od' R' d', DiskO w' Od' R' p d' → Turned w w' Od R Od' R' → LedIn w' B lp p d' dead ∧ Below B w w' := by
  obtain ⟨O, R, h1, h2⟩ := h
  obtain ⟨Od, a, b, c⟩ := h1.disk
  refine ⟨Od, R, a, fun w' Od' R' d' h3 t => ?_⟩
  obtain ⟨O', h4, t4⟩ := h1.turn a b c h3 t
  exact LedIn.of_turned h2 hB h4 t4
theorem fuse_led (h : LedIn w B lp p d dead) (hB : B ≤ w.heap.size) (s : Int) (hs : -1 ≤ s) (ho : d.off = false) : Calls Try.prog 19 #[.pointer (some ⟨p, 0, none⟩), .int .i64 s] w fun e w' => e = .returned (.int .i64 0) ∧ LedIn w' B lp p { d with left := s, off := s == 0 } dead ∧ Below B w w' := by
  obtain ⟨Od, R, hd, ht⟩ := h.turn hB
  refine (fuse_o hd s hs ho).mono ?_
  rintro e w' ⟨rfl, h1, h2⟩
  exact ⟨rfl, ht _ _ _ _ h1 h2⟩
theorem crash_led (h : LedIn w B lp p d dead) (hB : B ≤ w.heap.size) (ka : Option Addr) (kn kcap : Nat) (ks : Nat → Int) (hkeep : IntsAt w ka kn ks) (hka : ∀ x, ka = some x → 0 < kn → x.block < B) : Calls Try.prog 20 #[.pointer (some ⟨p, 0, none⟩), .slice ka kn kcap] w fun e w' => (∃ v, e = .returned v) ∧ LedIn w' B lp p (d.crash (keepB kn ks)) dead ∧ Below B w w' := by
  obtain ⟨O, R, h1, h2⟩ := h
  obtain ⟨Od, a, b, c⟩ := h1.disk
  refine (crash_o a ka kn kcap ks hkeep (fun x hx hn e => by have := h2 _ (b _ e); have := hka x hx hn; omega)).mono ?_
  rintro e w' ⟨hv, h3, h4⟩
  obtain ⟨O', h5, t5⟩ := h1.turn a b c h3 h4
  exact ⟨hv, LedIn.of_turned h2 hB h5 t5⟩
theorem ints_none (w : World) (ks : Nat → Int) : IntsAt w none 0 ks := ⟨by omega, .inl rfl⟩
/-- a flush from outside, with power or without -/
def DS.fl (d : DS) : DS := if d.off = true then d else d.flush
theorem flush_led (h : LedIn w B lp p d dead) (hB : B ≤ w.heap.size) (hl : d.left ≤ 9223372036854775807) : Calls Try.prog 22 #[.pointer (some ⟨p, 0, none⟩)] w fun e w' => (∃ v, e = .returned v) ∧ LedIn w' B lp p d.fl dead ∧ Below B w w' := by
  unfold DS.fl
  cases ho : d.off with
  | true =>
    obtain ⟨gn, gf, vb, vs, hda⟩ : ∃ gn gf vb vs, ∃ O R, DiskAt w O R p d gn gf vb vs := by
      obtain ⟨O, R, h1, _⟩ := h
      obtain ⟨Od, a, _⟩ := h1.disk
      obtain ⟨gn, gf, vb, vs, x⟩ := disk_at a
      exact ⟨gn, gf, vb, vs, _, _, x⟩
    obtain ⟨O, R, hda⟩ := hda
    refine (flush_off hda ho).mono ?_
    rintro e w' ⟨rfl, hb⟩
    rw [if_pos rfl]
    exact ⟨⟨_, rfl⟩, h.below hb, hb.mono hB⟩
  | false =>
    obtain ⟨Od, R, hd, ht⟩ := h.turn hB
    refine (flush_o hd ho hl).mono ?_
    rintro e w' ⟨rfl, h1, h2⟩
    rw [if_neg (by simp)]
    exact ⟨⟨_, rfl⟩, ht _ _ _ _ h1 h2⟩
theorem Quiet.flush (h : Quiet n c d) : Quiet n c d.flush := by
  obtain ⟨I, h1, h2⟩ := h
  exact ⟨I, ⟨by rw [flush_n]; exact h1.hn, by rw [flush_fast, h1.fast, h1.back]; rfl, flush_back d, by rw [flush_now]; exact h1.now, h1.len⟩, h2⟩
theorem Quiet.fl (h : Quiet n c d) : Quiet n c d.fl := by
  unfold DS.fl
  split
  · exact h
  · exact h.flush
theorem fl_left (h : d.left ≤ 9223372036854775807) : d.fl.left ≤ 9223372036854775807 := by
  unfold DS.fl
  split
  · exact h
  · unfold DS.flush
    exact step_left _ h
theorem runL_left {m : Nat} (L : List LOp) (h : Quiet n c d) (hl : d.left ≤ 9223372036854775807) (hm : L.length ≤ m) (hm2 : m ≤ 65535) : (runL L d).1.left ≤ 9223372036854775807 :=
  (runL_room L d (m := 0) (h.room hl (by omega))).1
theorem commW1_length (ps : List (Nat × Bs)) : ∀ i, (commW1 i ps).length = ps.length := by
  induction ps with
  | nil => intro i; rfl
  | cons a r ih => intro i; rw [commW1, List.length_cons, ih, List.length_cons]
theorem commW2_length (ps : List (Nat × Bs)) : (commW2 ps).length = ps.length := by rw [commW2_as]; simp [asW, comm2]
theorem commOps_length (ps : List (Nat × Bs)) : (commOps ps).length = 2 * ps.length + 6 := by
  unfold commOps mark3
  simp only [List.length_append, commW1_length, commW2_length, List.length_cons, List.length_nil]
  omega
theorem comm_left {ps : List (Nat × Bs)} (h : Quiet n c d) (hl : d.left ≤ 9223372036854775807) (hp : ps.length ≤ 40) : (runL (commOps ps) d).1.left ≤ 9223372036854775807 :=
  runL_left (commOps ps) h hl (m := 200) (by rw [commOps_length]; omega) (by omega)
/-- one put made here, whatever the power -/
theorem commit_one_led {w3 : World} (h : LedIn w B lp p d false) (hb : Below w.heap.size w w3) (hB : B ≤ w.heap.size) (hr : Room 200 d) (g0 cap a : Nat) (x : Bs) (h3 : w.heap.size ≤ g0) (hx : Bytes w3 (.slice (some ⟨g0, 0, none⟩) 512 cap) x) (hxl : x.length = 512) (ha : a + 96 < d.n) :
    Calls Try.prog 15 #[.pointer (some ⟨lp, 0, none⟩), .slice (some ⟨w3.heap.size, 0, none⟩) 1 1] (w3.alloc (.cells #[.int .i64 a, .slice (some ⟨g0, 0, none⟩) 512 cap] 26 (0, 0))) fun e w2 => CommIn w3 B lp p (runL (commOps [(a, x)]) d) e w2 := by
  have hal : Below w3.heap.size w3 (w3.alloc (.cells #[.int .i64 a, .slice (some ⟨g0, 0, none⟩) 512 cap] 26 (0, 0))) := (Below.refl _ _).alloc (Nat.le_refl _) _
  have hs := heap_alloc_new w3 (.cells #[.int .i64 a, .slice (some ⟨g0, 0, none⟩) 512 cap] 26 (0, 0))
  refine (commit_in h (hb.trans (hal.mono hb.size)) hB [(a, x)] _ (puts_one (g := w3.heap.size) (g0 := g0) (cap := cap) hb.size ?_ ?_ h3 (RowAt.below hx hal (Nat.le_refl _))) (putOk_one ha hxl) hr).mono ?_
  · rw [cell_of_row _ _ _ _ _ _ hs]; rfl
  · rw [cell_of_row _ _ _ _ _ _ hs]; rfl
  · rintro e w2 ⟨q1, q3⟩
    exact ⟨q1, (hal.mono (Nat.le_trans hB hb.size)).trans q3⟩
theorem commit_one_dead {w3 : World} (h : LedIn w B lp p d true) (hb : Below w.heap.size w w3) (hB : B ≤ w.heap.size) (g0 cap a : Nat) (x : Bs) (h3 : w.heap.size ≤ g0) (hx : Bytes w3 (.slice (some ⟨g0, 0, none⟩) 512 cap) x) (hxl : x.length = 512) (ha : a + 96 < d.n) :
    Calls Try.prog 15 #[.pointer (some ⟨lp, 0, none⟩), .slice (some ⟨w3.heap.size, 0, none⟩) 1 1] (w3.alloc (.cells #[.int .i64 a, .slice (some ⟨g0, 0, none⟩) 512 cap] 26 (0, 0))) fun e w2 => e = .returned (.int .i64 11) ∧ LedIn w2 B lp p d true ∧ Below B w3 w2 := by
  have hal : Below w3.heap.size w3 (w3.alloc (.cells #[.int .i64 a, .slice (some ⟨g0, 0, none⟩) 512 cap] 26 (0, 0))) := (Below.refl _ _).alloc (Nat.le_refl _) _
  have hs := heap_alloc_new w3 (.cells #[.int .i64 a, .slice (some ⟨g0, 0, none⟩) 512 cap] 26 (0, 0))
  have hn2 := h.n2
  obtain ⟨O, R, h1, h2⟩ := h
  have hbb := hb.trans (hal.mono hb.size)
  have hp := puts_one (w := w3.alloc (.cells #[.int .i64 a, .slice (some ⟨g0, 0, none⟩) 512 cap] 26 (0, 0))) (lo := w.heap.size) (g := w3.heap.size) (a := a) (g0 := g0) (cap := cap) (x := x) hb.size (by rw [cell_of_row _ _ _ _ _ _ hs]; rfl) (by rw [cell_of_row _ _ _ _ _ _ hs]; rfl) h3 (RowAt.below hx hal (Nat.le_refl _))
  refine (commit_dead (h1.below hbb) [(a, x)] _ (hp.weaken (fun j hj => h1.lt j hj)) (putOk_one ha hxl) hn2).mono ?_
  rintro e w2 ⟨q1, O', R', q3, q4⟩
  have := LedIn.of_turned h2 (Nat.le_trans hB hbb.size) q3 q4
  exact ⟨q1, this.1, (hal.mono (Nat.le_trans hB hb.size)).trans this.2⟩
theorem lread_dead (h : LedIn w B lp p d true) (hB : B ≤ w.heap.size) (k : Nat) (hk : k ≤ 1000000) : Calls Try.prog 17 #[.pointer (some ⟨lp, 0, none⟩), .int .i64 k] w fun e w' => e = .returned (.tuple #[.slice none 0 0, .int .i64 11]) ∧ LedIn w' B lp p d true ∧ Below B w w' := by
  have hn2 := h.n2
  obtain ⟨O, R, h1, h2⟩ := h
  refine (lRead_off h1 (.inl rfl) k hn2 (by omega) (by omega)).mono ?_
  rintro e w2 ⟨q1, O', R', q3, q4⟩
  exact ⟨q1, LedIn.of_turned h2 hB q3 q4⟩
theorem sync_dead (h : LedIn w B lp p d true) (hB : B ≤ w.heap.size) : Calls Try.prog 21 #[.pointer (some ⟨lp, 0, none⟩)] w fun e w' => e = .returned (.int .i64 11) ∧ LedIn w' B lp p d true ∧ Below B w w' := by
  obtain ⟨O, R, h1, h2⟩ := h
  refine (sync_off h1 (.inl rfl)).mono ?_
  rintro e w2 ⟨q1, O', R', q3, q4⟩
  exact ⟨q1, LedIn.of_turned h2 hB q3 q4⟩
/-- Sync, of a ledger that lives: with power or without -/
theorem sync_led (h : LedIn w B lp p d false) (hB : B ≤ w.heap.size) (hn : 0 < d.n) : Calls Try.prog 21 #[.pointer (some ⟨lp, 0, none⟩)] w fun e w' => ((d.off = false ∧ e = .returned (.int .i64 0) ∧ LedIn w' B lp p d false) ∨ (d.off = true ∧ e = .returned (.int .i64 11) ∧ LedIn w' B lp p d true)) ∧ Below B w w' := by
  have h0 := h
  obtain ⟨O, R, h1, h2⟩ := h
  cases ho : d.off with
  | true =>
    refine (sync_off h1 (.inr ho)).mono ?_
    rintro e w2 ⟨q1, O', R', q3, q4⟩
    have := LedIn.of_turned h2 hB q3 q4
    exact ⟨.inr ⟨rfl, q1, this.1⟩, this.2⟩
  | false =>
    refine (sync_ok h1 ho hn).mono ?_
    rintro e w2 ⟨q1, hb⟩
    exact ⟨.inl ⟨rfl, q1, h0.below hb⟩, hb.mono hB⟩
/-- Open of a disk that has a ledger: the ledger, or the power fails -/
theorem open_in {I : Bs} {l : List Nat} (h : DiskIn w B p d) (hB : B ≤ w.heap.size) (hr : Rest n I d) (hi : Img n I l c) (hn : 97 ≤ n) (ho : d.off = false) (hl : d.left ≤ 9223372036854775807) :
    Calls Try.prog 24 #[.pointer (some ⟨p, 0, none⟩)] w fun e w' => ((∃ lp D, e = .returned (.tuple #[.pointer (some ⟨lp, 0, none⟩), .int .i64 0]) ∧ LedIn w' B lp p D false ∧ Quiet n c D ∧ D.left ≤ 9223372036854775807 ∧ (Live d → Live D)) ∨
      (∃ D, e = .returned (.tuple #[.pointer none, .int .i64 11]) ∧ DiskIn w' B p D ∧ Cr n (fun I => ∃ l, Img n I l c) D ∧ ¬ Live d)) ∧ Below B w w' := by
  have hn2 := h.len.2.2.1
  obtain ⟨O, R, h1, h2⟩ := h
  have hrm : Room 60 d := ⟨hl, by rw [hr.back]; simp⟩
  have hrl : (runL (openOps d l) d).1.left ≤ 9223372036854775807 := by
    refine (runL_room (openOps d l) d (m := 0) (Room.less (m := 60) hrm ?_)).1
    unfold openOps
    split
    · simp
    · rw [settleOps, List.length_cons, List.length_append, settleW_length]
      have := way_len hi.way
      simp only [mark3, List.length_cons, List.length_nil]
      omega
  refine (open_any h1 hrm ho (by rw [hr.hn]; exact hn) hn2 l (by rw [hr.now]; exact hi.way) (by rw [hr.hn]; exact hi.fit)).mono ?_
  rintro e w2 (⟨q1, lp, O', R', q2, q3, q4⟩ | ⟨q1, q2, O', R', q3, q4⟩)
  · rcases open_done hr hi hn with ⟨D', e1, _⟩ | ⟨D', e1, e2⟩
    · rw [e1] at q1
      cases q1
    · rw [e1] at q3 hrl
      have := LedIn.of_turned h2 hB q3 q4
      exact ⟨.inl ⟨lp, D', q2, this.1, e2, hrl, fun hlv => by have := (runL_live (openOps d l) hlv).2; rw [e1] at this; exact this⟩, this.2⟩
  · rcases open_done hr hi hn with ⟨D', e1, e2⟩ | ⟨D', e1, _⟩
    · rw [e1] at q3
      have := DiskIn.of_turned h2 hB q3 q4
      exact ⟨.inr ⟨D', q2, this.1, e2, fun hlv => by have := (runL_live (openOps d l) hlv).1; rw [e1] at this; cases this⟩, this.2⟩
    · rw [e1] at q1
      cases q1
end Go.Proofs.Ythfncgbkigmmcaa
