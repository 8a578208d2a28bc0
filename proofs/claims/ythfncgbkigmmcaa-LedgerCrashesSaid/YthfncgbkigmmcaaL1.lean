/- What a ledger is in memory; must; what calls the disk through the interface. -/
import Derived.Test.YthfncgbkigmmcaaDisk10
import Derived.Defers
import Derived.Recover
namespace Go.Proofs.Ythfncgbkigmmcaa
open Go.RowKit

variable {w w' : World} {O R : Nat → Prop} {lp p : Nat} {d : DS} {dead : Bool}

/-- The block lp is a ledger on the disk p; what a call may turn lies in O, what the disk holds back in R. -/
structure LedO (w : World) (O R : Nat → Prop) (lp p : Nat) (d : DS) (dead : Bool) : Prop where
  disk : ∃ Od, DiskO w Od R p d ∧ (∀ j, Od j → O j) ∧ ¬ Od lp
  cell : w.heap[lp]? = some (.cells #[.iface 27 (.pointer (some ⟨p, 0, none⟩)), .bool dead] 76 (0, 0))
  own : O lp
  lt : ∀ j, O j → j < w.heap.size
  ap : ∀ j, O j → ¬ R j
namespace LedO
theorem c0 (h : LedO w O R lp p d dead) : w.cell? ⟨lp, 0, none⟩ = some (.iface 27 (.pointer (some ⟨p, 0, none⟩))) := by rw [cell_of_row w lp 0 _ _ _ h.cell]; rfl
theorem c1 (h : LedO w O R lp p d dead) : w.cell? ⟨lp, 1, none⟩ = some (.bool dead) := by rw [cell_of_row w lp 1 _ _ _ h.cell]; rfl
theorem fr (h : LedO w O R lp p d dead) (i : Nat) : w.frozen? ⟨lp, i, none⟩ = false := frozen_of_row w lp i _ _ h.cell
theorem below (h : LedO w O R lp p d dead) (hb : Below w.heap.size w w') : LedO w' O R lp p d dead := by
  obtain ⟨Od, h1, h2, h3⟩ := h.disk
  exact ⟨⟨Od, h1.below hb, h2, h3⟩, (hb.block lp (h.lt lp h.own)).trans h.cell, h.own, fun j hj => Nat.lt_of_lt_of_le (h.lt j hj) hb.size, h.ap⟩
/-- the disk alone has turned -/
theorem turn (h : LedO w O R lp p d dead) {Od Od' R' : Nat → Prop} {d' : DS} (_ : DiskO w Od R p d) (ho : ∀ j, Od j → O j) (hl : ¬ Od lp) (h' : DiskO w' Od' R' p d') (t : Turned w w' Od R Od' R') :
    ∃ O', LedO w' O' R' lp p d' dead ∧ Turned w w' O R O' R' := by
  have hll := h.lt lp h.own
  have hnl : ¬ Od' lp := fun e => (t.o lp e).elim hl (fun e => by have := e.1; omega)
  refine ⟨fun j => j = lp ∨ Od' j, ⟨⟨Od', h', fun j hj => .inr hj, hnl⟩, (t.keeps.block lp hll hl).trans h.cell, .inl rfl, ?_, ?_⟩, t.keeps.mono fun k _ e => ho k e, ?_, t.r⟩
  · rintro j (rfl | hj)
    · exact Nat.lt_of_lt_of_le hll t.keeps.size
    · exact h'.2.1 j hj
  · rintro j (rfl | hj)
    · intro e
      exact (t.r j e).elim (fun e => h.ap j h.own e) (fun e => by have := e.1; omega)
    · exact h'.2.2.2 j hj
  · rintro j (rfl | hj)
    · exact .inl h.own
    · exact (t.o j hj).imp (ho j) id
end LedO

/-- what a ledger gives up with -/
def stopP (e : Int) : List PanicEntry := [{ v := .iface 79 (.agg #[.int .i64 e]), recovered := false }]
theorem must_ok (w : World) : Calls Try.prog 42 #[.int .i64 0] w fun e w' => e = .returned (.tuple #[]) ∧ w' = w := by
  go_enter Try.func42, Try.ntmps42
  go_wp2
  go_end0
  exact ⟨rfl, rfl⟩
theorem must_not (e : Int) (h : (e != 0) = true) (w : World) : Calls Try.prog 42 #[.int .i64 e] w fun x w' => x = .panicked (stopP e) ∧ w' = w := by
  go_enter Try.func42, Try.ntmps42
  go_wp2
  exact ⟨rfl, rfl, rfl⟩

theorem disk_at (h : DiskO w O R p d) : ∃ gn gf vb vs, DiskAt w O R p d gn gf vb vs := h.1
set_option maxHeartbeats 400000 in
theorem lflush_ok (h : LedO w O R lp p d dead) (ho : d.off = false) (hll : d.left ≤ 9223372036854775807) : Calls Try.prog 40 #[.pointer (some ⟨lp, 0, none⟩)] w fun x w' => x = .returned (.tuple #[]) ∧ ∃ O' R', LedO w' O' R' lp p d.flush dead ∧ Turned w w' O R O' R' := by
  obtain ⟨Od, hd, h2, h3⟩ := h.disk
  have HF := Lib.hid (flush_o hd ho hll)
  have HT : Hid (∀ w', DiskO w' Od R p d.flush → Turned w w' Od R Od R → ∃ O' R', LedO w' O' R' lp p d.flush dead ∧ Turned w w' O R O' R') := fun w' a b => let ⟨O', x, y⟩ := h.turn hd h2 h3 a b; ⟨O', R, x, y⟩
  have c0 := h.c0
  clear h hd h2 h3 ho hll
  go_enter Try.func40, Try.ntmps40
  go_wp2_with fail
  refine (HF.out).mono ?_
  rintro e w1 ⟨rfl, h1, h2⟩
  have HR := Lib.hid (HT.out w1 h1 h2)
  clear h1 h2
  go_wp2_with fail
  refine (must_ok _).mono ?_
  rintro e w2 ⟨rfl, rfl⟩
  go_wp2_with fail
  go_end0
  exact ⟨rfl, HR.out⟩
set_option maxHeartbeats 400000 in
theorem lflush_off (h : LedO w O R lp p d dead) (ho : d.off = true) : Calls Try.prog 40 #[.pointer (some ⟨lp, 0, none⟩)] w fun x w' => x = .panicked (stopP 11) ∧ Below w.heap.size w w' := by
  obtain ⟨Od, hd, h2, h3⟩ := h.disk
  obtain ⟨gn, gf, vb, vs, hda⟩ := disk_at hd
  have HF := Lib.hid (flush_off hda ho)
  have c0 := h.c0
  clear h hd h2 h3 ho hda
  go_enter Try.func40, Try.ntmps40
  go_wp2_with fail
  refine (HF.out).mono ?_
  rintro e w1 ⟨rfl, h1⟩
  have HR := Lib.hid h1
  clear h1
  go_wp2_with fail
  refine (must_not 11 rfl _).mono ?_
  rintro e w2 ⟨rfl, rfl⟩
  go_wp2_with fail
  exact ⟨rfl, rfl, HR.out⟩
set_option maxHeartbeats 400000 in
theorem lread_ok (h : LedO w O R lp p d dead) (ho : d.off = false) (k : Nat) (hk : k < d.n) : Calls Try.prog 43 #[.pointer (some ⟨lp, 0, none⟩), .int .i64 k] w fun e w' => ∃ g cap, e = .returned (.slice (some ⟨g, 0, none⟩) 512 cap) ∧ Bytes w' (.slice (some ⟨g, 0, none⟩) 512 cap) (blockAt d.now k) ∧ w.heap.size ≤ g ∧ g < w'.heap.size ∧ 512 ≤ cap ∧ (∀ i, w'.frozen? ⟨g, i, none⟩ = false) ∧ Below w.heap.size w w' := by
  obtain ⟨Od, hd, h2, h3⟩ := h.disk
  obtain ⟨gn, gf, vb, vs, hda⟩ := disk_at hd
  have HF := Lib.hid (read_ok hda k hk ho)
  have c0 := h.c0
  clear h hd h2 h3 ho hda hk
  go_enter Try.func43, Try.ntmps43
  go_wp2_with fail
  refine (HF.out).mono ?_
  rintro e w1 ⟨g, cap, rfl, h1, h2, h3, h4, h5, h6⟩
  have HR := Lib.hid (And.intro h1 (And.intro h2 (And.intro h3 (And.intro h4 (And.intro h5 h6)))))
  clear h1 h2 h3 h4 h5 h6
  go_wp2_with fail
  refine (must_ok _).mono ?_
  rintro e w2 ⟨rfl, rfl⟩
  go_wp2_with fail
  go_ret
  exact ⟨g, cap, rfl, HR.out⟩
set_option maxHeartbeats 400000 in
theorem lread_bad (h : LedO w O R lp p d dead) (at_ : Int) (hb : (d.there at_ != 0) = true) : Calls Try.prog 43 #[.pointer (some ⟨lp, 0, none⟩), .int .i64 at_] w fun x w' => x = .panicked (stopP (d.there at_)) ∧ w' = w := by
  obtain ⟨Od, hd, h2, h3⟩ := h.disk
  obtain ⟨gn, gf, vb, vs, hda⟩ := disk_at hd
  have HF := Lib.hid (read_bad hda at_ hb)
  have c0 := h.c0
  generalize d.there at_ = x at *
  have HX := Lib.hid hb
  clear h hd h2 h3 hda hb
  go_enter Try.func43, Try.ntmps43
  go_wp2_with fail
  refine (HF.out).mono ?_
  rintro e w1 ⟨rfl, rfl⟩
  go_wp2_with fail
  refine (must_not x HX.out _).mono ?_
  rintro e w2 ⟨rfl, rfl⟩
  go_wp2_with fail
  exact ⟨rfl, rfl, rfl⟩
set_option maxHeartbeats 400000 in
theorem lwrite_ok (h : LedO w O R lp p d dead) (ho : d.off = false) (hll : d.left ≤ 9223372036854775807) (hn : d.back.length < 65536) (k : Nat) (hk : k < d.n) (g0 off cap : Nat) (hg : ¬ O g0) (hgl : g0 < w.heap.size) (x : Bs) (hx : Bytes w (.slice (some ⟨g0, off, none⟩) 512 cap) x) (hxl : x.length = 512) :
    Calls Try.prog 39 #[.pointer (some ⟨lp, 0, none⟩), .int .i64 k, .slice (some ⟨g0, off, none⟩) 512 cap] w fun e w' => e = .returned (.tuple #[]) ∧ ∃ O' R', LedO w' O' R' lp p (d.write k x) dead ∧ Turned w w' O R O' R' := by
  obtain ⟨Od, hd, h2, h3⟩ := h.disk
  have HT : Hid (∀ w' Od' R', DiskO w' Od' R' p (d.write k x) → Turned w w' Od R Od' R' → ∃ O' R', LedO w' O' R' lp p (d.write k x) dead ∧ Turned w w' O R O' R') := fun w' Od' R' a b => let ⟨O', x, y⟩ := h.turn hd h2 h3 a b; ⟨O', R', x, y⟩
  have HF : Hid (Calls Try.prog 74 #[.pointer (some ⟨p, 0, none⟩), .int .i64 k, .slice (some ⟨g0, off, none⟩) 512 cap] w fun e w2 => e = .returned (.int .i64 0) ∧ ∃ O' R', DiskO w2 O' R' p (d.write k x) ∧ Turned w w2 Od R O' R') := by
    obtain ⟨⟨gn, gf, vb, vs, hda⟩, hO, hR, _⟩ := hd
    refine (write_ok hda k hk ho hll hn g0 off cap x hx hxl (fun e => hg (h2 _ e)) hgl).mono ?_
    rintro e w2 ⟨rfl, h1, h2⟩
    obtain ⟨O', R', h3, h4, h5⟩ := h1.canon (fun j hj => hj.elim (fun e => Nat.lt_of_lt_of_le (hO j e) h2.size) (·.2)) (fun j hj => hj.elim (fun e => Nat.lt_of_lt_of_le (hR j e) h2.size) (·.2))
    exact ⟨rfl, O', R', h3, h2, h4, h5⟩
  have c0 := h.c0
  clear h hd h2 h3 ho hx hk hg hgl hxl hn hll
  generalize d.write k x = d' at *
  go_enter Try.func39, Try.ntmps39
  go_wp2_with fail
  refine (HF.out).mono ?_
  rintro e w1 ⟨rfl, Od', R', h1, h2⟩
  have HR := Lib.hid (HT.out w1 Od' R' h1 h2)
  clear h1 h2
  go_wp2_with fail
  refine (must_ok _).mono ?_
  rintro e w2 ⟨rfl, rfl⟩
  go_wp2_with fail
  go_end0
  exact ⟨rfl, HR.out⟩
set_option maxHeartbeats 400000 in
theorem lwrite_off (h : LedO w O R lp p d dead) (ho : d.off = true) (at_ : Int) (v : Value) : Calls Try.prog 39 #[.pointer (some ⟨lp, 0, none⟩), .int .i64 at_, v] w fun x w' => x = .panicked (stopP 11) ∧ w' = w := by
  obtain ⟨Od, hd, h2, h3⟩ := h.disk
  obtain ⟨gn, gf, vb, vs, hda⟩ := disk_at hd
  have ht : d.there at_ = 11 := by unfold DS.there; rw [if_pos ho]
  have HF := Lib.hid (write_there hda at_ (by rw [ht]; rfl) v)
  rw [ht] at HF
  have c0 := h.c0
  clear h hd h2 h3 hda ht ho
  go_enter Try.func39, Try.ntmps39
  go_wp2_with fail
  refine (HF.out).mono ?_
  rintro e w1 ⟨rfl, rfl⟩
  go_wp2_with fail
  refine (must_not 11 rfl _).mono ?_
  rintro e w2 ⟨rfl, rfl⟩
  go_wp2_with fail
  exact ⟨rfl, rfl, rfl⟩
theorem awake_ok (h : LedO w O R lp p d false) : Calls Try.prog 38 #[.pointer (some ⟨lp, 0, none⟩)] w fun x w' => x = .returned (.tuple #[]) ∧ w' = w := by
  have c1 := h.c1
  clear h
  go_enter Try.func38, Try.ntmps38
  go_wp2_with fail
  go_end0
  exact ⟨rfl, rfl⟩
theorem awake_dead (h : LedO w O R lp p d true) : Calls Try.prog 38 #[.pointer (some ⟨lp, 0, none⟩)] w fun x w' => x = .panicked (stopP 11) ∧ w' = w := by
  have c1 := h.c1
  clear h
  go_enter Try.func38, Try.ntmps38
  go_wp2_with fail
  exact ⟨rfl, rfl, rfl⟩
theorem lblocks_any (h : LedO w O R lp p d dead) : Calls Try.prog 27 #[.pointer (some ⟨lp, 0, none⟩)] w fun x w' => x = .returned (.int .i64 ((d.n : Int) - 96)) ∧ w' = w := by
  obtain ⟨Od, hd, h2, h3⟩ := h.disk
  obtain ⟨gn, gf, vb, vs, hda⟩ := disk_at hd
  have HF := Lib.hid (blocks_any hda)
  have hn := hda.n2
  have c0 := h.c0
  clear h hd h2 h3 hda
  go_enter Try.func27, Try.ntmps27
  go_wp2_with fail
  refine (HF.out).mono ?_
  rintro e w1 ⟨rfl, rfl⟩
  go_wp2_with fail
  go_ret
  exact ⟨by first | rfl | (congr 3; omega), rfl⟩
end Go.Proofs.Ythfncgbkigmmcaa
