/- A disk as a law holds it; alive. -/
import Derived.Test.YthfncgbkigmmcaaDisk7
namespace Go.Proofs.Ythfncgbkigmmcaa
open Go.RowKit

variable {w w' : World} {O R : Nat → Prop} {p B : Nat} {d : DS}

theorem IsDisk.each (h : IsDisk w O R p d) : ∀ x ∈ d.back, x.1 < d.n ∧ x.2.length = 512 := by obtain ⟨_, _, _, _, h⟩ := h; exact h.each
theorem IsDisk.small (h : IsDisk w O R p d) : d.back.length ≤ 65536 := by obtain ⟨_, _, _, _, h⟩ := h; exact h.small
theorem IsDisk.nlen (h : IsDisk w O R p d) : d.now.length = 512 * d.n := by obtain ⟨_, _, _, _, h⟩ := h; exact h.nlen
theorem IsDisk.flen (h : IsDisk w O R p d) : d.fast.length = 512 * d.n := by obtain ⟨_, _, _, _, h⟩ := h; exact h.flen
theorem IsDisk.n2 (h : IsDisk w O R p d) : d.n ≤ 4096 := by obtain ⟨_, _, _, _, h⟩ := h; exact h.n2

/-- A disk whose blocks are there, and apart. -/
def DiskO (w : World) (O R : Nat → Prop) (p : Nat) (d : DS) : Prop := IsDisk w O R p d ∧ (∀ j, O j → j < w.heap.size) ∧ (∀ j, R j → j < w.heap.size) ∧ ∀ j, O j → ¬ R j
theorem IsDisk.canon (h : IsDisk w O R p d) (hO : ∀ j, O j → j < w.heap.size) (hR : ∀ j, R j → j < w.heap.size) : ∃ O' R', DiskO w O' R' p d ∧ (∀ j, O' j → O j) ∧ ∀ j, R' j → R j := by
  obtain ⟨gn, gf, vb, vs, h⟩ := h
  refine ⟨fun j => O j ∧ (j = p ∨ j = gn ∨ j = gf ∨ vb.ownBlock = some j), fun j => R j ∧ j ≠ p ∧ j ≠ gn ∧ j ≠ gf ∧ vb.ownBlock ≠ some j, ⟨⟨gn, gf, vb, vs, ?_⟩, fun j hj => hO j hj.1, fun j hj => hR j hj.1, fun j h1 h2 => ?_⟩, fun j hj => hj.1, fun j hj => hj.1⟩
  · exact { h with
      held := fun i hi => by
        obtain ⟨v, h1, h2, h3⟩ := h.held i hi
        exact ⟨v, h1, h2, h3.mono fun j ⟨a, b, c⟩ => ⟨⟨a, c⟩, b, c⟩⟩
      ownP := ⟨h.ownP, .inl rfl⟩
      ownN := ⟨h.ownN, .inr (.inl rfl)⟩
      ownF := ⟨h.ownF, .inr (.inr (.inl rfl))⟩
      ownB := fun k e => ⟨h.ownB k e, .inr (.inr (.inr e))⟩ }
  · obtain ⟨_, a, b, c, e⟩ := h2
    rcases h1.2 with rfl | rfl | rfl | h1
    · exact a rfl
    · exact b rfl
    · exact c rfl
    · exact e h1
/-- A call has turned a disk's blocks alone; what it has now it had, or it has come since. -/
structure Turned (w w' : World) (O R O' R' : Nat → Prop) : Prop where
  keeps : Keeps O w w'
  o : ∀ j, O' j → O j ∨ NewIn w w' j
  r : ∀ j, R' j → R j ∨ NewIn w w' j
theorem Turned.refl (w : World) (O R : Nat → Prop) : Turned w w O R O R := ⟨Keeps.refl _ _, fun _ => .inl, fun _ => .inl⟩
theorem NewIn.left {a b c : World} {j : Nat} (h : NewIn a b j) (hs : b.heap.size ≤ c.heap.size) : NewIn a c j := ⟨h.1, Nat.lt_of_lt_of_le h.2 hs⟩
theorem NewIn.right {a b c : World} {j : Nat} (h : NewIn b c j) (hs : a.heap.size ≤ b.heap.size) : NewIn a c j := ⟨Nat.le_trans hs h.1, h.2⟩
theorem Turned.trans {a b c : World} {O R O1 R1 O2 R2 : Nat → Prop} (h : Turned a b O R O1 R1) (k : Turned b c O1 R1 O2 R2) : Turned a c O R O2 R2 :=
  ⟨h.keeps.trans k.keeps (fun i hi => (h.o i hi).imp id (·.1)),
   fun j hj => (k.o j hj).elim (fun e => (h.o j e).imp id (·.left k.keeps.size)) (fun e => .inr (e.right h.keeps.size)),
   fun j hj => (k.r j hj).elim (fun e => (h.r j e).imp id (·.left k.keeps.size)) (fun e => .inr (e.right h.keeps.size))⟩
theorem Turned.of_below {a b : World} (h : Below a.heap.size a b) (O R : Nat → Prop) : Turned a b O R O R := ⟨Keeps.of_below h, fun _ => .inl, fun _ => .inl⟩
/-- Two disks have no cell in common that one of them turns. -/
def Apart (O R O2 R2 : Nat → Prop) : Prop := (∀ j, O j → ¬ O2 j ∧ ¬ R2 j) ∧ ∀ j, O2 j → ¬ R j
theorem Apart.symm {O R O2 R2 : Nat → Prop} (h : Apart O R O2 R2) : Apart O2 R2 O R := ⟨fun j hj => ⟨fun e => (h.1 j e).1 hj, h.2 j hj⟩, fun j hj => (h.1 j hj).2⟩
theorem DiskO.below {w w' : World} (h : DiskO w O R p d) (hb : Below w.heap.size w w') : DiskO w' O R p d := ⟨h.1.below hb, fun j hj => Nat.lt_of_lt_of_le (h.2.1 j hj) hb.size, fun j hj => Nat.lt_of_lt_of_le (h.2.2.1 j hj) hb.size, h.2.2.2⟩
theorem DiskO.other {w w' : World} {O R O' R' O2 R2 : Nat → Prop} {p2 : Nat} {e : DS} (h : DiskO w O2 R2 p2 e) (t : Turned w w' O R O' R') (a : Apart O R O2 R2) : DiskO w' O2 R2 p2 e ∧ Apart O' R' O2 R2 := by
  refine ⟨⟨h.1.keep t.keeps (fun i hi ho => (a.1 i ho).1 hi) (fun i hi ho => (a.1 i ho).2 hi), fun j hj => Nat.lt_of_lt_of_le (h.2.1 j hj) t.keeps.size, fun j hj => Nat.lt_of_lt_of_le (h.2.2.1 j hj) t.keeps.size, h.2.2.2⟩, fun j hj => ?_, fun j hj hr => ?_⟩
  · rcases t.o j hj with h1 | h1
    · exact a.1 j h1
    · exact ⟨fun e => by have := h.2.1 j e; have := h1.1; omega, fun e => by have := h.2.2.1 j e; have := h1.1; omega⟩
  · rcases t.r j hr with h1 | h1
    · exact a.2 j hj h1
    · have := h.2.1 j hj; have := h1.1; omega

theorem new_o (n : Nat) (w : World) (h1 : 1 ≤ n) (h2 : n ≤ 4096) : Calls Try.prog 23 #[.int .i64 n] w fun e w' => ∃ p, e = .returned (.tuple #[.pointer (some ⟨p, 0, none⟩), .int .i64 0]) ∧ (∃ O R, DiskO w' O R p (DS.new n) ∧ (∀ j, O j → NewIn w w' j) ∧ ∀ j, R j → NewIn w w' j) ∧ Below w.heap.size w w' :=
  (new_any n w h1 h2).mono fun _ _ ⟨p, e, h, hb⟩ => ⟨p, e, h.canon (fun _ hj => hj.2) (fun _ hj => hj.2), hb⟩
theorem write_o (h : DiskO w O R p d) (g0 cap : Nat) (hg : ¬ O g0) (hgl : g0 < w.heap.size) (k : Nat) (hk : k < d.n) (ho : d.off = false) (hll : d.left ≤ 9223372036854775807) (hn : d.back.length < 65536) (x : Bs) (hx : Bytes w (.slice (some ⟨g0, 0, none⟩) 512 cap) x) (hxl : x.length = 512) :
    Calls Try.prog 74 #[.pointer (some ⟨p, 0, none⟩), .int .i64 k, .slice (some ⟨g0, 0, none⟩) 512 cap] w fun e w2 => e = .returned (.int .i64 0) ∧ ∃ O' R', DiskO w2 O' R' p (d.write k x) ∧ Turned w w2 O R O' R' := by
  obtain ⟨⟨gn, gf, vb, vs, hd⟩, hO, hR, _⟩ := h
  refine (write_ok hd k hk ho hll hn g0 0 cap x hx hxl hg hgl).mono ?_
  rintro e w2 ⟨rfl, h1, h2⟩
  obtain ⟨O', R', h3, h4, h5⟩ := h1.canon (fun j hj => hj.elim (fun e => Nat.lt_of_lt_of_le (hO j e) h2.size) (·.2)) (fun j hj => hj.elim (fun e => Nat.lt_of_lt_of_le (hR j e) h2.size) (·.2))
  exact ⟨rfl, O', R', h3, h2, h4, h5⟩
theorem fuse_o (h : DiskO w O R p d) (s : Int) (hs : -1 ≤ s) (ho : d.off = false) : Calls Try.prog 19 #[.pointer (some ⟨p, 0, none⟩), .int .i64 s] w fun e w' => e = .returned (.int .i64 0) ∧ DiskO w' O R p { d with left := s, off := s == 0 } ∧ Turned w w' O R O R := by
  obtain ⟨⟨gn, gf, vb, vs, hd⟩, hO, hR, hOR⟩ := h
  refine (fuse_any hd s hs ho).mono ?_
  rintro e w' ⟨rfl, h1, h2⟩
  exact ⟨rfl, ⟨⟨gn, gf, vb, vs, h1⟩, fun j hj => Nat.lt_of_lt_of_le (hO j hj) h2.size, fun j hj => Nat.lt_of_lt_of_le (hR j hj) h2.size, hOR⟩, h2.mono (fun b _ e => e ▸ hd.ownP), fun _ => .inl, fun _ => .inl⟩

/-- Blocks beyond B make a disk. -/
def DiskIn (w : World) (B p : Nat) (d : DS) : Prop := ∃ O R, DiskO w O R p d ∧ ∀ j, O j → B ≤ j
theorem DiskIn.below (h : DiskIn w B p d) (hb : Below w.heap.size w w') : DiskIn w' B p d := let ⟨O, R, h1, h2⟩ := h; ⟨O, R, h1.below hb, h2⟩
theorem DiskIn.drew (h : DiskIn w B p d) : DiskIn w.drew B p d := h.below (Below.refl _ _).drew
theorem DiskIn.len (h : DiskIn w B p d) : d.now.length = 512 * d.n ∧ d.fast.length = 512 * d.n ∧ d.n ≤ 4096 ∧ d.back.length ≤ 65536 ∧ ∀ x ∈ d.back, x.1 < d.n ∧ x.2.length = 512 := let ⟨_, _, h, _⟩ := h; ⟨h.1.nlen, h.1.flen, h.1.n2, h.1.small, h.1.each⟩
theorem DiskIn.of_turned {O R O' R' : Nat → Prop} {d' : DS} (hO : ∀ j, O j → B ≤ j) (hB : B ≤ w.heap.size) (h : DiskO w' O' R' p d') (t : Turned w w' O R O' R') : DiskIn w' B p d' ∧ Below B w w' :=
  ⟨⟨O', R', h, fun j hj => (t.o j hj).elim (hO j) (fun e => Nat.le_trans hB e.1)⟩, t.keeps.below_of hB (fun k hk e => by have := hO k e; omega)⟩

theorem new_in (n : Nat) (w : World) (h1 : 1 ≤ n) (h2 : n ≤ 4096) : Calls Try.prog 23 #[.int .i64 n] w fun e w' => ∃ p, e = .returned (.tuple #[.pointer (some ⟨p, 0, none⟩), .int .i64 0]) ∧ DiskIn w' w.heap.size p (DS.new n) ∧ Below w.heap.size w w' :=
  (new_o n w h1 h2).mono fun _ _ ⟨p, e, ⟨O, R, h, hO, _⟩, hb⟩ => ⟨p, e, ⟨O, R, h, fun j hj => (hO j hj).1⟩, hb⟩
/-- a block is made, then written -/
theorem write_in (h : DiskIn w B p d) (g0 cap : Nat) (hg : w.heap.size ≤ g0) (hb : Below w.heap.size w w') (hgl : g0 < w'.heap.size) (hB : B ≤ w.heap.size) (k : Nat) (hk : k < d.n) (ho : d.off = false) (hll : d.left ≤ 9223372036854775807) (hn : d.back.length < 65536) (x : Bs) (hx : Bytes w' (.slice (some ⟨g0, 0, none⟩) 512 cap) x) (hxl : x.length = 512) :
    Calls Try.prog 74 #[.pointer (some ⟨p, 0, none⟩), .int .i64 k, .slice (some ⟨g0, 0, none⟩) 512 cap] w' fun e w2 => e = .returned (.int .i64 0) ∧ DiskIn w2 B p (d.write k x) ∧ Below B w' w2 := by
  obtain ⟨O, R, hd, hO⟩ := h
  refine (write_o (hd.below hb) g0 cap (fun h => by have := hd.2.1 _ h; omega) hgl k hk ho hll hn x hx hxl).mono ?_
  rintro e w2 ⟨rfl, O', R', h1, h2⟩
  exact ⟨rfl, DiskIn.of_turned hO (Nat.le_trans hB hb.size) h1 h2⟩
theorem read_in (h : DiskIn w B p d) (k : Nat) (hk : k < d.n) (ho : d.off = false) :
    Calls Try.prog 73 #[.pointer (some ⟨p, 0, none⟩), .int .i64 k] w fun e w' => ∃ g cap, e = .returned (.tuple #[.slice (some ⟨g, 0, none⟩) 512 cap, .int .i64 0]) ∧ Bytes w' (.slice (some ⟨g, 0, none⟩) 512 cap) (blockAt d.now k) ∧ w.heap.size ≤ g ∧ g < w'.heap.size ∧ DiskIn w' B p d ∧ Below w.heap.size w w' := by
  have h0 := h
  obtain ⟨O, R, ⟨⟨gn, gf, vb, vs, hd⟩, _⟩, hO⟩ := h
  refine (read_ok hd k hk ho).mono ?_
  rintro e w' ⟨g, cap, rfl, h1, h2, h3, _, _, hb⟩
  exact ⟨g, cap, rfl, h1, h2, h3, h0.below hb, hb⟩
theorem blocks_in (h : DiskIn w B p d) : Calls Try.prog 48 #[.pointer (some ⟨p, 0, none⟩)] w fun e w' => e = .returned (.int .i64 d.n) ∧ w = w' := by
  obtain ⟨O, R, ⟨⟨gn, gf, vb, vs, hd⟩, _⟩, hO⟩ := h
  exact blocks_any hd
theorem on_in (h : DiskIn w B p d) : Calls Try.prog 35 #[.pointer (some ⟨p, 0, none⟩)] w fun e w' => e = .returned (.bool !d.off) ∧ w = w' := by
  obtain ⟨O, R, ⟨⟨gn, gf, vb, vs, hd⟩, _⟩, hO⟩ := h
  exact on_any hd
theorem pending_in (h : DiskIn w B p d) : Calls Try.prog 25 #[.pointer (some ⟨p, 0, none⟩)] w fun e w' => ∃ a cap, e = .returned (.slice a d.back.length cap) ∧ DiskIn w' B p d ∧ Below w.heap.size w w' := by
  have h0 := h
  obtain ⟨O, R, ⟨⟨gn, gf, vb, vs, hd⟩, _⟩, hO⟩ := h
  refine (pending_any hd).mono ?_
  rintro e w' ⟨v, rfl, hr, hb⟩
  obtain ⟨a, cap, rfl⟩ := row_len hr
  exact ⟨a, cap, rfl, h0.below hb, hb⟩
theorem fuse_in (h : DiskIn w B p d) (hB : B ≤ w.heap.size) (s : Int) (hs : -1 ≤ s) (ho : d.off = false) : Calls Try.prog 19 #[.pointer (some ⟨p, 0, none⟩), .int .i64 s] w fun e w' => e = .returned (.int .i64 0) ∧ DiskIn w' B p { d with left := s, off := s == 0 } ∧ Below B w w' := by
  obtain ⟨O, R, hd, hO⟩ := h
  refine (fuse_o hd s hs ho).mono ?_
  rintro e w' ⟨rfl, h1, h2⟩
  exact ⟨rfl, DiskIn.of_turned hO hB h1 h2⟩

theorem blockAt_put {l b : Bs} {k n : Nat} (hl : l.length = 512 * n) (hk : k < n) (hb : b.length = 512) : blockAt (putAt l k b) k = b := by
  have h1 : (List.take (512 * k) l).length = 512 * k := by rw [List.length_take]; omega
  unfold blockAt putAt splice
  rw [List.drop_append_of_le_length (by omega), List.drop_of_length_le (by omega), List.nil_append, List.take_append_of_le_length (by omega), List.take_of_length_le (by omega)]
theorem new_now (n : Nat) : (DS.new n).now.length = 512 * n := List.length_replicate
theorem new_fast (n : Nat) : (DS.new n).fast.length = 512 * n := List.length_replicate
theorem DS.write_never (d : DS) (k : Nat) (x : Bs) (h : d.left ≤ 0) : d.write k x = { d with back := d.back ++ [(k, x)], now := putAt d.now k x } := by
  unfold DS.write DS.step
  rw [if_neg (by simp; omega)]
end Go.Proofs.Ythfncgbkigmmcaa
