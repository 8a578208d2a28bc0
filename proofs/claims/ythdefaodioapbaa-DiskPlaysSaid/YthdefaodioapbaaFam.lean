/- Several disks that have nothing in common: each call turns one of them. -/
import Derived.Test.YthdefaodioapbaaFill
import Derived.Test.YthdefaodioapbaaTwin
import Derived.Test.YthdefaodioapbaaSame
namespace Go.Proofs.Ythdefaodioapbaa
open Go.RowKit

variable {w w' : World} {O R : Nat → Prop} {p B : Nat} {d : DS}

/-- A disk with its blocks. -/
structure DK where
  O : Nat → Prop
  R : Nat → Prop
  p : Nat
  d : DS
def Fam (w : World) (B : Nat) (l : List DK) : Prop := (∀ x ∈ l, DiskO w x.O x.R x.p x.d ∧ ∀ j, x.O j → B ≤ j) ∧ l.Pairwise fun x y => Apart x.O x.R y.O y.R
theorem Fam.below {l : List DK} (h : Fam w B l) (hb : Below w.heap.size w w') : Fam w' B l := ⟨fun x hx => ⟨(h.1 x hx).1.below hb, (h.1 x hx).2⟩, h.2⟩
theorem Fam.perm {l l' : List DK} (hp : l.Perm l') (h : Fam w B l) : Fam w B l' := ⟨fun x hx => h.1 x (hp.mem_iff.2 hx), (hp.pairwise_iff (fun {_ _} h => h.symm)).1 h.2⟩
theorem Fam.head {x : DK} {l : List DK} {O' R' : Nat → Prop} {d' : DS} (h : Fam w B (x :: l)) (hB : B ≤ w.heap.size) (t : Turned w w' x.O x.R O' R') (hd : DiskO w' O' R' x.p d') : Fam w' B (⟨O', R', x.p, d'⟩ :: l) := by
  have hp := List.pairwise_cons.1 h.2
  refine ⟨fun y hy => ?_, List.pairwise_cons.2 ⟨fun y hy => ?_, hp.2⟩⟩
  · rcases List.mem_cons.1 hy with rfl | hy
    · exact ⟨hd, fun j hj => (t.o j hj).elim ((h.1 x (by simp)).2 j) (fun e => Nat.le_trans hB e.1)⟩
    · have h1 := h.1 y (by simp [hy])
      exact ⟨(h1.1.other t (hp.1 y hy)).1, h1.2⟩
  · exact ((h.1 y (by simp [hy])).1.other t (hp.1 y hy)).2
theorem Fam.new {l : List DK} (h : Fam w B l) (hB : B ≤ w.heap.size) (hb : Below w.heap.size w w') (hd : DiskO w' O R p d) (hO : ∀ j, O j → NewIn w w' j) (hR : ∀ j, R j → NewIn w w' j) : Fam w' B (⟨O, R, p, d⟩ :: l) := by
  have h' := h.below hb
  refine ⟨fun y hy => ?_, List.pairwise_cons.2 ⟨fun y hy => ⟨fun j hj => ⟨fun e => ?_, fun e => ?_⟩, fun j hj e => ?_⟩, h.2⟩⟩
  · rcases List.mem_cons.1 hy with rfl | hy
    · exact ⟨hd, fun j hj => Nat.le_trans hB (hO j hj).1⟩
    · exact h'.1 y hy
  · have := (h.1 y hy).1.2.1 j e; have := (hO j hj).1; omega
  · have := (h.1 y hy).1.2.2.1 j e; have := (hO j hj).1; omega
  · have := (h.1 y hy).1.2.1 j hj; have := (hR j e).1; omega
theorem Fam.twin {x : DK} {l : List DK} {q : Nat} (h : Fam w B (x :: l)) (hB : B ≤ w.heap.size) (hb : Below w.heap.size w w') (hd : DiskO w' (NewIn w w') x.R q x.d) (ha : Apart x.O x.R (NewIn w w') x.R) : Fam w' B (⟨NewIn w w', x.R, q, x.d⟩ :: x :: l) := by
  have h' := h.below hb
  have hp := List.pairwise_cons.1 h.2
  refine ⟨fun y hy => ?_, List.pairwise_cons.2 ⟨fun y hy => ?_, h.2⟩⟩
  · rcases List.mem_cons.1 hy with rfl | hy
    · exact ⟨hd, fun j hj => Nat.le_trans hB hj.1⟩
    · exact h'.1 y hy
  · rcases List.mem_cons.1 hy with rfl | hy
    · exact ha.symm
    · refine ⟨fun j hj => ⟨fun e => ?_, fun e => ?_⟩, (hp.1 y hy).2⟩
      · have := (h.1 y (by simp [hy])).1.2.1 j e; have := hj.1; omega
      · have := (h.1 y (by simp [hy])).1.2.2.1 j e; have := hj.1; omega

/-- Disks (where, which), apart from each other, beyond B. -/
def Disks (w : World) (B : Nat) (l : List (Nat × DS)) : Prop := ∃ L : List DK, L.map (fun x => (x.p, x.d)) = l ∧ Fam w B L
theorem Disks.nil (w : World) (B : Nat) : Disks w B [] := ⟨[], rfl, fun x hx => (by cases hx), List.Pairwise.nil⟩
theorem Disks.below {l : List (Nat × DS)} (h : Disks w B l) (hb : Below w.heap.size w w') : Disks w' B l := let ⟨L, h1, h2⟩ := h; ⟨L, h1, h2.below hb⟩
theorem Disks.get {l : List (Nat × DS)} (h : Disks w B l) (hm : (p, d) ∈ l) : DiskIn w B p d := by
  obtain ⟨L, rfl, h1⟩ := h
  obtain ⟨x, hx, he⟩ := List.mem_map.1 hm
  cases he
  exact ⟨x.O, x.R, h1.1 x hx⟩
theorem Fam.tail {x : DK} {l : List DK} (h : Fam w B (x :: l)) : Fam w B l := ⟨fun y hy => h.1 y (List.mem_cons_of_mem _ hy), (List.pairwise_cons.1 h.2).2⟩
theorem Disks.tail {x : Nat × DS} {l : List (Nat × DS)} (h : Disks w B (x :: l)) : Disks w B l := by
  obtain ⟨L, h1, h2⟩ := h
  cases L with
  | nil => cases h1
  | cons y L =>
    simp only [List.map_cons, List.cons.injEq] at h1
    exact ⟨L, h1.2, h2.tail⟩
theorem Disks.two {a b : Nat × DS} {l : List (Nat × DS)} (h : Disks w B (a :: b :: l)) : Disks w B (b :: a :: l) := by
  obtain ⟨L, h1, h2⟩ := h
  match L, h1 with
  | x :: y :: L, h1 =>
    simp only [List.map_cons, List.cons.injEq] at h1
    exact ⟨y :: x :: L, by simp [h1], h2.perm (List.Perm.swap y x L)⟩
theorem Disks.three {a b c : Nat × DS} {l : List (Nat × DS)} (h : Disks w B (a :: b :: c :: l)) : Disks w B (c :: a :: b :: l) := by
  obtain ⟨L, h1, h2⟩ := h
  match L, h1 with
  | x :: y :: z :: L, h1 =>
    simp only [List.map_cons, List.cons.injEq] at h1
    exact ⟨z :: x :: y :: L, by simp [h1], h2.perm (((List.Perm.swap z y L).cons x).trans (List.Perm.swap z x (y :: L)))⟩
/-- The first one is turned. -/
theorem Disks.turn {l : List (Nat × DS)} (h : Disks w B ((p, d) :: l)) (hB : B ≤ w.heap.size) : ∃ O R, DiskO w O R p d ∧ (∀ j, O j → B ≤ j) ∧ ∀ {w' : World} {O' R' : Nat → Prop} {d' : DS}, Turned w w' O R O' R' → DiskO w' O' R' p d' → Disks w' B ((p, d') :: l) ∧ Below B w w' := by
  obtain ⟨L, h1, h2⟩ := h
  cases L with
  | nil => cases h1
  | cons x L =>
    simp only [List.map_cons, List.cons.injEq, Prod.mk.injEq] at h1
    obtain ⟨⟨rfl, rfl⟩, rfl⟩ := h1
    have hx := h2.1 x (by simp)
    refine ⟨x.O, x.R, hx.1, hx.2, fun {w' O' R' d'} t hd => ⟨⟨⟨O', R', x.p, d'⟩ :: L, rfl, h2.head hB t hd⟩, t.keeps.below_of hB (fun k hk e => ?_)⟩⟩
    have := hx.2 k e
    omega

theorem new_d {l : List (Nat × DS)} (h : Disks w B l) (hB : B ≤ w.heap.size) (n : Nat) (h1 : 1 ≤ n) (h2 : n ≤ 4096) : Calls Try.prog 12 #[.int .i64 n] w fun e w' => ∃ p, e = .returned (.tuple #[.pointer (some ⟨p, 0, none⟩), .int .i64 0]) ∧ Disks w' B ((p, DS.new n) :: l) ∧ Below w.heap.size w w' := by
  obtain ⟨L, rfl, hL⟩ := h
  refine (new_o n w h1 h2).mono ?_
  rintro e w' ⟨p, rfl, ⟨O, R, hd, hO, hR⟩, hb⟩
  exact ⟨p, rfl, ⟨⟨O, R, p, DS.new n⟩ :: L, rfl, hL.new hB hb hd hO hR⟩, hb⟩
theorem twin_d {l : List (Nat × DS)} (h : Disks w B ((p, d) :: l)) (hB : B ≤ w.heap.size) : Calls Try.prog 23 #[.pointer (some ⟨p, 0, none⟩)] w fun e w' => ∃ q, e = .returned (.pointer (some ⟨q, 0, none⟩)) ∧ Disks w' B ((q, d) :: (p, d) :: l) ∧ Below w.heap.size w w' := by
  obtain ⟨L, h1, hL⟩ := h
  cases L with
  | nil => cases h1
  | cons x L =>
    simp only [List.map_cons, List.cons.injEq, Prod.mk.injEq] at h1
    obtain ⟨⟨rfl, rfl⟩, rfl⟩ := h1
    refine (twin_o (hL.1 x (by simp)).1).mono ?_
    rintro e w' ⟨q, rfl, hd, ha, hb⟩
    exact ⟨q, rfl, ⟨⟨NewIn w w', x.R, q, x.d⟩ :: x :: L, rfl, hL.twin hB hb hd ha⟩, hb⟩
theorem fill_d {l : List (Nat × DS)} (h : Disks w B ((p, d) :: l)) (hB : B ≤ w.heap.size) (hn : d.n = 6) (ho : d.off = false) (hl : d.left ≤ 0) (ka : Option Addr) (kn kcap : Nat) (ks : Nat → Int) (hk : IntsAt w ka kn ks) (hka : ∀ x, ka = some x → 0 < kn → x.block < B) (hm : d.back.length + kn ≤ 60000) :
    Calls Try.prog 22 #[.pointer (some ⟨p, 0, none⟩), .slice ka kn kcap] w fun e w' => (∃ v, e = .returned v) ∧ Disks w' B ((p, fillTo d ks kn) :: l) ∧ Below B w w' := by
  obtain ⟨O, R, hd, hO, hgo⟩ := h.turn hB
  refine (fill_o hd hn ho hl ka kn kcap ks hk (fun x hx h0 e => by have := hO _ e; have := hka x hx h0; omega) hm).mono ?_
  rintro e w' ⟨he, O', R', h1, h2⟩
  exact ⟨he, hgo h2 h1⟩
theorem flush_d {l : List (Nat × DS)} (h : Disks w B ((p, d) :: l)) (hB : B ≤ w.heap.size) (ho : d.off = false) (hll : d.left ≤ 9223372036854775807) : Calls Try.prog 19 #[.pointer (some ⟨p, 0, none⟩)] w fun e w' => e = .returned (.int .i64 0) ∧ Disks w' B ((p, d.flush) :: l) ∧ Below B w w' := by
  obtain ⟨O, R, hd, hO, hgo⟩ := h.turn hB
  refine (flush_o hd ho hll).mono ?_
  rintro e w' ⟨rfl, h1, h2⟩
  exact ⟨rfl, hgo h2 h1⟩
theorem fuse_d {l : List (Nat × DS)} (h : Disks w B ((p, d) :: l)) (hB : B ≤ w.heap.size) (s : Int) (hs : -1 ≤ s) (ho : d.off = false) : Calls Try.prog 20 #[.pointer (some ⟨p, 0, none⟩), .int .i64 s] w fun e w' => e = .returned (.int .i64 0) ∧ Disks w' B ((p, { d with left := s, off := s == 0 }) :: l) ∧ Below B w w' := by
  obtain ⟨O, R, hd, hO, hgo⟩ := h.turn hB
  refine (fuse_o hd s hs ho).mono ?_
  rintro e w' ⟨rfl, h1, h2⟩
  exact ⟨rfl, hgo h2 h1⟩
/-- (the row of numbers came in, or has been made since) -/
theorem crash_d {l : List (Nat × DS)} (h : Disks w B ((p, d) :: l)) (hB : B ≤ w.heap.size) (hb : Below w.heap.size w w') (ka : Option Addr) (kn kcap : Nat) (ks : Nat → Int) (hk : IntsAt w' ka kn ks) (hka : ∀ x, ka = some x → 0 < kn → x.block < B ∨ w.heap.size ≤ x.block) :
    Calls Try.prog 15 #[.pointer (some ⟨p, 0, none⟩), .slice ka kn kcap] w' fun e w2 => (∃ v, e = .returned v) ∧ Disks w2 B ((p, d.crash (keepB kn ks)) :: l) ∧ Below B w' w2 := by
  obtain ⟨L, h1, hL⟩ := h
  cases L with
  | nil => cases h1
  | cons x L =>
    simp only [List.map_cons, List.cons.injEq, Prod.mk.injEq] at h1
    obtain ⟨⟨rfl, rfl⟩, rfl⟩ := h1
    have hx := hL.1 x (by simp)
    have hL' := hL.below hb
    have hx' := hL'.1 x (by simp)
    refine (crash_o hx'.1 ka kn kcap ks hk (fun y hy h0 e => ?_)).mono ?_
    · have h2 := hx.2 _ e
      have h3 := hx.1.2.1 _ e
      rcases hka y hy h0 with h4 | h4 <;> omega
    · rintro e w2 ⟨he, h1, h2⟩
      refine ⟨he, ⟨⟨x.O, x.R, x.p, _⟩ :: L, rfl, hL'.head (Nat.le_trans hB hb.size) h2 h1⟩, h2.keeps.below_of (Nat.le_trans hB hb.size) (fun k hk e => ?_)⟩
      have := hx.2 k e
      omega
end Go.Proofs.Ythdefaodioapbaa
