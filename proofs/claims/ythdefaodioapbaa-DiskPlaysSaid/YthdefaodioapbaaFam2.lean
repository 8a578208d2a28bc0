/- Disks of both kinds (the program's, the document's) that have nothing in common; each call turns one of them. -/
import Derived.Test.YthdefaodioapbaaRef6
import Derived.Test.YthdefaodioapbaaFam
namespace Go.Proofs.Ythdefaodioapbaa
open Go.RowKit

variable {w w' : World} {B : Nat} {X : Nat → Prop}

def RefO (w : World) (O R : Nat → Prop) (p : Nat) (d : DS) : Prop := IsRef w O p d ∧ (∀ j, O j → j < w.heap.size) ∧ (∀ j, R j → j < w.heap.size) ∧ ∀ j, O j → ¬ R j
/-- A disk (k: the document's) with its blocks. -/
structure DX where
  k : Bool
  O : Nat → Prop
  R : Nat → Prop
  p : Nat
  d : DS
def Holds (w : World) (x : DX) : Prop := match x.k with
  | false => DiskO w x.O x.R x.p x.d
  | true => RefO w x.O x.R x.p x.d
theorem Holds.lt {x : DX} (h : Holds w x) : (∀ j, x.O j → j < w.heap.size) ∧ (∀ j, x.R j → j < w.heap.size) ∧ ∀ j, x.O j → ¬ x.R j := by
  obtain ⟨k, O, R, p, d⟩ := x
  cases k with
  | false => exact h.2
  | true => exact h.2
theorem Holds.keep {x : DX} (h : Holds w x) {S : Nat → Prop} (k : Keeps S w w') (hS : ∀ j, x.O j → ¬ S j) (hR : ∀ j, x.R j → ¬ S j) : Holds w' x := by
  obtain ⟨kk, O, R, p, d⟩ := x
  cases kk with
  | false => exact ⟨h.1.keep k hS hR, fun j hj => Nat.lt_of_lt_of_le (h.2.1 j hj) k.size, fun j hj => Nat.lt_of_lt_of_le (h.2.2.1 j hj) k.size, h.2.2.2⟩
  | true => exact ⟨h.1.keep k hS, fun j hj => Nat.lt_of_lt_of_le (h.2.1 j hj) k.size, fun j hj => Nat.lt_of_lt_of_le (h.2.2.1 j hj) k.size, h.2.2.2⟩
theorem Holds.below {x : DX} (h : Holds w x) (hb : Below w.heap.size w w') : Holds w' x := h.keep (Keeps.of_below (S := fun _ => False) hb) (fun _ _ => id) (fun _ _ => id)
theorem Holds.other {x : DX} {O R O' R' : Nat → Prop} (h : Holds w x) (t : Turned w w' O R O' R') (a : Apart O R x.O x.R) : Holds w' x ∧ Apart O' R' x.O x.R := by
  have hl := h.lt
  refine ⟨h.keep t.keeps (fun i hi ho => (a.1 i ho).1 hi) (fun i hi ho => (a.1 i ho).2 hi), fun j hj => ?_, fun j hj hr => ?_⟩
  · rcases t.o j hj with h1 | h1
    · exact a.1 j h1
    · exact ⟨fun e => by have := hl.1 j e; have := h1.1; omega, fun e => by have := hl.2.1 j e; have := h1.1; omega⟩
  · rcases t.r j hr with h1 | h1
    · exact a.2 j hj h1
    · have := hl.1 j hj; have := h1.1; omega

/-- (X: blocks of the law's own) -/
def FamX (w : World) (B : Nat) (X : Nat → Prop) (l : List DX) : Prop :=
  (∀ x ∈ l, Holds w x ∧ (∀ j, x.O j → B ≤ j ∧ ¬ X j) ∧ ∀ j, x.R j → ¬ X j) ∧ l.Pairwise (fun x y => Apart x.O x.R y.O y.R) ∧ ∀ j, X j → B ≤ j ∧ j < w.heap.size
theorem FamX.below {l : List DX} (h : FamX w B X l) (hb : Below w.heap.size w w') : FamX w' B X l := ⟨fun x hx => ⟨(h.1 x hx).1.below hb, (h.1 x hx).2⟩, h.2.1, fun j e => ⟨(h.2.2 j e).1, Nat.lt_of_lt_of_le (h.2.2 j e).2 hb.size⟩⟩
theorem FamX.perm {l l' : List DX} (hp : l.Perm l') (h : FamX w B X l) : FamX w B X l' := ⟨fun x hx => h.1 x (hp.mem_iff.2 hx), (hp.pairwise_iff (fun {_ _} h => h.symm)).1 h.2.1, h.2.2⟩
theorem FamX.tail {x : DX} {l : List DX} (h : FamX w B X (x :: l)) : FamX w B X l := ⟨fun y hy => h.1 y (List.mem_cons_of_mem _ hy), (List.pairwise_cons.1 h.2.1).2, h.2.2⟩
theorem FamX.head {x : DX} {l : List DX} {O' R' : Nat → Prop} {d' : DS} (h : FamX w B X (x :: l)) (hB : B ≤ w.heap.size) (t : Turned w w' x.O x.R O' R') (hd : Holds w' ⟨x.k, O', R', x.p, d'⟩) : FamX w' B X (⟨x.k, O', R', x.p, d'⟩ :: l) := by
  have hp := List.pairwise_cons.1 h.2.1
  have hx := h.1 x (by simp)
  refine ⟨fun y hy => ?_, List.pairwise_cons.2 ⟨fun y hy => ?_, hp.2⟩, fun j e => ⟨(h.2.2 j e).1, Nat.lt_of_lt_of_le (h.2.2 j e).2 t.keeps.size⟩⟩
  · rcases List.mem_cons.1 hy with rfl | hy
    · exact ⟨hd, fun j hj => (t.o j hj).elim (hx.2.1 j) (fun e => ⟨Nat.le_trans hB e.1, fun e' => by have := (h.2.2 j e').2; have := e.1; omega⟩), fun j hj => (t.r j hj).elim (hx.2.2 j) (fun e e' => by have := (h.2.2 j e').2; have := e.1; omega)⟩
    · have h1 := h.1 y (by simp [hy])
      exact ⟨(h1.1.other t (hp.1 y hy)).1, h1.2⟩
  · exact ((h.1 y (by simp [hy])).1.other t (hp.1 y hy)).2
theorem FamX.new {l : List DX} {k : Bool} {O R : Nat → Prop} {p : Nat} {d : DS} (h : FamX w B X l) (hB : B ≤ w.heap.size) (hb : Below w.heap.size w w') (hd : Holds w' ⟨k, O, R, p, d⟩) (hO : ∀ j, O j → NewIn w w' j) (hR : ∀ j, R j → NewIn w w' j) : FamX w' B X (⟨k, O, R, p, d⟩ :: l) := by
  have h' := h.below hb
  have hx : ∀ j, NewIn w w' j → ¬ X j := fun j e e' => by have := (h.2.2 j e').2; have := e.1; omega
  refine ⟨fun y hy => ?_, List.pairwise_cons.2 ⟨fun y hy => ⟨fun j hj => ⟨fun e => ?_, fun e => ?_⟩, fun j hj e => ?_⟩, h.2.1⟩, h'.2.2⟩
  · rcases List.mem_cons.1 hy with rfl | hy
    · exact ⟨hd, fun j hj => ⟨Nat.le_trans hB (hO j hj).1, hx j (hO j hj)⟩, fun j hj => hx j (hR j hj)⟩
    · exact h'.1 y hy
  · have := (h.1 y hy).1.lt.1 j e; have := (hO j hj).1; omega
  · have := (h.1 y hy).1.lt.2.1 j e; have := (hO j hj).1; omega
  · have := (h.1 y hy).1.lt.1 j hj; have := (hR j e).1; omega
theorem FamX.twin {x : DX} {l : List DX} {q : Nat} (h : FamX w B X (x :: l)) (hB : B ≤ w.heap.size) (hb : Below w.heap.size w w') (hd : Holds w' ⟨x.k, NewIn w w', x.R, q, x.d⟩) (ha : Apart x.O x.R (NewIn w w') x.R) : FamX w' B X (⟨x.k, NewIn w w', x.R, q, x.d⟩ :: x :: l) := by
  have h' := h.below hb
  have hp := List.pairwise_cons.1 h.2.1
  have hx : ∀ j, NewIn w w' j → ¬ X j := fun j e e' => by have := (h.2.2 j e').2; have := e.1; omega
  refine ⟨fun y hy => ?_, List.pairwise_cons.2 ⟨fun y hy => ?_, h.2.1⟩, h'.2.2⟩
  · rcases List.mem_cons.1 hy with rfl | hy
    · exact ⟨hd, fun j hj => ⟨Nat.le_trans hB hj.1, hx j hj⟩, (h.1 x (by simp)).2.2⟩
    · exact h'.1 y hy
  · rcases List.mem_cons.1 hy with rfl | hy
    · exact ha.symm
    · refine ⟨fun j hj => ⟨fun e => ?_, fun e => ?_⟩, (hp.1 y hy).2⟩
      · have := (h.1 y (by simp [hy])).1.lt.1 j e; have := hj.1; omega
      · have := (h.1 y (by simp [hy])).1.lt.2.1 j e; have := hj.1; omega
theorem FamX.start {l : List DX} (h : FamX w B (fun _ => False) l) (hB : B ≤ w.heap.size) (hb : Below w.heap.size w w') : FamX w' B (NewIn w w') l :=
  ⟨fun x hx => ⟨(h.1 x hx).1.below hb, fun j hj => ⟨((h.1 x hx).2.1 j hj).1, fun e => by have := (h.1 x hx).1.lt.1 j hj; have := e.1; omega⟩, fun j hj e => by have := (h.1 x hx).1.lt.2.1 j hj; have := e.1; omega⟩, h.2.1, fun j e => ⟨Nat.le_trans hB e.1, e.2⟩⟩
theorem FamX.more {l : List DX} (h : FamX w B X l) (hB : B ≤ w.heap.size) (hb : Below w.heap.size w w') : FamX w' B (fun j => X j ∨ NewIn w w' j) l :=
  ⟨fun x hx => ⟨(h.1 x hx).1.below hb, fun j hj => ⟨((h.1 x hx).2.1 j hj).1, fun e => e.elim ((h.1 x hx).2.1 j hj).2 (fun e => by have := (h.1 x hx).1.lt.1 j hj; have := e.1; omega)⟩, fun j hj e => e.elim ((h.1 x hx).2.2 j hj) (fun e => by have := (h.1 x hx).1.lt.2.1 j hj; have := e.1; omega)⟩, h.2.1, fun j e => e.elim (fun e => ⟨(h.2.2 j e).1, Nat.lt_of_lt_of_le (h.2.2 j e).2 hb.size⟩) (fun e => ⟨Nat.le_trans hB e.1, e.2⟩)⟩
theorem FamX.less {l : List DX} {Y : Nat → Prop} (h : FamX w B X l) (hY : ∀ j, Y j → X j) : FamX w B Y l := ⟨fun x hx => ⟨(h.1 x hx).1, fun j hj => ⟨((h.1 x hx).2.1 j hj).1, fun e => ((h.1 x hx).2.1 j hj).2 (hY j e)⟩, fun j hj e => (h.1 x hx).2.2 j hj (hY j e)⟩, h.2.1, fun j e => h.2.2 j (hY j e)⟩
theorem FamX.stop {l : List DX} (h : FamX w B X l) : FamX w B (fun _ => False) l := ⟨fun x hx => ⟨(h.1 x hx).1, fun j hj => ⟨((h.1 x hx).2.1 j hj).1, id⟩, fun _ _ => id⟩, h.2.1, fun _ e => e.elim⟩
theorem FamX.wipe {l : List DX} {S : Nat → Prop} (h : FamX w B X l) (k : Keeps S w w') (hS : ∀ j, S j → X j) : FamX w' B X l :=
  ⟨fun x hx => ⟨(h.1 x hx).1.keep k (fun j hj e => ((h.1 x hx).2.1 j hj).2 (hS j e)) (fun j hj e => (h.1 x hx).2.2 j hj (hS j e)), (h.1 x hx).2⟩, h.2.1, fun j e => ⟨(h.2.2 j e).1, Nat.lt_of_lt_of_le (h.2.2 j e).2 k.size⟩⟩

/-- Disks (of which kind, where, which). -/
def DisksX (w : World) (B : Nat) (X : Nat → Prop) (l : List (Bool × Nat × DS)) : Prop := ∃ L : List DX, L.map (fun x => (x.k, x.p, x.d)) = l ∧ FamX w B X L
namespace DisksX
variable {l : List (Bool × Nat × DS)} {k : Bool} {p : Nat} {d : DS}
theorem nil (w : World) (B : Nat) : DisksX w B (fun _ => False) [] := ⟨[], rfl, fun x hx => (by cases hx), List.Pairwise.nil, fun _ e => e.elim⟩
theorem below (h : DisksX w B X l) (hb : Below w.heap.size w w') : DisksX w' B X l := let ⟨L, h1, h2⟩ := h; ⟨L, h1, h2.below hb⟩
theorem start (h : DisksX w B (fun _ => False) l) (hB : B ≤ w.heap.size) (hb : Below w.heap.size w w') : DisksX w' B (NewIn w w') l := let ⟨L, h1, h2⟩ := h; ⟨L, h1, h2.start hB hb⟩
theorem stop (h : DisksX w B X l) : DisksX w B (fun _ => False) l := let ⟨L, h1, h2⟩ := h; ⟨L, h1, h2.stop⟩
theorem more (h : DisksX w B X l) (hB : B ≤ w.heap.size) (hb : Below w.heap.size w w') : DisksX w' B (fun j => X j ∨ NewIn w w' j) l := let ⟨L, h1, h2⟩ := h; ⟨L, h1, h2.more hB hb⟩
theorem less {Y : Nat → Prop} (h : DisksX w B X l) (hY : ∀ j, Y j → X j) : DisksX w B Y l := let ⟨L, h1, h2⟩ := h; ⟨L, h1, h2.less hY⟩
theorem xlt (h : DisksX w B X l) : ∀ j, X j → B ≤ j ∧ j < w.heap.size := let ⟨_, _, h2⟩ := h; h2.2.2
theorem wipe {S : Nat → Prop} (h : DisksX w B X l) (k : Keeps S w w') (hS : ∀ j, S j → X j) : DisksX w' B X l := let ⟨L, h1, h2⟩ := h; ⟨L, h1, h2.wipe k hS⟩
theorem perm {l' : List (Bool × Nat × DS)} (h : DisksX w B X l) (hp : l.Perm l') : DisksX w B X l' := by
  obtain ⟨L, rfl, h2⟩ := h
  obtain ⟨L', h3, h4⟩ : ∃ L' : List DX, L.Perm L' ∧ L'.map (fun x => (x.k, x.p, x.d)) = l' := by
    clear h2
    generalize hM : L.map (fun x : DX => (x.k, x.p, x.d)) = M at hp
    induction hp generalizing L with
    | nil => exact ⟨[], by rw [List.map_eq_nil_iff.1 hM], rfl⟩
    | cons x hp ih =>
      cases L with
      | nil => cases hM
      | cons y L =>
        simp only [List.map_cons, List.cons.injEq] at hM
        obtain ⟨L', h1, h2⟩ := ih L hM.2
        exact ⟨y :: L', h1.cons y, by simp [hM.1, h2]⟩
    | swap x y l =>
      match L, hM with
      | a :: b :: L, hM =>
        simp only [List.map_cons, List.cons.injEq] at hM
        exact ⟨b :: a :: L, List.Perm.swap b a L, by simp [hM]⟩
    | trans _ _ ih1 ih2 =>
      obtain ⟨L1, h1, h2⟩ := ih1 L hM
      obtain ⟨L2, h3, h4⟩ := ih2 L1 h2
      exact ⟨L2, h1.trans h3, h4⟩
  exact ⟨L', h4, h2.perm h3⟩
theorem tail {x : Bool × Nat × DS} (h : DisksX w B X (x :: l)) : DisksX w B X l := by
  obtain ⟨L, h1, h2⟩ := h
  cases L with
  | nil => cases h1
  | cons y L =>
    simp only [List.map_cons, List.cons.injEq] at h1
    exact ⟨L, h1.2, h2.tail⟩
theorem two {a b : Bool × Nat × DS} (h : DisksX w B X (a :: b :: l)) : DisksX w B X (b :: a :: l) := h.perm (List.Perm.swap b a l)
/-- The first one is turned. -/
theorem turn (h : DisksX w B X ((k, p, d) :: l)) (hB : B ≤ w.heap.size) : ∃ O R, Holds w ⟨k, O, R, p, d⟩ ∧ (∀ j, O j → B ≤ j ∧ ¬ X j) ∧ (∀ j, R j → ¬ X j) ∧
    ∀ (w' : World) (O' R' : Nat → Prop) (d' : DS), Turned w w' O R O' R' → Holds w' ⟨k, O', R', p, d'⟩ → DisksX w' B X ((k, p, d') :: l) ∧ Keeps (fun j => B ≤ j ∧ ¬ X j) w w' := by
  obtain ⟨L, h1, h2⟩ := h
  cases L with
  | nil => cases h1
  | cons x L =>
    simp only [List.map_cons, List.cons.injEq, Prod.mk.injEq] at h1
    obtain ⟨⟨rfl, rfl, rfl⟩, rfl⟩ := h1
    have hx := h2.1 x (by simp)
    exact ⟨x.O, x.R, hx.1, hx.2.1, hx.2.2, fun w' O' R' d' t hd => ⟨⟨⟨x.k, O', R', x.p, d'⟩ :: L, rfl, h2.head hB t hd⟩, t.keeps.mono (fun j _ e => hx.2.1 j e)⟩⟩
theorem new {O R : Nat → Prop} (h : DisksX w B X l) (hB : B ≤ w.heap.size) (hb : Below w.heap.size w w') (hd : Holds w' ⟨k, O, R, p, d⟩) (hO : ∀ j, O j → NewIn w w' j) (hR : ∀ j, R j → NewIn w w' j) : DisksX w' B X ((k, p, d) :: l) := by
  obtain ⟨L, rfl, hL⟩ := h
  exact ⟨⟨k, O, R, p, d⟩ :: L, rfl, hL.new hB hb hd hO hR⟩
theorem twin (h : DisksX w B X ((k, p, d) :: l)) (hB : B ≤ w.heap.size) : ∃ O R, Holds w ⟨k, O, R, p, d⟩ ∧ ∀ (w' : World) (q : Nat), Below w.heap.size w w' → Holds w' ⟨k, NewIn w w', R, q, d⟩ → Apart O R (NewIn w w') R → DisksX w' B X ((k, q, d) :: (k, p, d) :: l) := by
  obtain ⟨L, h1, h2⟩ := h
  cases L with
  | nil => cases h1
  | cons x L =>
    simp only [List.map_cons, List.cons.injEq, Prod.mk.injEq] at h1
    obtain ⟨⟨rfl, rfl, rfl⟩, rfl⟩ := h1
    exact ⟨x.O, x.R, (h2.1 x (by simp)).1, fun w' q hb hd ha => ⟨⟨x.k, NewIn w w', x.R, q, x.d⟩ :: x :: L, rfl, h2.twin hB hb hd ha⟩⟩
end DisksX
theorem Keeps.belB {w w' : World} (k : Keeps (fun j => B ≤ j ∧ ¬ X j) w w') (hB : B ≤ w.heap.size) : Below B w w' := k.below_of hB (fun j hj e => by have := e.1; omega)

/-- What is true of a disk that the law has. -/
def DS.Good (d : DS) : Prop := d.Inv ∧ d.now = layAll d.fast d.back
theorem DS.step_good {d : DS} (h : d.Good) : d.step.Good := by
  unfold DS.step
  split
  · refine ⟨⟨rfl, ?_, ?_⟩, h.2⟩
    · show -1 ≤ d.left - 1; omega
    · show d.left - 1 ≤ _; have := h.1.2.2; omega
  · exact h
theorem DS.write_good {d : DS} (h : d.Good) (k : Nat) (x : Bs) : (d.write k x).Good := by
  unfold DS.write
  refine DS.step_good ⟨h.1, ?_⟩
  show putAt d.now k x = layAll d.fast (d.back ++ [(k, x)])
  rw [layAll_snoc, ← h.2]
theorem DS.flush_good {d : DS} (h : d.Good) : d.flush.Good := by
  unfold DS.flush
  exact DS.step_good ⟨h.1, h.2⟩
theorem DS.crash_good (d : DS) (kb : Nat → Bool) : (d.crash kb).Good := ⟨⟨rfl, by show (-1 : Int) ≤ -1; omega, by show (-1 : Int) ≤ _; omega⟩, rfl⟩
theorem DS.fuse_good {d : DS} (h : d.Good) (s : Int) (h1 : -1 ≤ s) (h2 : s ≤ 9223372036854775807) : DS.Good { d with left := s, off := s == 0 } := ⟨⟨rfl, h1, h2⟩, h.2⟩
theorem DS.new_good (n : Nat) : (DS.new n).Good := ⟨⟨rfl, by show (-1 : Int) ≤ -1; omega, by show (-1 : Int) ≤ _; omega⟩, rfl⟩
end Go.Proofs.Ythdefaodioapbaa
