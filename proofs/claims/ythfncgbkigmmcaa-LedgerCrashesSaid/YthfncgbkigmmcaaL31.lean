/- Ledgers among other things: of the blocks that were there a call turns those of S alone. -/
import Derived.Test.YthfncgbkigmmcaaL30
import Derived.Deep.CutRange
namespace Go.Proofs.Ythfncgbkigmmcaa
open Go.RowKit

variable {w w' w1 wr : World} {S T : Nat → Prop} {B lp p n : Nat} {d D : DS} {dead : Bool} {c : Nat → Bs} {P : Bs → Prop}
/-- S has all that is still to come -/
def Up (w : World) (S : Nat → Prop) : Prop := ∀ j, w.heap.size ≤ j → S j
theorem Up.left (h : Up w S) (hs : w.heap.size ≤ w'.heap.size) : Up w' S := fun j hj => h j (Nat.le_trans hs hj)
def DiskS (w : World) (S : Nat → Prop) (p : Nat) (d : DS) : Prop := ∃ O R, DiskO w O R p d ∧ (∀ j, O j → S j) ∧ ∀ j, R j → S j
def LedS (w : World) (S : Nat → Prop) (lp p : Nat) (d : DS) (dead : Bool) : Prop := ∃ O R, LedO w O R lp p d dead ∧ (∀ j, O j → S j) ∧ ∀ j, R j → S j
theorem LedO.rlt {O R : Nat → Prop} (h : LedO w O R lp p d dead) : ∀ j, R j → j < w.heap.size := let ⟨_, h1, _⟩ := h.disk; h1.2.2.1
theorem DiskO.keep {O R K : Nat → Prop} (h : DiskO w O R p d) (k : Keeps K w w') (h1 : ∀ j, O j → ¬ K j) (h2 : ∀ j, R j → ¬ K j) : DiskO w' O R p d :=
  ⟨h.1.keep k h1 h2, fun j hj => Nat.lt_of_lt_of_le (h.2.1 j hj) k.size, fun j hj => Nat.lt_of_lt_of_le (h.2.2.1 j hj) k.size, h.2.2.2⟩
theorem LedO.keep {O R K : Nat → Prop} (h : LedO w O R lp p d dead) (k : Keeps K w w') (h1 : ∀ j, O j → ¬ K j) (h2 : ∀ j, R j → ¬ K j) : LedO w' O R lp p d dead := by
  obtain ⟨Od, a, b, c⟩ := h.disk
  exact ⟨⟨Od, a.keep k (fun j hj => h1 j (b j hj)) h2, b, c⟩, (k.block _ (h.lt _ h.own) (h1 _ h.own)).trans h.cell, h.own, fun j hj => Nat.lt_of_lt_of_le (h.lt j hj) k.size, h.ap⟩
/-- a disk that holds nothing back needs nothing kept -/
theorem DiskO.noR {O R : Nat → Prop} (h : DiskO w O R p d) (hb : d.back = []) : DiskO w O (fun _ => False) p d := by
  obtain ⟨⟨gn, gf, vb, vs, q⟩, h1, h2, h3⟩ := h
  refine ⟨⟨gn, gf, vb, vs, { q with held := fun i hi => absurd hi (by rw [hb]; simp) }⟩, h1, fun _ e => e.elim, fun _ _ e => e⟩
theorem LedO.noR {O R : Nat → Prop} (h : LedO w O R lp p d dead) (hb : d.back = []) : LedO w O (fun _ => False) lp p d dead := by
  obtain ⟨Od, a, b, c⟩ := h.disk
  exact ⟨⟨Od, a.noR hb, b, c⟩, h.cell, h.own, h.lt, fun _ _ e => e⟩
theorem DiskS.below (h : DiskS w S p d) (hb : Below w.heap.size w w') : DiskS w' S p d := let ⟨O, R, h1, h2⟩ := h; ⟨O, R, h1.below hb, h2⟩
theorem LedS.below (h : LedS w S lp p d dead) (hb : Below w.heap.size w w') : LedS w' S lp p d dead := let ⟨O, R, h1, h2⟩ := h; ⟨O, R, h1.below hb, h2⟩
theorem DiskS.keep {K : Nat → Prop} (h : DiskS w S p d) (k : Keeps K w w') (hK : ∀ j, j < w.heap.size → S j → ¬ K j) : DiskS w' S p d := let ⟨O, R, h1, h2, h3⟩ := h; ⟨O, R, h1.keep k (fun j hj => hK j (h1.2.1 j hj) (h2 j hj)) (fun j hj => hK j (h1.2.2.1 j hj) (h3 j hj)), h2, h3⟩
theorem LedS.keep {K : Nat → Prop} (h : LedS w S lp p d dead) (k : Keeps K w w') (hK : ∀ j, j < w.heap.size → S j → ¬ K j) : LedS w' S lp p d dead := let ⟨O, R, h1, h2, h3⟩ := h; ⟨O, R, h1.keep k (fun j hj => hK j (h1.lt j hj) (h2 j hj)) (fun j hj => hK j (h1.rlt j hj) (h3 j hj)), h2, h3⟩
theorem DiskS.sub (h : DiskS w S p d) (hs : ∀ j, j < w.heap.size → S j → T j) : DiskS w T p d := let ⟨O, R, h1, h2, h3⟩ := h; ⟨O, R, h1, fun j hj => hs j (h1.2.1 j hj) (h2 j hj), fun j hj => hs j (h1.2.2.1 j hj) (h3 j hj)⟩
theorem LedS.sub (h : LedS w S lp p d dead) (hs : ∀ j, j < w.heap.size → S j → T j) : LedS w T lp p d dead := let ⟨O, R, h1, h2, h3⟩ := h; ⟨O, R, h1, fun j hj => hs j (h1.lt j hj) (h2 j hj), fun j hj => hs j (h1.rlt j hj) (h3 j hj)⟩
theorem LedS.disk (h : LedS w S lp p d dead) : DiskS w S p d := by
  obtain ⟨O, R, h1, h2, h3⟩ := h
  obtain ⟨Od, a, b, _⟩ := h1.disk
  exact ⟨Od, R, a, fun j hj => h2 j (b j hj), h3⟩
theorem LedIn.s (h : LedIn w B lp p d dead) (hb : d.back = []) : LedS w (fun j => B ≤ j) lp p d dead := let ⟨O, _, h1, h2⟩ := h; ⟨O, _, h1.noR hb, h2, fun _ e => e.elim⟩
theorem DiskS.n2 (h : DiskS w S p d) : d.n ≤ 4096 := let ⟨_, _, h, _, _⟩ := h; h.1.n2
theorem LedS.n2 (h : LedS w S lp p d dead) : d.n ≤ 4096 := h.disk.n2
theorem LedS.of_turned {O R O' R' : Nat → Prop} {d' : DS} {dead' : Bool} (hO : (∀ j, O j → S j) ∧ ∀ j, R j → S j) (hS : Up w S) (h : LedO w' O' R' lp p d' dead') (t : Turned w w' O R O' R') : LedS w' S lp p d' dead' ∧ Keeps S w w' :=
  ⟨⟨O', R', h, fun j hj => (t.o j hj).elim (hO.1 j) (fun e => hS j e.1), fun j hj => (t.r j hj).elim (hO.2 j) (fun e => hS j e.1)⟩, t.keeps.mono (fun k _ => hO.1 k)⟩
theorem DiskS.of_turned {O R O' R' : Nat → Prop} {d' : DS} (hO : (∀ j, O j → S j) ∧ ∀ j, R j → S j) (hS : Up w S) (h : DiskO w' O' R' p d') (t : Turned w w' O R O' R') : DiskS w' S p d' ∧ Keeps S w w' :=
  ⟨⟨O', R', h, fun j hj => (t.o j hj).elim (hO.1 j) (fun e => hS j e.1), fun j hj => (t.r j hj).elim (hO.2 j) (fun e => hS j e.1)⟩, t.keeps.mono (fun k _ => hO.1 k)⟩
theorem LedS.turn (h : LedS w S lp p d dead) (hS : Up w S) : ∃ Od R, DiskO w Od R p d ∧ (∀ j, Od j → S j) ∧ ∀ w' Od' R' d', DiskO w' Od' R' p d' → Turned w w' Od R Od' R' → LedS w' S lp p d' dead ∧ Keeps S w w' := by
  obtain ⟨O, R, h1, h2⟩ := h
  obtain ⟨Od, a, b, c⟩ := h1.disk
  refine ⟨Od, R, a, fun j hj => h2.1 j (b j hj), fun w' Od' R' d' h3 t => ?_⟩
  obtain ⟨O', h4, t4⟩ := h1.turn a b c h3 t
  exact LedS.of_turned h2 hS h4 t4
/-- with power; how many steps are left, nobody knows -/
def QO (w : World) (S : Nat → Prop) (lp p n : Nat) (c : Nat → Bs) : Prop := ∃ D, LedS w S lp p D false ∧ Quiet n c D ∧ D.off = false ∧ D.left ≤ 9223372036854775807
/-- with power for good -/
def QS (w : World) (S : Nat → Prop) (lp p n : Nat) (c : Nat → Bs) : Prop := ∃ D, LedS w S lp p D false ∧ Quiet n c D ∧ Live D
def AS (w : World) (S : Nat → Prop) (lp p n : Nat) (c : Nat → Bs) : Prop := ∃ D, LedS w S lp p D false ∧ Quiet n c D ∧ D.left ≤ 9223372036854775807
def DeadS (w : World) (S : Nat → Prop) (lp p n : Nat) (P : Bs → Prop) : Prop := ∃ D, LedS w S lp p D true ∧ Cr n P D ∧ D.left ≤ 9223372036854775807
def CrS (w : World) (S : Nat → Prop) (p n : Nat) (P : Bs → Prop) : Prop := ∃ D, DiskS w S p D ∧ Cr n P D
def LeftS (w : World) (S : Nat → Prop) (p n : Nat) (P : Bs → Prop) : Prop := ∃ I D, DiskS w S p D ∧ Rest n I D ∧ P I ∧ Live D
theorem QL.s (h : QL w B lp p n c) : QS w (fun j => B ≤ j) lp p n c := let ⟨D, h1, h2, h3⟩ := h; ⟨D, h1.s h2.back, h2, h3⟩
theorem QS.qo (h : QS w S lp p n c) : QO w S lp p n c := let ⟨D, h1, h2, h3⟩ := h; ⟨D, h1, h2, h3.1, by have := h3.2; omega⟩
theorem QO.as (h : QO w S lp p n c) : AS w S lp p n c := let ⟨D, h1, h2, _, h4⟩ := h; ⟨D, h1, h2, h4⟩
theorem QO.below (h : QO w S lp p n c) (hb : Below w.heap.size w w') : QO w' S lp p n c := let ⟨D, h1, h2⟩ := h; ⟨D, h1.below hb, h2⟩
theorem QS.below (h : QS w S lp p n c) (hb : Below w.heap.size w w') : QS w' S lp p n c := let ⟨D, h1, h2⟩ := h; ⟨D, h1.below hb, h2⟩
theorem AS.below (h : AS w S lp p n c) (hb : Below w.heap.size w w') : AS w' S lp p n c := let ⟨D, h1, h2⟩ := h; ⟨D, h1.below hb, h2⟩
theorem DeadS.below (h : DeadS w S lp p n P) (hb : Below w.heap.size w w') : DeadS w' S lp p n P := let ⟨D, h1, h2⟩ := h; ⟨D, h1.below hb, h2⟩
theorem QO.keep {K : Nat → Prop} (h : QO w S lp p n c) (k : Keeps K w w') (hK : ∀ j, j < w.heap.size → S j → ¬ K j) : QO w' S lp p n c := let ⟨D, h1, h2⟩ := h; ⟨D, h1.keep k hK, h2⟩
theorem QO.sub (h : QO w S lp p n c) (hs : ∀ j, j < w.heap.size → S j → T j) : QO w T lp p n c := let ⟨D, h1, h2⟩ := h; ⟨D, h1.sub hs, h2⟩
theorem QS.keep {K : Nat → Prop} (h : QS w S lp p n c) (k : Keeps K w w') (hK : ∀ j, j < w.heap.size → S j → ¬ K j) : QS w' S lp p n c := let ⟨D, h1, h2⟩ := h; ⟨D, h1.keep k hK, h2⟩
theorem QS.sub (h : QS w S lp p n c) (hs : ∀ j, j < w.heap.size → S j → T j) : QS w T lp p n c := let ⟨D, h1, h2⟩ := h; ⟨D, h1.sub hs, h2⟩
theorem AS.keep {K : Nat → Prop} (h : AS w S lp p n c) (k : Keeps K w w') (hK : ∀ j, j < w.heap.size → S j → ¬ K j) : AS w' S lp p n c := let ⟨D, h1, h2⟩ := h; ⟨D, h1.keep k hK, h2⟩
theorem AS.sub (h : AS w S lp p n c) (hs : ∀ j, j < w.heap.size → S j → T j) : AS w T lp p n c := let ⟨D, h1, h2⟩ := h; ⟨D, h1.sub hs, h2⟩
theorem DeadS.keep {K : Nat → Prop} (h : DeadS w S lp p n P) (k : Keeps K w w') (hK : ∀ j, j < w.heap.size → S j → ¬ K j) : DeadS w' S lp p n P := let ⟨D, h1, h2⟩ := h; ⟨D, h1.keep k hK, h2⟩
theorem DeadS.sub (h : DeadS w S lp p n P) (hs : ∀ j, j < w.heap.size → S j → T j) : DeadS w T lp p n P := let ⟨D, h1, h2⟩ := h; ⟨D, h1.sub hs, h2⟩
theorem QS.ext {c' : Nat → Bs} (h : QS w S lp p n c) (e : ∀ j, j + 96 < n → c j = c' j) : QS w S lp p n c' := let ⟨d, h1, h2, h3⟩ := h; ⟨d, h1, h2.ext e, h3⟩
theorem QO.ext {c' : Nat → Bs} (h : QO w S lp p n c) (e : ∀ j, j + 96 < n → c j = c' j) : QO w S lp p n c' := let ⟨d, h1, h2, h3⟩ := h; ⟨d, h1, h2.ext e, h3⟩
theorem AS.ext {c' : Nat → Bs} (h : AS w S lp p n c) (e : ∀ j, j + 96 < n → c j = c' j) : AS w S lp p n c' := let ⟨d, h1, h2, h3⟩ := h; ⟨d, h1, h2.ext e, h3⟩
theorem DeadS.mono {P' : Bs → Prop} (h : DeadS w S lp p n P) (e : ∀ I, P I → P' I) : DeadS w S lp p n P' := let ⟨D, h1, h2, h3⟩ := h; ⟨D, h1, h2.mono e, h3⟩
theorem CrS.mono {P' : Bs → Prop} (h : CrS w S p n P) (e : ∀ I, P I → P' I) : CrS w S p n P' := let ⟨D, h1, h2⟩ := h; ⟨D, h1, h2.mono e⟩
theorem LeftS.mono {P' : Bs → Prop} (h : LeftS w S p n P) (e : ∀ I, P I → P' I) : LeftS w S p n P' := let ⟨I, D, h1, h2, h3, h4⟩ := h; ⟨I, D, h1, h2, e I h3, h4⟩
theorem AS.crS (h : AS w S lp p n c) : CrS w S p n (Has n c) := let ⟨D, h1, h2, _⟩ := h; ⟨D, h1.disk, h2.cr⟩
theorem DeadS.crS (h : DeadS w S lp p n P) : CrS w S p n P := let ⟨D, h1, h2, _⟩ := h; ⟨D, h1.disk, h2⟩
/-- a commit -/
def CommS (w : World) (S : Nat → Prop) (lp p : Nat) (Z : DS × Bool) (e : Ending) (w' : World) : Prop :=
  ((Z.2 = true ∧ e = .returned (.int .i64 0) ∧ LedS w' S lp p Z.1 false) ∨ (Z.2 = false ∧ e = .returned (.int .i64 11) ∧ LedS w' S lp p Z.1 true)) ∧ Keeps S w w'
theorem commit_s (h : LedS w S lp p d false) {K : Nat → Prop} (hb : Keeps K w w') (hK : ∀ j, j < w.heap.size → S j → ¬ K j) (hS : Up w S) (ps : List (Nat × Bs)) (v : Value) (hp : PutsF w' (fun j => j < w.heap.size) v ps) (hok : PutOk d.n ps) (hr : Room 200 d) :
    Calls Try.prog 15 #[.pointer (some ⟨lp, 0, none⟩), v] w' fun e w2 => CommS w' S lp p (runL (commOps ps) d) e w2 := by
  have hn2 := h.n2
  obtain ⟨O, R, h1, h2⟩ := h
  refine (commit_any (h1.keep hb (fun j hj => hK j (h1.lt j hj) (h2.1 j hj)) (fun j hj => hK j (h1.rlt j hj) (h2.2 j hj))) ps v (hp.weaken (fun j hj => h1.lt j hj)) hok hn2 hr).mono ?_
  rintro e w2 (⟨q1, q2, O', R', q3, q4⟩ | ⟨q1, q2, O', R', q3, q4⟩)
  · have := LedS.of_turned h2 (hS.left hb.size) q3 q4
    exact ⟨.inl ⟨q1, q2, this.1⟩, this.2⟩
  · have := LedS.of_turned h2 (hS.left hb.size) q3 q4
    exact ⟨.inr ⟨q1, q2, this.1⟩, this.2⟩
theorem commit_qs (h : QS w S lp p n c) {K : Nat → Prop} (hb : Keeps K w w') (hK : ∀ j, j < w.heap.size → S j → ¬ K j) (hS : Up w S) (ps : List (Nat × Bs)) (v : Value) (hp : PutsF w' (fun j => j < w.heap.size) v ps) (hok : PutOk n ps) :
    Calls Try.prog 15 #[.pointer (some ⟨lp, 0, none⟩), v] w' fun e w2 => e = .returned (.int .i64 0) ∧ QS w2 S lp p n (putC c ps) ∧ Keeps S w' w2 := by
  obtain ⟨d, h1, h2, h3⟩ := h
  have hn2 := h1.n2
  rw [h2.n] at hn2
  refine (commit_s h1 hb hK hS ps v hp (by rw [h2.n]; exact hok) (h2.room (by have := h3.2; omega) (by omega))).mono ?_
  obtain ⟨l1, l2⟩ := runL_live (commOps ps) h3
  rintro e w2 ⟨⟨q1, q2, q3⟩ | ⟨q1, q2, q3⟩, hb2⟩
  · rcases comm_done h2 hn2 hok with ⟨D', e1, _⟩ | ⟨D', e1, e2⟩
    · rw [e1] at q1
      cases q1
    · rw [e1] at q3 l2
      exact ⟨q2, ⟨D', q3, e2, l2⟩, hb2⟩
  · rw [l1] at q1
    cases q1
theorem commit_as (h : AS w S lp p n c) {K : Nat → Prop} (hb : Keeps K w w') (hK : ∀ j, j < w.heap.size → S j → ¬ K j) (hS : Up w S) (ps : List (Nat × Bs)) (v : Value) (hp : PutsF w' (fun j => j < w.heap.size) v ps) (hok : PutOk n ps) :
    Calls Try.prog 15 #[.pointer (some ⟨lp, 0, none⟩), v] w' fun e w2 => ((e = .returned (.int .i64 0) ∧ AS w2 S lp p n (putC c ps)) ∨ (e = .returned (.int .i64 11) ∧ DeadS w2 S lp p n (fun I => Has n c I ∨ Has n (putC c ps) I))) ∧ Keeps S w' w2 := by
  obtain ⟨D, h1, h2, h3⟩ := h
  have hn2 := h1.n2
  rw [h2.n] at hn2
  have hlf := comm_left (ps := ps) h2 h3 hok.2.1
  refine (commit_s h1 hb hK hS ps v hp (by rw [h2.n]; exact hok) (h2.room h3 (by omega))).mono ?_
  rintro e w2 ⟨⟨q1, q2, q3⟩ | ⟨q1, q2, q3⟩, hb2⟩
  · rcases comm_done h2 hn2 hok with ⟨D', e1, _⟩ | ⟨D', e1, e2⟩
    · rw [e1] at q1
      cases q1
    · rw [e1] at q3 hlf
      exact ⟨.inl ⟨q2, D', q3, e2, hlf⟩, hb2⟩
  · rcases comm_done h2 hn2 hok with ⟨D', e1, e2⟩ | ⟨D', e1, _⟩
    · rw [e1] at q3 hlf
      exact ⟨.inr ⟨q2, D', q3, e2, hlf⟩, hb2⟩
    · rw [e1] at q1
      cases q1
theorem commit_deadS (h : DeadS w S lp p n P) {K : Nat → Prop} (hb : Keeps K w w') (hK : ∀ j, j < w.heap.size → S j → ¬ K j) (hS : Up w S) (ps : List (Nat × Bs)) (v : Value) (hp : PutsF w' (fun j => j < w.heap.size) v ps) (hok : PutOk n ps) :
    Calls Try.prog 15 #[.pointer (some ⟨lp, 0, none⟩), v] w' fun e w2 => (e = .returned (.int .i64 11) ∧ DeadS w2 S lp p n P) ∧ Keeps S w' w2 := by
  obtain ⟨D, h1, h2, h5⟩ := h
  have hn2 := h1.n2
  obtain ⟨O, R, h3, h4⟩ := h1
  refine (commit_dead (h3.keep hb (fun j hj => hK j (h3.lt j hj) (h4.1 j hj)) (fun j hj => hK j (h3.rlt j hj) (h4.2 j hj))) ps v (hp.weaken (fun j hj => h3.lt j hj)) (by rw [h2.hn]; exact hok) hn2).mono ?_
  rintro e w2 ⟨q1, O', R', q3, q4⟩
  have := LedS.of_turned h4 (hS.left hb.size) q3 q4
  exact ⟨⟨q1, D, this.1, h2, h5⟩, this.2⟩
/-- Sync -/
theorem sync_as (h : AS w S lp p n c) (hS : Up w S) (hn : 97 ≤ n) :
    Calls Try.prog 21 #[.pointer (some ⟨lp, 0, none⟩)] w fun e w' => ((e = .returned (.int .i64 0) ∧ QO w' S lp p n c) ∨ (e = .returned (.int .i64 11) ∧ DeadS w' S lp p n (Has n c))) ∧ Keeps S w w' := by
  obtain ⟨D, h1, h2, h3⟩ := h
  have h0 := h1
  obtain ⟨O, R, h4, h5⟩ := h1
  cases ho : D.off with
  | true =>
    refine (sync_off h4 (.inr ho)).mono ?_
    rintro e w2 ⟨q1, O', R', q3, q4⟩
    have := LedS.of_turned h5 hS q3 q4
    exact ⟨.inr ⟨q1, D, this.1, h2.cr, h3⟩, this.2⟩
  | false =>
    refine (sync_ok h4 ho (by rw [h2.n]; omega)).mono ?_
    rintro e w2 ⟨q1, hb⟩
    exact ⟨.inl ⟨q1, D, h0.below hb, h2, ho, h3⟩, Keeps.of_below hb⟩
theorem sync_qs (h : QS w S lp p n c) (hn : 97 ≤ n) :
    Calls Try.prog 21 #[.pointer (some ⟨lp, 0, none⟩)] w fun e w' => e = .returned (.int .i64 0) ∧ QS w' S lp p n c ∧ Below w.heap.size w w' := by
  obtain ⟨D, h1, h2, h3⟩ := h
  have h0 := h1
  obtain ⟨O, R, h4, h5⟩ := h1
  exact (sync_ok h4 h3.1 (by rw [h2.n]; omega)).mono fun e w2 ⟨q1, hb⟩ => ⟨q1, ⟨D, h0.below hb, h2, h3⟩, hb⟩
theorem sync_deadS (h : DeadS w S lp p n P) (hS : Up w S) : Calls Try.prog 21 #[.pointer (some ⟨lp, 0, none⟩)] w fun e w' => (e = .returned (.int .i64 11) ∧ DeadS w' S lp p n P) ∧ Keeps S w w' := by
  obtain ⟨D, h1, h2, h5⟩ := h
  obtain ⟨O, R, h3, h4⟩ := h1
  refine (sync_off h3 (.inl rfl)).mono ?_
  rintro e w2 ⟨q1, O', R', q3, q4⟩
  have := LedS.of_turned h4 hS q3 q4
  exact ⟨⟨q1, D, this.1, h2, h5⟩, this.2⟩
/-- Fuse -/
theorem fuse_s (h : LedS w S lp p d dead) (hS : Up w S) (s : Int) (hs : -1 ≤ s) (ho : d.off = false) : Calls Try.prog 19 #[.pointer (some ⟨p, 0, none⟩), .int .i64 s] w fun e w' => e = .returned (.int .i64 0) ∧ LedS w' S lp p { d with left := s, off := s == 0 } dead ∧ Keeps S w w' := by
  obtain ⟨Od, R, hd, _, ht⟩ := h.turn hS
  refine (fuse_o hd s hs ho).mono ?_
  rintro e w' ⟨rfl, h1, h2⟩
  exact ⟨rfl, ht _ _ _ _ h1 h2⟩
theorem Quiet.fused {s : Int} {o : Bool} (h : Quiet n c d) : Quiet n c { d with left := s, off := o } := by
  obtain ⟨I, q1, q2⟩ := h
  exact ⟨I, ⟨q1.hn, q1.fast, q1.back, q1.now, q1.len⟩, q2⟩
theorem Rest.fused {s : Int} {o : Bool} {I : Bs} (h : Rest n I d) : Rest n I { d with left := s, off := o } := ⟨h.hn, h.fast, h.back, h.now, h.len⟩
theorem fuse_qo (h : QO w S lp p n c) (hS : Up w S) (s : Int) (hs : -1 ≤ s) (hs2 : s ≤ 9223372036854775807) : Calls Try.prog 19 #[.pointer (some ⟨p, 0, none⟩), .int .i64 s] w fun e w' => e = .returned (.int .i64 0) ∧ AS w' S lp p n c ∧ Keeps S w w' := by
  obtain ⟨D, h1, h2, h3, h4⟩ := h
  exact (fuse_s h1 hS s hs h3).mono fun e w' ⟨q1, q2, q3⟩ => ⟨q1, ⟨_, q2, h2.fused, hs2⟩, q3⟩
/-- Crash -/
theorem crash_s (h : CrS w S p n P) (hS : Up w S) (ka : Option Addr) (kn kcap : Nat) (ks : Nat → Int) (hkeep : IntsAt w ka kn ks) (hka : ∀ x, ka = some x → 0 < kn → ¬ S x.block) :
    Calls Try.prog 20 #[.pointer (some ⟨p, 0, none⟩), .slice ka kn kcap] w fun e w' => (∃ v, e = .returned v) ∧ LeftS w' S p n P ∧ Keeps S w w' := by
  obtain ⟨D, h1, h2⟩ := h
  obtain ⟨O, R, h3, h4⟩ := h1
  refine (crash_o h3 ka kn kcap ks hkeep (fun x hx h0 e => hka x hx h0 (h4.1 _ e))).mono ?_
  rintro e w' ⟨hv, h5, h6⟩
  obtain ⟨I, q1, q2, q3, q4⟩ := h2.crash (keepB kn ks)
  have := DiskS.of_turned h4 hS h5 h6
  exact ⟨hv, ⟨I, _, this.1, q1, q2, q3, by rw [q4]; decide⟩, this.2⟩
/-- Open -/
theorem open_s {I : Bs} {l : List Nat} (h : DiskS w S p d) (hS : Up w S) (hr : Rest n I d) (hi : Img n I l c) (hn : 97 ≤ n) (ho : d.off = false) (hl : d.left ≤ 9223372036854775807) :
    Calls Try.prog 24 #[.pointer (some ⟨p, 0, none⟩)] w fun e w' => ((∃ lp D, e = .returned (.tuple #[.pointer (some ⟨lp, 0, none⟩), .int .i64 0]) ∧ LedS w' S lp p D false ∧ Quiet n c D ∧ D.left ≤ 9223372036854775807 ∧ (Live d → Live D)) ∨
      (∃ D, e = .returned (.tuple #[.pointer none, .int .i64 11]) ∧ DiskS w' S p D ∧ Cr n (fun I => ∃ l, Img n I l c) D ∧ ¬ Live d)) ∧ Keeps S w w' := by
  have hn2 := h.n2
  obtain ⟨O, R, h1, h2⟩ := h
  have hrm : Room 60 d := ⟨hl, by rw [hr.back]; simp⟩
  have hrl : (runL (openOps d l) d).1.left ≤ 9223372036854775807 := by
    refine (runL_room (openOps d l) d (m := 0) (Room.less (m := 60) hrm ?_)).1
    unfold openOps
    split
    · simp
    · rw [settleOps, List.length_cons, List.length_append, settleW_length]
      have := way_len hi.way
      simp only [mark3, List.length_cons, List.length_nil]
      omega
  refine (open_any h1 hrm ho (by rw [hr.hn]; exact hn) hn2 l (by rw [hr.now]; exact hi.way) (by rw [hr.hn]; exact hi.fit)).mono ?_
  rintro e w2 (⟨q1, lp, O', R', q2, q3, q4⟩ | ⟨q1, q2, O', R', q3, q4⟩)
  · rcases open_done hr hi hn with ⟨D', e1, _⟩ | ⟨D', e1, e2⟩
    · rw [e1] at q1
      cases q1
    · rw [e1] at q3 hrl
      have := LedS.of_turned h2 hS q3 q4
      exact ⟨.inl ⟨lp, D', q2, this.1, e2, hrl, fun hlv => by have := (runL_live (openOps d l) hlv).2; rw [e1] at this; exact this⟩, this.2⟩
  · rcases open_done hr hi hn with ⟨D', e1, e2⟩ | ⟨D', e1, _⟩
    · rw [e1] at q3
      have := DiskS.of_turned h2 hS q3 q4
      exact ⟨.inr ⟨D', q2, this.1, e2, fun hlv => by have := (runL_live (openOps d l) hlv).1; rw [e1] at this; cases this⟩, this.2⟩
    · rw [e1] at q1
      cases q1
theorem open_ls (h : LeftS w S p n P) (hS : Up w S) (hn : 97 ≤ n) {C : (Nat → Bs) → Prop} (hP : ∀ I, P I → ∃ c, C c ∧ Has n c I) :
    Calls Try.prog 24 #[.pointer (some ⟨p, 0, none⟩)] w fun e w' => ∃ lp c, e = .returned (.tuple #[.pointer (some ⟨lp, 0, none⟩), .int .i64 0]) ∧ C c ∧ QS w' S lp p n c ∧ Keeps S w w' := by
  obtain ⟨I, D, h1, h2, h3, h4⟩ := h
  obtain ⟨c, hc, l, hi⟩ := hP I h3
  refine (open_s h1 hS h2 hi hn h4.1 (by have := h4.2; omega)).mono ?_
  rintro e w' ⟨⟨lp, D', q1, q2, q3, q4, q5⟩ | ⟨D', _, _, _, q5⟩, hb⟩
  · exact ⟨lp, c, q1, hc, ⟨D', q2, q3, q5 h4⟩, hb⟩
  · exact absurd h4 q5
/-- Read -/
theorem read_qo (h : QO w S lp p n c) (k : Nat) (hk : k + 96 < n) : Calls Try.prog 17 #[.pointer (some ⟨lp, 0, none⟩), .int .i64 k] w fun e w' => ∃ g cap, e = .returned (.tuple #[.slice (some ⟨g, 0, none⟩) 512 cap, .int .i64 0]) ∧ Bytes w' (.slice (some ⟨g, 0, none⟩) 512 cap) (c k) ∧ w.heap.size ≤ g ∧ Below w.heap.size w w' := by
  obtain ⟨D, h1, h2, h3, h4⟩ := h
  have hn2 := h1.n2
  obtain ⟨O, R, h5, h6⟩ := h1
  refine (lRead_ok h5 h3 k (by rw [h2.n]; exact hk) hn2).mono fun e w' ⟨g, cap, q1, q2, q3, q4⟩ => ⟨g, cap, q1, ?_, q3, q4.2.2.2⟩
  rw [h2.at k hk] at q2
  exact q2
set_option maxRecDepth 8000 in
set_option maxHeartbeats 1600000 in
theorem is_qo {v : Value} {sn : Nat} {ss : Nat → Int} (h : QO w S lp p n c) (hst : StAt w v sn ss) (hn : sn + 96 ≤ n) (hn2 : sn ≤ 100) :
    Calls Try.prog 31 #[.pointer (some ⟨lp, 0, none⟩), v] w fun e w' => ∃ r : Bool, e = .returned (.bool r) ∧ (r = true ↔ ∀ i, i < sn → c i = blk (ss i)) ∧ Below w.heap.size w w' := by
  obtain ⟨g, cap, rfl, hsc, hcell⟩ := hst
  have HCELL := Lib.hid hcell
  have HQ0 := Lib.hid h
  have s100 : (sn : Int) ≤ 100 := by omega
  clear hcell h
  go_enter Try.func31, Try.ntmps31
  go_wp2_with fail
  go_loopw [5] (fun i wr => ∃ k : Nat, i = .int .i64 k ∧ k ≤ sn ∧ Hid (∀ i, i < k → c i = blk (ss i)) ∧ Below w.heap.size w wr) (fun i _ => sn - (intOf i).toNat)
  case atStart => exact ⟨0, rfl, Nat.zero_le _, fun i h => by omega, Below.refl _ _⟩
  case round =>
    obtain ⟨k, rfl, hk, HE, hb⟩ := hrel
    have k0 : (0 : Int) ≤ (k : Int) := by omega
    have HB := Lib.hid hb
    clear hb
    by_cases hlt : k < sn
    · have k1 : (k : Int) < (sn : Int) := by omega
      have HRD := Lib.hid (read_qo (HQ0.out.below HB.out) k (by omega))
      go_wp2_with fail
      refine (HRD.out).mono ?_
      rintro e w7 ⟨g7, cap7, rfl, hx7, _, hb7⟩
      have hcv : ∀ W, Below w7.heap.size w7 W → (convert 24 9 (.slice (some ⟨g7, 0, none⟩) 512 cap7)).run Try.prog W = .ok (.string ⟨(c k).toArray⟩) W := fun W hW => run_string_of W 24 5 Try.underlying24 Try.underlying5 (RowAt.below hx7 hW (Nat.le_refl _)) 9 Try.underlying9
      have HB7 := Lib.hid (HB.out.trans (hb7.mono HB.out.size))
      have HCK : Hid (∀ W, Below w7.heap.size w7 W → Below w7.heap.size w7 W ∧ W.cell? ⟨g, k, none⟩ = some (.int .i64 (ss k))) := fun W hW => ⟨hW, ((HB7.out.trans (hW.mono HB7.out.size)).cell (p := ⟨g, k, none⟩) (World.block_lt_of_cell? _ _ (HCELL.out k hlt))).trans (HCELL.out k hlt)⟩
      have HS0 : Hid (Below w7.heap.size w7 w7.drew) := (Below.refl _ _).drew
      have HCV := Lib.hid hcv
      clear hx7 hb7 HRD
      go_wp2_with fail
      refine wp_region_noPanic ?_
      refine wp_region_ordL 13 [11, 13] [0, 1, 2, 3, 4, 5, 6, 7, 8, 9, 10, 11, 12, 13] (fun W => Below w7.heap.size w7 W ∧ W.cell? ⟨g, k, none⟩ = some (.int .i64 (ss k))) (by kernel_rfl) (by kernel_rfl) rfl (by kernel_rfl) (fun _ _ _ _ _ h => h) (HCK.out _ HS0.out) ?_
      repeat (apply heldL_run rfl (by rfl) (by rfl); (intro w hSw; go_simp; with_reducible rfl); (try simp only [Act.put, List.setIfInBounds_toArray, List.set_cons_zero, List.set_cons_succ]))
      refine heldL_step rfl (by rfl) (by rfl) (fun K hK => ?_)
      go_simp
      refine (num_any _ _).mono ?_
      rintro e w8 ⟨rfl, rfl⟩
      refine hK.out _ _ (.inr (HCK.out _ HS0.out)) ?_
      clear hK K
      (try simp only [Act.put, List.setIfInBounds_toArray, List.set_cons_zero, List.set_cons_succ])
      clear hcv
      have hcv : ∀ W, (Below w7.heap.size w7 W ∧ W.cell? ⟨g, k, none⟩ = some (.int .i64 (ss k))) → (convert 24 9 (.slice (some ⟨g7, 0, none⟩) 512 cap7)).run Try.prog W = .ok (.string ⟨(c k).toArray⟩) W := fun W hW => HCV.out W hW.1
      repeat (apply heldL_run rfl (by rfl) (by rfl); (intro w hSw; go_simp; with_reducible rfl); (try simp only [Act.put, List.setIfInBounds_toArray, List.set_cons_zero, List.set_cons_succ]))
      refine heldL_step rfl (by rfl) (by rfl) (fun K hK => ?_)
      go_simp
      refine (block_any (ss k) _).mono ?_
      rintro e w8 ⟨rfl, hx8, hb8⟩
      have HS8 : Hid (Below w7.heap.size w7 w8) := HS0.out.trans hb8
      have hc8 := run_string_of w8 24 5 Try.underlying24 Try.underlying5 hx8 9 Try.underlying9
      clear hx8 hb8
      generalize w7.drew.heap.size = q9 at *
      refine hK.out _ _ (.inr (HCK.out _ HS8.out)) ?_
      clear hK K
      (try simp only [Act.put, List.setIfInBounds_toArray, List.set_cons_zero, List.set_cons_succ])
      repeat (apply heldL_run rfl (by rfl) (by rfl); (intro w hSw; go_simp; with_reducible rfl); (try simp only [Act.put, List.setIfInBounds_toArray, List.set_cons_zero, List.set_cons_succ]))
      refine heldL_step rfl (by rfl) (by rfl) (fun K hK => ?_)
      go_simp
      refine hK.out _ _ (.inr (HCK.out _ HS8.out)) ?_
      clear hK K
      (try simp only [Act.put, List.setIfInBounds_toArray, List.set_cons_zero, List.set_cons_succ])
      have HB8 := Lib.hid (HB7.out.trans (HS8.out.mono HB7.out.size))
      clear hcv
      by_cases hvq : c k = blk (ss k)
      · have HE2 : Hid (∀ i, i < k + 1 → c i = blk (ss i)) := fun i hi => by
          rcases Nat.lt_or_ge i k with h | h
          · exact HE.out i h
          · rw [show i = k by omega]
            exact hvq
        rw [hvq]
        clear hvq
        repeat (apply heldL_run rfl (by rfl) (by rfl); (intro w hSw; go_simp; with_reducible rfl); (try simp only [Act.put, List.setIfInBounds_toArray, List.set_cons_zero, List.set_cons_succ]))
        refine heldL_step rfl (by rfl) (by rfl) (fun K hK => ?_)
        go_simp
        refine hK.out _ _ (.inl rfl) ?_
        clear hK K
        (try simp only [Act.put, List.setIfInBounds_toArray, List.set_cons_zero, List.set_cons_succ])
        refine heldL_nil (NoPanic.normal ?_)
        go_wp2_with fail
        go_roundw
        case rel => exact ⟨k + 1, by go_num, by omega, HE2.out, HB8.out⟩
        case measure => simp [intOf]; omega
      · have hbe : (c k == blk (ss k)) = false := by simpa using hvq
        have HVQ : Hid (false = true ↔ ∀ i, i < sn → c i = blk (ss i)) := ⟨(fun e => by cases e), fun h => absurd (h k hlt) hvq⟩
        clear hvq
        repeat (apply heldL_run rfl (by rfl) (by rfl); (intro w hSw; go_simp; with_reducible rfl); (try simp only [Act.put, List.setIfInBounds_toArray, List.set_cons_zero, List.set_cons_succ]))
        refine heldL_step rfl (by rfl) (by rfl) (fun K hK => ?_)
        go_simp
        refine hK.out _ _ (.inl rfl) ?_
        clear hK K
        (try simp only [Act.put, List.setIfInBounds_toArray, List.set_cons_zero, List.set_cons_succ])
        refine heldL_nil (NoPanic.normal ?_)
        go_wp2_with fail
        go_ret
        exact ⟨false, rfl, HVQ.out, HB8.out⟩
    · obtain rfl : k = sn := by omega
      go_wp2_with fail
      go_ret
      exact ⟨true, rfl, ⟨fun _ => HE.out, fun _ => rfl⟩, HB.out⟩
theorem PutsB.setCell {v : Value} {ps : List (Nat × Bs)} (h : PutsB w B v ps) {a : Addr} (ha : a.block < B) (u : Value) : PutsB (w.setCell a u) B v ps := by
  obtain ⟨gs, h1, h2, h3⟩ := h
  refine ⟨gs, h1, ownsRow_setCell_below h2 ha u, fun k hk hg => ?_⟩
  obtain ⟨q1, q2, x⟩ := h3 k hk hg
  exact ⟨q1, q2, RowAt.keeps (S := fun j => j = a.block) x ((Keeps.refl _ _).setCell a u (.inl rfl)) (fun j e => by cases e; exact fun e2 => absurd q1 (by rw [show gs[k] = a.block from e2]; omega))⟩
/-- numbers that came in lie outside -/
theorem IntsB.keep {K : Nat → Prop} {ka : Option Addr} {kn : Nat} {ks : Nat → Int} (h : IntsB w ka kn ks) (hk : Keeps K w w') (ho : ∀ x, ka = some x → 0 < kn → ¬ K x.block) : IntsB w' ka kn ks :=
  h.imp id (fun ⟨g, off, h1, h2⟩ => ⟨g, off, h1, fun i hi => (hk.cell (p := ⟨g, off + i, none⟩) (World.block_lt_of_cell? _ _ (h2 i hi)) (ho ⟨g, off, none⟩ h1 (Nat.lt_of_le_of_lt (Nat.zero_le _) hi) : ¬ K g)).trans (h2 i hi)⟩)
theorem IntsAt.keep {K : Nat → Prop} {ka : Option Addr} {kn : Nat} {ks : Nat → Int} (h : IntsAt w ka kn ks) (hk : Keeps K w w') (ho : ∀ x, ka = some x → 0 < kn → ¬ K x.block) : IntsAt w' ka kn ks :=
  ⟨h.1, h.2.imp id (fun ⟨g, off, h1, h2⟩ => ⟨g, off, h1, fun i hi => (hk.cell (p := ⟨g, off + i, none⟩) (World.block_lt_of_cell? _ _ (h2 i hi)) (ho ⟨g, off, none⟩ h1 (Nat.lt_of_le_of_lt (Nat.zero_le _) hi) : ¬ K g)).trans (h2 i hi)⟩)⟩
end Go.Proofs.Ythfncgbkigmmcaa
namespace Go.Proofs.Ythfncgbkigmmcaa
open Go.RowKit
set_option linter.unusedVariables false

variable {w w' w1 wr : World} {S T : Nat → Prop} {B lp p n : Nat} {d D : DS} {dead : Bool} {c : Nat → Bs} {P : Bs → Prop}
theorem and_low (x : Int) (b : Nat) (hb : b < 4294967296) : ∃ m : Nat, m ≤ b ∧ bits .and .i64 x (b : Int) = (m : Int) := by
  have h1 : (BitVec.ofInt 64 (b : Int)).toNat = b := by
    rw [BitVec.ofInt_natCast, BitVec.toNat_ofNat]
    exact Nat.mod_eq_of_lt (by omega)
  have h2 : (BitVec.ofInt 64 x &&& BitVec.ofInt 64 (b : Int)).toNat ≤ b := by
    rw [BitVec.toNat_and, h1]
    exact Nat.and_le_right
  refine ⟨_, h2, ?_⟩
  show IntKind.i64.wrap ((BitVec.ofInt 64 x &&& BitVec.ofInt 64 (b : Int)).toNat : Int) = _
  generalize (BitVec.ofInt 64 x &&& BitVec.ofInt 64 (b : Int)).toNat = m at *
  rw [IntKind.wrap_i64]
  omega
/-- with a fuse -/
def FusedS (w : World) (S : Nat → Prop) (p n : Nat) (P : Bs → Prop) : Prop := ∃ I D, DiskS w S p D ∧ Rest n I D ∧ P I ∧ D.left ≤ 9223372036854775807
theorem LeftS.fused (h : LeftS w S p n P) : FusedS w S p n P := let ⟨I, D, h1, h2, h3, h4⟩ := h; ⟨I, D, h1, h2, h3, by have := h4.2; omega⟩
theorem FusedS.mono {P' : Bs → Prop} (h : FusedS w S p n P) (e : ∀ I, P I → P' I) : FusedS w S p n P' := let ⟨I, D, h1, h2, h3, h4⟩ := h; ⟨I, D, h1, h2, e I h3, h4⟩
theorem fuse_ls (h : LeftS w S p n P) (hS : Up w S) (s : Int) (hs : -1 ≤ s) (hs2 : s ≤ 9223372036854775807) : Calls Try.prog 19 #[.pointer (some ⟨p, 0, none⟩), .int .i64 s] w fun e w' => e = .returned (.int .i64 0) ∧ FusedS w' S p n P ∧ Keeps S w w' := by
  obtain ⟨I, D, h1, h2, h3, h4⟩ := h
  obtain ⟨O, R, q1, q2⟩ := h1
  refine (fuse_o q1 s hs h4.1).mono ?_
  rintro e w' ⟨rfl, q3, q4⟩
  have := DiskS.of_turned q2 hS q3 q4
  exact ⟨rfl, ⟨I, _, this.1, h2.fused, h3, hs2⟩, this.2⟩
theorem open_fs (h : FusedS w S p n P) (hS : Up w S) (hn : 97 ≤ n) {C : (Nat → Bs) → Prop} (hP : ∀ I, P I → ∃ c, C c ∧ Has n c I) :
    Calls Try.prog 24 #[.pointer (some ⟨p, 0, none⟩)] w fun e w' => ((∃ lp c, e = .returned (.tuple #[.pointer (some ⟨lp, 0, none⟩), .int .i64 0]) ∧ C c ∧ AS w' S lp p n c) ∨ (e = .returned (.tuple #[.pointer none, .int .i64 11]) ∧ CrS w' S p n (fun I => ∃ c, C c ∧ Has n c I))) ∧ Keeps S w w' := by
  obtain ⟨I, D, h1, h2, h3, h4⟩ := h
  obtain ⟨c, hc, l, hi⟩ := hP I h3
  cases ho : D.off with
  | false =>
    refine (open_s h1 hS h2 hi hn ho h4).mono ?_
    rintro e w' ⟨⟨lp, D', q1, q2, q3, q4, q5⟩ | ⟨D', q1, q2, q3, _⟩, hb⟩
    · exact ⟨.inl ⟨lp, c, q1, hc, D', q2, q3, q4⟩, hb⟩
    · exact ⟨.inr ⟨q1, D', q2, q3.mono (fun I hI => ⟨c, hc, hI⟩)⟩, hb⟩
  | true =>
    have h10 := h1
    obtain ⟨O, R, q1, q2⟩ := h1
    refine (open_off q1 ⟨h4, by rw [h2.back]; simp⟩ ho).mono ?_
    rintro e w' (⟨e1, _⟩ | ⟨_, e1, O', R', e2, e3⟩)
    · cases e1
    · have := DiskS.of_turned q2 hS e2 e3
      exact ⟨.inr ⟨e1, D, this.1, h2.cr ⟨c, hc, l, hi⟩⟩, this.2⟩
/-- whatever it answers -/
theorem open_cr (h : FusedS w S p n P) (hS : Up w S) (hn : 97 ≤ n) {C : (Nat → Bs) → Prop} (hP : ∀ I, P I → ∃ c, C c ∧ Has n c I) :
    Calls Try.prog 24 #[.pointer (some ⟨p, 0, none⟩)] w fun e w' => (∃ v, e = .returned v) ∧ CrS w' S p n (fun I => ∃ c, C c ∧ Has n c I) ∧ Keeps S w w' :=
  (open_fs h hS hn hP).mono fun e w' ⟨h1, h2⟩ => h1.elim (fun ⟨lp, c, q1, q2, q3⟩ => ⟨⟨_, q1⟩, q3.crS.mono (fun I hI => ⟨c, q2, hI⟩), h2⟩) (fun ⟨q1, q2⟩ => ⟨⟨_, q1⟩, q2, h2⟩)
theorem commit_cr (h : AS w S lp p n c) {K : Nat → Prop} (hb : Keeps K w w') (hK : ∀ j, j < w.heap.size → S j → ¬ K j) (hS : Up w S) (ps : List (Nat × Bs)) (v : Value) (hp : PutsF w' (fun j => j < w.heap.size) v ps) (hok : PutOk n ps) :
    Calls Try.prog 15 #[.pointer (some ⟨lp, 0, none⟩), v] w' fun e w2 => (∃ v, e = .returned v) ∧ CrS w2 S p n (fun I => Has n c I ∨ Has n (putC c ps) I) ∧ Keeps S w' w2 :=
  (commit_as h hb hK hS ps v hp hok).mono fun e w' ⟨h1, h2⟩ => h1.elim (fun ⟨q1, q2⟩ => ⟨⟨_, q1⟩, q2.crS.mono (fun I hI => .inr hI), h2⟩) (fun ⟨q1, q2⟩ => ⟨⟨_, q1⟩, q2.crS, h2⟩)
/-- two puts, made here -/
theorem puts_two {lo a b g0 c0 g1 c1 : Nat} {x y : Bs} {w4 : World} (h0 : lo ≤ w4.heap.size) (h1 : lo ≤ g0) (h2 : lo ≤ g1) (hx : Bytes w4 (.slice (some ⟨g0, 0, none⟩) 512 c0) x) (hy : Bytes w4 (.slice (some ⟨g1, 0, none⟩) 512 c1) y) :
    PutsF (w4.alloc (.cells #[.int .i64 (a : Int), .slice (some ⟨g0, 0, none⟩) 512 c0, .int .i64 (b : Int), .slice (some ⟨g1, 0, none⟩) 512 c1] 26 (0, 0))) (fun j => j < lo) (.slice (some ⟨w4.heap.size, 0, none⟩) 2 2) [(a, x), (b, y)] := by
  have hal : Below w4.heap.size w4 (w4.alloc (.cells #[.int .i64 (a : Int), .slice (some ⟨g0, 0, none⟩) 512 c0, .int .i64 (b : Int), .slice (some ⟨g1, 0, none⟩) 512 c1] 26 (0, 0))) := (Below.refl _ _).alloc (Nat.le_refl _) _
  have hs := heap_alloc_new w4 (.cells #[.int .i64 (a : Int), .slice (some ⟨g0, 0, none⟩) 512 c0, .int .i64 (b : Int), .slice (some ⟨g1, 0, none⟩) 512 c1] 26 (0, 0))
  refine ⟨_, 2, rfl, fun k hk => ?_⟩
  have hk2 : k = 0 ∨ k = 1 := by have : k < 2 := hk; omega
  rcases hk2 with rfl | rfl
  · exact ⟨_, 0, g0, 0, c0, rfl, by show ¬ _ < lo; omega, by rw [cell_of_row _ _ _ _ _ _ hs]; rfl, by rw [cell_of_row _ _ _ _ _ _ hs]; rfl, by show ¬ g0 < lo; omega, RowAt.below hx hal (Nat.le_refl _)⟩
  · exact ⟨_, 0, g1, 0, c1, rfl, by show ¬ _ < lo; omega, by rw [cell_of_row _ _ _ _ _ _ hs]; rfl, by rw [cell_of_row _ _ _ _ _ _ hs]; rfl, by show ¬ g1 < lo; omega, RowAt.below hy hal (Nat.le_refl _)⟩
theorem putOk_two {a b : Nat} {x y : Bs} (ha : a + 96 < n) (hb : b + 96 < n) (hab : a ≠ b) (hx : x.length = 512) (hy : y.length = 512) : PutOk n [(a, x), (b, y)] :=
  ⟨by simp, by simp, by simp [hab], fun z hz => by rcases List.mem_cons.1 hz with rfl | hz; exact ⟨ha, hx⟩; rw [List.mem_singleton] at hz; subst hz; exact ⟨hb, hy⟩⟩
theorem putC_two (c : Nat → Bs) {a b : Nat} (x y : Bs) (hab : a ≠ b) : putC c [(a, x), (b, y)] a = x ∧ putC c [(a, x), (b, y)] b = y ∧ ∀ j, j ≠ a → j ≠ b → putC c [(a, x), (b, y)] j = c j := by
  refine ⟨?_, ?_, fun j h1 h2 => ?_⟩
  · simp [putC, lastW, hab.symm]
  · simp [putC, lastW]
  · simp [putC, lastW, h1.symm, h2.symm]
end Go.Proofs.Ythfncgbkigmmcaa
