/- Ledgers that live or are dead, through commits and crashes. -/
import Derived.Test.YthfncgbkigmmcaaL26
namespace Go.Proofs.Ythfncgbkigmmcaa
open Go.RowKit

variable {w w' w1 wr : World} {B lp p n : Nat} {d D : DS} {dead : Bool} {c : Nat → Bs} {P : Bs → Prop}
theorem IntsAt.below {ka : Option Addr} {kn : Nat} {ks : Nat → Int} (h : IntsAt w ka kn ks) (hb : Below w.heap.size w w') : IntsAt w' ka kn ks :=
  ⟨h.1, h.2.imp id (fun ⟨g, off, h1, h2⟩ => ⟨g, off, h1, fun i hi => (hb.cell (p := ⟨g, off + i, none⟩) (World.block_lt_of_cell? _ _ (h2 i hi))).trans (h2 i hi)⟩)⟩
theorem ints_of_row {w : World} {a : Option Addr} {len cap : Nat} {zs : List Int} (h : RowIn .i64 w a len cap zs) (hl : len ≤ 1000000000000) : IntsAt w a len (fun i => zs.getD i 0) ∧ ∀ x, a = some x → 0 < len → x.block < w.heap.size := by
  rcases h with ⟨rfl, rfl, rfl, rfl⟩ | ⟨x, rfl, hs, hlc, hm, hz, hcell, hwf⟩
  · exact ⟨⟨hl, .inl rfl⟩, fun x hx => by cases hx⟩
  · obtain ⟨xb, xo, xs⟩ := x
    simp only at hs
    subst hs
    have hc : ∀ i, i < len → w.cell? ⟨xb, xo + i, none⟩ = some (.int .i64 (zs.getD i 0)) := fun i hi => by
      have := hcell i (by omega)
      rw [addr_add] at this
      exact this
    refine ⟨⟨hl, .inr ⟨xb, xo, rfl, hc⟩⟩, fun y hy h0 => ?_⟩
    cases hy
    exact World.block_lt_of_cell? _ _ (hc 0 h0)
/-- it lives: what it has is c -/
def LA (w : World) (B lp p n : Nat) (c : Nat → Bs) : Prop := ∃ D, LedIn w B lp p D false ∧ Quiet n c D ∧ D.left ≤ 9223372036854775807
/-- it is dead: a crash leaves an image that P tells -/
def LD (w : World) (B lp p n : Nat) (P : Bs → Prop) : Prop := ∃ D, LedIn w B lp p D true ∧ Cr n P D
def CrIn (w : World) (B p n : Nat) (P : Bs → Prop) : Prop := ∃ D, DiskIn w B p D ∧ Cr n P D
def Has (n : Nat) (c : Nat → Bs) (I : Bs) : Prop := ∃ l, Img n I l c
theorem LA.below (h : LA w B lp p n c) (hb : Below w.heap.size w w') : LA w' B lp p n c := let ⟨D, h1, h2⟩ := h; ⟨D, h1.below hb, h2⟩
theorem LD.below (h : LD w B lp p n P) (hb : Below w.heap.size w w') : LD w' B lp p n P := let ⟨D, h1, h2⟩ := h; ⟨D, h1.below hb, h2⟩
theorem LA.ext {c' : Nat → Bs} (h : LA w B lp p n c) (e : ∀ j, j + 96 < n → c j = c' j) : LA w B lp p n c' := let ⟨D, h1, h2, h3⟩ := h; ⟨D, h1, h2.ext e, h3⟩
theorem Img.ext {I : Bs} {l : List Nat} {c' : Nat → Bs} (h : Img n I l c) (e : ∀ j, j + 96 < n → c j = c' j) : Img n I l c' := ⟨h.len, h.way, h.fit, fun j hj => (h.at_ j hj).trans (e j hj)⟩
theorem Has.ext {I : Bs} {c' : Nat → Bs} (h : Has n c I) (e : ∀ j, j + 96 < n → c j = c' j) : Has n c' I := let ⟨l, h⟩ := h; ⟨l, h.ext e⟩
theorem LD.mono {P' : Bs → Prop} (h : LD w B lp p n P) (e : ∀ I, P I → P' I) : LD w B lp p n P' := let ⟨D, h1, h2⟩ := h; ⟨D, h1, h2.mono e⟩
theorem LA.crIn (h : LA w B lp p n c) : CrIn w B p n (Has n c) := let ⟨D, h1, h2, _⟩ := h; ⟨D, h1.disk, h2.cr⟩
theorem LD.crIn (h : LD w B lp p n P) : CrIn w B p n P := let ⟨D, h1, h2⟩ := h; ⟨D, h1.disk, h2⟩
theorem CrIn.mono {P' : Bs → Prop} (h : CrIn w B p n P) (e : ∀ I, P I → P' I) : CrIn w B p n P' := let ⟨D, h1, h2⟩ := h; ⟨D, h1, h2.mono e⟩
theorem CrIn.below (h : CrIn w B p n P) (hb : Below w.heap.size w w') : CrIn w' B p n P := let ⟨D, h1, h2⟩ := h; ⟨D, h1.below hb, h2⟩
theorem QL.la (h : QL w B lp p n c) : LA w B lp p n c := let ⟨D, h1, h2, h3⟩ := h; ⟨D, h1, h2, by have := h3.2; omega⟩
theorem commit_la (h : LA w B lp p n c) (hb : Below w.heap.size w w') (hB : B ≤ w.heap.size) (ps : List (Nat × Bs)) (v : Value) (hp : PutsF w' (fun j => j < w.heap.size) v ps) (hok : PutOk n ps) :
    Calls Try.prog 15 #[.pointer (some ⟨lp, 0, none⟩), v] w' fun e w2 => ((e = .returned (.int .i64 0) ∧ LA w2 B lp p n (putC c ps)) ∨ (e = .returned (.int .i64 11) ∧ LD w2 B lp p n (fun I => Has n c I ∨ Has n (putC c ps) I))) ∧ Below B w' w2 := by
  obtain ⟨D, h1, h2, h3⟩ := h
  have hn2 := h1.n2
  rw [h2.n] at hn2
  refine (commit_in h1 hb hB ps v hp (by rw [h2.n]; exact hok) (h2.room h3 (by omega))).mono ?_
  have hl := comm_left h2 h3 hok.2.1
  rintro e w2 ⟨⟨q1, q2, q3⟩ | ⟨q1, q2, q3⟩, hb2⟩
  · rcases comm_done h2 hn2 hok with ⟨D', e1, _⟩ | ⟨D', e1, e2⟩
    · rw [e1] at q1
      cases q1
    · rw [e1] at q3 hl
      exact ⟨.inl ⟨q2, D', q3, e2, hl⟩, hb2⟩
  · rcases comm_done h2 hn2 hok with ⟨D', e1, e2⟩ | ⟨D', e1, e2⟩
    · rw [e1] at q3
      exact ⟨.inr ⟨q2, D', q3, e2⟩, hb2⟩
    · rw [e1] at q1
      cases q1
theorem commit_ld (h : LD w B lp p n P) (hb : Below w.heap.size w w') (hB : B ≤ w.heap.size) (ps : List (Nat × Bs)) (v : Value) (hp : PutsF w' (fun j => j < w.heap.size) v ps) (hok : PutOk n ps) :
    Calls Try.prog 15 #[.pointer (some ⟨lp, 0, none⟩), v] w' fun e w2 => (e = .returned (.int .i64 11) ∧ LD w2 B lp p n P) ∧ Below B w' w2 := by
  obtain ⟨D, h1, h2⟩ := h
  have hn2 := h1.n2
  obtain ⟨O, R, h3, h4⟩ := h1
  refine (commit_dead (h3.below hb) ps v (hp.weaken (fun j hj => h3.lt j hj)) (by rw [h2.hn]; exact hok) hn2).mono ?_
  rintro e w2 ⟨q1, O', R', q3, q4⟩
  have := LedIn.of_turned h4 (Nat.le_trans hB hb.size) q3 q4
  exact ⟨⟨q1, D, this.1, h2⟩, this.2⟩
/-- what a crash leaves -/
def Left (w : World) (B p n : Nat) (P : Bs → Prop) : Prop := ∃ I D, DiskIn w B p D ∧ Rest n I D ∧ P I ∧ Live D
theorem crash_cr (h : CrIn w B p n P) (hB : B ≤ w.heap.size) (ka : Option Addr) (kn kcap : Nat) (ks : Nat → Int) (hkeep : IntsAt w ka kn ks) (hka : ∀ x, ka = some x → 0 < kn → x.block < B) :
    Calls Try.prog 20 #[.pointer (some ⟨p, 0, none⟩), .slice ka kn kcap] w fun e w' => (∃ v, e = .returned v) ∧ Left w' B p n P ∧ Below B w w' := by
  obtain ⟨D, h1, h2⟩ := h
  refine (crash_in h1 hB ka kn kcap ks hkeep hka).mono ?_
  rintro e w' ⟨hv, h3, h4⟩
  obtain ⟨I, q1, q2, q3, q4⟩ := h2.crash (keepB kn ks)
  exact ⟨hv, ⟨I, _, h3, q1, q2, q3, by rw [q4]; decide⟩, h4⟩
theorem Left.mono {P' : Bs → Prop} (h : Left w B p n P) (e : ∀ I, P I → P' I) : Left w B p n P' := let ⟨I, D, h1, h2, h3, h4⟩ := h; ⟨I, D, h1, h2, e I h3, h4⟩
theorem open_left (h : Left w B p n P) (hB : B ≤ w.heap.size) (hn : 97 ≤ n) {C : (Nat → Bs) → Prop} (hP : ∀ I, P I → ∃ c, C c ∧ Has n c I) :
    Calls Try.prog 24 #[.pointer (some ⟨p, 0, none⟩)] w fun e w' => ∃ lp c, e = .returned (.tuple #[.pointer (some ⟨lp, 0, none⟩), .int .i64 0]) ∧ C c ∧ QL w' B lp p n c ∧ Below B w w' := by
  obtain ⟨I, D, h1, h2, h3, h4⟩ := h
  obtain ⟨c, hc, l, hi⟩ := hP I h3
  refine (open_in h1 hB h2 hi hn h4.1 (by have := h4.2; omega)).mono ?_
  rintro e w' ⟨⟨lp, D', q1, q2, q3, q4, q5⟩ | ⟨D', _, _, _, q5⟩, hb⟩
  · exact ⟨lp, c, q1, hc, ⟨D', q2, q3, q5 h4⟩, hb⟩
  · exact absurd h4 q5
end Go.Proofs.Ythfncgbkigmmcaa
