/- What is left behind a crash, with a fuse; two puts; low bits. -/
import Derived.Test.YthfncgbkigmmcaaL31
import Derived.Deep.CutRange
namespace Go.Proofs.Ythfncgbkigmmcaa
open Go.RowKit
set_option linter.unusedVariables false

variable {w w' w1 wr : World} {S T : Nat → Prop} {B lp p n : Nat} {d D : DS} {dead : Bool} {c : Nat → Bs} {P : Bs → Prop}
theorem and_low (x : Int) (b : Nat) (hb : b < 4294967296) : ∃ m : Nat, m ≤ b ∧ bits .and .i64 x (b : Int) = (m : Int) := by
  have h1 : (BitVec.ofInt 64 (b : Int)).toNat = b := by
    rw [BitVec.ofInt_natCast, BitVec.toNat_ofNat]
    exact Nat.mod_eq_of_lt (by omega)
  have h2 : (BitVec.ofInt 64 x &&& BitVec.ofInt 64 (b : Int)).toNat ≤ b := by
    rw [BitVec.toNat_and, h1]
    exact Nat.and_le_right
  refine ⟨_, h2, ?_⟩
  show IntKind.i64.wrap ((BitVec.ofInt 64 x &&& BitVec.ofInt 64 (b : Int)).toNat : Int) = _
  generalize (BitVec.ofInt 64 x &&& BitVec.ofInt 64 (b : Int)).toNat = m at *
  rw [IntKind.wrap_i64]
  omega
/-- with a fuse -/
def FusedS (w : World) (S : Nat → Prop) (p n : Nat) (P : Bs → Prop) : Prop := ∃ I D, DiskS w S p D ∧ Rest n I D ∧ P I ∧ D.left ≤ 9223372036854775807
theorem LeftS.fused (h : LeftS w S p n P) : FusedS w S p n P := let ⟨I, D, h1, h2, h3, h4⟩ := h; ⟨I, D, h1, h2, h3, by have := h4.2; omega⟩
theorem FusedS.mono {P' : Bs → Prop} (h : FusedS w S p n P) (e : ∀ I, P I → P' I) : FusedS w S p n P' := let ⟨I, D, h1, h2, h3, h4⟩ := h; ⟨I, D, h1, h2, e I h3, h4⟩
theorem fuse_ls (h : LeftS w S p n P) (hS : Up w S) (s : Int) (hs : -1 ≤ s) (hs2 : s ≤ 9223372036854775807) : Calls Try.prog 19 #[.pointer (some ⟨p, 0, none⟩), .int .i64 s] w fun e w' => e = .returned (.int .i64 0) ∧ FusedS w' S p n P ∧ Keeps S w w' := by
  obtain ⟨I, D, h1, h2, h3, h4⟩ := h
  obtain ⟨O, R, q1, q2⟩ := h1
  refine (fuse_o q1 s hs h4.1).mono ?_
  rintro e w' ⟨rfl, q3, q4⟩
  have := DiskS.of_turned q2 hS q3 q4
  exact ⟨rfl, ⟨I, _, this.1, h2.fused, h3, hs2⟩, this.2⟩
theorem open_fs (h : FusedS w S p n P) (hS : Up w S) (hn : 97 ≤ n) {C : (Nat → Bs) → Prop} (hP : ∀ I, P I → ∃ c, C c ∧ Has n c I) :
    Calls Try.prog 24 #[.pointer (some ⟨p, 0, none⟩)] w fun e w' => ((∃ lp c, e = .returned (.tuple #[.pointer (some ⟨lp, 0, none⟩), .int .i64 0]) ∧ C c ∧ AS w' S lp p n c) ∨ (e = .returned (.tuple #[.pointer none, .int .i64 11]) ∧ CrS w' S p n (fun I => ∃ c, C c ∧ Has n c I))) ∧ Keeps S w w' := by
  obtain ⟨I, D, h1, h2, h3, h4⟩ := h
  obtain ⟨c, hc, l, hi⟩ := hP I h3
  cases ho : D.off with
  | false =>
    refine (open_s h1 hS h2 hi hn ho h4).mono ?_
    rintro e w' ⟨⟨lp, D', q1, q2, q3, q4, q5⟩ | ⟨D', q1, q2, q3, _⟩, hb⟩
    · exact ⟨.inl ⟨lp, c, q1, hc, D', q2, q3, q4⟩, hb⟩
    · exact ⟨.inr ⟨q1, D', q2, q3.mono (fun I hI => ⟨c, hc, hI⟩)⟩, hb⟩
  | true =>
    have h10 := h1
    obtain ⟨O, R, q1, q2⟩ := h1
    refine (open_off q1 ⟨h4, by rw [h2.back]; simp⟩ ho).mono ?_
    rintro e w' (⟨e1, _⟩ | ⟨_, e1, O', R', e2, e3⟩)
    · cases e1
    · have := DiskS.of_turned q2 hS e2 e3
      exact ⟨.inr ⟨e1, D, this.1, h2.cr ⟨c, hc, l, hi⟩⟩, this.2⟩
/-- whatever it answers -/
theorem open_cr (h : FusedS w S p n P) (hS : Up w S) (hn : 97 ≤ n) {C : (Nat → Bs) → Prop} (hP : ∀ I, P I → ∃ c, C c ∧ Has n c I) :
    Calls Try.prog 24 #[.pointer (some ⟨p, 0, none⟩)] w fun e w' => (∃ v, e = .returned v) ∧ CrS w' S p n (fun I => ∃ c, C c ∧ Has n c I) ∧ Keeps S w w' :=
  (open_fs h hS hn hP).mono fun e w' ⟨h1, h2⟩ => h1.elim (fun ⟨lp, c, q1, q2, q3⟩ => ⟨⟨_, q1⟩, q3.crS.mono (fun I hI => ⟨c, q2, hI⟩), h2⟩) (fun ⟨q1, q2⟩ => ⟨⟨_, q1⟩, q2, h2⟩)
theorem commit_cr (h : AS w S lp p n c) {K : Nat → Prop} (hb : Keeps K w w') (hK : ∀ j, j < w.heap.size → S j → ¬ K j) (hS : Up w S) (ps : List (Nat × Bs)) (v : Value) (hp : PutsF w' (fun j => j < w.heap.size) v ps) (hok : PutOk n ps) :
    Calls Try.prog 15 #[.pointer (some ⟨lp, 0, none⟩), v] w' fun e w2 => (∃ v, e = .returned v) ∧ CrS w2 S p n (fun I => Has n c I ∨ Has n (putC c ps) I) ∧ Keeps S w' w2 :=
  (commit_as h hb hK hS ps v hp hok).mono fun e w' ⟨h1, h2⟩ => h1.elim (fun ⟨q1, q2⟩ => ⟨⟨_, q1⟩, q2.crS.mono (fun I hI => .inr hI), h2⟩) (fun ⟨q1, q2⟩ => ⟨⟨_, q1⟩, q2.crS, h2⟩)
/-- two puts, made here -/
theorem puts_two {lo a b g0 c0 g1 c1 : Nat} {x y : Bs} {w4 : World} (h0 : lo ≤ w4.heap.size) (h1 : lo ≤ g0) (h2 : lo ≤ g1) (hx : Bytes w4 (.slice (some ⟨g0, 0, none⟩) 512 c0) x) (hy : Bytes w4 (.slice (some ⟨g1, 0, none⟩) 512 c1) y) :
    PutsF (w4.alloc (.cells #[.int .i64 (a : Int), .slice (some ⟨g0, 0, none⟩) 512 c0, .int .i64 (b : Int), .slice (some ⟨g1, 0, none⟩) 512 c1] 26 (0, 0))) (fun j => j < lo) (.slice (some ⟨w4.heap.size, 0, none⟩) 2 2) [(a, x), (b, y)] := by
  have hal : Below w4.heap.size w4 (w4.alloc (.cells #[.int .i64 (a : Int), .slice (some ⟨g0, 0, none⟩) 512 c0, .int .i64 (b : Int), .slice (some ⟨g1, 0, none⟩) 512 c1] 26 (0, 0))) := (Below.refl _ _).alloc (Nat.le_refl _) _
  have hs := heap_alloc_new w4 (.cells #[.int .i64 (a : Int), .slice (some ⟨g0, 0, none⟩) 512 c0, .int .i64 (b : Int), .slice (some ⟨g1, 0, none⟩) 512 c1] 26 (0, 0))
  refine ⟨_, 2, rfl, fun k hk => ?_⟩
  have hk2 : k = 0 ∨ k = 1 := by have : k < 2 := hk; omega
  rcases hk2 with rfl | rfl
  · exact ⟨_, 0, g0, 0, c0, rfl, by show ¬ _ < lo; omega, by rw [cell_of_row _ _ _ _ _ _ hs]; rfl, by rw [cell_of_row _ _ _ _ _ _ hs]; rfl, by show ¬ g0 < lo; omega, RowAt.below hx hal (Nat.le_refl _)⟩
  · exact ⟨_, 0, g1, 0, c1, rfl, by show ¬ _ < lo; omega, by rw [cell_of_row _ _ _ _ _ _ hs]; rfl, by rw [cell_of_row _ _ _ _ _ _ hs]; rfl, by show ¬ g1 < lo; omega, RowAt.below hy hal (Nat.le_refl _)⟩
theorem putOk_two {a b : Nat} {x y : Bs} (ha : a + 96 < n) (hb : b + 96 < n) (hab : a ≠ b) (hx : x.length = 512) (hy : y.length = 512) : PutOk n [(a, x), (b, y)] :=
  ⟨by simp, by simp, by simp [hab], fun z hz => by rcases List.mem_cons.1 hz with rfl | hz; exact ⟨ha, hx⟩; rw [List.mem_singleton] at hz; subst hz; exact ⟨hb, hy⟩⟩
theorem putC_two (c : Nat → Bs) {a b : Nat} (x y : Bs) (hab : a ≠ b) : putC c [(a, x), (b, y)] a = x ∧ putC c [(a, x), (b, y)] b = y ∧ ∀ j, j ≠ a → j ≠ b → putC c [(a, x), (b, y)] j = c j := by
  refine ⟨?_, ?_, fun j h1 h2 => ?_⟩
  · simp [putC, lastW, hab.symm]
  · simp [putC, lastW]
  · simp [putC, lastW, h1.symm, h2.symm]
end Go.Proofs.Ythfncgbkigmmcaa
