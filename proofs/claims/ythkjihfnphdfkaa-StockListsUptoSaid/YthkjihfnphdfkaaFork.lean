/- As Last's 'wp_region_ordL'; at one place, behind what is taken first, TWO operations may come up: both ways are walked. Conditions: the Bools that the kernel reckons. -/
import Derived.Test.YthkjihfnphdfkaaLast
namespace Go.Proofs.Ythkjihfnphdfkaa
open Go.RowKit

def ordBP (md : Region.Mode) (l : List Oper) (z : Nat) (X : List Nat) (j : Nat) (r1 : List Nat) (k : Nat) (r2 : List Nat) : List Nat → Array Bool → Bool
  | [], L => (match l[j]? with
    | some o => !tk X j o
    | none => false) && (match l[k]? with
    | some o => !tk X k o
    | none => false) && Region.ready md l.toArray L == [j, k] && j != z && k != z && r1.length == r2.length && ordBL md l z X r1 (L.setIfInBounds j true) && ordBL md l z X r2 (L.setIfInBounds k true)
  | i :: r, L => (match l[i]? with
    | some o => tk X i o && Region.free md l.toArray L i && (Region.ready md l.toArray L).contains i && lateB md l i z (lateOf md l i) L
    | none => false) && ordBP md l z X j r1 k r2 r (L.setIfInBounds i true)
def heldP (P : Program) (l : List Oper) (S : World → Prop) (F : Act → World → Prop) : List Nat → Act → World → Prop
  | [], a, w => F a w
  | i :: r, a, w => ∃ o v, l[i]? = some o ∧ YieldsIf P l.toArray S o v a ∧ heldP P l S F r (a.put o.dst v) w
section
variable {P : Program} {l : List Oper} {Q : Exit → Act → World → Prop} {S : World → Prop} {F : Act → World → Prop} {r r1 r2 X : List Nat} {i j k z : Nat} {o : Oper} {a : Act} {w : World}
theorem heldP_run (hi : l[i]? = some o) (hw : Region.wanted o (yielded l.toArray a.tmps) = true) {v : Value} (hy : ∀ w, S w → (execOp a.eval o).run P w = .ok (.value v) w) (h : heldP P l S F r (a.put o.dst v) w) : heldP P l S F (i :: r) a w :=
  ⟨o, v, hi, .inl ⟨hw, hy⟩, h⟩
theorem heldP_nil (h : F a w) : heldP P l S F [] a w := h
theorem anyL_step (hs : Region.noSelect l.toArray = true) (hQ : ∀ c a d v w, Q (.panic c) (Act.put a d v) w → Q (.panic c) a w) {L : Array Bool} (ht : (match l[j]? with
    | some o => !tk X j o
    | none => false) = true) (hz : j ≠ z) (hB : ordBL .any l z X r (L.setIfInBounds j true) = true) (h : heldL P l Q S z X (j :: r) a w) : wpOp P l.toArray Q j (fun a' w' => (j = z ∨ S w') ∧ AnyL P .any l.toArray Q S z r.length (L.setIfInBounds j true) a' w') a w := by
  unfold heldL at h
  obtain ⟨o, hi, h⟩ := h
  rw [hi] at ht
  have ht : tk X j o = false := by simpa using ht
  have h0 : l.toArray[j]? = some o := by simpa using hi
  rw [if_neg (by rw [ht]; exact Bool.false_ne_true)] at h
  refine wpOp_step h0 fun K hK => ?_
  refine h K ?_
  intro a' w' hS' hW
  exact hK a' w' ⟨hS', anyL_ord hs hQ r _ a' w' hB (hS'.elim (fun e => absurd e hz) .inr) hW⟩
theorem anyL_fork (hs : Region.noSelect l.toArray = true) (hQ : ∀ c a d v w, Q (.panic c) (Act.put a d v) w → Q (.panic c) a w) : ∀ (r : List Nat) (L : Array Bool) (a : Act) (w : World),
    ordBP .any l z X j r1 k r2 r L = true → S w → heldP P l S (fun a w => heldL P l Q S z X (j :: r1) a w ∧ heldL P l Q S z X (k :: r2) a w) r a w → AnyL P .any l.toArray Q S z (r.length + (r1.length + 1)) L a w
  | [], L, a, w, hB, hS, h => by
    simp only [ordBP, Bool.and_eq_true, beq_iff_eq, bne_iff_ne] at hB
    obtain ⟨⟨⟨⟨⟨⟨⟨h1, h2⟩, h3⟩, h4⟩, h5⟩, h6⟩, h7⟩, h8⟩ := hB
    obtain ⟨q1, q2⟩ := h
    show AnyL P .any l.toArray Q S z (0 + (r1.length + 1)) L a w
    rw [Nat.zero_add]
    refine ⟨fun e => (by rw [h3] at e; cases e), fun i hi => ?_⟩
    rw [h3] at hi
    have hi2 : i = j ∨ i = k := by simpa using hi
    rcases hi2 with rfl | rfl
    · exact anyL_step hs hQ h1 h4 h7 q1
    · rw [h6]
      exact anyL_step hs hQ h2 h5 h8 q2
  | i :: r, L, a, w, hB, hS, h => by
    obtain ⟨o, v, hi, hy, h⟩ := h
    simp only [ordBP, hi, Bool.and_eq_true] at hB
    obtain ⟨⟨⟨⟨h1, h2⟩, h3⟩, h4⟩, hB⟩ := hB
    have h0 : l.toArray[i]? = some o := by simpa using hi
    obtain ⟨hz, hl⟩ := late_of_lateB h4
    have e : (i :: r).length + (r1.length + 1) = (r.length + (r1.length + 1)) + 1 := by rw [List.length_cons]; omega
    rw [e]
    exact AnyL.first h0 (Region.noSelect_spec hs) (fun c a w => hQ c a _ v w) hz _ _ _ _ (Region.free_spec h0 h2) hl (by simpa using h3) hy hS (anyL_fork hs hQ r _ _ w hB hS h)
theorem wp_region_fork {id : Nat} (z : Nat) (X pre : List Nat) (j : Nat) (r1 : List Nat) (k : Nat) (r2 : List Nat) (S : World → Prop) (hm : P.follows .mixedOrders = true) (hs : Region.noSelect l.toArray = true) (hn : pre.length + (r1.length + 1) = l.length) (hB : ordBP .any l z X j r1 k r2 pre (Array.replicate l.length false) = true)
    (hQ : ∀ c a d v w, Q (.panic c) (Act.put a d v) w → Q (.panic c) a w) (hS : S w.drew) (h : heldP P l S (fun a w => heldL P l Q S z X (j :: r1) a w ∧ heldL P l Q S z X (k :: r2) a w) pre a w.drew) : (Code.region id l.toArray true).wp P Q a w := by
  refine wp_region_any hm ?_
  have := anyL_fork (P := P) (S := S) (z := z) hs hQ pre (Array.replicate l.length false) a w.drew hB hS h
  rw [hn] at this
  have := AnyL.any _ _ _ _ this
  simpa using this
end
end Go.Proofs.Ythkjihfnphdfkaa
