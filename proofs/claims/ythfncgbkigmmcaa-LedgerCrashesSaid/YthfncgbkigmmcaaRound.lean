/- A region that draws its order, within a round of a loop over an iterator: what is shown of it elsewhere serves (it defers nothing). No condition but that. -/
import Derived.Test.YthfncgbkigmmcaaLast
import Derived.RangeFuncCalls
import Derived.OrdersIn
namespace Go.Proofs.Ythfncgbkigmmcaa
open Go.RowKit

section
variable {P : Program} {md : Region.Mode} {ops : Array Oper} {Q : Exit → Act → World → Prop} {l n : Nat}

theorem oper_in {o : Oper} (hd : ∀ c, o.op ≠ .defer c) {a : Act} {w : World} {K : Act → World → Prop} (h : o.wp P a w K Q) : o.wpIn (Fence.wide.inRound l) n P a w K Q := by
  refine ⟨fun _ _ => trivial, ?_⟩
  have e : o.semAt (Fence.wide.inRound l).round a.eval = execOp a.eval o := Oper.semAt_eq _ _ _ hd
  rw [e]
  unfold Oper.wp at h
  generalize (execOp a.eval o).run P w = r at *
  cases r with
  | ok x w' =>
    cases x <;> simp only [Oper.upon, Oper.uponIn] at h ⊢
    case value => exact h
    case skip => exact h
    case defer => exact h
    case enter f args => exact ⟨fun e => (by cases e), CallsIn.inRound l (callsIn_wide.2 h)⟩
    case row r args => exact ⟨fun e => (by cases e), fun c cs _ => let ⟨v, w', r, s⟩ := h c cs; ⟨v, w', r, stepsIn_wide.2 s⟩⟩
  | halt x w' => cases x <;> simp only [Oper.upon, Oper.uponIn] at h ⊢; exact h
theorem op_in (hd : ∀ (i : Nat) (o : Oper), ops[i]? = some o → ∀ c, o.op ≠ .defer c) (hq : ¬ LetsOut Q) {i : Nat} {a : Act} {w : World} {K : Act → World → Prop} (h : wpOp P ops Q i K a w) : wpOpIn (Fence.wide.inRound l) n P ops Q i K a w := by
  unfold wpOp at h
  unfold wpOpIn
  cases ho : ops[i]? with
  | none => rw [ho] at h; exact h
  | some o =>
    rw [ho] at h
    simp only at h ⊢
    split
    · rename_i hw
      rw [if_pos hw] at h
      exact oper_in (hd i o ho) (h.resolve_right fun e => hq e.2)
    · rename_i hw
      rw [if_neg hw] at h
      exact ⟨fun _ _ => trivial, h⟩
theorem any_in (hd : ∀ (i : Nat) (o : Oper), ops[i]? = some o → ∀ c, o.op ≠ .defer c) (hq : ¬ LetsOut Q) : ∀ (m : Nat) (L : Array Bool) (a : Act) (w : World), wpAny P md ops Q m L a w → wpAnyIn (Fence.wide.inRound l) n P md ops Q m L a w
  | 0, _, _, _, h => h
  | m + 1, _, _, _, h => ⟨h.1, fun i hi => op_in hd hq (wpOp_mono (fun a w => any_in hd hq m _ a w) (h.2 i hi))⟩
end

/-- Q, but 'False' at a panic and where memory has no room. -/
def Calm (Q : Exit → Act → World → Prop) : Exit → Act → World → Prop
  | .panic _, _, _ => False
  | .outgrown, _, _ => False
  | e, a, w => Q e a w
theorem Calm.imp {Q : Exit → Act → World → Prop} : ∀ (e : Exit) (a : Act) (w : World), Calm Q e a w → Q e a w := fun e a w h => by
  cases e <;> first | exact h | exact (h : False).elim
theorem Calm.normal {Q : Exit → Act → World → Prop} {a : Act} {w : World} (h : Q .normal a w) : Calm Q .normal a w := h
def noDefer (l : List Oper) : Bool := l.all fun o => match o.op with | .defer _ => false | _ => true
theorem noDefer_spec {l : List Oper} (h : noDefer l = true) (i : Nat) (o : Oper) (ho : l.toArray[i]? = some o) (c : _) : o.op ≠ .defer c := fun e => by
  have := List.all_eq_true.1 h o (List.mem_of_getElem? (by simpa using ho))
  rw [e] at this
  cases this

/-- As 'wp_region_ordL', in a round. -/
theorem wpIn_region_ordL {P : Program} {l : List Oper} {Q : Exit → Act → World → Prop} {a : Act} {w : World} {lp n id : Nat} (z : Nat) (X ord : List Nat) (S : World → Prop) (hm : P.follows .mixedOrders = true) (hs : Region.noSelect l.toArray = true) (hn : ord.length = l.length) (hB : ordBL .any l z X ord (Array.replicate l.length false) = true)
    (hD : noDefer l = true) (hS : S w.drew) (h : heldL P l (Calm Q) S z X ord a w.drew) : (Code.region id l.toArray true).wpIn (Fence.wide.inRound lp) n P Q a w := by
  refine wpIn_mono (Q := Calm Q) ?_ Calm.imp
  refine wpIn_region_any hm ?_
  have := anyL_ord (P := P) (S := S) (z := z) (X := X) hs (fun _ _ _ _ _ h => h) ord (Array.replicate l.length false) a w.drew hB (.inr hS) h
  rw [hn] at this
  have := AnyL.any _ _ _ _ this
  refine any_in (fun i o ho c => noDefer_spec hD i o ho c) (fun ⟨_, _, h⟩ => h) _ _ _ _ ?_
  simpa using this
end Go.Proofs.Ythfncgbkigmmcaa
