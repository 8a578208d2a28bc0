/- A region that draws its order, walked once, in the order of the text: what only reads under S is taken as it comes; all else is alone when it comes. Conditions: the Bools that the kernel reckons. -/
import Derived.WalkKit
import Derived.Deep.RegionHeld3
import Derived.Deep.MidRow
namespace Go.Proofs.Ythkjihfnphdfkaa
open Go.RowKit

/-- An operation that yields and writes nothing. -/
def takes (o : Oper) : Bool := match o.op with
  | .move _ | .assign _ | .pick .. | .build .. | .load .. | .binOp .. | .unOp .. | .convert .. | .slice .. | .fieldAddr .. | .field .. | .indexAddr .. | .index .. | .nilCheck _ => true
  | .call c => match c.callee with
    | .builtin .len | .builtin .cap => true
    | _ => false
  | _ => false
def ordB (md : Region.Mode) (l : List Oper) : List Nat → Array Bool → Bool
  | [], listed => Region.ready md l.toArray listed == []
  | k :: r, listed => (match l[k]? with
    | some o => if takes o then Region.free md l.toArray listed k && (Region.ready md l.toArray listed).contains k else Region.ready md l.toArray listed == [k]
    | none => false) && ordB md l r (listed.setIfInBounds k true)

def held (P : Program) (l : List Oper) (Q : Exit → Act → World → Prop) (S : World → Prop) : List Nat → Act → World → Prop
  | [], a, w => Q .normal a w
  | k :: r, a, w => ∃ o, l[k]? = some o ∧ if takes o = true then ∃ v, YieldsIf P l.toArray S o v a ∧ held P l Q S r (a.put o.dst v) w
    else ∀ K : Act → World → Prop, Shut (∀ a w, S w → (S w → held P l Q S r a w) → K a w) → if Region.wanted o (yielded l.toArray a.tmps) = true then Oper.wp P o a w K Q else K (a.put o.dst undef) w

section
variable {P : Program} {l : List Oper} {Q : Exit → Act → World → Prop} {S : World → Prop} {r : List Nat} {k : Nat} {o : Oper} {a : Act} {w : World}
theorem held_nil (h : Q .normal a w) : held P l Q S [] a w := h
theorem held_take (hi : l[k]? = some o) (ht : takes o = true) {v : Value} (hy : YieldsIf P l.toArray S o v a) (h : held P l Q S r (a.put o.dst v) w) : held P l Q S (k :: r) a w := by
  unfold held; exact ⟨o, hi, by rw [if_pos ht]; exact ⟨v, hy, h⟩⟩
theorem held_run (hi : l[k]? = some o) (ht : takes o = true) (hw : Region.wanted o (yielded l.toArray a.tmps) = true) {v : Value} (hy : ∀ w, S w → (execOp a.eval o).run P w = .ok (.value v) w) (h : held P l Q S r (a.put o.dst v) w) : held P l Q S (k :: r) a w :=
  held_take hi ht (.inl ⟨hw, hy⟩) h
theorem held_skip (hi : l[k]? = some o) (ht : takes o = true) (hw : Region.wanted o (yielded l.toArray a.tmps) = false) (h : held P l Q S r (a.put o.dst undef) w) : held P l Q S (k :: r) a w :=
  held_take hi ht (.inr ⟨hw, rfl⟩) h
theorem held_row (hi : l[k]? = some o) (ht : takes o = true) (hw : Region.wanted o (yielded l.toArray a.tmps) = true) (ty : TypeId) (x : Operand) (ho : o.op = .load ty x)
    (b off : Nat) (hx : a.eval x = .pointer (some ⟨b, off, none⟩)) (cs : List Value) (d : TypeDesc) (hS : ∀ w, S w → w.rangeAt b off cs)
    (hu : P.underlying ty = some d) (hd : d.isRow = true) (hs : (P.info? ty).map (·.size) = some cs.length) (h : held P l Q S r (a.put o.dst (.agg cs.toArray)) w) : held P l Q S (k :: r) a w :=
  held_take hi ht (yieldsIf_load_mid hw ty x ho b off hx cs d hS hu hd hs) h
theorem held_step (hi : l[k]? = some o) (ht : takes o = false) (hw : Region.wanted o (yielded l.toArray a.tmps) = true) (h : ∀ K : Act → World → Prop, Shut (∀ a w, S w → (S w → held P l Q S r a w) → K a w) → Oper.wp P o a w K Q) : held P l Q S (k :: r) a w := by
  unfold held
  refine ⟨o, hi, ?_⟩
  rw [if_neg (by rw [ht]; exact Bool.false_ne_true)]
  intro K hK
  rw [if_pos hw]
  exact h K hK
theorem held_pass (hi : l[k]? = some o) (ht : takes o = false) (hw : Region.wanted o (yielded l.toArray a.tmps) = false) (hS : S w) (h : held P l Q S r (a.put o.dst undef) w) : held P l Q S (k :: r) a w := by
  unfold held
  refine ⟨o, hi, ?_⟩
  rw [if_neg (by rw [ht]; exact Bool.false_ne_true)]
  intro K hK
  rw [if_neg (by rw [hw]; exact Bool.false_ne_true)]
  exact hK.out _ _ hS (fun _ => h)

theorem wpAnyH_ord (hs : Region.noSelect l.toArray = true) (hQ : ∀ c a d v w, Q (.panic c) (Act.put a d v) w → Q (.panic c) a w) : ∀ (r : List Nat) (listed : Array Bool) (a : Act) (w : World),
    ordB .any l r listed = true → S w → held P l Q S r a w → wpAnyH P .any l.toArray Q S r.length listed a w
  | [], listed, a, w, hB, _, h => wpAnyH_done (by simpa [ordB] using hB) h _
  | k :: r, listed, a, w, hB, hS, h => by
    unfold held at h
    obtain ⟨o, hi, h⟩ := h
    simp only [ordB, hi, Bool.and_eq_true] at hB
    obtain ⟨hk, hB⟩ := hB
    have h0 : l.toArray[k]? = some o := by simpa using hi
    by_cases ht : takes o = true
    · rw [if_pos ht, Bool.and_eq_true] at hk
      rw [if_pos ht] at h
      obtain ⟨v, hy, h⟩ := h
      exact wpAnyH_take h0 hs hk.1 hk.2 (fun c a w => hQ c a _ v w) hy hS (wpAnyH_ord hs hQ r _ _ w hB hS h)
    · rw [if_neg ht] at hk h
      refine wpAnyH_ready (rs := [k]) (by simpa using hk) (by simp) (AllReadyH.cons h0 (fun K hK => h K (fun a' w' hS' hW => hK.out a' w' hS' fun hS'' => wpAnyH_ord hs hQ r _ a' w' hB hS'' (hW hS''))) AllReadyH.nil)

/-- The beginning: the order ord. -/
theorem wp_region_ord {id : Nat} (ord : List Nat) (S : World → Prop) (hm : P.follows .mixedOrders = true) (hs : Region.noSelect l.toArray = true) (hn : ord.length = l.length) (hB : ordB .any l ord (Array.replicate l.length false) = true)
    (hQ : ∀ c a d v w, Q (.panic c) (Act.put a d v) w → Q (.panic c) a w) (hS : S w.drew) (h : held P l Q S ord a w.drew) : (Code.region id l.toArray true).wp P Q a w := by
  refine wp_region_held_drew (S := S) hm hS (fun _ => ?_)
  have := wpAnyH_ord (P := P) (S := S) hs hQ ord (Array.replicate l.toArray.size false) a w.drew (by simpa using hB) hS h
  rw [hn] at this
  simpa using this
end
end Go.Proofs.Ythkjihfnphdfkaa
