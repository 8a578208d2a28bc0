/- A region that draws, in a function that defers: what the results are read from is not turned by it. No condition but that. -/
import Derived.Test.YthfncgbkigmmcaaLast
import Derived.Defers
namespace Go.Proofs.Ythfncgbkigmmcaa
open Go.RowKit

section
variable {P : Program} {l : List Oper} {Q : Exit → Act → World → Prop} {S : World → Prop}
theorem wpAnyH_ordD {okD : Option Tmp → Bool} (hd : l.all (fun o => okD o.dst) = true) (hs : Region.noSelect l.toArray = true) (hQ : ∀ c a d v w, okD d = true → Q (.panic c) (Act.put a d v) w → Q (.panic c) a w) : ∀ (r : List Nat) (listed : Array Bool) (a : Act) (w : World),
    ordB .any l r listed = true → S w → held P l Q S r a w → wpAnyH P .any l.toArray Q S r.length listed a w
  | [], listed, a, w, hB, _, h => wpAnyH_done (by simpa [ordB] using hB) h _
  | k :: r, listed, a, w, hB, hS, h => by
    unfold held at h
    obtain ⟨o, hi, h⟩ := h
    simp only [ordB, hi, Bool.and_eq_true] at hB
    obtain ⟨hk, hB⟩ := hB
    have h0 : l.toArray[k]? = some o := by simpa using hi
    by_cases ht : takes o = true
    · rw [if_pos ht, Bool.and_eq_true] at hk
      rw [if_pos ht] at h
      obtain ⟨v, hy, h⟩ := h
      exact wpAnyH_take h0 hs hk.1 hk.2 (fun c a w => hQ c a _ v w (List.all_eq_true.1 hd o (List.mem_of_getElem? hi))) hy hS (wpAnyH_ordD hd hs hQ r _ _ w hB hS h)
    · rw [if_neg ht] at hk h
      refine wpAnyH_ready (rs := [k]) (by simpa using hk) (by simp) (AllReadyH.cons h0 (fun K hK => h K (fun a' w' hS' hW => hK.out a' w' hS' fun hS'' => wpAnyH_ordD hd hs hQ r _ a' w' hB hS'' (hW hS''))) AllReadyH.nil)
/-- As 'wp_region_ord'; what a panic leaves may hang on the slots that okD bars. -/
theorem wp_region_ordD {id : Nat} {a : Act} {w : World} (okD : Option Tmp → Bool) (ord : List Nat) (S : World → Prop) (hm : P.follows .mixedOrders = true) (hs : Region.noSelect l.toArray = true) (hn : ord.length = l.length) (hB : ordB .any l ord (Array.replicate l.length false) = true) (hd : l.all (fun o => okD o.dst) = true)
    (hQ : ∀ c a d v w, okD d = true → Q (.panic c) (Act.put a d v) w → Q (.panic c) a w) (hS : S w.drew) (h : held P l Q S ord a w.drew) : (Code.region id l.toArray true).wp P Q a w := by
  refine wp_region_held_drew (S := S) hm hS (fun _ => ?_)
  have := wpAnyH_ordD (P := P) (S := S) hd hs hQ ord (Array.replicate l.toArray.size false) a w.drew (by simpa using hB) hS h
  rw [hn] at this
  simpa using this
end
section
variable {P : Program} {l : List Oper} {Q : Exit → Act → World → Prop} {S : World → Prop} {X : List Nat} {z : Nat} {a : Act} {w : World}
theorem anyL_ordD {okD : Option Tmp → Bool} (hd : l.all (fun o => okD o.dst) = true) (hs : Region.noSelect l.toArray = true) (hQ : ∀ c a d v w, okD d = true → Q (.panic c) (Act.put a d v) w → Q (.panic c) a w) : ∀ (r : List Nat) (L : Array Bool) (a : Act) (w : World),
    ordBL .any l z X r L = true → (r = [] ∨ S w) → heldL P l Q S z X r a w → AnyL P .any l.toArray Q S z r.length L a w
  | [], L, a, w, hB, _, h => AnyL.done (by simpa [ordBL] using hB) h _
  | k :: r, L, a, w, hB, hS, h => by
    have hS : S w := hS.resolve_left (by simp)
    unfold heldL at h
    obtain ⟨o, hi, h⟩ := h
    simp only [ordBL, hi, Bool.and_eq_true] at hB
    obtain ⟨hk, hB⟩ := hB
    have h0 : l.toArray[k]? = some o := by simpa using hi
    by_cases ht : tk X k o = true
    · rw [if_pos ht] at hk h
      simp only [Bool.and_eq_true] at hk
      obtain ⟨v, hy, h⟩ := h
      obtain ⟨hz, hl⟩ := late_of_lateB hk.2
      exact AnyL.first h0 (Region.noSelect_spec hs) (fun c a w => hQ c a _ v w (List.all_eq_true.1 hd o (List.mem_of_getElem? hi))) hz _ _ _ _ (Region.free_spec h0 hk.1.1) hl (by simpa using hk.1.2) hy hS (anyL_ordD hd hs hQ r _ _ w hB (.inr hS) h)
    · rw [if_neg ht] at hk h
      rw [Bool.and_eq_true] at hk
      have hr : Region.ready .any l.toArray L = [k] := by simpa using hk.1
      refine ⟨fun h => (by rw [hr] at h; cases h), fun j hj => ?_⟩
      rw [hr] at hj
      obtain rfl : j = k := by simpa using hj
      refine wpOp_step h0 fun K hK => ?_
      refine h K ?_
      intro a' w' hS' hW
      refine hK a' w' ⟨hS', anyL_ordD hd hs hQ r _ a' w' hB ?_ hW⟩
      rcases hS' with rfl | hS'
      · left; simpa using hk.2
      · exact .inr hS'

/-- The beginning: the order ord; z's world need not meet S. -/
theorem wp_region_ordLD {id : Nat} (okD : Option Tmp → Bool) (z : Nat) (X ord : List Nat) (S : World → Prop) (hm : P.follows .mixedOrders = true) (hs : Region.noSelect l.toArray = true) (hn : ord.length = l.length) (hB : ordBL .any l z X ord (Array.replicate l.length false) = true)
    (hd : l.all (fun o => okD o.dst) = true) (hQ : ∀ c a d v w, okD d = true → Q (.panic c) (Act.put a d v) w → Q (.panic c) a w) (hS : S w.drew) (h : heldL P l Q S z X ord a w.drew) : (Code.region id l.toArray true).wp P Q a w := by
  refine wp_region_any hm ?_
  have := anyL_ordD (P := P) (S := S) (z := z) hd hs hQ ord (Array.replicate l.length false) a w.drew hB (.inr hS) h
  rw [hn] at this
  have := AnyL.any _ _ _ _ this
  simpa using this
end
section
variable {P : Program}
theorem leaves_congr {fn : Func} {t t' : Array Value} {R : Ending → World → Prop} (e : results fn t = results fn t') : ∀ (ds : List Deferred) (u : FrameMode) (w : World), Leaves P fn t R ds u w → Leaves P fn t' R ds u w
  | [], .returning, w, h => by
    unfold Leaves at h ⊢
    rw [← e]
    exact h
  | [], .panicking chain, w, h => h
  | [], .run, w, h => h
  | d :: ds, u, w, h => by
    unfold Leaves at h ⊢
    obtain ⟨h1, fv, cap, f, args, h2, h3, h4⟩ := h
    refine ⟨h1, fv, cap, f, args, h2, h3, h4.mono fun x u' w' hx => ?_⟩
    cases x with
    | returned v => exact leaves_congr e ds _ w' hx
    | panicked chain => exact leaves_congr e ds _ w' hx
    | outgrown => exact hx
/-- two slots, say, hold the results -/
def not23 (d : Option Tmp) : Bool := d != some 2 && d != some 3
theorem results_put {fn : Func} {t1 t2 : TypeId} (hr : fn.results = #[.cell 2 t1, .cell 3 t2]) (a : Act) (d : Option Tmp) (v : Value) (h : not23 d = true) : results fn (a.put d v).tmps = results fn a.tmps := by
  cases d with
  | none => rfl
  | some k =>
    simp only [not23, Bool.and_eq_true, bne_iff_ne, ne_eq, Option.some.injEq] at h
    have e2 : (a.tmps.setIfInBounds k v)[2]? = a.tmps[2]? := Array.getElem?_setIfInBounds_ne h.1
    have e3 : (a.tmps.setIfInBounds k v)[3]? = a.tmps[3]? := Array.getElem?_setIfInBounds_ne h.2
    simp [results, hr, Act.put, e2, e3]
theorem leaves_put {fn : Func} {t1 t2 : TypeId} (hr : fn.results = #[.cell 2 t1, .cell 3 t2]) {R : Ending → World → Prop} (c : List PanicEntry) (a : Act) (d : Option Tmp) (v : Value) (w : World) (h : not23 d = true) (hl : bodyPostD P fn R (.panic c) (a.put d v) w) : bodyPostD P fn R (.panic c) a w := by
  have e : (a.put d v).defers = a.defers := by cases d <;> rfl
  show Leaves P fn a.tmps R a.defers (.panicking c) w
  rw [← e]
  exact leaves_congr (results_put hr a d v h) _ _ _ hl
end
end Go.Proofs.Ythfncgbkigmmcaa
