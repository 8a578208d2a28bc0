/- As Text's 'wp_region_ord'; what ONE operation z leaves need not meet S (a store over what was loaded); z must wait, through others or itself, for all that is taken. Conditions: the Bools that the kernel reckons. -/
import Derived.Test.YthkjihfnphdfkaaText
namespace Go.Proofs.Ythkjihfnphdfkaa
open Go.RowKit

section
variable {P : Program} {md : Region.Mode} {ops : Array Oper} {Q : Exit → Act → World → Prop} {S : World → Prop} {z : Nat}

/-- Whatever is picked; S holds behind each operation but z. -/
def AnyL (P : Program) (md : Region.Mode) (ops : Array Oper) (Q : Exit → Act → World → Prop) (S : World → Prop) (z : Nat) : Nat → Array Bool → Act → World → Prop
  | 0, L, a, w => Region.ready md ops L = [] ∧ Q .normal a w
  | n + 1, L, a, w => (Region.ready md ops L = [] → Q .normal a w) ∧
    ∀ i ∈ Region.ready md ops L, wpOp P ops Q i (fun a' w' => (i = z ∨ S w') ∧ AnyL P md ops Q S z n (L.setIfInBounds i true) a' w') a w
theorem AnyL.any : ∀ (n : Nat) (L : Array Bool) (a : Act) (w : World), AnyL P md ops Q S z n L a w → wpAny P md ops Q n L a w
  | 0, _, _, _, h => h
  | n + 1, _, _, _, h => ⟨h.1, fun i hi => wpOp_mono (fun a' w' k => AnyL.any n _ a' w' k.2) (h.2 i hi)⟩
theorem AnyL.done {L : Array Bool} {a : Act} {w : World} (hr : Region.ready md ops L = []) (h : Q .normal a w) : ∀ n, AnyL P md ops Q S z n L a w
  | 0 => ⟨hr, h⟩
  | _ + 1 => ⟨fun _ => h, by rw [hr]; simp⟩

/-- Operation i is apart from all that may come ahead of it. -/
def Aside (md : Region.Mode) (ops : Array Oper) (i : Nat) (oi : Oper) (L : Array Bool) : Prop :=
  ∀ j oj, ops[j]? = some oj → j ≠ i → L.getD j true = false → (∀ e ∈ oj.after, Region.binds md e = true → e.on ≠ i) → oi.apart ops oj = true
theorem Aside.next {i j : Nat} {oi : Oper} {L : Array Bool} (h : Aside md ops i oi L) (hj : L.getD j true = false) : Aside md ops i oi (L.setIfInBounds j true) := by
  intro k ok hk hki hun hno
  refine h k ok hk hki ?_ hno
  rcases Decidable.em (j = k) with rfl | hjk
  · exact hj
  · rwa [getD_set_ne true hjk] at hun
/-- What may come up does not wait for what is not listed. -/
theorem waits_not {i j : Nat} {oj : Oper} {L : Array Bool} (hi : L.getD i true = false) (hoj : ops[j]? = some oj) (hj : j ∈ Region.ready md ops L) : ∀ e ∈ oj.after, Region.binds md e = true → e.on ≠ i := by
  obtain ⟨_, o', ho', hall⟩ := mem_ready.1 hj
  rw [hoj] at ho'
  cases ho'
  rintro e he hb rfl
  have h1 := hall e he hb
  rcases Nat.lt_or_ge e.on L.size with h | h
  · simp [h] at hi h1; rw [hi] at h1; cases h1
  · simp [Array.getElem?_eq_none h] at h1
/-- The operations of C wait for i, through others or themselves; none of them is listed. -/
def Late (md : Region.Mode) (ops : Array Oper) (i : Nat) (C : List Nat) (L : Array Bool) : Prop :=
  ∀ c ∈ C, c ≠ i ∧ L.getD c true = false ∧ ∀ o, ops[c]? = some o → ∃ e ∈ o.after, Region.binds md e = true ∧ (e.on = i ∨ e.on ∈ C)
theorem Late.not {i j : Nat} {C : List Nat} {L : Array Bool} (h : Late md ops i C L) (hi : L.getD i true = false) (hj : j ∈ Region.ready md ops L) : j ∉ C := fun hc => by
  obtain ⟨_, oj, hoj, _⟩ := mem_ready.1 hj
  obtain ⟨e, he, hb, h1 | h1⟩ := (h j hc).2.2 oj hoj
  · exact waits_not hi hoj hj e he hb h1
  · exact waits_not (h _ h1).2.1 hoj hj e he hb rfl
theorem Late.next {i j : Nat} {C : List Nat} {L : Array Bool} (h : Late md ops i C L) (hj : j ∉ C) : Late md ops i C (L.setIfInBounds j true) := fun c hc => by
  have hne : j ≠ c := fun e => hj (e ▸ hc)
  refine ⟨(h c hc).1, ?_, (h c hc).2.2⟩
  rw [getD_set_ne true hne]
  exact (h c hc).2.1

theorem AnyL.first {i : Nat} {oi : Oper} {v : Value} {C : List Nat} (hi : ops[i]? = some oi) (hsel : ∀ (j : Nat) (o : Oper) cs b, ops[j]? = some o → o.op ≠ .select cs b)
    (hQ : ∀ c a w, Q (.panic c) (a.put oi.dst v) w → Q (.panic c) a w) (hz : z ∈ C) : ∀ (n : Nat) (L : Array Bool) (a : Act) (w : World), Aside md ops i oi L → Late md ops i C L → i ∈ Region.ready md ops L → YieldsIf P ops S oi v a → S w →
    AnyL P md ops Q S z n (L.setIfInBounds i true) (a.put oi.dst v) w → AnyL P md ops Q S z (n + 1) L a w
  | n, L, a, w, hf, hl, hr, hy, hS, H => by
    refine ⟨fun h => (by rw [h] at hr; cases hr), fun j hj => ?_⟩
    rcases Decidable.em (j = i) with rfl | hji
    · exact hy.wpOp hi hS ⟨.inr hS, H⟩
    · have hj' := ready_mono (i := i) hj hji
      match n, H with
      | 0, H => rw [H.1] at hj'; cases hj'
      | n + 1, H =>
        obtain ⟨hun, oj, hoj, _⟩ := mem_ready.1 hj
        have hiun := (mem_ready.1 hr).1
        have hmid := wpOp_putIf hoj (hf j oj hoj hji hun (waits_not hiun hoj hj)) (fun cs b => hsel i oi cs b hi) (fun cs b => hsel j oj cs b hoj) hQ hy (H.2 j hj')
        have hr' : i ∈ Region.ready md ops (L.setIfInBounds j true) := ready_mono hr (Ne.symm hji)
        have hjC := hl.not hiun hj
        refine wpOp_mono (fun a' w' h3 => ?_) hmid
        obtain ⟨hy', hor, hrest⟩ := h3
        have hS' : S w' := hor.resolve_left fun e => hjC (e ▸ hz)
        rw [Array.setIfInBounds_comm _ _ (Ne.symm hji)] at hrest
        exact ⟨.inr hS', AnyL.first hi hsel hQ hz n _ a' w' (hf.next hun) (hl.next hjC) hr' hy' hS' hrest⟩
end

/-- All that wait for i, through others or themselves. -/
def lateOf (md : Region.Mode) (l : List Oper) (i : Nat) : List Nat :=
  (List.range l.length).foldl (fun acc c => match l[c]? with
    | some o => if o.after.any (fun e => Region.binds md e && (e.on == i || acc.contains e.on)) then acc ++ [c] else acc
    | none => acc) []
def lateB (md : Region.Mode) (l : List Oper) (i z : Nat) (C : List Nat) (L : Array Bool) : Bool :=
  C.contains z && C.all fun c => c != i && L.getD c true == false && (match l[c]? with
    | some o => o.after.any (fun e => Region.binds md e && (e.on == i || C.contains e.on))
    | none => true)
theorem late_of_lateB {md : Region.Mode} {l : List Oper} {i z : Nat} {C : List Nat} {L : Array Bool} (h : lateB md l i z C L = true) : z ∈ C ∧ Late md l.toArray i C L := by
  unfold lateB at h
  rw [Bool.and_eq_true, List.all_eq_true] at h
  refine ⟨by simpa using h.1, fun c hc => ?_⟩
  have h1 := h.2 c hc
  simp only [Bool.and_eq_true, bne_iff_ne, beq_iff_eq] at h1
  refine ⟨h1.1.1, h1.1.2, fun o ho => ?_⟩
  have h2 := h1.2
  have ho' : l[c]? = some o := by simpa using ho
  rw [ho'] at h2
  simp only [Array.any_eq_true] at h2
  obtain ⟨n, hn, h2⟩ := h2
  exact ⟨_, Array.getElem_mem hn, by simpa using h2⟩

/-- Is it taken? -/
def tk (X : List Nat) (k : Nat) (o : Oper) : Bool := takes o && !X.contains k
/-- (X: operations that are carried out in their turn though they might be taken) -/
def ordBL (md : Region.Mode) (l : List Oper) (z : Nat) (X : List Nat) : List Nat → Array Bool → Bool
  | [], L => Region.ready md l.toArray L == []
  | k :: r, L => (match l[k]? with
    | some o => if tk X k o then Region.free md l.toArray L k && (Region.ready md l.toArray L).contains k && lateB md l k z (lateOf md l k) L else Region.ready md l.toArray L == [k] && (k != z || r.isEmpty)
    | none => false) && ordBL md l z X r (L.setIfInBounds k true)

def heldL (P : Program) (l : List Oper) (Q : Exit → Act → World → Prop) (S : World → Prop) (z : Nat) (X : List Nat) : List Nat → Act → World → Prop
  | [], a, w => Q .normal a w
  | k :: r, a, w => ∃ o, l[k]? = some o ∧ if tk X k o = true then ∃ v, YieldsIf P l.toArray S o v a ∧ heldL P l Q S z X r (a.put o.dst v) w
    else ∀ K : Act → World → Prop, Shut (∀ a w, (k = z ∨ S w) → heldL P l Q S z X r a w → K a w) → if Region.wanted o (yielded l.toArray a.tmps) = true then Oper.wp P o a w K Q else K (a.put o.dst undef) w

section
variable {P : Program} {l : List Oper} {Q : Exit → Act → World → Prop} {S : World → Prop} {r X : List Nat} {k z : Nat} {o : Oper} {a : Act} {w : World}
theorem heldL_nil (h : Q .normal a w) : heldL P l Q S z X [] a w := h
theorem heldL_take (hi : l[k]? = some o) (ht : tk X k o = true) {v : Value} (hy : YieldsIf P l.toArray S o v a) (h : heldL P l Q S z X r (a.put o.dst v) w) : heldL P l Q S z X (k :: r) a w := by
  unfold heldL; exact ⟨o, hi, by rw [if_pos ht]; exact ⟨v, hy, h⟩⟩
theorem heldL_run (hi : l[k]? = some o) (ht : tk X k o = true) (hw : Region.wanted o (yielded l.toArray a.tmps) = true) {v : Value} (hy : ∀ w, S w → (execOp a.eval o).run P w = .ok (.value v) w) (h : heldL P l Q S z X r (a.put o.dst v) w) : heldL P l Q S z X (k :: r) a w :=
  heldL_take hi ht (.inl ⟨hw, hy⟩) h
theorem heldL_skip (hi : l[k]? = some o) (ht : tk X k o = true) (hw : Region.wanted o (yielded l.toArray a.tmps) = false) (h : heldL P l Q S z X r (a.put o.dst undef) w) : heldL P l Q S z X (k :: r) a w :=
  heldL_take hi ht (.inr ⟨hw, rfl⟩) h
theorem heldL_pass (hi : l[k]? = some o) (ht : tk X k o = false) (hw : Region.wanted o (yielded l.toArray a.tmps) = false) (hS : k = z ∨ S w) (h : heldL P l Q S z X r (a.put o.dst undef) w) : heldL P l Q S z X (k :: r) a w := by
  unfold heldL
  refine ⟨o, hi, ?_⟩
  rw [if_neg (by rw [ht]; exact Bool.false_ne_true)]
  intro K hK
  rw [if_neg (by rw [hw]; exact Bool.false_ne_true)]
  exact hK.out _ _ hS h
theorem heldL_step (hi : l[k]? = some o) (ht : tk X k o = false) (hw : Region.wanted o (yielded l.toArray a.tmps) = true) (h : ∀ K : Act → World → Prop, Shut (∀ a w, (k = z ∨ S w) → heldL P l Q S z X r a w → K a w) → Oper.wp P o a w K Q) : heldL P l Q S z X (k :: r) a w := by
  unfold heldL
  refine ⟨o, hi, ?_⟩
  rw [if_neg (by rw [ht]; exact Bool.false_ne_true)]
  intro K hK
  rw [if_pos hw]
  exact h K hK

theorem anyL_ord (hs : Region.noSelect l.toArray = true) (hQ : ∀ c a d v w, Q (.panic c) (Act.put a d v) w → Q (.panic c) a w) : ∀ (r : List Nat) (L : Array Bool) (a : Act) (w : World),
    ordBL .any l z X r L = true → (r = [] ∨ S w) → heldL P l Q S z X r a w → AnyL P .any l.toArray Q S z r.length L a w
  | [], L, a, w, hB, _, h => AnyL.done (by simpa [ordBL] using hB) h _
  | k :: r, L, a, w, hB, hS, h => by
    have hS : S w := hS.resolve_left (by simp)
    unfold heldL at h
    obtain ⟨o, hi, h⟩ := h
    simp only [ordBL, hi, Bool.and_eq_true] at hB
    obtain ⟨hk, hB⟩ := hB
    have h0 : l.toArray[k]? = some o := by simpa using hi
    by_cases ht : tk X k o = true
    · rw [if_pos ht] at hk h
      simp only [Bool.and_eq_true] at hk
      obtain ⟨v, hy, h⟩ := h
      obtain ⟨hz, hl⟩ := late_of_lateB hk.2
      exact AnyL.first h0 (Region.noSelect_spec hs) (fun c a w => hQ c a _ v w) hz _ _ _ _ (Region.free_spec h0 hk.1.1) hl (by simpa using hk.1.2) hy hS (anyL_ord hs hQ r _ _ w hB (.inr hS) h)
    · rw [if_neg ht] at hk h
      rw [Bool.and_eq_true] at hk
      have hr : Region.ready .any l.toArray L = [k] := by simpa using hk.1
      refine ⟨fun h => (by rw [hr] at h; cases h), fun j hj => ?_⟩
      rw [hr] at hj
      obtain rfl : j = k := by simpa using hj
      refine wpOp_step h0 fun K hK => ?_
      refine h K ?_
      intro a' w' hS' hW
      refine hK a' w' ⟨hS', anyL_ord hs hQ r _ a' w' hB ?_ hW⟩
      rcases hS' with rfl | hS'
      · left; simpa using hk.2
      · exact .inr hS'

/-- The beginning: the order ord; z's world need not meet S. -/
theorem wp_region_ordL {id : Nat} (z : Nat) (X ord : List Nat) (S : World → Prop) (hm : P.follows .mixedOrders = true) (hs : Region.noSelect l.toArray = true) (hn : ord.length = l.length) (hB : ordBL .any l z X ord (Array.replicate l.length false) = true)
    (hQ : ∀ c a d v w, Q (.panic c) (Act.put a d v) w → Q (.panic c) a w) (hS : S w.drew) (h : heldL P l Q S z X ord a w.drew) : (Code.region id l.toArray true).wp P Q a w := by
  refine wp_region_any hm ?_
  have := anyL_ord (P := P) (S := S) (z := z) hs hQ ord (Array.replicate l.length false) a w.drew hB (.inr hS) h
  rw [hn] at this
  have := AnyL.any _ _ _ _ this
  simpa using this
end
end Go.Proofs.Ythkjihfnphdfkaa
