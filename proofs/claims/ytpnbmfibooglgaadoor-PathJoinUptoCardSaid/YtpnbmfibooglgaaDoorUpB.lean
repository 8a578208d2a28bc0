/- The plain law of PathUp and PathJoin: names put together. -/
import Derived.Test.YtpnbmfibooglgaaDoorTempM
import Derived.Test.YtpnbmfibooglgaaDoorUnderL
namespace Go.Proofs.YtpnbmfibooglgaaDoor

theorem take_some {α : Type} {L : List α} {k : Nat} (h1 : 1 ≤ k) (h2 : 0 < L.length) : L.take k ≠ [] := by
  intro e
  have := congrArg List.length e
  rw [List.length_take, List.length_nil] at this
  omega
theorem drop_some {α : Type} {L : List α} {k : Nat} (h : k < L.length) : L.drop k ≠ [] := by
  intro e
  have := congrArg List.length e
  rw [List.length_drop, List.length_nil] at this
  omega
def joinL : List Bs → Bs
  | [] => []
  | [x] => x
  | x :: y :: r => x ++ 47 :: joinL (y :: r)
theorem joinL_append : ∀ (A B : List Bs), A ≠ [] → B ≠ [] → joinL (A ++ B) = joinL A ++ 47 :: joinL B
  | [a], b :: r, _, _ => by simp [joinL]
  | a :: b :: r, B, _, hB => by
    have := joinL_append (b :: r) B (by simp) hB
    simp only [List.cons_append] at this ⊢
    rw [joinL, this, joinL]
    simp
theorem split_slash : ∀ (r l : Bs), (∀ c ∈ r, c ≠ 47) → ∀ s : Bs, splitAux l (r ++ 47 :: s) = (l ++ r) :: splitAux [] s
  | [], l, _, s => by simp [splitAux]
  | c :: r, l, h, s => by
    rw [List.cons_append, splitAux, if_neg (h c (List.mem_cons_self ..)), split_slash r (l ++ [c]) (fun d hd => h d (List.mem_cons_of_mem _ hd)) s]
    simp
theorem split_joinL : ∀ (M : List Bs), M ≠ [] → (∀ x ∈ M, ∀ c ∈ x, c ≠ 47) → splitB (joinL M) = M
  | [x], _, h => by
    rw [joinL, splitB, split_plain x [] (h x (by simp))]
    simp
  | x :: y :: r, _, h => by
    rw [joinL, splitB, split_slash x [] (h x (by simp)) _]
    have := split_joinL (y :: r) (by simp) (fun z hz => h z (List.mem_cons_of_mem _ hz))
    rw [splitB] at this
    rw [this]
    rfl
theorem join_split : ∀ (r l : Bs), joinL (splitAux l r) = l ++ r
  | [], l => by simp [splitAux, joinL]
  | c :: r, l => by
    rw [splitAux]
    split
    · rename_i h
      have hp := split_pos r []
      have ih := join_split r []
      cases hs : splitAux [] r with
      | nil => rw [hs] at hp; simp at hp
      | cons y t =>
        rw [hs] at ih
        rw [joinL, ih, h]
        simp
    · rw [join_split r (l ++ [c])]
      simp
theorem nameB_slash {x : Bs} (h : nameB x = true) : ∀ c ∈ x, c ≠ 47 := by
  intro c hc e
  subst e
  unfold nameB at h
  simp only [Bool.and_eq_true, List.all_eq_true] at h
  have := h.2 _ hc
  revert this
  decide
theorem valid_joinL (M : List Bs) (h0 : M ≠ []) (h1 : ∀ x ∈ M, ∀ c ∈ x, c ≠ 47) : validB (joinL M) = (decide (M.length ≤ 6) && M.all nameB) := by
  have := split_joinL M h0 h1
  rw [splitB] at this
  rw [validB, vloop_split _ [] 1 (by simp) (by simp), this]
  congr 1
  exact decide_eq_decide.2 (by omega)
theorem valid_parts {s : Bs} (h : validB s = true) : (splitB s).length ≤ 6 ∧ (splitB s).all nameB = true := by
  rw [validB, vloop_split _ [] 1 (by simp) (by simp), Bool.and_eq_true] at h
  have := of_decide_eq_true h.1
  exact ⟨by show (splitAux [] s).length ≤ 6; omega, h.2⟩
theorem parts_slash {s : Bs} (h : validB s = true) : ∀ x ∈ splitB s, ∀ c ∈ x, c ≠ 47 := fun x hx =>
  nameB_slash (List.all_eq_true.1 (valid_parts h).2 x hx)
theorem valid_take {s : Bs} (h : validB s = true) (k : Nat) (h1 : 1 ≤ k) : validB (joinL ((splitB s).take k)) = true := by
  have hp : 0 < (splitB s).length := split_pos s []
  have hv := valid_parts h
  rw [valid_joinL _ (take_some h1 hp) (fun x hx => parts_slash h x (List.mem_of_mem_take hx))]
  rw [Bool.and_eq_true]
  refine ⟨decide_eq_true (by rw [List.length_take]; omega), List.all_eq_true.2 fun x hx => List.all_eq_true.1 hv.2 x (List.mem_of_mem_take hx)⟩
theorem under_take {s : Bs} (h : validB s = true) (k : Nat) (h1 : 1 ≤ k) (h2 : k < (splitB s).length) : underB (joinL ((splitB s).take k)) s = true := by
  have e : s = joinL ((splitB s).take k) ++ 47 :: joinL ((splitB s).drop k) := by
    have := join_split s []
    rw [← joinL_append _ _ (take_some h1 (by omega)) (drop_some h2), List.take_append_drop]
    exact this.symm
  unfold underB
  rw [h, valid_take h k h1]
  have : Lib.hasPrefix s (joinL ((splitB s).take k) ++ [47]) = true := (hp_iff _ _).2 ⟨joinL ((splitB s).drop k), by
    rw [List.append_assoc]
    exact e.symm⟩
  rw [this]
  simp
theorem under_self {s : Bs} (h : validB s = true) : underB s s = false := by
  unfold underB
  have h0 : s ≠ [] := by
    rintro rfl
    revert h
    decide
  have : Lib.hasPrefix s (s ++ [47]) = false := by
    rw [Bool.eq_false_iff]
    intro e
    have := ((hp_iff _ _).1 e).length_le
    simp at this
    omega
  rw [this]
  simp [h0]
theorem under_nil {s : Bs} (h : validB s = true) : underB [] s = true := by
  unfold underB
  rw [h]
  rfl
theorem parts_all (s : Bs) : joinL (splitB s) = s := join_split s []
/-- the last step: what stands in front of the last name, and the last name -/
theorem ends (s : ByteArray) (h : validB s.data.toList = true) (m : Nat) (hm : (splitB s.data.toList).length = m + 1) :
    baseS s = ⟨((splitB s.data.toList)[m]'(by omega)).toArray⟩ ∧ (m = 0 → parentS s = ⟨#[]⟩) ∧
    (0 < m → parentS s = ⟨(joinL ((splitB s.data.toList).take m)).toArray⟩ ∧ joinL ((splitB s.data.toList).take m) ≠ [] ∧ joinL ((splitB s.data.toList).take m) ++ 47 :: ((splitB s.data.toList)[m]'(by omega)) = s.data.toList) := by
  have hn : namesB s.data.toList = splitB s.data.toList := by rw [namesB, if_pos h]
  have hl : lastB (splitB s.data.toList) = (splitB s.data.toList)[m]'(by omega) := by
    unfold lastB
    rw [List.getLastD_eq_getLast?, List.getLast?_eq_getElem?, show (splitB s.data.toList).length - 1 = m by omega, List.getElem?_eq_getElem (by omega)]
    rfl
  refine ⟨by rw [base_eq, hn, hl], fun h0 => ?_, fun h0 => ?_⟩
  · rw [parent_eq, rparentS, hn, if_neg (by omega)]
  · have e : joinL ((splitB s.data.toList).take m) ++ 47 :: ((splitB s.data.toList)[m]'(by omega)) = s.data.toList := by
      have h1 := parts_all s.data.toList
      have h2 : (splitB s.data.toList).take m ++ [(splitB s.data.toList)[m]'(by omega)] = splitB s.data.toList := by
        rw [← List.take_succ_eq_append_getElem (by omega), List.take_of_length_le (by omega)]
      rw [← h2, joinL_append _ _ (take_some h0 (by omega)) (by simp)] at h1
      exact h1
    refine ⟨?_, ?_, e⟩
    · rw [parent_eq, rparentS, hn, hl, if_pos (by omega), Lib.extract_eq]
      have hz : s.size = (joinL ((splitB s.data.toList).take m)).length + 1 + ((splitB s.data.toList)[m]'(by omega)).length := by
        have := congrArg List.length e
        simp at this
        have h2 : s.size = s.data.size := rfl
        omega
      generalize joinL ((splitB s.data.toList).take m) = v at *
      generalize (splitB s.data.toList)[m]'(by omega) = t at *
      rw [← e, List.drop_zero, show s.size - t.length - 1 - 0 = v.length by omega, List.take_left']
      rfl
    · intro e0
      have := valid_take h m h0
      rw [e0] at this
      revert this
      decide
end Go.Proofs.YtpnbmfibooglgaaDoor
