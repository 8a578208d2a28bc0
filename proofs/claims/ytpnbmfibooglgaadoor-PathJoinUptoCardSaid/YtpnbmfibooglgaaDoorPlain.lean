/- The plain laws: the parent and the last name. -/
import Derived.Test.YtpnbmfibooglgaaDoorRParent
import Derived.Test.YtpnbmfibooglgaaDoorAlive
namespace Go.Proofs.YtpnbmfibooglgaaDoor

/-- the last part, behind the last slash -/
theorem split_last : ∀ (r l : Bs), (∀ c ∈ l, c ≠ 47) → ∃ t : Bs, (splitAux l r).getLast? = some t ∧ (∀ c ∈ t, c ≠ 47) ∧ ∃ u : Bs, l ++ r = u ++ t ∧ (u = [] ∨ ∃ v, u = v ++ [47]) ∧ ((splitAux l r).length = 1 ↔ u = [])
  | [], l, h => ⟨l, by simp [splitAux], h, [], by simp, .inl rfl, by simp [splitAux]⟩
  | c :: r, l, h => by
    unfold splitAux
    by_cases hc : c = 47
    · rw [if_pos hc]
      obtain ⟨t, h1, h2, u, h3, h4, h5⟩ := split_last r [] (fun c hc => by cases hc)
      refine ⟨t, ?_, h2, l ++ [c] ++ u, ?_, ?_, ?_⟩
      · rw [List.getLast?_cons, h1]; rfl
      · simp only [List.nil_append] at h3
        rw [List.append_assoc, List.append_assoc, ← h3]
        simp
      · right
        rcases h4 with rfl | ⟨v, rfl⟩
        · exact ⟨l, by simp [hc]⟩
        · exact ⟨l ++ [c] ++ v, by simp⟩
      · have := split_pos r []
        refine ⟨fun h => ?_, fun h => ?_⟩
        · rw [List.length_cons] at h
          omega
        · simp at h
    · rw [if_neg hc]
      obtain ⟨t, h1, h2, u, h3, h4, h5⟩ := split_last r (l ++ [c]) (fun d hd => by
        rcases List.mem_append.1 hd with h' | h'
        · exact h d h'
        · rw [List.mem_singleton] at h'; subst h'; exact hc)
      exact ⟨t, h1, h2, u, by rw [← h3]; simp, h4, h5⟩

/-- the last slash of a text that is u ++ t, u empty or ended by a slash, no slash in t -/
theorem slash_of (s : ByteArray) (u t : Bs) (h : s.data.toList = u ++ t) (hu : u = [] ∨ ∃ v, u = v ++ [47]) (ht : ∀ c ∈ t, c ≠ 47) : slash s = (u.length : Int) - 1 := by
  have hl : s.size = u.length + t.length := by
    have := congrArg List.length h
    simpa using this
  have hat : ∀ j, j < s.size → s.data[j]! = s.data.toList[j]! := fun j hj => by
    have h1 : j < s.data.size := hj
    rw [getElem!_pos s.data j h1, getElem!_pos s.data.toList j (by simpa using h1)]
    rfl
  rcases Lib.lastIndexByte_spec s 47 with ⟨e, hn⟩ | ⟨i, hi, e, hc, hn⟩
  · unfold slash
    rw [e]
    rcases hu with rfl | ⟨v, rfl⟩
    · rfl
    · exfalso
      apply hn v.length (by rw [hl]; simp; omega)
      rw [hat _ (by rw [hl]; simp; omega), h]
      simp
  · unfold slash
    rw [e]
    rw [hat i hi, h] at hc
    have hiu : i < u.length := by
      apply Classical.byContradiction
      intro hge
      have : (u ++ t)[i]! = t[i - u.length]! := by
        simp [List.getElem?_append_right (show u.length ≤ i by omega), getElem!_def]
      rw [this] at hc
      have hlt : i - u.length < t.length := by omega
      rw [getElem!_pos t _ hlt] at hc
      exact ht _ (List.getElem_mem hlt) (UInt8.toNat_inj.1 (by show _ = 47; omega))
    rcases hu with rfl | ⟨v, rfl⟩
    · simp at hiu
    · simp only [List.length_append, List.length_singleton] at *
      by_cases hiv : i = v.length
      · subst hiv; omega
      · exfalso
        apply hn v.length (by omega) (by rw [hl]; omega)
        rw [hat _ (by rw [hl]; omega), h]
        simp

theorem parent_eq (s : ByteArray) : parentS s = rparentS s := by
  unfold parentS rparentS namesB
  cases hv : validB s.data.toList with
  | false => rfl
  | true =>
    rw [if_pos rfl, if_pos rfl]
    obtain ⟨t, h1, h2, u, h3, h4, h5⟩ := split_last s.data.toList [] (fun c hc => by cases hc)
    have hpos := split_pos s.data.toList []
    simp only [List.nil_append] at h3
    have hl : s.size = u.length + t.length := by
      have := congrArg List.length h3
      simpa using this
    have hlast : lastB (splitB s.data.toList) = t := by
      unfold lastB splitB
      rw [List.getLastD_eq_getLast?, h1]
      rfl
    rw [slash_of s u t h3 h4 h2, hlast]
    change _ = if 2 ≤ (splitAux [] s.data.toList).length then _ else _
    by_cases hu : u = []
    · rw [if_neg (by have := h5.2 hu; omega), hu]
      simp
      rfl
    · rw [if_pos (by have : (splitAux [] s.data.toList).length ≠ 1 := fun e => hu (h5.1 e); omega)]
      congr 1
      omega
theorem base_eq (s : ByteArray) : baseS s = ⟨(lastB (namesB s.data.toList)).toArray⟩ := by
  unfold baseS namesB
  cases hv : validB s.data.toList with
  | false => rfl
  | true =>
    rw [if_pos rfl, if_pos rfl]
    obtain ⟨t, h1, h2, u, h3, h4, h5⟩ := split_last s.data.toList [] (fun c hc => by cases hc)
    simp only [List.nil_append] at h3
    have hl : s.size = u.length + t.length := by
      have := congrArg List.length h3
      simpa using this
    have hlast : lastB (splitB s.data.toList) = t := by
      unfold lastB splitB
      rw [List.getLastD_eq_getLast?, h1]
      rfl
    rw [slash_of s u t h3 h4 h2, hlast, show ((u.length : Int) - 1 + 1).toNat = u.length by omega, Lib.extract_eq, h3, List.drop_left', List.take_of_length_le (by omega)]
    rfl
end Go.Proofs.YtpnbmfibooglgaaDoor
