/- The document's paths: split at slashes; each a name. -/
import Derived.Test.YtpnbmfibooglgaaDoorSpec
namespace Go.Proofs.YtpnbmfibooglgaaDoor

def nameB (l : Bs) : Bool := decide (1 ≤ l.length) && decide (l.length ≤ 14) && !(l == [46]) && !(l == [46, 46]) && l.all fun c => okc c.toNat
def splitAux (l : Bs) : Bs → List Bs
  | [] => [l]
  | c :: r => if c = 47 then l :: splitAux [] r else splitAux (l ++ [c]) r
def splitB (s : Bs) : List Bs := splitAux [] s
def rvalidB (s : Bs) : Bool := decide (s.length ≤ 100) && decide ((splitB s).length ≤ 6) && (splitB s).all nameB
theorem nameB_dots {l : Bs} (h1 : l.length ≤ 14) (h2 : (l.all fun c => okc c.toNat) = true) : nameB l = !dots l := by
  unfold nameB dots
  rw [h2]
  cases l with
  | nil => rfl
  | cons c r =>
    have e1 : decide (1 ≤ (c :: r).length) = true := by simp
    have e2 : decide ((c :: r).length ≤ 14) = true := by simpa using h1
    have e3 : ((c :: r) == ([] : Bs)) = false := rfl
    rw [e1, e2, e3]
    simp only [Bool.true_and, Bool.false_or, Bool.not_or, Bool.and_true]
theorem split_bad : ∀ (r l : Bs), (14 < l.length ∨ (l.all fun c => okc c.toNat) = false) → ((splitAux l r).all nameB) = false
  | [], l, h => by
    have : nameB l = false := by
      unfold nameB
      rcases h with h | h
      · have : ¬ l.length ≤ 14 := by omega
        simp [this]
      · simp [h]
    simp [splitAux, this]
  | c :: r, l, h => by
    unfold splitAux
    split
    · have : nameB l = false := by
        unfold nameB
        rcases h with h | h
        · have : ¬ l.length ≤ 14 := by omega
          simp [this]
        · simp [h]
      simp [this]
    · refine split_bad r _ ?_
      rcases h with h | h
      · left; simp; omega
      · right; rw [List.all_append, h]; rfl
theorem vloop_split : ∀ (r l : Bs) (n : Nat), l.length ≤ 14 → (l.all fun c => okc c.toNat) = true → vloop n l r = (decide ((splitAux l r).length + n ≤ 7) && (splitAux l r).all nameB)
  | [], l, n, h1, h2 => by
    have e : (decide (1 + n ≤ 7)) = decide (n ≤ 6) := by congr 1; apply propext; omega
    simp only [vloop, splitAux, List.length_cons, List.length_nil, Nat.zero_add, e, List.all_cons, List.all_nil, Bool.and_true, nameB_dots h1 h2]
    exact Bool.and_comm _ _
  | c :: r, l, n, h1, h2 => by
    unfold vloop splitAux
    by_cases hc : c = 47
    · rw [if_pos hc, if_pos hc]
      cases hd : dots l with
      | true => simp [nameB_dots h1 h2, hd]
      | false =>
        rw [if_neg (by simp), vloop_split r [] (n + 1) (by simp) rfl]
        have e : (decide ((splitAux [] r).length + (n + 1) ≤ 7)) = decide ((l :: splitAux [] r).length + n ≤ 7) := by congr 1; apply propext; simp only [List.length_cons]; omega
        rw [e]
        simp [nameB_dots h1 h2, hd]
    · rw [if_neg hc, if_neg hc]
      cases ho : okc c.toNat with
      | false =>
        rw [if_neg (by simp), split_bad r _ (.inr (by rw [List.all_append, h2]; simp [ho])), Bool.and_false]
      | true =>
        rw [if_pos rfl]
        by_cases hl : l.length + 1 ≤ 14
        · rw [if_pos hl, vloop_split r _ n (by simpa using hl) (by rw [List.all_append, h2]; simp [ho])]
        · rw [if_neg hl, split_bad r _ (.inl (by simp; omega)), Bool.and_false]
theorem nameB_len {l : Bs} (h : nameB l = true) : l.length ≤ 14 := by
  unfold nameB at h
  simp at h
  exact h.1.1.1.2
theorem split_len : ∀ (r l : Bs), (splitAux l r).all nameB = true → l.length + r.length + 1 ≤ 15 * (splitAux l r).length
  | [], l, h => by
    have := nameB_len (show nameB l = true by simpa [splitAux] using h)
    simp [splitAux]
    omega
  | c :: r, l, h => by
    unfold splitAux at *
    split at h
    · rename_i hc
      rw [if_pos hc]
      simp only [List.all_cons, Bool.and_eq_true] at h
      have h1 := nameB_len h.1
      have h2 := split_len r [] h.2
      simp only [List.length_cons, List.length_nil] at *
      omega
    · rename_i hc
      rw [if_neg hc]
      have h2 := split_len r _ h
      simp only [List.length_append, List.length_cons, List.length_nil] at *
      omega
theorem valid_eq (s : Bs) : validB s = rvalidB s := by
  unfold validB rvalidB splitB
  rw [vloop_split s [] 1 (by simp) rfl]
  have e : (decide ((splitAux [] s).length + 1 ≤ 7)) = decide ((splitAux [] s).length ≤ 6) := by congr 1; apply propext; omega
  rw [e]
  cases h : (splitAux [] s).all nameB with
  | false => simp
  | true =>
    by_cases h6 : (splitAux [] s).length ≤ 6
    · have := split_len s [] h
      have h100 : s.length ≤ 100 := by simp at this; omega
      simp [h6, h100]
    · simp [h6]
end Go.Proofs.YtpnbmfibooglgaaDoor
