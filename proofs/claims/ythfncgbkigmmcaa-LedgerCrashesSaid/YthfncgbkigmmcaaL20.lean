/- The first block tells what was written to it. -/
import Derived.Test.YthfncgbkigmmcaaL19
namespace Go.Proofs.Ythfncgbkigmmcaa
open Go.RowKit

theorem getD_set (b : Bs) (i : Nat) (x : UInt8) (j : Nat) : (b.set i x).getD j 0 = if i = j ∧ j < b.length then x else b.getD j 0 := by
  rw [List.getD_eq_getElem?_getD, List.getD_eq_getElem?_getD, List.getElem?_set]
  by_cases h : i = j
  · subst h
    by_cases h2 : i < b.length
    · simp [h2]
    · simp [h2]
  · simp [h]
theorem byteAt_0 (n : Nat) : (byteAt n 0).toNat = n % 256 := by unfold byteAt; rw [UInt8.toNat_ofNat']; simp
theorem byteAt_1 (n : Nat) : (byteAt n 1).toNat = n / 256 % 256 := by unfold byteAt; rw [UInt8.toNat_ofNat']
theorem byteAt_2 (n : Nat) : (byteAt n 2).toNat = n / 65536 % 256 := by unfold byteAt; rw [UInt8.toNat_ofNat']
theorem byteAt_3 (n : Nat) : (byteAt n 3).toNat = n / 16777216 % 256 := by unfold byteAt; rw [UInt8.toNat_ofNat']
theorem get2_set2 (b : Bs) (i n : Nat) (h : i + 1 < b.length) (hn : n < 65536) : get2B (set2 b i n) i = n := by
  unfold get2B set2
  rw [getD_set, getD_set, getD_set, if_neg (by omega), if_pos ⟨rfl, by omega⟩, if_pos ⟨rfl, by rw [List.length_set]; omega⟩, byteAt_0, byteAt_1]
  omega
theorem set2_other (b : Bs) (i n j : Nat) (h : j < i ∨ i + 1 < j) : (set2 b i n).getD j 0 = b.getD j 0 := by
  unfold set2
  rw [getD_set, getD_set, if_neg (by omega), if_neg (by omega)]
theorem get2_other (b : Bs) (i n j : Nat) (h : j + 1 < i ∨ i + 1 < j) : get2B (set2 b i n) j = get2B b j := by
  unfold get2B
  rw [set2_other _ _ _ _ (by omega), set2_other _ _ _ _ (by omega)]
theorem get4_set4 (b : Bs) (i n : Nat) (h : i + 3 < b.length) (hn : n < 4294967296) : get4B (set4 b i n) i = n := by
  have h0 : i < b.length := by omega
  have h1 : i + 1 < b.length := by omega
  have h2 : i + 2 < b.length := by omega
  have e0 : (set4 b i n).getD i 0 = byteAt n 0 := by simp only [set4, getD_set, List.length_set]; simp [h0]
  have e1 : (set4 b i n).getD (i + 1) 0 = byteAt n 1 := by simp only [set4, getD_set, List.length_set]; simp [h1]
  have e2 : (set4 b i n).getD (i + 2) 0 = byteAt n 2 := by simp only [set4, getD_set, List.length_set]; simp [h2]
  have e3 : (set4 b i n).getD (i + 3) 0 = byteAt n 3 := by simp only [set4, getD_set, List.length_set]; simp [h]
  unfold get4B
  rw [e0, e1, e2, e3, byteAt_0, byteAt_1, byteAt_2, byteAt_3]
  omega
theorem set4_other (b : Bs) (i n j : Nat) (h : j < i ∨ i + 3 < j) : (set4 b i n).getD j 0 = b.getD j 0 := by
  unfold set4
  simp only [getD_set, List.length_set]
  rw [if_neg (by omega), if_neg (by omega), if_neg (by omega), if_neg (by omega)]
theorem bs_ext {a b : Bs} (hl : a.length = b.length) (h : ∀ i, i < a.length → a.getD i 0 = b.getD i 0) : a = b := by
  apply List.ext_getElem hl
  intro i h1 h2
  have := h i h1
  rw [List.getD_eq_getElem?_getD, List.getD_eq_getElem?_getD, List.getElem?_eq_getElem h1, List.getElem?_eq_getElem h2] at this
  simpa using this
theorem getD_drop (b : Bs) (k i : Nat) : (b.drop k).getD i 0 = b.getD (k + i) 0 := by
  rw [List.getD_eq_getElem?_getD, List.getD_eq_getElem?_getD, List.getElem?_drop]
theorem getD_take (b : Bs) (k i : Nat) (h : i < k) : (b.take k).getD i 0 = b.getD i 0 := by
  rw [List.getD_eq_getElem?_getD, List.getD_eq_getElem?_getD, List.getElem?_take, if_pos h]
theorem hfold_low : ∀ (l : List Nat) (b : Bs) (i m : Nat), m < 22 + 2 * i → (hfold b i l).getD m 0 = b.getD m 0
  | [], b, i, m, h => rfl
  | a :: r, b, i, m, h => by rw [hfold, hfold_low r _ _ _ (by omega), set2_other _ _ _ _ (by omega)]
theorem hfold_get : ∀ (l : List Nat) (b : Bs) (i j : Nat) (hj : j < l.length), 22 + 2 * (i + l.length) ≤ b.length → (∀ x ∈ l, x < 65536) → get2B (hfold b i l) (22 + 2 * (i + j)) = l[j]
  | a :: r, b, i, 0, hj, hb, hx => by
    rw [hfold]
    unfold get2B
    rw [hfold_low r _ _ _ (by omega), hfold_low r _ _ _ (by omega)]
    exact get2_set2 b _ a (by simp at hb; omega) (hx a (by simp))
  | a :: r, b, i, j + 1, hj, hb, hx => by
    rw [hfold, show i + (j + 1) = (i + 1) + j by omega]
    rw [hfold_get r _ (i + 1) j (by simpa using hj) (by rw [set2_length]; simp at hb; omega) (fun x h => hx x (by simp [h]))]
    simp
theorem headB_get (ps : List Nat) (m : Nat) (h : m < 16 ∨ 20 ≤ m) : (headB ps).getD m 0 = (headM ps).getD m 0 := by
  unfold headB
  exact set4_other _ _ _ _ (by omega)
theorem way_head (ps : List Nat) (h1 : ps.length ≤ 40) (h2 : ∀ x ∈ ps, x < 65536) : wayB (headB ps) = some ps := by
  have hm : (headB ps).take 16 = mark := by
    apply bs_ext
    · rw [List.length_take, headB_length]
      rfl
    · intro i hi
      rw [List.length_take, headB_length] at hi
      rw [getD_take _ _ _ (by omega), headB_get _ _ (by omega), headM, hfold_low _ _ _ _ (by omega), set2_other _ _ _ _ (by omega), head0]
      rw [List.getD_eq_getElem?_getD, List.getD_eq_getElem?_getD, List.getElem?_append_left (by show i < 16; omega)]
  have hd : (headB ps).drop 20 = (headM ps).drop 20 := by
    apply bs_ext
    · rw [List.length_drop, List.length_drop, headB_length, headM_length]
    · intro i _
      rw [getD_drop, getD_drop, headB_get _ _ (by omega)]
  have hc : get4B (headB ps) 16 = Crc.more 0 ((headB ps).drop 20) := by
    rw [hd]
    unfold headB
    exact get4_set4 _ _ _ (by rw [headM_length]; omega) (Crc.more_lt (by decide) _)
  have hg : ∀ m, 20 ≤ m → get2B (headB ps) m = get2B (headM ps) m := fun m h => by
    unfold get2B
    rw [headB_get _ _ (by omega), headB_get _ _ (by omega)]
  have hn : get2B (headB ps) 20 = ps.length := by
    rw [hg _ (by omega)]
    unfold get2B headM
    rw [hfold_low _ _ _ _ (by omega), hfold_low _ _ _ _ (by omega)]
    exact get2_set2 _ _ _ (by rw [head0_length]; omega) (by omega)
  unfold wayB
  rw [if_pos ⟨hm, hc, by omega⟩, hn]
  congr 1
  apply List.ext_getElem (listB_length _ _)
  intro i h3 h4
  have e : (listB (headB ps) ps.length)[i] = get2B (headB ps) (22 + 2 * i) := by simp [listB]
  rw [e, hg _ (by omega), headM]
  have := hfold_get ps (set2 head0 20 ps.length) 0 i h4 (by rw [set2_length, head0_length]; omega) h2
  rw [Nat.zero_add] at this
  exact this
theorem zero_not : wayB zeroB = none := by
  unfold wayB
  rw [if_neg]
  rintro ⟨h, _⟩
  have := congrArg (fun l : Bs => l.getD 0 0) h
  unfold zeroB at this
  rw [List.take_replicate] at this
  exact absurd this (by decide)
end Go.Proofs.Ythfncgbkigmmcaa
