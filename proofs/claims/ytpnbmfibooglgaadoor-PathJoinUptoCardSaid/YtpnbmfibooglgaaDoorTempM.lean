/- Temp, the document's Temp, Journal; PathTemps. -/
import Derived.Test.YtpnbmfibooglgaaDoorTempL
import Derived.Lib.SmallJoins
namespace Go.Proofs.YtpnbmfibooglgaaDoor
open Go.RowKit

theorem below_grow (w : World) (n : Nat) (os : Array Obj) : Below w.heap.size w (Sort.grow (w.drewN n) os) :=
  ⟨rfl, rfl, rfl, by simp, fun k hk => Sort.heap_grow_old (w.drewN n) os hk⟩
def tempS (k : Nat) : ByteArray := ⟨#[46, 116, 115, 45]⟩ ++ ⟨(Lib.decDigits k).toArray⟩
theorem tempS_list (k : Nat) : (tempS k).data.toList = [46, 116, 115, 45] ++ Lib.decDigits k := by
  simp [tempS, ByteArray.data_append]
theorem dec_digits (k : Nat) : ∀ c ∈ Lib.decDigits k, okc c.toNat = true ∧ c ≠ 47 := by
  have one : ∀ d, d < 10 → okc (UInt8.ofNat (48 + d)).toNat = true ∧ UInt8.ofNat (48 + d) ≠ 47 := by decide
  induction k using Nat.strongRecOn with
  | ind k ih =>
    intro c hc
    rw [Lib.decDigits] at hc
    split at hc
    · rename_i h
      rw [List.mem_singleton] at hc
      subst hc
      exact one k h
    · rcases List.mem_append.1 hc with h | h
      · exact ih (k / 10) (by omega) c h
      · rw [List.mem_singleton] at h
        subst h
        exact one _ (by omega)
theorem vloop_plain (n : Nat) : ∀ (r l : Bs), (∀ c ∈ r, okc c.toNat = true ∧ c ≠ 47) → l.length + r.length ≤ 14 → vloop n l r = (!dots (l ++ r) && decide (n ≤ 6))
  | [], l, _, _ => by simp [vloop]
  | c :: r, l, h, hl => by
    have hc := h c (List.mem_cons_self ..)
    rw [List.length_cons] at hl
    rw [vloop, if_neg hc.2, if_pos hc.1, if_pos (by omega), vloop_plain n r (l ++ [c]) (fun d hd => h d (List.mem_cons_of_mem _ hd)) (by simp; omega)]
    simp
theorem split_plain : ∀ (r l : Bs), (∀ c ∈ r, c ≠ 47) → splitAux l r = [l ++ r]
  | [], l, _ => by simp [splitAux]
  | c :: r, l, h => by
    rw [splitAux, if_neg (h c (List.mem_cons_self ..)), split_plain r (l ++ [c]) (fun d hd => h d (List.mem_cons_of_mem _ hd))]
    simp
theorem temp_chars (k : Nat) : ∀ c ∈ (tempS k).data.toList, okc c.toNat = true ∧ c ≠ 47 := by
  intro c hc
  rw [tempS_list] at hc
  rcases List.mem_append.1 hc with h | h
  · revert c
    have : ∀ c ∈ ([46, 116, 115, 45] : Bs), okc c.toNat = true ∧ c ≠ 47 := by decide
    exact fun c _ h => this c h
  · exact dec_digits k c h
theorem temp_valid (k : Nat) (hk : k < 10000) : validB (tempS k).data.toList = true := by
  have hd := dec_short k hk
  rw [validB, vloop_plain 1 _ [] (temp_chars k) (by rw [tempS_list]; simp; omega)]
  rw [tempS_list]
  simp [dots]
theorem temp_kept (k : Nat) (hk : k < 10000) : keptB (tempS k).data.toList = true := by
  rw [keptB_names, namesB, if_pos (temp_valid k hk), splitB, split_plain _ [] (fun c hc => (temp_chars k c hc).2)]
  rw [tempS_list]
  simp [isTs, Lib.hasPrefix]
theorem temp_room (k : Nat) (hk : k < 10000) : (⟨(Lib.decDigits k).toArray⟩ : ByteArray).size ≤ 1000 := by
  show (Lib.decDigits k).toArray.size ≤ 1000
  have := dec_short k hk
  simp; omega
theorem temp_any (k : Nat) (hk : k < 10000) (w : World) (htab : Lib.TabIs Tryd.prog w "internal/strconv.uint64pow10" .u64 Lib.pow10Tab) : Calls Tryd.prog 14 #[.int .i64 k] w fun e w' => e = .returned (.string (tempS k)) ∧ Below w.heap.size w w' := by
  have HL := Lib.hid (Tryd.strconv_Itoa k (by omega) (by omega) w htab)
  rw [Lib.itoa_nonneg] at HL
  have k0 : (0 : Int) ≤ (k : Int) := by omega
  have k1 : (k : Int) ≤ 9999 := by omega
  have hz := temp_room k hk
  unfold tempS
  generalize (⟨(Lib.decDigits k).toArray⟩ : ByteArray) = t at *
  clear htab
  go_enter Tryd.func14, Tryd.ntmps14
  go_wp2_with fail
  refine (HL.out).mono ?_
  rintro e w1 ⟨rfl, n, os, rfl⟩
  go_wp2_with fail
  go_ret
  exact ⟨rfl, below_grow w n os⟩
theorem rtemp_any (k : Nat) (hk : k < 10000) (w : World) : Calls Tryd.prog 15 #[.int .i64 k] w fun e w' => e = .returned (.string (tempS k)) ∧ w' = w := by
  have HL := Lib.hid (decimal_any k (by omega))
  have k0 : (0 : Int) ≤ (k : Int) := by omega
  have k1 : (k : Int) ≤ 9999 := by omega
  have hz := temp_room k hk
  unfold tempS
  generalize (⟨(Lib.decDigits k).toArray⟩ : ByteArray) = t at *
  go_enter Tryd.func15, Tryd.ntmps15
  go_wp2_with fail
  refine (HL.out w).mono ?_
  rintro e w1 ⟨rfl, rfl⟩
  go_wp2_with fail
  go_ret
  exact ⟨rfl, rfl⟩
theorem temp_out (k : Int) (w : World) (h : k < 0 ∨ (0 ≤ k ∧ 9999 < k)) : Calls Tryd.prog 14 #[.int .i64 k] w fun e w' => e = .returned (.string ⟨#[]⟩) ∧ w' = w := by
  rcases h with h | ⟨h1, h2⟩
  all_goals
    go_enter Tryd.func14, Tryd.ntmps14
    go_wp2_with fail
    go_ret
    exact ⟨rfl, rfl⟩
theorem rtemp_out (k : Int) (w : World) (h : k < 0 ∨ (0 ≤ k ∧ 9999 < k)) : Calls Tryd.prog 15 #[.int .i64 k] w fun e w' => e = .returned (.string ⟨#[]⟩) ∧ w' = w := by
  rcases h with h | ⟨h1, h2⟩
  all_goals
    go_enter Tryd.func15, Tryd.ntmps15
    go_wp2_with fail
    go_ret
    exact ⟨rfl, rfl⟩
theorem journal_any (w : World) : Calls Tryd.prog 16 #[] w fun e w' => e = .returned (.string ⟨#[46, 116, 115, 45, 106, 111, 117, 114, 110, 97, 108]⟩) ∧ w' = w := by
  go_enter Tryd.func16, Tryd.ntmps16
  go_wp2_with fail
  go_ret
  exact ⟨rfl, rfl⟩
theorem temps_out (a : Int) (w : World) (h : a < 0 ∨ (0 ≤ a ∧ 9999 < a)) : Calls Tryd.prog 6 #[.int .i64 a] w fun e w' => e = .returned (.bool true) ∧ Below w.heap.size w w' := by
  have H1 := Lib.hid (fun w => temp_out a w h)
  have H2 := Lib.hid (fun w => rtemp_out a w h)
  clear h
  go_enter Tryd.func6, Tryd.ntmps6
  go_wp2_with fail
  refine (alive_any w).mono ?_
  rintro e w1 ⟨rfl, hb1⟩
  have HB1 := Lib.hid hb1
  clear hb1
  go_wp2_with fail
  refine (H1.out w1).mono ?_
  rintro e w2 ⟨rfl, rfl⟩
  go_wp2_with fail
  refine (H2.out w2).mono ?_
  rintro e w3 ⟨rfl, rfl⟩
  go_wp2_with fail
  refine (journal_any w3).mono ?_
  rintro e w4 ⟨rfl, rfl⟩
  go_wp2_with fail
  go_ret
  exact ⟨rfl, HB1.out⟩
set_option maxHeartbeats 400000 in
theorem temps_in (k : Nat) (hk : k < 10000) (w : World) (htab : Lib.TabIs Tryd.prog w "internal/strconv.uint64pow10" .u64 Lib.pow10Tab) : Calls Tryd.prog 6 #[.int .i64 k] w fun e w' => e = .returned (.bool true) ∧ Below w.heap.size w w' := by
  have hg : Tryd.prog.globalNamed "internal/strconv.uint64pow10" = some 1 := by kernel_rfl
  have HT := Lib.hid (fun (w1 : World) (h : Below w.heap.size w w1) => temp_any k hk w1 (Joins.tab_stays hg htab h (Nat.le_refl _)))
  have H2 := Lib.hid (fun w => rtemp_any k hk w)
  have hl := tempS_list k
  have hsz : (tempS k).size ≤ 100000 := by
    have h1 : (tempS k).data.toList.length = (tempS k).size := by simp
    have := dec_short k hk
    rw [hl] at h1
    simp at h1
    omega
  have HV := Lib.hid (fun w => valid_any (tempS k) w (by omega))
  have HK := Lib.hid (fun w => kept_any (tempS k) w (by omega))
  rw [temp_valid k hk] at HV
  rw [temp_kept k hk] at HK
  have he : ((tempS k).toList == []) = false := by
    rw [bytes_list, hl]
    rfl
  clear hl htab hg
  generalize tempS k = t at *
  go_enter Tryd.func6, Tryd.ntmps6
  go_wp2_with fail
  refine (alive_any w).mono ?_
  rintro e w1 ⟨rfl, hb1⟩
  have HB1 := Lib.hid hb1
  clear hb1
  go_wp2_with fail
  refine (HT.out w1 HB1.out).mono ?_
  rintro e w2 ⟨rfl, hb⟩
  have HB2 := Lib.hid (HB1.out.trans (hb.mono HB1.out.size))
  clear hb
  go_wp2_with fail
  refine (H2.out w2).mono ?_
  rintro e w3 ⟨rfl, rfl⟩
  go_wp2_with fail
  refine (journal_any w3).mono ?_
  rintro e w4 ⟨rfl, rfl⟩
  go_wp2_with fail
  refine (HV.out w4).mono ?_
  rintro e w5 ⟨rfl, hb⟩
  have HB5 := Lib.hid (HB2.out.trans (hb.mono HB2.out.size))
  clear hb
  go_wp2_with fail
  refine (HK.out w5).mono ?_
  rintro e w6 ⟨rfl, hb⟩
  have HB6 := Lib.hid (HB5.out.trans (hb.mono HB5.out.size))
  clear hb
  go_wp2_with fail
  go_ret
  exact ⟨rfl, HB6.out⟩
theorem temps_walk (a : Int) (w : World) (_ : (Lit.int .i64 a).wf = true) (htab : Lib.TabIs Tryd.prog w "internal/strconv.uint64pow10" .u64 Lib.pow10Tab) : Calls Tryd.prog 6 #[.int .i64 a] w fun e w' => e = .returned (.bool true) ∧ Below w.heap.size w w' := by
  by_cases h : a < 0 ∨ (0 ≤ a ∧ 9999 < a)
  · exact temps_out a w h
  · obtain ⟨k, rfl⟩ : ∃ k : Nat, a = k := ⟨a.toNat, by omega⟩
    exact temps_in k (by omega) w htab
end Go.Proofs.YtpnbmfibooglgaaDoor
