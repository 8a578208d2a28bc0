/- the document's Kept, Parent. -/
import Derived.Test.YtpnbmfibooglgaaDoorRMore
namespace Go.Proofs.YtpnbmfibooglgaaDoor
open Go.RowKit

theorem isTs_short {l : Bs} (h : ¬ 3 ≤ l.length) : isTs l = false := by
  unfold isTs Lib.hasPrefix
  rw [Bool.eq_false_iff]
  intro e
  have := (List.isPrefixOf_iff_prefix.1 e).length_le
  simp at this
  omega
theorem isTs_long {l : Bs} (_ : 3 ≤ l.length) : isTs l = (l.take 3 == [46, 116, 115]) := by
  unfold isTs Lib.hasPrefix
  rw [Bool.eq_iff_iff, List.isPrefixOf_iff_prefix, List.prefix_iff_eq_take, beq_iff_eq]
  exact ⟨fun e => e.symm, fun e => e.symm⟩
theorem keptB_names (s : Bs) : keptB s = (namesB s).any isTs := by
  unfold keptB namesB
  cases validB s <;> simp
theorem names_short (s : ByteArray) : (namesB s.data.toList).length ≤ s.size + 1 := by
  unfold namesB
  split
  · have := split_short s.data.toList []
    simpa [splitB] using this
  · simp
set_option maxHeartbeats 800000 in
theorem rkept_any (s : ByteArray) (w : World) (hs : s.size ≤ 1000000) : Calls Tryd.prog 26 #[.string s] w fun e w' => e = .returned (.bool (keptB s.data.toList)) ∧ Below w.heap.size w w' := by
  have HN := Lib.hid (rnames_any s w hs)
  have hsh := names_short s
  rw [keptB_names]
  generalize namesB s.data.toList = L at *
  obtain ⟨V, HV⟩ : ∃ V, Hid (L.any isTs = V) := ⟨_, rfl⟩
  rw [HV.out]
  go_enter Tryd.func26, Tryd.ntmps26
  go_wp2_with fail
  refine (HN.out).mono ?_
  rintro e w1 ⟨v, rfl, hrow, hb⟩
  have HB := Lib.hid hb
  obtain ⟨a, c, hv⟩ := row_len' hrow
  subst hv
  have HR := Lib.hid hrow
  clear hrow hb
  go_wp2_with fail
  go_loop [4] (fun i => ∃ k : Nat, k ≤ L.length ∧ i = .int .i64 k ∧ Hid ((L.take k).any isTs = false)) (fun i => L.length - (intOf i).toNat)
  case atStart => exact ⟨0, Nat.zero_le _, rfl, rfl⟩
  case round =>
    obtain ⟨k, hk, rfl, HT⟩ := hrel
    have k0 : (0 : Int) ≤ (k : Int) := by omega
    by_cases hlt : k < L.length
    · have k1 : (k : Int) < (L.length : Int) := by omega
      obtain ⟨g, c', e1, hcell⟩ := strs_at HR.out k hlt
      cases e1
      have HNX : Hid (isTs L[k] = false → (L.take (k + 1)).any isTs = false) := fun h => by rw [List.take_succ_eq_append_getElem hlt, List.any_append, HT.out]; simp [h]
      have HNO : Hid (isTs L[k] = true → V = true) := fun h => by rw [← HV.out, List.any_eq_true]; exact ⟨_, List.getElem_mem hlt, h⟩
      generalize L[k] = x at *
      obtain ⟨t, ht⟩ : ∃ t : ByteArray, t = ⟨x.toArray⟩ := ⟨_, rfl⟩
      have hx : x = t.data.toList := by rw [ht]
      rw [← ht] at hcell
      clear ht
      subst hx
      have hlen : t.data.toList.length = t.size := by simp
      by_cases h3 : 3 ≤ t.size
      · have n3 : (3 : Int) ≤ (t.size : Int) := by omega
        have he := isTs_long (l := t.data.toList) (by omega)
        cases hT : ((t.extract 0 3).toList == [46, 116, 115]) with
        | true =>
          have HF := Lib.hid (HNO.out (by rw [he, ← hT, Lib.extract_toList]; rfl))
          clear HNX HNO he hlen
          go_wp2_with fail
          go_ret
          exact ⟨by rw [HF.out]; rfl, HB.out⟩
        | false =>
          have HF := Lib.hid (HNX.out (by rw [he, ← hT, Lib.extract_toList]; rfl))
          clear HNX HNO he hlen
          go_wp2_with fail
          go_round
          case rel => exact ⟨k + 1, by omega, by go_num, HF⟩
          case measure => simp [intOf]; omega
      · have n3 : ¬ (3 : Int) ≤ (t.size : Int) := by omega
        have HF := Lib.hid (HNX.out (isTs_short (by omega)))
        clear HNX HNO hlen
        go_wp2_with fail
        go_round
        case rel => exact ⟨k + 1, by omega, by go_num, HF⟩
        case measure => simp [intOf]; omega
    · obtain rfl : k = L.length := by omega
      have HF : Hid (V = false) := by
        show _ = _
        rw [← HV.out, ← HT.out, List.take_length]
      go_wp2_with fail
      go_ret
      exact ⟨by rw [HF.out]; rfl, HB.out⟩
end Go.Proofs.YtpnbmfibooglgaaDoor
