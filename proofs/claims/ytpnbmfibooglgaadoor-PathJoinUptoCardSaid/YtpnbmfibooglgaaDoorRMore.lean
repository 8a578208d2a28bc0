/- the document's Base, Kept; sameTexts. -/
import Derived.Test.YtpnbmfibooglgaaDoorMore
import Derived.BigQuiet
import Derived.Deep.QuietTactic
namespace Go.Proofs.YtpnbmfibooglgaaDoor
open Go.RowKit

set_option maxHeartbeats 800000 in
theorem same_any (A B : List Bs) (va vb : Value) (ba bb : Nat) (w : World) (ha : w.ownsRow ba 9 1 va A.length (strs A)) (hb : w.ownsRow bb 9 1 vb B.length (strs B)) (hA : A.length ≤ 1000000) (hB : B.length ≤ 1000000) :
    Calls Tryd.prog 23 #[va, vb] w fun e w' => e = .returned (.bool (A == B)) ∧ ∃ m, w' = w.drewN m := by
  have HA := Lib.hid ha
  have HB := Lib.hid hb
  obtain ⟨aa, ca, h1⟩ := row_len' ha
  obtain ⟨ab, cb, h2⟩ := row_len' hb
  subst h1 h2
  clear ha hb
  by_cases hl : A.length = B.length
  · have l1 : ((A.length : Int) == (B.length : Int)) = true := by simp; omega
    have l2 : ((A.length : Int) != (B.length : Int)) = false := by simp; omega
    go_enter Tryd.func23, Tryd.ntmps23
    go_wp2_with fail
    go_loopw [5] (fun i wr => ∃ k m : Nat, k ≤ A.length ∧ i = .int .i64 k ∧ wr = w.drewN m ∧ Hid (A.take k = B.take k)) (fun i _ => A.length - (intOf i).toNat)
    case atStart => exact ⟨0, 0, Nat.zero_le _, rfl, rfl, rfl⟩
    case round =>
      obtain ⟨k, m, hk, rfl, rfl, HT⟩ := hrel
      have k0 : (0 : Int) ≤ (k : Int) := by omega
      by_cases hlt : k < A.length
      · have k1 : (k : Int) < (A.length : Int) := by omega
        have k2 : (k : Int) < (B.length : Int) := by omega
        obtain ⟨g, c, e1, c1⟩ := strs_at HA.out k hlt
        obtain ⟨g2, c2, e2, c2'⟩ := strs_at HB.out k (by omega)
        cases e1
        cases e2
        have HNX : Hid (A[k] = B[k]'(by omega) → A.take (k + 1) = B.take (k + 1)) := fun h => by rw [List.take_succ_eq_append_getElem hlt, List.take_succ_eq_append_getElem (show k < B.length by omega), HT.out, h]
        have HNO : Hid (A[k] ≠ B[k]'(by omega) → (A == B) = false) := fun h => by
          rw [beq_eq_false_iff_ne]
          intro e
          subst e
          exact h rfl
        generalize A[k] = x at *
        generalize B[k]'(by omega) = y at *
        by_cases hxy : x = y
        · subst hxy
          have HN := Lib.hid (HNX.out rfl)
          have hee : ((⟨x.toArray⟩ : ByteArray).toList == (⟨x.toArray⟩ : ByteArray).toList) = true := beq_self_eq_true _
          clear HNX HNO
          go_wp2_with fail
          go_quiet (fail)
          go_wp2_with fail
          all_goals
            go_roundw
            case rel => exact ⟨k + 1, _, by omega, by go_num, rfl, HN⟩
            case measure => simp [intOf]; omega
        · have HN := Lib.hid (HNO.out hxy)
          have hne : (x == y) = false := by simpa using hxy
          clear HNX HNO
          go_wp2_with fail
          go_quiet (fail)
          go_wp2_with fail
          go_ret
          exact ⟨by rw [HN.out]; rfl, _, by first | rfl | exact World.drewN_drewN _ _ _⟩
      · obtain rfl : k = A.length := by omega
        have HE : Hid ((A == B) = true) := by
          have := HT.out
          rw [List.take_length, hl, List.take_length] at this
          show _ = _
          rw [this]
          exact beq_self_eq_true B
        go_wp2_with fail
        go_ret
        exact ⟨by rw [HE.out]; rfl, _, rfl⟩
  · have l1 : ((A.length : Int) == (B.length : Int)) = false := by simp; omega
    have HE : Hid ((A == B) = false) := by
      show _ = _
      rw [beq_eq_false_iff_ne]
      intro e
      exact hl (by rw [e])
    go_enter Tryd.func23, Tryd.ntmps23
    go_wp2_with fail
    go_ret
    exact ⟨by rw [HE.out]; rfl, 0, rfl⟩

/-- the document's Base: the last name -/
def lastB (L : List Bs) : Bs := L.getLastD []
set_option maxHeartbeats 800000 in
theorem rbase_any (s : ByteArray) (w : World) (hs : s.size ≤ 1000000) : Calls Tryd.prog 25 #[.string s] w fun e w' => e = .returned (.string ⟨(lastB (namesB s.data.toList)).toArray⟩) ∧ Below w.heap.size w w' := by
  have HN := Lib.hid (rnames_any s w hs)
  have hsh : (namesB s.data.toList).length ≤ s.size + 1 := by
    unfold namesB
    split
    · have := split_short s.data.toList []
      simpa [splitB] using this
    · simp
  generalize namesB s.data.toList = L at *
  go_enter Tryd.func25, Tryd.ntmps25
  go_wp2_with fail
  refine (HN.out).mono ?_
  rintro e w1 ⟨v, rfl, hrow, hb⟩
  have HB := Lib.hid hb
  obtain ⟨a, c, hv⟩ := row_len' hrow
  subst hv
  have HR := Lib.hid hrow
  clear hrow hb
  by_cases h0 : L.length = 0
  · have z : ((L.length : Int) == 0) = true := by rw [beq_iff_eq]; omega
    have HL : Hid (L = []) := List.length_eq_zero_iff.1 h0
    go_wp2_with fail
    go_ret
    exact ⟨by rw [HL.out]; rfl, HB.out⟩
  · have z : ((L.length : Int) == 0) = false := by rw [beq_eq_false_iff_ne]; omega
    obtain ⟨m, hm⟩ : ∃ m, L.length = m + 1 := ⟨L.length - 1, by omega⟩
    obtain ⟨g, c', e1, hcell⟩ := strs_at HR.out m (by omega)
    cases e1
    have HL : Hid (lastB L = L[m]'(by omega)) := by
      show _ = _
      unfold lastB
      have : L.getLast? = some (L[m]'(by omega)) := by
        rw [List.getLast?_eq_getElem?, show L.length - 1 = m by omega]
        exact List.getElem?_eq_getElem (by omega)
      rw [List.getLastD_eq_getLast?, this]
      rfl
    generalize L[m]'(by omega) = x at *
    clear z
    have z : (((m : Int) + 1) == 0) = false := by rw [beq_eq_false_iff_ne]; omega
    rw [hm]
    have m0 : (0 : Int) ≤ (m : Int) := by omega
    have m1 : (m : Int) < (m : Int) + 1 := by omega
    go_wp2_with fail
    go_ret
    exact ⟨by rw [HL.out]; rfl, HB.out⟩
end Go.Proofs.YtpnbmfibooglgaaDoor
