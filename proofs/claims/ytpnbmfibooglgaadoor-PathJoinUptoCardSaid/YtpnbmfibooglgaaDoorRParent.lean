/- the document's Parent. -/
import Derived.Test.YtpnbmfibooglgaaDoorRKept
namespace Go.Proofs.YtpnbmfibooglgaaDoor
open Go.RowKit

theorem split_sum : ∀ (r l : Bs), ((splitAux l r).map (fun x => x.length + 1)).sum = l.length + r.length + 1
  | [], l => by simp [splitAux]
  | c :: r, l => by
    unfold splitAux
    split
    · rw [List.map_cons, List.sum_cons, split_sum r []]
      simp
      omega
    · rw [split_sum r _]
      simp
      omega
/-- the document's Parent: the text without its last name -/
def rparentS (s : ByteArray) : ByteArray := if 2 ≤ (namesB s.data.toList).length then s.extract 0 (s.size - (lastB (namesB s.data.toList)).length - 1) else ⟨#[]⟩
theorem last_room {L : List Bs} {n : Nat} (h : (L.map (fun x => x.length + 1)).sum = n) (k : Nat) (hk : k < L.length) (h0 : 0 < k) : L[k].length + 2 ≤ n := by
  have e : L = L.take k ++ L[k] :: L.drop (k + 1) := by rw [← List.drop_eq_getElem_cons hk, List.take_append_drop]
  have h2 : 0 < (L.take k).length := by rw [List.length_take]; omega
  obtain ⟨x, r, hx⟩ : ∃ x r, L.take k = x :: r := by
    cases hh : L.take k with
    | nil => rw [hh] at h2; simp at h2
    | cons x r => exact ⟨x, r, rfl⟩
  generalize L[k] = y at *
  rw [e, hx] at h
  simp at h
  omega

theorem names_sum {s : ByteArray} (h : 2 ≤ (namesB s.data.toList).length) : ((namesB s.data.toList).map (fun x => x.length + 1)).sum = s.size + 1 := by
  unfold namesB at *
  split at h
  · rename_i hv
    rw [if_pos hv]
    have := split_sum s.data.toList []
    unfold splitB
    rw [this]
    simp
  · simp at h
set_option maxHeartbeats 800000 in
theorem rparent_any (s : ByteArray) (w : World) (hs : s.size ≤ 1000000) : Calls Tryd.prog 24 #[.string s] w fun e w' => e = .returned (.string (rparentS s)) ∧ Below w.heap.size w w' := by
  have HN := Lib.hid (rnames_any s w hs)
  have hsh := names_short s
  have hsum := names_sum (s := s)
  obtain ⟨RV, hrv⟩ : ∃ RV, rparentS s = RV := ⟨_, rfl⟩
  rw [hrv]
  unfold rparentS at hrv
  generalize namesB s.data.toList = L at *
  have HRV := Lib.hid hrv
  clear hrv
  go_enter Tryd.func24, Tryd.ntmps24
  go_wp2_with fail
  refine (HN.out).mono ?_
  rintro e w1 ⟨v, rfl, hrow, hb⟩
  have HB := Lib.hid hb
  obtain ⟨a, c, hv⟩ := row_len' hrow
  subst hv
  have HR := Lib.hid hrow
  clear hrow hb
  by_cases h2 : 2 ≤ L.length
  · obtain ⟨m, hm⟩ : ∃ m, L.length = m + 1 := ⟨L.length - 1, by omega⟩
    obtain ⟨g, c', e1, hcell⟩ := strs_at HR.out m (by omega)
    cases e1
    have hroom := last_room (hsum h2) m (by omega) (by omega)
    have HL : Hid (lastB L = L[m]'(by omega)) := by
      show _ = _
      unfold lastB
      have : L.getLast? = some (L[m]'(by omega)) := by
        rw [List.getLast?_eq_getElem?, show L.length - 1 = m by omega]
        exact List.getElem?_eq_getElem (by omega)
      rw [List.getLastD_eq_getLast?, this]
      rfl
    have hrv := HRV.out
    rw [if_pos h2, HL.out] at hrv
    clear HRV
    generalize L[m]'(by omega) = x at *
    have HRV := Lib.hid hrv
    clear hrv
    rw [hm]
    have z : ¬ ((m : Int) + 1) < 2 := by omega
    have m0 : (0 : Int) ≤ (m : Int) := by omega
    have m1 : (m : Int) < (m : Int) + 1 := by omega
    have r0 : (0 : Int) ≤ (s.size : Int) - (x.length : Int) - 1 := by omega
    have r1 : (s.size : Int) - (x.length : Int) - 1 ≤ (s.size : Int) := by omega
    have HE : Hid (((s.size : Int) - (x.length : Int) - 1).toNat = s.size - x.length - 1) := by show _ = _; omega
    clear hsum HL
    go_wp2_with fail
    go_ret
    exact ⟨by rw [← HRV.out, ← HE.out]; rfl, HB.out⟩
  · have hrv := HRV.out
    rw [if_neg h2] at hrv
    subst hrv
    have z : (L.length : Int) < 2 := by omega
    go_wp2_with fail
    go_ret
    exact ⟨rfl, HB.out⟩
end Go.Proofs.YtpnbmfibooglgaaDoor
