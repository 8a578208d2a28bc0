/- PathUnder. -/
import Derived.Test.YtpnbmfibooglgaaDoorRValid
import Derived.Test.YtpnbmfibooglgaaDoorAlive
namespace Go.Proofs.YtpnbmfibooglgaaDoor
open Go.RowKit

theorem hp_iff (q p : Bs) : Lib.hasPrefix q (p ++ [47]) = true ↔ p ++ [47] <+: q := List.isPrefixOf_iff_prefix
theorem hp_short {q p : Bs} (h : ¬ p.length < q.length) : Lib.hasPrefix q (p ++ [47]) = false := by
  rw [Bool.eq_false_iff]
  intro e
  have := ((hp_iff q p).1 e).length_le
  simp at this
  omega
theorem hp_other {q p : Bs} (h : q.take p.length ≠ p) : Lib.hasPrefix q (p ++ [47]) = false := by
  rw [Bool.eq_false_iff]
  intro e
  obtain ⟨r, hr⟩ := (hp_iff q p).1 e
  apply h
  rw [← hr, List.append_assoc, List.take_left']
  rfl
theorem hp_next {q p : Bs} (h : p.length < q.length) (ht : q.take p.length = p) : Lib.hasPrefix q (p ++ [47]) = decide (q[p.length] = 47) := by
  have e : q.take (p.length + 1) = p ++ [q[p.length]] := by rw [List.take_succ_eq_append_getElem h, ht]
  by_cases hc : q[p.length] = 47
  · rw [decide_eq_true hc, hp_iff, ← hc, ← e]
    exact List.take_prefix _ _
  · rw [decide_eq_false hc, Bool.eq_false_iff]
    intro h2
    have h3 := List.prefix_iff_eq_take.1 ((hp_iff q p).1 h2)
    rw [List.length_append] at h3
    change p ++ [47] = q.take (p.length + 1) at h3
    rw [e] at h3
    have := List.append_cancel_left h3
    simp at this
    exact hc this.symm
set_option maxHeartbeats 800000 in
theorem runder_any (p q : ByteArray) (w : World) (hp : p.size ≤ 100000) (hq : q.size ≤ 100000) : Calls Tryd.prog 13 #[.string p, .string q] w fun e w' => e = .returned (.bool (underB p.data.toList q.data.toList)) ∧ Below w.heap.size w w' := by
  have hlp : p.data.toList.length = p.size := by simp
  have hlq : q.data.toList.length = q.size := by simp
  have HQ := Lib.hid (fun w => rvalid_any q w (by omega))
  have HP := Lib.hid (fun w => rvalid_any p w (by omega))
  have HS : Hid (¬ p.size < q.size → Lib.hasPrefix q.data.toList (p.data.toList ++ [47]) = false) := fun h => hp_short (by omega)
  have he : (q.extract 0 p.size).toList = q.data.toList.take p.data.toList.length := by
    rw [Lib.extract_toList, hlp]
    rfl
  have HO : Hid (((q.extract 0 p.size).toList == p.toList) = false → Lib.hasPrefix q.data.toList (p.data.toList ++ [47]) = false) := fun h => hp_other (by
    rw [he, bytes_list p] at h
    simpa using h)
  have HX : Hid (∀ h : p.size < q.size, ((q.extract 0 p.size).toList == p.toList) = true → Lib.hasPrefix q.data.toList (p.data.toList ++ [47]) = (((q[p.size]'h).toNat : Int) == 47)) := fun h h2 => by
    rw [he, bytes_list p] at h2
    rw [hp_next (by omega) (by simpa using h2)]
    have : (q.data.toList[p.data.toList.length]'(by omega)) = q[p.size]'h := by simp; rfl
    rw [this]
    by_cases hc : q[p.size]'h = 47
    · rw [hc]; rfl
    · have : ¬ (((q[p.size]'h).toNat : Int) = 47) := fun e => hc (UInt8.toNat_inj.1 (by show _ = 47; omega))
      rw [decide_eq_false hc]
      simp [this]
  unfold underB
  rw [valid_eq, valid_eq]
  generalize Lib.hasPrefix q.data.toList (p.data.toList ++ [47]) = b3 at *
  generalize rvalidB q.data.toList = b1 at *
  generalize rvalidB p.data.toList = b2 at *
  rw [← bytes_list p]
  clear he hlp hlq
  cases b1 with
  | false =>
    go_enter Tryd.func13, Tryd.ntmps13
    go_wp2_with fail
    refine (HQ.out w).mono ?_
    rintro e w1 ⟨rfl, hb⟩
    go_wp2_with fail
    go_ret
    exact ⟨rfl, hb⟩
  | true =>
    cases he : (p.toList == []) with
    | true =>
      go_enter Tryd.func13, Tryd.ntmps13
      go_wp2_with fail
      refine (HQ.out w).mono ?_
      rintro e w1 ⟨rfl, hb⟩
      go_wp2_with fail
      go_ret
      exact ⟨rfl, hb⟩
    | false =>
      go_enter Tryd.func13, Tryd.ntmps13
      go_wp2_with fail
      refine (HQ.out w).mono ?_
      rintro e w1 ⟨rfl, hb⟩
      have HB := Lib.hid hb
      clear hb
      go_wp2_with fail
      refine (HP.out w1).mono ?_
      rintro e w2 ⟨rfl, hb2⟩
      have HB2 := Lib.hid (HB.out.trans (hb2.mono HB.out.size))
      clear hb2
      cases b2 with
      | false =>
        go_wp2_with fail
        go_ret
        exact ⟨rfl, HB2.out⟩
      | true =>
        by_cases h1 : p.size < q.size
        · have n1 : (p.size : Int) < (q.size : Int) := by omega
          have n2 : (p.size : Int) ≤ (q.size : Int) := by omega
          have n0 : (0 : Int) ≤ (p.size : Int) := by omega
          cases h2 : ((q.extract 0 p.size).toList == p.toList) with
          | false =>
            have HF := Lib.hid (HO.out h2)
            clear HO HX HS
            go_wp2_with fail
            go_ret
            exact ⟨by rw [HF.out]; rfl, HB2.out⟩
          | true =>
            have HF := Lib.hid (HX.out h1 h2)
            clear HO HX HS
            go_wp2_with fail
            go_ret
            exact ⟨by rw [HF.out]; simp, HB2.out⟩
        · have n1 : ¬ (p.size : Int) < (q.size : Int) := by omega
          have HF := Lib.hid (HS.out h1)
          clear HO HX HS
          go_wp2_with fail
          go_ret
          exact ⟨by rw [HF.out]; rfl, HB2.out⟩
set_option maxHeartbeats 800000 in
theorem underL_walk (p q : ByteArray) (w : World) (_ : p.size ≤ maxLen) (_ : q.size ≤ maxLen) : Calls Tryd.prog 5 #[.string p, .string q] w fun e w' => e = .returned (.bool true) ∧ Below w.heap.size w w' := by
  go_enter Tryd.func5, Tryd.ntmps5
  go_wp2_with fail
  refine (alive_any w).mono ?_
  rintro e w1 ⟨rfl, hb1⟩
  have HB1 := Lib.hid hb1
  clear hb1
  by_cases h1 : p.size ≤ 2000
  · have n1 : ¬ (2000 : Int) < (p.size : Int) := by omega
    by_cases h2 : q.size ≤ 2000
    · have n2 : ¬ (2000 : Int) < (q.size : Int) := by omega
      have H1 := Lib.hid (fun w => under_any p q w (by omega) (by omega))
      have H2 := Lib.hid (fun w => runder_any p q w (by omega) (by omega))
      have H3 := Lib.hid (fun w => under_any q p w (by omega) (by omega))
      have H4 := Lib.hid (fun w => runder_any q p w (by omega) (by omega))
      generalize underB p.data.toList q.data.toList = b1 at *
      generalize underB q.data.toList p.data.toList = b2 at *
      cases b1
      all_goals
        cases b2
        all_goals
          go_wp2_with fail
          refine (H1.out w1).mono ?_
          rintro e w2 ⟨rfl, hb2⟩
          have HB2 := Lib.hid (HB1.out.trans (hb2.mono HB1.out.size))
          clear hb2
          go_wp2_with fail
          refine (H2.out w2).mono ?_
          rintro e w3 ⟨rfl, hb3⟩
          have HB3 := Lib.hid (HB2.out.trans (hb3.mono HB2.out.size))
          clear hb3
          go_wp2_with fail
          refine (H3.out w3).mono ?_
          rintro e w4 ⟨rfl, hb4⟩
          have HB4 := Lib.hid (HB3.out.trans (hb4.mono HB3.out.size))
          clear hb4
          go_wp2_with fail
          refine (H4.out w4).mono ?_
          rintro e w5 ⟨rfl, hb5⟩
          have HB5 := Lib.hid (HB4.out.trans (hb5.mono HB4.out.size))
          clear hb5
          go_wp2_with fail
          go_ret
          exact ⟨rfl, HB5.out⟩
    · have n2 : (2000 : Int) < (q.size : Int) := by omega
      go_wp2_with fail
      go_ret
      exact ⟨rfl, HB1.out⟩
  · have n1 : (2000 : Int) < (p.size : Int) := by omega
    go_wp2_with fail
    go_ret
    exact ⟨rfl, HB1.out⟩
end Go.Proofs.YtpnbmfibooglgaaDoor
