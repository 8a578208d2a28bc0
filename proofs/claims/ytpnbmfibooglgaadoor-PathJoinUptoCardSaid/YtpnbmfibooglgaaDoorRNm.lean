/- the document's name, Valid, Names. -/
import Derived.Test.YtpnbmfibooglgaaDoorRName
namespace Go.Proofs.YtpnbmfibooglgaaDoor
open Go.RowKit

theorem all_take {l : Bs} {k : Nat} (hk : k < l.length) (h : ((l.take k).all fun c => okc c.toNat) = true) (hc : okc (l[k]).toNat = true) : ((l.take (k + 1)).all fun c => okc c.toNat) = true := by
  rw [List.take_succ_eq_append_getElem hk, List.all_append, h]
  simp [hc]
theorem all_not {l : Bs} {k : Nat} (hk : k < l.length) (hc : okc (l[k]).toNat = false) : (l.all fun c => okc c.toNat) = false := by
  rw [List.all_eq_false]
  exact ⟨l[k], List.getElem_mem hk, by simp [hc]⟩
set_option maxHeartbeats 2000000 in
theorem name_in (s : ByteArray) (w : World) (h1 : 1 ≤ s.size) (h2 : s.size ≤ 14) (h3 : (s.data.toList == [46]) = false) (h4 : (s.data.toList == [46, 46]) = false) (V : Bool) (HW : Hid ((s.data.toList.all fun c => okc c.toNat) = V)) : Calls Tryd.prog 33 #[.string s] w fun e w' => e = .returned (.bool V) ∧ w = w' := by
  rw [← bytes_list] at h3 h4
  have n1 : ¬ (s.size : Int) < 1 := by omega
  have n2 : ¬ (14 : Int) < (s.size : Int) := by omega
  have hsl : s.data.toList.length = s.size := by simp
  go_enter Tryd.func33, Tryd.ntmps33
  go_wp2_with fail
  go_loop [3] (fun i => ∃ k : Nat, k ≤ s.size ∧ i = .int .i64 k ∧ Hid (((s.data.toList.take k).all fun c => okc c.toNat) = true)) (fun i => s.size - (intOf i).toNat)
  case atStart => exact ⟨0, Nat.zero_le _, rfl, rfl⟩
  case round =>
    obtain ⟨k, hk, rfl, HA⟩ := hrel
    have k0 : (0 : Int) ≤ (k : Int) := by omega
    by_cases hlt : k < s.size
    · have k1 : (k : Int) < (s.size : Int) := by omega
      have HNX : Hid (okc (s[k]'hlt).toNat = true → ((s.data.toList.take (k + 1)).all fun c => okc c.toNat) = true) := all_take (by omega) HA.out
      have HNO : Hid (okc (s[k]'hlt).toNat = false → V = false) := fun h => HW.out.symm.trans (all_not (l := s.data.toList) (k := k) (by omega) h)
      have hx := (s[k]'hlt).toNat_lt
      by_cases g44 : (s[k]'hlt).toNat ≤ 44
      · skip
        have t0 : ¬ (97 : Int) ≤ ((s[k]'hlt).toNat : Int) := by omega
        have t1 : ((s[k]'hlt).toNat : Int) ≤ 122 := by omega
        have t2 : ¬ (48 : Int) ≤ ((s[k]'hlt).toNat : Int) := by omega
        have t3 : ((s[k]'hlt).toNat : Int) ≤ 57 := by omega
        have q46 : (((s[k]'hlt).toNat : Int) == 46) = false := by simp; omega
        have q95 : (((s[k]'hlt).toNat : Int) == 95) = false := by simp; omega
        have q45 : (((s[k]'hlt).toNat : Int) == 45) = false := by simp; omega
        have ho : okc (s[k]'hlt).toNat = false := by simp [okc]; omega
        have HN := Lib.hid (HNO.out ho)
        clear ho
        go_wp2_with fail
        go_ret
        exact ⟨by rw [HN.out]; rfl, rfl⟩
      · skip
        by_cases g45 : (s[k]'hlt).toNat ≤ 45
        · skip
          have t0 : ¬ (97 : Int) ≤ ((s[k]'hlt).toNat : Int) := by omega
          have t1 : ((s[k]'hlt).toNat : Int) ≤ 122 := by omega
          have t2 : ¬ (48 : Int) ≤ ((s[k]'hlt).toNat : Int) := by omega
          have t3 : ((s[k]'hlt).toNat : Int) ≤ 57 := by omega
          have q46 : (((s[k]'hlt).toNat : Int) == 46) = false := by simp; omega
          have q95 : (((s[k]'hlt).toNat : Int) == 95) = false := by simp; omega
          have q45 : (((s[k]'hlt).toNat : Int) == 45) = true := by simp; omega
          have ho : okc (s[k]'hlt).toNat = true := by simp [okc]; omega
          have HN := Lib.hid (HNX.out ho)
          clear ho
          go_wp2_with fail
          go_round
          case rel => exact ⟨k + 1, by omega, by go_num, HN⟩
          case measure => simp [intOf]; omega
        · skip
          by_cases g46 : (s[k]'hlt).toNat ≤ 46
          · skip
            have t0 : ¬ (97 : Int) ≤ ((s[k]'hlt).toNat : Int) := by omega
            have t1 : ((s[k]'hlt).toNat : Int) ≤ 122 := by omega
            have t2 : ¬ (48 : Int) ≤ ((s[k]'hlt).toNat : Int) := by omega
            have t3 : ((s[k]'hlt).toNat : Int) ≤ 57 := by omega
            have q46 : (((s[k]'hlt).toNat : Int) == 46) = true := by simp; omega
            have q95 : (((s[k]'hlt).toNat : Int) == 95) = false := by simp; omega
            have q45 : (((s[k]'hlt).toNat : Int) == 45) = false := by simp; omega
            have ho : okc (s[k]'hlt).toNat = true := by simp [okc]; omega
            have HN := Lib.hid (HNX.out ho)
            clear ho
            go_wp2_with fail
            go_round
            case rel => exact ⟨k + 1, by omega, by go_num, HN⟩
            case measure => simp [intOf]; omega
          · skip
            by_cases g47 : (s[k]'hlt).toNat ≤ 47
            · skip
              have t0 : ¬ (97 : Int) ≤ ((s[k]'hlt).toNat : Int) := by omega
              have t1 : ((s[k]'hlt).toNat : Int) ≤ 122 := by omega
              have t2 : ¬ (48 : Int) ≤ ((s[k]'hlt).toNat : Int) := by omega
              have t3 : ((s[k]'hlt).toNat : Int) ≤ 57 := by omega
              have q46 : (((s[k]'hlt).toNat : Int) == 46) = false := by simp; omega
              have q95 : (((s[k]'hlt).toNat : Int) == 95) = false := by simp; omega
              have q45 : (((s[k]'hlt).toNat : Int) == 45) = false := by simp; omega
              have ho : okc (s[k]'hlt).toNat = false := by simp [okc]; omega
              have HN := Lib.hid (HNO.out ho)
              clear ho
              go_wp2_with fail
              go_ret
              exact ⟨by rw [HN.out]; rfl, rfl⟩
            · skip
              by_cases g57 : (s[k]'hlt).toNat ≤ 57
              · skip
                have t0 : ¬ (97 : Int) ≤ ((s[k]'hlt).toNat : Int) := by omega
                have t1 : ((s[k]'hlt).toNat : Int) ≤ 122 := by omega
                have t2 : (48 : Int) ≤ ((s[k]'hlt).toNat : Int) := by omega
                have t3 : ((s[k]'hlt).toNat : Int) ≤ 57 := by omega
                have q46 : (((s[k]'hlt).toNat : Int) == 46) = false := by simp; omega
                have q95 : (((s[k]'hlt).toNat : Int) == 95) = false := by simp; omega
                have q45 : (((s[k]'hlt).toNat : Int) == 45) = false := by simp; omega
                have ho : okc (s[k]'hlt).toNat = true := by simp [okc]; omega
                have HN := Lib.hid (HNX.out ho)
                clear ho
                go_wp2_with fail
                go_round
                case rel => exact ⟨k + 1, by omega, by go_num, HN⟩
                case measure => simp [intOf]; omega
              · skip
                by_cases g94 : (s[k]'hlt).toNat ≤ 94
                · skip
                  have t0 : ¬ (97 : Int) ≤ ((s[k]'hlt).toNat : Int) := by omega
                  have t1 : ((s[k]'hlt).toNat : Int) ≤ 122 := by omega
                  have t2 : (48 : Int) ≤ ((s[k]'hlt).toNat : Int) := by omega
                  have t3 : ¬ ((s[k]'hlt).toNat : Int) ≤ 57 := by omega
                  have q46 : (((s[k]'hlt).toNat : Int) == 46) = false := by simp; omega
                  have q95 : (((s[k]'hlt).toNat : Int) == 95) = false := by simp; omega
                  have q45 : (((s[k]'hlt).toNat : Int) == 45) = false := by simp; omega
                  have ho : okc (s[k]'hlt).toNat = false := by simp [okc]; omega
                  have HN := Lib.hid (HNO.out ho)
                  clear ho
                  go_wp2_with fail
                  go_ret
                  exact ⟨by rw [HN.out]; rfl, rfl⟩
                · skip
                  by_cases g95 : (s[k]'hlt).toNat ≤ 95
                  · skip
                    have t0 : ¬ (97 : Int) ≤ ((s[k]'hlt).toNat : Int) := by omega
                    have t1 : ((s[k]'hlt).toNat : Int) ≤ 122 := by omega
                    have t2 : (48 : Int) ≤ ((s[k]'hlt).toNat : Int) := by omega
                    have t3 : ¬ ((s[k]'hlt).toNat : Int) ≤ 57 := by omega
                    have q46 : (((s[k]'hlt).toNat : Int) == 46) = false := by simp; omega
                    have q95 : (((s[k]'hlt).toNat : Int) == 95) = true := by simp; omega
                    have q45 : (((s[k]'hlt).toNat : Int) == 45) = false := by simp; omega
                    have ho : okc (s[k]'hlt).toNat = true := by simp [okc]; omega
                    have HN := Lib.hid (HNX.out ho)
                    clear ho
                    go_wp2_with fail
                    go_round
                    case rel => exact ⟨k + 1, by omega, by go_num, HN⟩
                    case measure => simp [intOf]; omega
                  · skip
                    by_cases g96 : (s[k]'hlt).toNat ≤ 96
                    · skip
                      have t0 : ¬ (97 : Int) ≤ ((s[k]'hlt).toNat : Int) := by omega
                      have t1 : ((s[k]'hlt).toNat : Int) ≤ 122 := by omega
                      have t2 : (48 : Int) ≤ ((s[k]'hlt).toNat : Int) := by omega
                      have t3 : ¬ ((s[k]'hlt).toNat : Int) ≤ 57 := by omega
                      have q46 : (((s[k]'hlt).toNat : Int) == 46) = false := by simp; omega
                      have q95 : (((s[k]'hlt).toNat : Int) == 95) = false := by simp; omega
                      have q45 : (((s[k]'hlt).toNat : Int) == 45) = false := by simp; omega
                      have ho : okc (s[k]'hlt).toNat = false := by simp [okc]; omega
                      have HN := Lib.hid (HNO.out ho)
                      clear ho
                      go_wp2_with fail
                      go_ret
                      exact ⟨by rw [HN.out]; rfl, rfl⟩
                    · skip
                      by_cases g122 : (s[k]'hlt).toNat ≤ 122
                      · skip
                        have t0 : (97 : Int) ≤ ((s[k]'hlt).toNat : Int) := by omega
                        have t1 : ((s[k]'hlt).toNat : Int) ≤ 122 := by omega
                        have t2 : (48 : Int) ≤ ((s[k]'hlt).toNat : Int) := by omega
                        have t3 : ¬ ((s[k]'hlt).toNat : Int) ≤ 57 := by omega
                        have q46 : (((s[k]'hlt).toNat : Int) == 46) = false := by simp; omega
                        have q95 : (((s[k]'hlt).toNat : Int) == 95) = false := by simp; omega
                        have q45 : (((s[k]'hlt).toNat : Int) == 45) = false := by simp; omega
                        have ho : okc (s[k]'hlt).toNat = true := by simp [okc]; omega
                        have HN := Lib.hid (HNX.out ho)
                        clear ho
                        go_wp2_with fail
                        go_round
                        case rel => exact ⟨k + 1, by omega, by go_num, HN⟩
                        case measure => simp [intOf]; omega
                      · skip
                        have t0 : (97 : Int) ≤ ((s[k]'hlt).toNat : Int) := by omega
                        have t1 : ¬ ((s[k]'hlt).toNat : Int) ≤ 122 := by omega
                        have t2 : (48 : Int) ≤ ((s[k]'hlt).toNat : Int) := by omega
                        have t3 : ¬ ((s[k]'hlt).toNat : Int) ≤ 57 := by omega
                        have q46 : (((s[k]'hlt).toNat : Int) == 46) = false := by simp; omega
                        have q95 : (((s[k]'hlt).toNat : Int) == 95) = false := by simp; omega
                        have q45 : (((s[k]'hlt).toNat : Int) == 45) = false := by simp; omega
                        have ho : okc (s[k]'hlt).toNat = false := by simp [okc]; omega
                        have HN := Lib.hid (HNO.out ho)
                        clear ho
                        go_wp2_with fail
                        go_ret
                        exact ⟨by rw [HN.out]; rfl, rfl⟩
    · obtain rfl : k = s.size := by omega
      have HV : Hid (V = true) := by
        show _ = _
        rw [← HW.out]
        have := HA.out
        rw [List.take_of_length_le (by omega)] at this
        exact this
      go_wp2_with fail
      go_ret
      exact ⟨by rw [HV.out]; rfl, rfl⟩
set_option maxHeartbeats 800000 in
theorem name_out (s : ByteArray) (w : World) (h : s.size < 1 ∨ (1 ≤ s.size ∧ 14 < s.size) ∨ (1 ≤ s.size ∧ s.size ≤ 14 ∧ (s.data.toList == [46]) = true) ∨ (1 ≤ s.size ∧ s.size ≤ 14 ∧ (s.data.toList == [46]) = false ∧ (s.data.toList == [46, 46]) = true)) : Calls Tryd.prog 33 #[.string s] w fun e w' => e = .returned (.bool false) ∧ w = w' := by
  simp only [← bytes_list] at h
  go_enter Tryd.func33, Tryd.ntmps33
  rcases h with h | ⟨h, h2⟩ | ⟨h, h2, h3⟩ | ⟨h, h2, h3, h4⟩
  · have n1 : (s.size : Int) < 1 := by omega
    go_wp2_with fail
    go_ret
    exact ⟨rfl, rfl⟩
  · have n1 : ¬ (s.size : Int) < 1 := by omega
    have n2 : (14 : Int) < (s.size : Int) := by omega
    go_wp2_with fail
    go_ret
    exact ⟨rfl, rfl⟩
  · have n1 : ¬ (s.size : Int) < 1 := by omega
    have n2 : ¬ (14 : Int) < (s.size : Int) := by omega
    go_wp2_with fail
    go_ret
    exact ⟨rfl, rfl⟩
  · have n1 : ¬ (s.size : Int) < 1 := by omega
    have n2 : ¬ (14 : Int) < (s.size : Int) := by omega
    go_wp2_with fail
    go_ret
    exact ⟨rfl, rfl⟩
theorem name_any (s : ByteArray) (w : World) : Calls Tryd.prog 33 #[.string s] w fun e w' => e = .returned (.bool (nameB s.data.toList)) ∧ w = w' := by
  have hsl : s.data.toList.length = s.size := by simp
  by_cases h : s.size < 1 ∨ (1 ≤ s.size ∧ 14 < s.size) ∨ (1 ≤ s.size ∧ s.size ≤ 14 ∧ (s.data.toList == [46]) = true) ∨ (1 ≤ s.size ∧ s.size ≤ 14 ∧ (s.data.toList == [46]) = false ∧ (s.data.toList == [46, 46]) = true)
  · have e : nameB s.data.toList = false := by
      unfold nameB
      rw [hsl]
      rcases h with h | ⟨h, h2⟩ | ⟨h, h2, h3⟩ | ⟨h, h2, h3, h4⟩
      · have : ¬ 1 ≤ s.size := by omega
        simp [this]
      · have : ¬ s.size ≤ 14 := by omega
        simp [this]
      · simp [h3]
      · simp [h4]
    rw [e]
    exact name_out s w h
  · have a1 : 1 ≤ s.size := by omega
    have a2 : s.size ≤ 14 := by omega
    have a3 : (s.data.toList == [46]) = false := by
      cases e : (s.data.toList == [46])
      · rfl
      · exact absurd (.inr (.inr (.inl ⟨a1, a2, e⟩))) h
    have a4 : (s.data.toList == [46, 46]) = false := by
      cases e : (s.data.toList == [46, 46])
      · rfl
      · exact absurd (.inr (.inr (.inr ⟨a1, a2, a3, e⟩))) h
    have e : nameB s.data.toList = s.data.toList.all fun c => okc c.toNat := by
      unfold nameB
      rw [hsl, a3, a4]
      simp [a1, a2]
    rw [e]
    exact name_in s w a1 a2 a3 a4 _ rfl
end Go.Proofs.YtpnbmfibooglgaaDoor
