/- The document's Check and Sum of a list. -/
import Derived.Test.YthkjihfnphdfkaaLsC
namespace Go.Proofs.Ythkjihfnphdfkaa
open Go.RowKit Go.Maps

theorem checkL_sum (s n k : Nat) (lens : List Nat) (h : lens[k]? = some n) (hs : s ≤ 65536) : checkL (65536 - s) (lens.drop k) = if 8192 < n then 2 else if 65536 < s + n then 2 else checkL (65536 - (s + n)) (lens.drop (k + 1)) := by
  rw [checkL_step _ n k lens h]
  by_cases h1 : 8192 < n
  · rw [if_pos (.inl h1), if_pos h1]
  · rw [if_neg h1]
    by_cases h2 : 65536 < s + n
    · rw [if_pos (.inr (by omega)), if_pos h2]
    · rw [if_neg (by omega), if_neg h2]
      congr 1
      omega

set_option maxHeartbeats 400000 in
theorem rcheck_any (l : Value) (lens : List Nat) (w : World) (hl : Lens w l lens) (hm : lens.length ≤ 140737488355328) :
    Calls Try.prog 25 #[l] w fun e w' => e = .returned (.int .i64 (checkV lens)) ∧ w = w' := by
  obtain ⟨vs, hr, hvs, hat⟩ := hl
  rcases hr with ⟨rfl, rfl⟩ | ⟨b, off, cap, rfl, hc, hcell⟩
  · have : lens = [] := List.length_eq_zero_iff.1 (by simpa using hvs.symm)
    subst this
    have e : checkV [] = 0 := by decide
    rw [e]
    clear hat hvs
    go_enter Try.func25, Try.ntmps25
    go_wp2_with fail
    refine wp_loop_rounds 1 ?_
    rw [rounds_succ]
    go_wp2_with fail
    go_ret
    exact ⟨rfl, rfl⟩
  · have HC := Lib.hid hcell
    have HA := Lib.hid hat
    rw [hvs]
    have HV := Lib.hid hvs
    clear hcell hat hvs
    unfold checkV
    by_cases hbig : 65535 < lens.length
    · rw [if_pos hbig]
      go_enter Try.func25, Try.ntmps25
      go_wp2_with fail
      go_ret
      exact ⟨rfl, rfl⟩
    · rw [if_neg hbig]
      go_enter Try.func25, Try.ntmps25
      go_wp2_with fail
      go_loop [3, 4] (fun x i => ∃ k s : Nat, k ≤ lens.length ∧ i = .int .i64 k ∧ x = .int .i64 s ∧ s ≤ 65536 ∧ Hid (checkL 65536 lens = checkL (65536 - s) (lens.drop k))) (fun _ i => lens.length - (intOf i).toNat)
      case atStart => exact ⟨0, 0, Nat.zero_le _, rfl, rfl, Nat.zero_le _, rfl⟩
      case round =>
        obtain ⟨k, s, hk, rfl, rfl, hs, hH⟩ := hrel
        by_cases hlt : k < lens.length
        · obtain ⟨a, c, h1, h2⟩ := HA.out k lens[k] (by simp [hlt])
          have hcl := HC.out k _ h1
          have hst := checkL_sum s lens[k] k lens (by simp [hlt]) hs
          unfold maxLen at h2
          generalize lens[k] = n at *
          have HST := Lib.hid hst
          clear h1 hst
          by_cases g1 : 8192 < n
          · go_wp2
            go_ret
            exact ⟨by rw [hH.out, HST.out, if_pos g1]; rfl, rfl⟩
          · by_cases g2 : 65536 < s + n
            · have g3 : (65536 : Int) < (s : Int) + (n : Int) := by omega
              go_wp2
              go_ret
              exact ⟨by rw [hH.out, HST.out, if_neg g1, if_pos g2]; rfl, rfl⟩
            · have g3 : ¬ (65536 : Int) < (s : Int) + (n : Int) := by omega
              go_wp2
              go_round
              case rel => exact ⟨k + 1, s + n, by omega, by go_num, by go_num, by omega, by show _ = _; rw [hH.out, HST.out, if_neg g1, if_neg g2]⟩
              case measure => simp [intOf]; omega
        · have : k = lens.length := by omega
          subst this
          have e : checkL 65536 lens = 0 := by rw [hH.out]; simp [checkL]
          have E := Lib.hid e
          clear e
          go_wp2
          go_ret
          exact ⟨by rw [E.out]; rfl, rfl⟩
end Go.Proofs.Ythkjihfnphdfkaa
