/- Check: a list is not too great. Condition: a list of slices of bytes in memory. -/
import Derived.Test.YthkjihfnphdfkaaAlive
namespace Go.Proofs.Ythkjihfnphdfkaa
open Go.RowKit Go.Maps

def checkL : Nat → List Nat → Int
  | _, [] => 0
  | left, n :: r => if 8192 < n ∨ left < n then 2 else checkL (left - n) r
def checkV (lens : List Nat) : Int := if 65535 < lens.length then 2 else checkL 65536 lens

/-- A list of slices with these lengths. -/
def Lens (w : World) (l : Value) (lens : List Nat) : Prop := ∃ vs, RowAt w l vs ∧ vs.length = lens.length ∧ ∀ (i n : Nat), lens[i]? = some n → ∃ (a : Option Addr) (c : Nat), vs[i]? = some (Value.slice a n c) ∧ n ≤ maxLen

theorem checkL_step (lf n k : Nat) (lens : List Nat) (h : lens[k]? = some n) : checkL lf (lens.drop k) = if 8192 < n ∨ lf < n then 2 else checkL (lf - n) (lens.drop (k + 1)) := by
  obtain ⟨hk, hn⟩ := List.getElem?_eq_some_iff.1 h
  rw [List.drop_eq_getElem_cons hk, hn]
  rfl

set_option maxHeartbeats 400000 in
theorem check_any (l : Value) (lens : List Nat) (w : World) (hl : Lens w l lens) (hm : lens.length ≤ 140737488355328) :
    Calls Try.prog 21 #[l] w fun e w' => e = .returned (.int .i64 (checkV lens)) ∧ w = w' := by
  obtain ⟨vs, hr, hvs, hat⟩ := hl
  rcases hr with ⟨rfl, rfl⟩ | ⟨b, off, cap, rfl, hc, hcell⟩
  · have : lens = [] := List.length_eq_zero_iff.1 (by simpa using hvs.symm)
    subst this
    have e : checkV [] = 0 := by decide
    rw [e]
    clear hat hvs
    go_enter Try.func21, Try.ntmps21
    go_wp2_with fail
    refine wp_loop_rounds 1 ?_
    rw [rounds_succ]
    go_wp2_with fail
    go_ret
    exact ⟨rfl, rfl⟩
  · have HC := Lib.hid hcell
    have HA := Lib.hid hat
    rw [hvs]
    have HV := Lib.hid hvs
    clear hcell hat hvs
    unfold checkV
    by_cases hbig : 65535 < lens.length
    · rw [if_pos hbig]
      go_enter Try.func21, Try.ntmps21
      go_wp2_with fail
      go_ret
      exact ⟨rfl, rfl⟩
    · rw [if_neg hbig]
      go_enter Try.func21, Try.ntmps21
      go_wp2_with fail
      go_loop [3, 11] (fun x i => ∃ k lf : Nat, k ≤ lens.length ∧ i = .int .i64 k ∧ x = .int .i64 lf ∧ lf ≤ 65536 ∧ Hid (checkL 65536 lens = checkL lf (lens.drop k))) (fun _ i => lens.length - (intOf i).toNat)
      case atStart => exact ⟨0, 65536, Nat.zero_le _, rfl, rfl, Nat.le_refl _, rfl⟩
      case round =>
        obtain ⟨k, lf, hk, rfl, rfl, hlf, hH⟩ := hrel
        by_cases hlt : k < lens.length
        · obtain ⟨a, c, h1, h2⟩ := HA.out k lens[k] (by simp [hlt])
          have hcl := HC.out k _ h1
          have hst := checkL_step lf lens[k] k lens (by simp [hlt])
          unfold maxLen at h2
          generalize lens[k] = n at *
          have HST := Lib.hid hst
          clear h1 hst
          by_cases g1 : 8192 < n
          · go_wp2
            go_ret
            exact ⟨by rw [hH.out, HST.out, if_pos (.inl g1)]; rfl, rfl⟩
          · by_cases g2 : lf < n
            · go_wp2
              go_ret
              exact ⟨by rw [hH.out, HST.out, if_pos (.inr g2)]; rfl, rfl⟩
            · go_wp2
              go_round
              case rel => exact ⟨k + 1, lf - n, by omega, by go_num, by congr 1; omega, by omega, by show _ = _; rw [hH.out, HST.out, if_neg (by omega)]⟩
              case measure => simp [intOf]; omega
        · have : k = lens.length := by omega
          subst this
          have e : checkL 65536 lens = 0 := by rw [hH.out]; simp [checkL]
          have E := Lib.hid e
          clear e
          go_wp2
          go_ret
          exact ⟨by rw [E.out]; rfl, rfl⟩
end Go.Proofs.Ythkjihfnphdfkaa
