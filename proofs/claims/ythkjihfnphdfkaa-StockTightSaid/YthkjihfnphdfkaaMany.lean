/- StockMany, StockBytes: the walks. -/
import Derived.Test.YthkjihfnphdfkaaCheck
namespace Go.Proofs.Ythkjihfnphdfkaa
open Go.RowKit Go.Maps

theorem checkL_zeros : ∀ (n left : Nat), checkL left (List.replicate n 0) = 0
  | 0, _ => rfl
  | n + 1, left => by
    rw [List.replicate_succ]
    unfold checkL
    rw [if_neg (by omega)]
    exact checkL_zeros n _
theorem checkV_zeros (n : Nat) : checkV (List.replicate n 0) = if 65535 < n then 2 else 0 := by
  unfold checkV
  rw [List.length_replicate, checkL_zeros]
theorem lens_zeros {w : World} {v : Value} {n base : Nat} (h : w.ownsRow base 28 1 v n (List.replicate n (.slice none 0 0))) : Lens w v (List.replicate n 0) := by
  refine ⟨_, RowAt.of_owns h, by simp, fun i k hi => ?_⟩
  obtain ⟨hi1, hi2⟩ := List.getElem?_eq_some_iff.1 hi
  simp at hi1 hi2
  subst hi2
  exact ⟨none, 0, by simp [hi1], by unfold maxLen; omega⟩

theorem made_nils {w : World} {base n : Nat} {v : Value} (h : w.ownsRow base 28 1 v n (madeCells #[Value.slice none 0 0] n).toList) : w.ownsRow base 28 1 v n (List.replicate n (.slice none 0 0)) := by
  have e : (madeCells #[Value.slice none 0 0] n).toList = List.replicate n (.slice none 0 0) := toList_madeCells_one _ n
  rw [e] at h
  exact h

set_option maxHeartbeats 400000 in
set_option maxRecDepth 100000 in
theorem many_in (k : Nat) (q : Int) (w : World) (h1 : 65530 ≤ k) (h2 : k ≤ 65540) (hq : (65535 < k ∧ q = 2) ∨ (k ≤ 65535 ∧ q = 0)) : Calls Try.prog 5 #[.int .i64 k] w fun e w' => e = .returned (.bool true) ∧ Below w.heap.size w w' := by
  obtain ⟨i0, hi, hz0, hz1, hz2⟩ := info_parts info28
  have M1 : Hid (i0.bytes * k ≤ 281474976710656) := by show i0.bytes * k ≤ _; rw [hz2]; omega
  have M2 : Hid (k ≤ maxLen) := by show k ≤ maxLen; unfold maxLen; omega
  have HQ : Hid (checkV (List.replicate k 0) = q) := by
    show checkV _ = _
    rw [checkV_zeros]
    rcases hq with ⟨a, rfl⟩ | ⟨a, rfl⟩
    · rw [if_pos a]
    · rw [if_neg (by omega)]
  rcases hq with ⟨hb, rfl⟩ | ⟨hb, rfl⟩
  all_goals
    go_enter Try.func5, Try.ntmps5
    go_wp2_with fail
    refine (alive_any _).mono ?_
    rintro e w1 ⟨rfl, hb1⟩
    go_wp2_with (at_make; refine wpList_make_full _ rfl (.tmp 13) (.tmp 13) 36 rfl w1.heap.size 28 i0 (.slice none 0 0) 1 Try.underlying36 hi hz0 hz1 .i64 .i64 _ _ k rfl rfl rfl rfl M1.out M2.out (Nat.le_refl _) ?_)
    intro w2 hown hgrow
    have HL := Lib.hid (lens_zeros (made_nils hown))
    have HG := Lib.hid hgrow
    clear hown hgrow
    go_wp2_with fail
    refine (check_any _ _ _ HL.out (by rw [List.length_replicate]; omega)).mono ?_
    rw [HQ.out]
    rintro e w' ⟨rfl, rfl⟩
    go_wp2_with (go_at_call 11; go_in)
    go_ret
    exact ⟨by simp; omega, hb1.grown HG.out hb1.size (by simp)⟩

set_option maxHeartbeats 400000 in
set_option maxRecDepth 100000 in
theorem many_out (n : Int) (w : World) (h : n < 65530 ∨ 65540 < n) : Calls Try.prog 5 #[.int .i64 n] w fun e w' => e = .returned (.bool true) ∧ Below w.heap.size w w' := by
  rcases h with h | h
  all_goals
    go_enter Try.func5, Try.ntmps5
    go_wp2_with fail
    refine (alive_any _).mono ?_
    rintro e w1 ⟨rfl, hb1⟩
    go_wp2_with fail
    go_ret
    exact ⟨rfl, hb1⟩

theorem many_walk (n : Int) (w : World) : Calls Try.prog 5 #[.int .i64 n] w fun e w' => e = .returned (.bool true) ∧ Below w.heap.size w w' := by
  by_cases h : 65530 ≤ n ∧ n ≤ 65540
  · obtain ⟨k, rfl⟩ := Int.eq_ofNat_of_zero_le (show 0 ≤ n by omega)
    by_cases hb : 65535 < k
    · exact many_in k 2 w (by omega) (by omega) (.inl ⟨hb, rfl⟩)
    · exact many_in k 0 w (by omega) (by omega) (.inr ⟨by omega, rfl⟩)
  · exact many_out n w (by omega)
end Go.Proofs.Ythkjihfnphdfkaa
