/- TopNames: the rows of pairs are all alike. No condition. -/
import Derived.Test.YtafekjmfbcchcaaRows
import Derived.WalkKit
import Derived.WalkSpells
import Derived.WalkLawsBesides
import Derived.Deep.QuietTactic
import Derived.BigQuiet
import Derived.Lib.Hide
namespace Go.Proofs.Ytafekjmfbcchcaa
open Go.RowKit

set_option maxHeartbeats 400000 in
theorem are_any (b n cap : Nat) (w : World) (hn : n ≤ 1000) (hc : ∀ i, i < n → ∃ x : Int, w.cell? ⟨b, i * 2, none⟩ = some (.int .i64 x) ∧ w.cell? ⟨b, i * 2 + 1, none⟩ = some (.int .i64 x)) :
    Calls Try.prog 7 #[.slice (some ⟨b, 0, none⟩) n cap] w fun e w' => e = .returned (.bool true) ∧ ∃ k, w' = w.drewN k := by
  have HC := Lib.hid hc
  clear hc
  go_enter Try.func7, Try.ntmps7
  go_wp2
  go_loopw [3] (fun i wr => ∃ k : Nat, k ≤ n ∧ i = .int .i64 k ∧ ∃ d, wr = w.drewN d) (fun i _ => n - (intOf i).toNat)
  case atStart => exact ⟨0, by omega, rfl, 0, rfl⟩
  case round =>
    obtain ⟨k, hk, rfl, d, rfl⟩ := hrel
    by_cases hlt : k < n
    · obtain ⟨x, h0, h1⟩ := HC.out k hlt
      go_wp2
      go_quiet (fail)
      go_wp2
      go_roundw
      case rel => exact ⟨k + 1, by omega, by go_num, _, rfl⟩
      case measure => simp [intOf]; omega
    · go_wp2
      go_ret
      exact ⟨rfl, d, rfl⟩

def pairs (n : Nat) (cs : Array Value) : Bool := (List.range n).all fun i => match cs[i * 2]?, cs[i * 2 + 1]? with
  | some (.int .i64 x), some (.int .i64 y) => x == y
  | _, _ => false
theorem pairs_at {n : Nat} {cs : Array Value} (h : pairs n cs = true) (i : Nat) (hi : i < n) : ∃ x : Int, cs[i * 2]? = some (.int .i64 x) ∧ cs[i * 2 + 1]? = some (.int .i64 x) := by
  have := List.all_eq_true.1 h i (List.mem_range.2 hi)
  split at this
  · rename_i x y h1 h2
    have e : x = y := by simpa using this
    subst e
    exact ⟨x, h1, h2⟩
  · cases this

theorem are_new (w : World) (n : Nat) (cs : Array Value) (hn : n ≤ 1000) (hp : pairs n cs = true) :
    Calls Try.prog 7 #[.slice (some ⟨w.heap.size, 0, none⟩) n n] (w.alloc (.cells cs 24)) fun e w' => e = .returned (.bool true) ∧ Below w.heap.size w w' :=
  (are_any w.heap.size n n _ hn fun i hi => by
    obtain ⟨x, h1, h2⟩ := pairs_at hp i hi
    exact ⟨x, by rw [cell_of_row _ _ _ _ _ _ (heap_alloc_new w _)]; exact h1, by rw [cell_of_row _ _ _ _ _ _ (heap_alloc_new w _)]; exact h2⟩).mono
    fun e w' ⟨he, k, hw⟩ => ⟨he, by subst hw; exact below_drewN ((Below.refl _ w).alloc (Nat.le_refl _) _) k⟩

set_option maxHeartbeats 400000 in
theorem errors_any (w : World) : Calls Try.prog 4 #[] w fun e w' => e = .returned (.bool true) ∧ Below w.heap.size w w' := by
  go_enter Try.func4, Try.ntmps4
  go_wp2_with fail
  refine (are_new w 28 _ (by decide) (by decide +kernel)).mono ?_
  rintro e w' ⟨rfl, hb⟩
  go_wp2
  go_ret
  exact ⟨rfl, hb⟩

set_option maxHeartbeats 400000 in
theorem limits_any (w : World) : Calls Try.prog 5 #[] w fun e w' => e = .returned (.bool true) ∧ Below w.heap.size w w' := by
  go_enter Try.func5, Try.ntmps5
  go_wp2_with fail
  refine (are_new w 20 _ (by decide) (by decide +kernel)).mono ?_
  rintro e w' ⟨rfl, hb⟩
  go_wp2
  go_ret
  exact ⟨rfl, hb⟩

set_option maxHeartbeats 400000 in
theorem kinds_any (w : World) : Calls Try.prog 6 #[] w fun e w' => e = .returned (.bool true) ∧ Below w.heap.size w w' := by
  go_enter Try.func6, Try.ntmps6
  go_wp2_with fail
  refine (are_new w 19 _ (by decide) (by decide +kernel)).mono ?_
  rintro e w' ⟨rfl, hb⟩
  go_wp2
  go_ret
  exact ⟨rfl, hb⟩

set_option maxHeartbeats 400000 in
theorem names_any (w : World) : Calls Try.prog 3 #[] w fun e w' => e = .returned (.bool true) ∧ Below w.heap.size w w' := by
  go_enter Try.func3, Try.ntmps3
  go_wp2_with fail
  refine (errors_any _).mono ?_
  rintro e w1 ⟨rfl, hb1⟩
  go_wp2_with fail
  refine (limits_any _).mono ?_
  rintro e w2 ⟨rfl, hb2⟩
  go_wp2_with fail
  refine (kinds_any _).mono ?_
  rintro e w3 ⟨rfl, hb3⟩
  go_wp2
  go_ret
  exact ⟨rfl, hb1.trans ((hb2.mono hb1.size).trans (hb3.mono (Nat.le_trans hb1.size hb2.size)))⟩

end Go.Proofs.Ytafekjmfbcchcaa
