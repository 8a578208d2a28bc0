/- PathLong. -/
import Derived.Test.YtpnbmfibooglgaaDoorAlive
namespace Go.Proofs.YtpnbmfibooglgaaDoor
open Go.RowKit

/-- so many bytes -/
def as_ (m : Nat) : Bs := List.replicate m 97
/-- n + 1 names of m bytes -/
def pn (m : Nat) : Nat → Bs
  | 0 => as_ m
  | n + 1 => pn m n ++ [47] ++ as_ m
theorem pn_length (m : Nat) : ∀ n, (pn m n).length = n * (m + 1) + m
  | 0 => by simp [pn, as_]
  | n + 1 => by simp [pn, pn_length m n, as_, Nat.succ_mul]; omega
set_option maxRecDepth 1000000 in
theorem pn_valid : ∀ m, m < 41 → ∀ n, n < 12 → validB (pn m n) = (decide (1 ≤ m) && decide (m ≤ 14) && decide (n + 1 ≤ 6)) := by decide +kernel
/-- bytes that are these -/
def IsB (t : ByteArray) (l : Bs) : Prop := t.data.toList = l
theorem IsB.add {a b : ByteArray} {x y : Bs} (h : IsB a x) (k : IsB b y) : IsB (a ++ b) (x ++ y) := by
  show (a ++ b).data.toList = _
  rw [ByteArray.data_append, Array.toList_append, h, k]
theorem IsB.size {a : ByteArray} {x : Bs} (h : IsB a x) : a.size = x.length := by rw [← h]; simp

set_option maxHeartbeats 800000 in
theorem long_out (a b : Int) (w : World) (h : a < 0 ∨ (0 ≤ a ∧ 40 < a) ∨ (0 ≤ a ∧ a ≤ 40 ∧ b < 1) ∨ (0 ≤ a ∧ a ≤ 40 ∧ 1 ≤ b ∧ 12 < b)) : Calls Tryd.prog 3 #[.int .i64 a, .int .i64 b] w fun e w' => e = .returned (.bool true) ∧ Below w.heap.size w w' := by
  go_enter Tryd.func3, Tryd.ntmps3
  go_wp2_with fail
  refine (alive_any w).mono ?_
  rintro e w1 ⟨rfl, hb1⟩
  rcases h with h | ⟨h1, h2⟩ | ⟨h1, h2, h3⟩ | ⟨h1, h2, h3, h4⟩
  · go_wp2_with fail
    go_ret
    exact ⟨rfl, hb1⟩
  · have n1 : ¬ a < 0 := by omega
    go_wp2_with fail
    go_ret
    exact ⟨rfl, hb1⟩
  · have n1 : ¬ a < 0 := by omega
    have n2 : ¬ (40 : Int) < a := by omega
    go_wp2_with fail
    go_ret
    exact ⟨rfl, hb1⟩
  · have n1 : ¬ a < 0 := by omega
    have n2 : ¬ (40 : Int) < a := by omega
    have n3 : ¬ b < 1 := by omega
    go_wp2_with fail
    go_ret
    exact ⟨rfl, hb1⟩
set_option maxHeartbeats 1600000 in
theorem long_in (m n : Nat) (w : World) (hm : m ≤ 40) (hn : n < 12) : Calls Tryd.prog 3 #[.int .i64 m, .int .i64 ((n : Int) + 1)] w fun e w' => e = .returned (.bool true) ∧ Below w.heap.size w w' := by
  have m0 : ¬ (m : Int) < 0 := by omega
  have m1 : (m : Int) ≤ 40 := by omega
  have m2 : ¬ (40 : Int) < (m : Int) := by omega
  have n0 : ¬ (n : Int) + 1 < 1 := by omega
  have n1 : (n : Int) + 1 ≤ 12 := by omega
  have n2 : ¬ (12 : Int) < (n : Int) + 1 := by omega
  go_enter Tryd.func3, Tryd.ntmps3
  go_wp2_with fail
  refine (alive_any w).mono ?_
  rintro e w1 ⟨rfl, hb1⟩
  have HB1 := Lib.hid hb1
  clear hb1
  go_wp2_with fail
  go_loop [6, 7] (fun v i => ∃ (k : Nat) (t : ByteArray), k ≤ m ∧ i = .int .i64 k ∧ v = .string t ∧ t.size = k ∧ Hid (IsB t (as_ k))) (fun _ i => m - (intOf i).toNat)
  case atStart => exact ⟨0, ⟨#[]⟩, by omega, rfl, rfl, rfl, rfl⟩
  case round =>
    obtain ⟨k, t, hk, rfl, rfl, hz, HT⟩ := hrel
    by_cases hlt : k < m
    · have k1 : (k : Int) < (m : Int) := by omega
      go_wp2_with fail
      go_round
      case rel => exact ⟨k + 1, _, by omega, by go_num, rfl, by rw [ByteArray.size_append, hz]; rfl, by
        have := HT.out.add (b := ⟨#[97]⟩) (y := [97]) rfl
        rw [show as_ (k + 1) = as_ k ++ [97] from List.replicate_succ']
        exact this⟩
      case measure => simp [intOf]; omega
    · obtain rfl : k = m := by omega
      go_wp2_with fail
      go_loop [8, 9] (fun v i => ∃ (j : Nat) (t2 : ByteArray), j ≤ n ∧ i = .int .i64 ((j : Int) + 1) ∧ v = .string t2 ∧ t2.size = j * (k + 1) + k ∧ t2.size ≤ 1000 ∧ Hid (IsB t2 (pn k j))) (fun _ i => n + 1 - (intOf i).toNat)
      case atStart => exact ⟨0, t, by omega, rfl, rfl, by omega, by omega, HT⟩
      case round =>
        obtain ⟨j, t2, hj, rfl, rfl, hz2, hz3, HT2⟩ := hrel
        by_cases hlj : j < n
        · have j1 : (j : Int) + 1 < (n : Int) + 1 := by omega
          go_wp2_with fail
          go_round
          case rel =>
            have hs : (t2 ++ ⟨#[47]⟩ ++ t).size = (j + 1) * (k + 1) + k := by
              rw [ByteArray.size_append, ByteArray.size_append, hz2, hz, Nat.succ_mul]
              show _ + 1 + _ = _
              omega
            have hs2 : (j + 1) * (k + 1) ≤ 12 * 41 := Nat.mul_le_mul (by omega) (by omega)
            exact ⟨j + 1, _, by omega, by go_num, rfl, hs, by omega, (HT2.out.add (b := ⟨#[47]⟩) (y := [47]) rfl).add HT.out⟩
          case measure => simp [intOf]; omega
        · obtain rfl : j = n := by omega
          have hv := valid_any t2 w1 (by omega)
          rw [show t2.data.toList = pn k j from HT2.out, pn_valid k (by omega) j hn] at hv
          have HVL := Lib.hid hv
          clear hv
          go_wp2_with fail
          refine (HVL.out).mono ?_
          rintro e w2 ⟨rfl, hb2⟩
          have HB2 := Lib.hid (HB1.out.trans (hb2.mono HB1.out.size))
          clear hb2
          by_cases c1 : 1 ≤ k
          · have d1 : (1 : Int) ≤ (k : Int) := by omega
            by_cases c2 : k ≤ 14
            · have d2 : (k : Int) ≤ 14 := by omega
              by_cases c3 : j + 1 ≤ 6
              · have d3 : (j : Int) + 1 ≤ 6 := by omega
                simp only [c1, c2, c3, decide_true, Bool.and_true]
                go_wp2_with fail
                go_ret
                exact ⟨rfl, HB2.out⟩
              · have d3 : ¬ (j : Int) + 1 ≤ 6 := by omega
                simp only [c1, c2, c3, decide_true, decide_false, Bool.and_true, Bool.and_false]
                go_wp2_with fail
                go_ret
                exact ⟨rfl, HB2.out⟩
            · have d2 : ¬ (k : Int) ≤ 14 := by omega
              simp only [c2, decide_false, Bool.and_false, Bool.false_and]
              go_wp2_with fail
              go_ret
              exact ⟨rfl, HB2.out⟩
          · have d1 : ¬ (1 : Int) ≤ (k : Int) := by omega
            simp only [c1, decide_false, Bool.false_and]
            go_wp2_with fail
            go_ret
            exact ⟨rfl, HB2.out⟩
theorem pathLong_walk (a b : Int) (w : World) (_ : (Lit.int .i64 a).wf = true) (_ : (Lit.int .i64 b).wf = true) : Calls Tryd.prog 3 #[.int .i64 a, .int .i64 b] w fun e w' => e = .returned (.bool true) ∧ Below w.heap.size w w' := by
  by_cases h : a < 0 ∨ (0 ≤ a ∧ 40 < a) ∨ (0 ≤ a ∧ a ≤ 40 ∧ b < 1) ∨ (0 ≤ a ∧ a ≤ 40 ∧ 1 ≤ b ∧ 12 < b)
  · exact long_out a b w h
  · obtain ⟨m, rfl⟩ : ∃ m : Nat, a = m := ⟨a.toNat, by omega⟩
    obtain ⟨n, rfl⟩ : ∃ n : Nat, b = (n : Int) + 1 := ⟨(b - 1).toNat, by omega⟩
    exact long_in m n w (by omega) (by omega)
end Go.Proofs.YtpnbmfibooglgaaDoor
