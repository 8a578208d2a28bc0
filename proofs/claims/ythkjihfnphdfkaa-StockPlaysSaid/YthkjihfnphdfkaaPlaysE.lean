/- StockPlays: limits that can't be; the whole. -/
import Derived.Test.YthkjihfnphdfkaaPlaysL
namespace Go.Proofs.Ythkjihfnphdfkaa
open Go.RowKit Go.Maps
attribute [local irreducible] addE addT place total

set_option maxHeartbeats 800000 in
set_option maxRecDepth 100000 in
theorem plays_out (lim : Int) (v : Value) (ops : List (Int × Int × Bs)) (w : World) (ho : OpsW w v ops) (h : lim < 0 ∨ (0 ≤ lim ∧ 65536 < lim)) :
    Calls Try.prog 4 #[.int .i64 lim, v] w fun e w' => e = .returned (.bool true) ∧ Below w.heap.size w w' := by
  have HOW := Lib.hid ho
  have hsh : ∃ a n c, v = .slice a n c := by
    rcases ho with ⟨rfl, _⟩ | ⟨g, off, cap, rfl, _⟩
    · exact ⟨_, _, _, rfl⟩
    · exact ⟨_, _, _, rfl⟩
  obtain ⟨a, n, c, rfl⟩ := hsh
  have HH := Lib.hid h
  clear ho h
  go_enter Try.func4, Try.ntmps4
  go_wp2_with fail
  refine (alive_any _).mono ?_
  rintro e w1 ⟨rfl, hb1⟩
  have HB1 := Lib.hid hb1
  have HOW1 : Hid (OpsW w1 (.slice a n c) ops) := HOW.out.below hb1
  clear hb1
  go_wp2_with fail
  refine (much_any _ ops _ HOW1.out).mono ?_
  rintro e w2 ⟨⟨heavy, rfl⟩, rfl⟩
  cases heavy with
  | true =>
    go_wp2_with fail
    go_ret
    exact ⟨rfl, HB1.out⟩
  | false =>
    have hh := HH.out
    go_wp2_with fail
    refine (new_no lim _ (by omega)).mono ?_
    rintro e w2 ⟨rfl, rfl⟩
    rcases hh with h | ⟨h1, h⟩
    all_goals
      go_wp2_with fail
      refine (num_any _ _).mono ?_
      rintro e w3 ⟨rfl, rfl⟩
      go_wp2_with fail
      go_ret
      exact ⟨rfl, HB1.out⟩
theorem plays_walk (lim : Int) (oa : Option Addr) (on oc : Nat) (ops : List (Int × Int × Bs)) (w : World) (_ : (Lit.int .i64 lim).wf = true) (ho : OpsW w (.slice oa on oc) ops) :
    Calls Try.prog 4 #[.int .i64 lim, .slice oa on oc] w fun e w' => e = .returned (.bool true) ∧ Below w.heap.size w w' := by
  by_cases h : 0 ≤ lim ∧ lim ≤ 65536
  · obtain ⟨k, rfl⟩ := Int.eq_ofNat_of_zero_le h.1
    exact plays_in k (by omega) oa on oc ops w ho
  · exact plays_out lim _ ops w ho (by omega)
end Go.Proofs.Ythkjihfnphdfkaa
