/- 'a & 7' lies in 0 .. 7. -/
import Derived.Test.YthdefaodioapbaaDisk2
namespace Go.Proofs.Ythdefaodioapbaa
open Go.RowKit

theorem and7 (a : Int) : 0 ≤ bits .and .i64 a 7 ∧ bits .and .i64 a 7 ≤ 7 := by
  have key : ∀ v : Nat, v ≤ 7 → 0 ≤ IntKind.i64.wrap (v : Int) ∧ IntKind.i64.wrap (v : Int) ≤ 7 := by
    intro v hv
    have hc : v = 0 ∨ v = 1 ∨ v = 2 ∨ v = 3 ∨ v = 4 ∨ v = 5 ∨ v = 6 ∨ v = 7 := by omega
    rcases hc with rfl | rfl | rfl | rfl | rfl | rfl | rfl | rfl <;> decide
  have h7 : (BitVec.ofInt IntKind.i64.bits 7).toNat = 7 := by decide
  refine key _ ?_
  show (BitVec.ofInt IntKind.i64.bits a &&& BitVec.ofInt IntKind.i64.bits 7).toNat ≤ 7
  rw [BitVec.toNat_and, h7]
  exact Nat.and_le_right
/-- The block that 'fill' writes. -/
def fillAt (a : Int) : Nat := (bits .and .i64 a 7 % 6).toNat
theorem fillAt_lt (a : Int) : fillAt a < 6 := by
  have := and7 a
  unfold fillAt
  omega
theorem fillAt_int (a : Int) : (fillAt a : Int) = bits .and .i64 a 7 % 6 := by
  have := and7 a
  unfold fillAt
  omega
theorem fillAt_tmod (a : Int) : (bits .and .i64 a 7).tmod 6 = (fillAt a : Int) := by
  have := and7 a
  rw [fillAt_int, Int.tmod_eq_emod_of_nonneg this.1]
end Go.Proofs.Ythdefaodioapbaa
