/- A value of eight words, indexed. -/
import Derived.Test.YthkjihfnphdfkaaSKey
namespace Go.Proofs.Ythkjihfnphdfkaa.Sha
open Go.RowKit

theorem run_index8 (W : World) (a b c d e f g h : Int) (k : Nat) (hk : k < 8) :
    (Instr.index 69 (.agg #[.int .u32 a, .int .u32 b, .int .u32 c, .int .u32 d, .int .u32 e, .int .u32 f, .int .u32 g, .int .u32 h]) (.int .i64 (k : Int))).run Try.prog W = .ok (.int .u32 ([a, b, c, d, e, f, g, h].getD k 0)) W := by
  match k, hk with
  | 0, _ | 1, _ | 2, _ | 3, _ | 4, _ | 5, _ | 6, _ | 7, _ => rfl
  | n + 8, h => exact absurd h (by omega)
end Go.Proofs.Ythkjihfnphdfkaa.Sha
