/- lent, stays: the walks. Condition: the slice holds bytes; fewer than 2^47. -/
import Derived.Test.YthkjihfnphdfkaaSMore
import Derived.Deep.DeepMust
import Derived.Deep.DeepFit
namespace Go.Proofs.Ythkjihfnphdfkaa.Sha
open Go.RowKit

theorem info5 : (Try.prog.info? 5).map (fun i => (i.zero, i.size, i.bytes)) = some (some (.int .u8 0), 1, 1) := by kernel_rfl

end Go.Proofs.Ythkjihfnphdfkaa.Sha
