/- SHA-256 of three bytes, reckoned by the kernel. -/
import Derived.Test.YtgeagbhfpjhonaaHsh
namespace Go.Proofs.Ytgeagbhfpjhonaa
open Go.RowKit
theorem abc_words : (ivSt.pieces (padded [97, 98, 99]) 1).row = [3128432319, 2399260650, 1094795486, 1571693091, 2953011619, 2518121116, 3021012833, 4060091821] := by
  decide +kernel
end Go.Proofs.Ytgeagbhfpjhonaa
