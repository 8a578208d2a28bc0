/- New: the walk. -/
import Derived.Test.YthkjihfnphdfkaaSAdds
namespace Go.Proofs.Ythkjihfnphdfkaa.Sha
open Go.RowKit

def ivSt : St := ⟨1779033703, 3144134277, 1013904242, 2773480762, 1359893119, 2600822924, 528734635, 1541459225⟩
theorem iv_ok : ivSt.ok := by refine ⟨?_, ?_, ?_, ?_, ?_, ?_, ?_, ?_⟩ <;> (constructor <;> decide)

set_option maxHeartbeats 400000 in
theorem new_any (w : World) : Calls Try.prog 30 #[] w fun e w' => e = .returned (.pointer (some ⟨w.heap.size, 0, none⟩)) ∧ IsHash w' w.heap.size ivSt.row (.slice none 0 0) 0 ∧ Below w.heap.size w w' := by
  go_enter Try.func30, Try.ntmps30
  go_wp2_with fail
  go_ret
  exact ⟨rfl, heap_alloc_new w _, (Below.refl _ _).alloc (Nat.le_refl _) _⟩
end Go.Proofs.Ythkjihfnphdfkaa.Sha
