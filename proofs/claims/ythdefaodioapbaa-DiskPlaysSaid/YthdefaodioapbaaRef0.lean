/- The document's disk: the zero of a block. -/
import Derived.Test.YthdefaodioapbaaDisk10
import Derived.Deep.MidRow
namespace Go.Proofs.Ythdefaodioapbaa
open Go.RowKit
theorem infoA : (Try.prog.info? 75).map (fun i => (i.size, i.bytes)) = some (512, 512) := by kernel_rfl
theorem sizeA : (Try.prog.info? 75).map (·.size) = some 512 := by kernel_rfl
theorem sizeW : (Try.prog.info? 85).map (·.size) = some 513 := by kernel_rfl

def zA : Array Value := (List.replicate 512 (Value.int .u8 0)).toArray
theorem infoAz : (Try.prog.info? 75).map (fun i => (i.zero, i.size, i.bytes)) = some (some (.agg zA), 512, 512) := by kernel_rfl
theorem zA_at (i : Nat) (h : i < 512) : zA[i]? = some (Value.int .u8 0) := by
  unfold zA
  rw [List.getElem?_toArray, List.getElem?_replicate, if_pos h]
theorem zA_size : zA.size = 512 := by kernel_rfl
theorem made_zA (m : Nat) : (madeCells zA m).toList = u8s (List.replicate m 0) := by
  have key : ∀ i : Nat, zA[i % zA.size]! = Value.int .u8 0 := fun i => by
    rw [getElem!_def, zA_at _ (by rw [zA_size]; omega)]
  have h : madeCells zA m = madeCells #[Value.int .u8 0] m := by
    unfold madeCells
    have e : (fun i : Nat => zA[i % zA.size]!) = (fun i : Nat => (#[Value.int .u8 0] : Array Value)[i % (#[Value.int .u8 0] : Array Value).size]!) := by
      funext i
      rw [key i]
      show _ = (#[Value.int .u8 0] : Array Value)[i % 1]!
      rw [Nat.mod_one]
      rfl
    rw [e]
  rw [h, made_u8s]
theorem zA_one : zA.all (·.oneCell') = true := by kernel_rfl
theorem infoAzz : (Try.prog.info? 75).map (·.zero) = some (some (.agg zA)) := by kernel_rfl
theorem sizeAz : (Try.prog.info? 75).map (·.size) = some zA.size := by kernel_rfl

end Go.Proofs.Ythdefaodioapbaa
