/- The keys. -/
import Derived.Test.YthkjihfnphdfkaaSMore
import Derived.WalkMore
import Derived.Deep.Cut
import Derived.Laws.Tables
import Derived.Deep.MidRow
namespace Go.Proofs.Ythkjihfnphdfkaa.Sha
open Go.RowKit

def keyL : List Int := [1116352408, 1899447441, 3049323471, 3921009573, 961987163, 1508970993, 2453635748, 2870763221, 3624381080, 310598401, 607225278, 1426881987, 1925078388, 2162078206, 2614888103, 3248222580, 3835390401, 4022224774, 264347078, 604807628, 770255983, 1249150122, 1555081692, 1996064986, 2554220882, 2821834349, 2952996808, 3210313671, 3336571891, 3584528711, 113926993, 338241895, 666307205, 773529912, 1294757372, 1396182291, 1695183700, 1986661051, 2177026350, 2456956037, 2730485921, 2820302411, 3259730800, 3345764771, 3516065817, 3600352804, 4094571909, 275423344, 430227734, 506948616, 659060556, 883997877, 958139571, 1322822218, 1537002063, 1747873779, 1955562222, 2024104815, 2227730452, 2361852424, 2428436474, 2756734187, 3204031479, 3329325298]
def w32 (n : Int) : Value := .int .u32 n
theorem wpList_build_to {P : Program} {ops : Array Oper} {rest : List Oper} {o : Oper} {a : Act} {w : World} {Q : Exit → Act → World → Prop} (hg : o.guard = none) (t : TypeId) (parts : Array (Nat × Operand)) (ho : o.op = .build t parts)
    (cells : Array Value) (hf : P.built t (parts.map fun (i, x) => (i, a.eval x)).toList = some cells) (a' : Act) (ha : a.put o.dst (.agg cells) = a')
    (h : wpList P ops Q rest a' w) : wpList P ops Q (o :: rest) a w :=
  wpList_build hg t parts ho (by rw [hf]; rfl) (by rw [hf, Option.getD_some, ha]; exact h)

theorem key_size : (keyL.map w32).toArray.size = 64 := by kernel_rfl
set_option maxRecDepth 100000 in
set_option maxHeartbeats 400000 in
theorem key_any (w : World) : Calls Try.prog 38 #[] w fun e w' => e = .returned (.agg (keyL.map w32).toArray) ∧ Below w.heap.size w w' := by
  go_enter Try.func38, Try.ntmps38
  go_upto_region 1 with (fail)
  have hh := heap_alloc_new w (.cells (List.replicate 64 (w32 0)).toArray 70 (0, 0))
  have hB : Below w.heap.size w (w.alloc (.cells (List.replicate 64 (w32 0)).toArray 70 (0, 0))) := (Below.refl _ _).alloc (Nat.le_refl _) _
  change Code.wp _ _ _ _ (w.alloc (.cells (List.replicate 64 (w32 0)).toArray 70 (0, 0)))
  generalize (w.alloc (.cells (List.replicate 64 (w32 0)).toArray 70 (0, 0))) = w1 at hh hB ⊢
  go_step
  refine wpList_build_to rfl 70 _ rfl (keyL.map w32).toArray (by kernel_rfl) ⟨#[.pointer (some ⟨w.heap.size, 0, none⟩), .agg (keyL.map w32).toArray], []⟩ (by kernel_rfl) ?_
  refine wpList_store_row rfl 70 _ _ rfl w.heap.size (keyL.map w32).toArray rfl rfl 70 _ hh (by kernel_rfl) (by kernel_rfl) (by kernel_rfl) ?_
  have hs := setRow_heap w1 w.heap.size _ (keyL.map w32).toArray 70 (0, 0) hh
  have hB2 := below_setRow hB (Nat.le_refl _) (keyL.map w32).toArray
  generalize w1.setRow _ _ = w2 at *
  have hl := run_loadVar_row (P := Try.prog) w2 w.heap.size 70 70 _ _ (.array 64 68) hs (by kernel_rfl) rfl (by kernel_rfl)
  have hk : (Try.prog.info? 70).map (·.size) = some (keyL.map w32).toArray.size := by kernel_rfl
  generalize hks : (keyL.map w32).toArray = ks at *
  have HKS := Lib.hid hks
  clear hks
  change wpList _ _ _ _ ⟨#[.pointer (some ⟨w.heap.size, 0, none⟩), .agg ks], []⟩ w2
  go_wp2_with fail
  (try simp only [Exit.inBlock, Exit.then])
  refine bodyPost_ret (results_cell_row rfl _ _ w.heap.size 70 ks (0, 0) (.array 64 68) rfl hs (by kernel_rfl) rfl hk) rfl ?_
  exact ⟨by rw [HKS.out], hB2⟩
end Go.Proofs.Ythkjihfnphdfkaa.Sha
