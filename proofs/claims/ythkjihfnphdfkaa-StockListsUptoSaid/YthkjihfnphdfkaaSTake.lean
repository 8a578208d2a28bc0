/- take: the join. -/
import Derived.Test.YthkjihfnphdfkaaSTake3
import Derived.Test.YthkjihfnphdfkaaSSha
import Derived.WalkMore
import Derived.ScopeJumps
import Derived.StillTailTactics
namespace Go.Proofs.Ythkjihfnphdfkaa.Sha
open Go.RowKit

set_option maxRecDepth 100000 in
/-- the frame and the world at the label, before word i. -/
def AtLabel (p g blk off cap : Nat) (b : List UInt8) (w : World) (a : Act) (wr : World) : Prop :=
  ∃ i : Nat, i < 64 ∧ IsWords wr g 70 (sched b i) ∧ Below w.heap.size w wr ∧ ∃ v6 v7 v16 v17 v18 v19 v20 v21 v22 v23 v24 v25 v26 v27 v28 v29 v30 v31 v32 v33 v34 v35 v36 v37 v38 v39 v40 v41 v42 v43 v44 v45 v46 v47 v48 v49 v50 v51 v52 v53 v54 v55 v56 v57 v58 v59 v60 v61 v62 v63 v64 v65 v66 v67 v68 v69 v70 v71 v72 v73 v74 v75 v76 v77 v78 v79 v80 v81 v82 v83 v84 v85 v86 v87 v88 v89 v90 v91 v92 v93 v94 : Value, a = ⟨(.pointer (some ⟨p, 0, none⟩) :: .slice (some ⟨blk, off, none⟩) 64 cap :: undef :: undef :: .pointer (some ⟨g, 0, none⟩) :: .int .i64 i :: v6 :: v7 :: undef :: undef :: undef :: undef :: undef :: undef :: undef :: undef :: v16 :: v17 :: v18 :: v19 :: v20 :: v21 :: v22 :: v23 :: v24 :: v25 :: v26 :: v27 :: v28 :: v29 :: v30 :: v31 :: v32 :: v33 :: v34 :: v35 :: v36 :: v37 :: v38 :: v39 :: v40 :: v41 :: v42 :: v43 :: v44 :: v45 :: v46 :: v47 :: v48 :: v49 :: v50 :: v51 :: v52 :: v53 :: v54 :: v55 :: v56 :: v57 :: v58 :: v59 :: v60 :: v61 :: v62 :: v63 :: v64 :: v65 :: v66 :: v67 :: v68 :: v69 :: v70 :: v71 :: v72 :: v73 :: v74 :: v75 :: v76 :: v77 :: v78 :: v79 :: v80 :: v81 :: v82 :: v83 :: v84 :: v85 :: v86 :: v87 :: v88 :: v89 :: v90 :: v91 :: v92 :: v93 :: v94 :: undef :: undef :: undef :: undef :: undef :: undef :: undef :: undef :: undef :: undef :: undef :: undef :: undef :: undef :: undef :: undef :: undef :: undef :: undef :: undef :: undef :: undef :: undef :: undef :: undef :: undef :: undef :: undef :: undef :: undef :: undef :: undef :: undef :: undef :: undef :: undef :: undef :: undef :: undef :: undef :: undef :: undef :: undef :: undef :: undef :: undef :: undef :: undef :: undef :: undef :: undef :: undef :: undef :: undef :: undef :: undef :: undef :: undef :: undef :: undef :: undef :: undef :: undef :: undef :: undef :: undef :: undef :: undef :: undef :: undef :: undef :: undef :: undef :: undef :: undef :: undef :: undef :: undef :: undef :: undef :: undef :: undef :: undef :: undef :: undef :: undef :: undef :: undef :: undef :: undef :: undef :: undef :: undef :: undef :: undef :: undef :: undef :: undef :: undef :: undef :: undef :: undef :: []).toArray, []⟩

set_option maxRecDepth 100000 in
set_option maxHeartbeats 1600000 in
theorem take_any (p blk off cap : Nat) (b : List UInt8) (s : St) (rest : Value) (n : Int) (w : World) (hlen : b.length = 64) (hok : s.ok) (hp : IsHash w p s.row rest n)
    (hcell : ∀ i (h : i < b.length), w.cell? ⟨blk, off + i, none⟩ = some (.int .u8 (b[i].toNat : Int))) :
    Calls Try.prog 35 #[.pointer (some ⟨p, 0, none⟩), .slice (some ⟨blk, off, none⟩) 64 cap] w fun e w' => e = .returned (.tuple #[]) ∧ Keeps (fun k => k = p) w w' ∧ IsHash w' p (s.take b).row rest n := by
  have HC := Lib.hid hcell
  have HP := Lib.hid hp
  have HOK := Lib.hid hok
  have hblk : blk < w.heap.size := World.block_lt_of_cell? _ _ (hcell 0 (by omega))
  clear hp hok hcell
  go_enter Try.func35, Try.ntmps35
  go_wp2_with fail
  refine wp_scope_jumps 0 (AtLabel p w.heap.size blk off cap b w) (fun a _ => 64 - (intAt a 5).toNat) rfl ?_ ?_
  · have c0 := HC.out 0 (by omega)
    have c1 := HC.out 1 (by omega)
    have c2 := HC.out 2 (by omega)
    have c3 := HC.out 3 (by omega)
    have l0 := (b[0]'(by omega)).toNat_lt
    have l1 := (b[1]'(by omega)).toNat_lt
    have l2 := (b[2]'(by omega)).toNat_lt
    have l3 := (b[3]'(by omega)).toNat_lt
    have hnext := sched_first b 0 (by omega) (by omega)
    simp only [Nat.mul_zero, Nat.zero_add, Nat.add_zero] at hnext c0
    generalize b[0]'(by omega) = b0 at *
    generalize b[1]'(by omega) = b1 at *
    generalize b[2]'(by omega) = b2 at *
    generalize b[3]'(by omega) = b3 at *
    have HNX := Lib.hid hnext
    clear hnext
    go_wp2_with fail
    have hws : IsWords (w.alloc (.cells (List.replicate 64 (w32 0)).toArray 70 (0, 0))) w.heap.size 70 (sched b 0) := heap_alloc_new w _
    have hbel : Below w.heap.size w (w.alloc (.cells (List.replicate 64 (w32 0)).toArray 70 (0, 0))) := (Below.refl _ _).alloc (Nat.le_refl _) _
    change Code.wp _ _ _ _ (w.alloc (.cells (List.replicate 64 (w32 0)).toArray 70 (0, 0)))
    generalize (w.alloc (.cells (List.replicate 64 (w32 0)).toArray 70 (0, 0))) = w1 at hws hbel ⊢
    replace c0 := (hbel.cell hblk).trans c0
    replace c1 := (hbel.cell hblk).trans c1
    replace c2 := (hbel.cell hblk).trans c2
    replace c3 := (hbel.cell hblk).trans c3
    have d := hws.cell 0 (by rw [sched_length]; omega)
    have f := hws.free 0
    have HWS := Lib.hid hws
    clear hws
    go_step3
    go_wp2_with fail
    have z0 : IntKind.i64.wrap 0 = 0 := by decide
    have z1 : IntKind.i64.wrap 1 = 1 := by decide
    have z2 : IntKind.i64.wrap 2 = 2 := by decide
    have z3 : IntKind.i64.wrap 3 = 3 := by decide
    go_still_tail 35, (by kernel_rfl)
    change wpList _ _ _ _ _ (World.drew w1)
    go_wp2_with fail
    go_step3
    refine ⟨rfl, 1, by omega, ?_, (hbel.setCell (Nat.le_refl _) _).drew, _, _, _, _, _, _, _, _, _, _, _, _, _, _, _, _, _, _, _, _, _, _, _, _, _, _, _, _, _, _, _, _, _, _, _, _, _, _, _, _, _, _, _, _, _, _, _, _, _, _, _, _, _, _, _, _, _, _, _, _, _, _, _, _, _, _, _, _, _, _, _, _, _, _, _, _, _, _, _, _, _, rfl⟩
    rw [HNX.out]
    exact HWS.out.set 0 _
  · rintro a wr ⟨i, hi, hws, hbel, v6, v7, v16, v17, v18, v19, v20, v21, v22, v23, v24, v25, v26, v27, v28, v29, v30, v31, v32, v33, v34, v35, v36, v37, v38, v39, v40, v41, v42, v43, v44, v45, v46, v47, v48, v49, v50, v51, v52, v53, v54, v55, v56, v57, v58, v59, v60, v61, v62, v63, v64, v65, v66, v67, v68, v69, v70, v71, v72, v73, v74, v75, v76, v77, v78, v79, v80, v81, v82, v83, v84, v85, v86, v87, v88, v89, v90, v91, v92, v93, v94, rfl⟩
    by_cases h16 : i < 16
    · refine pass16 p w.heap.size blk off cap w.heap.size b (sched b) w wr i h16 (Nat.le_refl _) hlen (sched_length b) (sched_first b) HC.out hblk hws hbel _ _ _ _ _ _ _ _ _ _ _ _ _ _ _ _ _ _ _ _ _ _ _ _ _ _ _ _ _ _ _ _ _ _ _ _ _ _ _ _ _ _ _ _ _ _ _ _ _ _ _ _ _ _ _ _ _ _ _ _ _ _ _ _ _ _ _ _ _ _ _ _ _ _ _ _ _ _ _ _ _ _ _ ?_ _ (by kernel_rfl)
      intro _ _ _ _ _ _ _ _ _ _ _ _ _ _ _ _ _ _ _ _ _ _ _ _ _ _ _ _ _ _ _ _ _ _ _ _ _ _ _ _ _ _ _ _ _ _ _ _ _ _ _ _ _ _ _ _ _ _ _ _ _ _ _ _ _ _ _ _ _ _ _ _ _ _ _ _ _ _ _ _ _ w' hw' hb'
      exact ⟨⟨i + 1, by omega, hw', hb', _, _, _, _, _, _, _, _, _, _, _, _, _, _, _, _, _, _, _, _, _, _, _, _, _, _, _, _, _, _, _, _, _, _, _, _, _, _, _, _, _, _, _, _, _, _, _, _, _, _, _, _, _, _, _, _, _, _, _, _, _, _, _, _, _, _, _, _, _, _, _, _, _, _, _, _, _, _, _, _, _, rfl⟩, by simp [intAt, intOf]; omega⟩
    · by_cases h63 : i < 63
      · refine passN p w.heap.size blk off cap w.heap.size (sched b) w wr i (by omega) h63 (Nat.le_refl _) (sched_u32 b) (sched_length b) (sched_next b) hws hbel _ _ _ _ _ _ _ _ _ _ _ _ _ _ _ _ _ _ _ _ _ _ _ _ _ _ _ _ _ _ _ _ _ _ _ _ _ _ _ _ _ _ _ _ _ _ _ _ _ _ _ _ _ _ _ _ _ _ _ _ _ _ _ _ _ _ _ _ _ _ _ _ _ _ _ _ _ _ _ _ _ _ _ ?_ _ (by kernel_rfl)
        intro _ _ _ _ _ _ _ _ _ _ _ _ _ _ _ _ _ _ _ _ _ _ _ _ _ _ _ _ _ _ _ _ _ _ _ _ _ _ _ _ _ _ _ _ _ _ _ _ _ _ _ _ _ _ _ _ _ _ _ _ _ _ _ _ _ _ _ _ _ _ _ _ _ _ _ _ _ _ _ _ _ w' hw' hb'
        exact ⟨⟨i + 1, by omega, hw', hb', _, _, _, _, _, _, _, _, _, _, _, _, _, _, _, _, _, _, _, _, _, _, _, _, _, _, _, _, _, _, _, _, _, _, _, _, _, _, _, _, _, _, _, _, _, _, _, _, _, _, _, _, _, _, _, _, _, _, _, _, _, _, _, _, _, _, _, _, _, _, _, _, _, _, _, _, _, _, _, _, _, rfl⟩, by simp [intAt, intOf]; omega⟩
      · refine tail_any p w.heap.size blk off cap w.heap.size (sched b) s rest n w wr i (by omega) (Nat.le_refl _) (sched_u32 b) (sched_length b) (sched_next b) hws hbel rfl HP.out HOK.out _ _ _ _ _ _ _ _ _ _ _ _ _ _ _ _ _ _ _ _ _ _ _ _ _ _ _ _ _ _ _ _ _ _ _ _ _ _ _ _ _ _ _ _ _ _ _ _ _ _ _ _ _ _ _ _ _ _ _ _ _ _ _ _ _ _ _ _ _ _ _ _ _ _ _ _ _ _ _ _ _ _ _ ?_ _ (by kernel_rfl)
        intro tmps w' hk hh
        go_end0
        exact ⟨rfl, hk, hh⟩
end Go.Proofs.Ythkjihfnphdfkaa.Sha
