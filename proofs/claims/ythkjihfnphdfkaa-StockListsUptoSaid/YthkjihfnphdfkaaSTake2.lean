/- take: the further words. -/
import Derived.Test.YthkjihfnphdfkaaSTake1
import Derived.WalkMore
import Derived.Deep.Cut
import Derived.ScopeJumps
import Derived.StillTailTactics
import Derived.Deep.RegionHeld3
namespace Go.Proofs.Ythkjihfnphdfkaa.Sha
open Go.RowKit

set_option maxRecDepth 100000 in
set_option maxHeartbeats 1600000 in
theorem passN (p g blk off cap B : Nat) (W : Nat → List Int) (w wr : World) (i : Nat) (h16 : 16 ≤ i) (h63 : i < 63) (hB : B ≤ g)
    (hWr : ∀ i, ∀ x ∈ W i, U32 x) (hW : ∀ i, (W i).length = 64)
    (hWn : ∀ i (h : i < (W i).length), 16 ≤ i → W (i + 1) = (W i).set i (wordI (W i)[i - 16] (W i)[i - 15] (W i)[i - 7] (W i)[i - 2]))
    (hws : IsWords wr g 70 (W i)) (hbel : Below B w wr)
    (v6 v7 v16 v17 v18 v19 v20 v21 v22 v23 v24 v25 v26 v27 v28 v29 v30 v31 v32 v33 v34 v35 v36 v37 v38 v39 v40 v41 v42 v43 v44 v45 v46 v47 v48 v49 v50 v51 v52 v53 v54 v55 v56 v57 v58 v59 v60 v61 v62 v63 v64 v65 v66 v67 v68 v69 v70 v71 v72 v73 v74 v75 v76 v77 v78 v79 v80 v81 v82 v83 v84 v85 v86 v87 v88 v89 v90 v91 v92 v93 v94 : Value) (Q : Exit → Act → World → Prop) (J : Act → World → Prop)
    (hJ : ∀ x6 x7 x16 x17 x18 x19 x20 x21 x22 x23 x24 x25 x26 x27 x28 x29 x30 x31 x32 x33 x34 x35 x36 x37 x38 x39 x40 x41 x42 x43 x44 x45 x46 x47 x48 x49 x50 x51 x52 x53 x54 x55 x56 x57 x58 x59 x60 x61 x62 x63 x64 x65 x66 x67 x68 x69 x70 x71 x72 x73 x74 x75 x76 x77 x78 x79 x80 x81 x82 x83 x84 x85 x86 x87 x88 x89 x90 x91 x92 x93 x94 w', IsWords w' g 70 (W (i + 1)) → Below B w w' → J ⟨(.pointer (some ⟨p, 0, none⟩) :: .slice (some ⟨blk, off, none⟩) 64 cap :: undef :: undef :: .pointer (some ⟨g, 0, none⟩) :: .int .i64 ((i + 1 : Nat) : Int) :: x6 :: x7 :: undef :: undef :: undef :: undef :: undef :: undef :: undef :: undef :: x16 :: x17 :: x18 :: x19 :: x20 :: x21 :: x22 :: x23 :: x24 :: x25 :: x26 :: x27 :: x28 :: x29 :: x30 :: x31 :: x32 :: x33 :: x34 :: x35 :: x36 :: x37 :: x38 :: x39 :: x40 :: x41 :: x42 :: x43 :: x44 :: x45 :: x46 :: x47 :: x48 :: x49 :: x50 :: x51 :: x52 :: x53 :: x54 :: x55 :: x56 :: x57 :: x58 :: x59 :: x60 :: x61 :: x62 :: x63 :: x64 :: x65 :: x66 :: x67 :: x68 :: x69 :: x70 :: x71 :: x72 :: x73 :: x74 :: x75 :: x76 :: x77 :: x78 :: x79 :: x80 :: x81 :: x82 :: x83 :: x84 :: x85 :: x86 :: x87 :: x88 :: x89 :: x90 :: x91 :: x92 :: x93 :: x94 :: undef :: undef :: undef :: undef :: undef :: undef :: undef :: undef :: undef :: undef :: undef :: undef :: undef :: undef :: undef :: undef :: undef :: undef :: undef :: undef :: undef :: undef :: undef :: undef :: undef :: undef :: undef :: undef :: undef :: undef :: undef :: undef :: undef :: undef :: undef :: undef :: undef :: undef :: undef :: undef :: undef :: undef :: undef :: undef :: undef :: undef :: undef :: undef :: undef :: undef :: undef :: undef :: undef :: undef :: undef :: undef :: undef :: undef :: undef :: undef :: undef :: undef :: undef :: undef :: undef :: undef :: undef :: undef :: undef :: undef :: undef :: undef :: undef :: undef :: undef :: undef :: undef :: undef :: undef :: undef :: undef :: undef :: undef :: undef :: undef :: undef :: undef :: undef :: undef :: undef :: undef :: undef :: undef :: undef :: undef :: undef :: undef :: undef :: undef :: undef :: undef :: undef :: []).toArray, []⟩ w')
    (code : Code) (hcode : code = restCode) : Code.wp Try.prog code (Exit.jump 0 J Q) ⟨(.pointer (some ⟨p, 0, none⟩) :: .slice (some ⟨blk, off, none⟩) 64 cap :: undef :: undef :: .pointer (some ⟨g, 0, none⟩) :: .int .i64 i :: v6 :: v7 :: undef :: undef :: undef :: undef :: undef :: undef :: undef :: undef :: v16 :: v17 :: v18 :: v19 :: v20 :: v21 :: v22 :: v23 :: v24 :: v25 :: v26 :: v27 :: v28 :: v29 :: v30 :: v31 :: v32 :: v33 :: v34 :: v35 :: v36 :: v37 :: v38 :: v39 :: v40 :: v41 :: v42 :: v43 :: v44 :: v45 :: v46 :: v47 :: v48 :: v49 :: v50 :: v51 :: v52 :: v53 :: v54 :: v55 :: v56 :: v57 :: v58 :: v59 :: v60 :: v61 :: v62 :: v63 :: v64 :: v65 :: v66 :: v67 :: v68 :: v69 :: v70 :: v71 :: v72 :: v73 :: v74 :: v75 :: v76 :: v77 :: v78 :: v79 :: v80 :: v81 :: v82 :: v83 :: v84 :: v85 :: v86 :: v87 :: v88 :: v89 :: v90 :: v91 :: v92 :: v93 :: v94 :: undef :: undef :: undef :: undef :: undef :: undef :: undef :: undef :: undef :: undef :: undef :: undef :: undef :: undef :: undef :: undef :: undef :: undef :: undef :: undef :: undef :: undef :: undef :: undef :: undef :: undef :: undef :: undef :: undef :: undef :: undef :: undef :: undef :: undef :: undef :: undef :: undef :: undef :: undef :: undef :: undef :: undef :: undef :: undef :: undef :: undef :: undef :: undef :: undef :: undef :: undef :: undef :: undef :: undef :: undef :: undef :: undef :: undef :: undef :: undef :: undef :: undef :: undef :: undef :: undef :: undef :: undef :: undef :: undef :: undef :: undef :: undef :: undef :: undef :: undef :: undef :: undef :: undef :: undef :: undef :: undef :: undef :: undef :: undef :: undef :: undef :: undef :: undef :: undef :: undef :: undef :: undef :: undef :: undef :: undef :: undef :: undef :: undef :: undef :: undef :: undef :: undef :: []).toArray, []⟩ wr := by
  subst hcode
  have HW := Lib.hid hW
  have HWR := Lib.hid hWr
  have HWN := Lib.hid hWn
  have HJ := Lib.hid hJ
  clear hWr hW hWn hJ
  conv => arg 2; whnf
  have hl := HW.out i
  have hiL : i < (W i).length := by omega
  have a15 : i - 15 < (W i).length := by omega
  have a2 : i - 2 < (W i).length := by omega
  have a16 : i - 16 < (W i).length := by omega
  have a7 : i - 7 < (W i).length := by omega
  have c15 := hws.cell (i - 15) a15
  have c2 := hws.cell (i - 2) a2
  have c16 := hws.cell (i - 16) a16
  have c7 := hws.cell (i - 7) a7
  have hnext := HWN.out i hiL (by omega)
  have U15 := Lib.hid (HWR.out i _ (List.getElem_mem a15))
  have U2 := Lib.hid (HWR.out i _ (List.getElem_mem a2))
  generalize (W i)[i - 15] = x15 at *
  generalize (W i)[i - 2] = x2 at *
  generalize (W i)[i - 16] = x16 at *
  generalize (W i)[i - 7] = x7 at *
  have d := hws.cell i hiL
  have f := hws.free i
  have ne16 : (⟨g, i, none⟩ : Addr) ≠ ⟨g, i - 16, none⟩ := by intro e; have := congrArg Addr.off e; simp at this; omega
  have ne7 : (⟨g, i, none⟩ : Addr) ≠ ⟨g, i - 7, none⟩ := by intro e; have := congrArg Addr.off e; simp at this; omega
  have HNX := Lib.hid hnext
  have HWS := Lib.hid hws
  clear hnext hws
  have t15 : ((i : Int) - 15).toNat = i - 15 := by omega
  have t2 : ((i : Int) - 2).toNat = i - 2 := by omega
  have t16 : ((i : Int) - 16).toNat = i - 16 := by omega
  have t7 : ((i : Int) - 7).toNat = i - 7 := by omega
  have l15 : (i : Int) - 15 < 64 := by omega
  have l2 : (i : Int) - 2 < 64 := by omega
  have l16 : (i : Int) - 16 < 64 := by omega
  have l7 : (i : Int) - 7 < 64 := by omega
  have m15 : (15 : Int) ≤ (i : Int) := by omega
  have m2 : (2 : Int) ≤ (i : Int) := by omega
  have m16 : (16 : Int) ≤ (i : Int) := by omega
  have m7 : (7 : Int) ≤ (i : Int) := by omega
  have i0 : (0 : Int) ≤ (i : Int) := by omega
  have i1 : (i : Int) < 64 := by omega
  have e15 : IntKind.i64.wrap ((i : Int) - 15) = (i : Int) - 15 := IntWalk.i64_in _ (by omega)
  have e2 : IntKind.i64.wrap ((i : Int) - 2) = (i : Int) - 2 := IntWalk.i64_in _ (by omega)
  have e16 : IntKind.i64.wrap ((i : Int) - 16) = (i : Int) - 16 := IntWalk.i64_in _ (by omega)
  have e7 : IntKind.i64.wrap ((i : Int) - 7) = (i : Int) - 7 := IntWalk.i64_in _ (by omega)
  go_wp2_with fail
  go_quiet (fail)
  go_wp2_with fail
  go_region_held3 (fun w' => w'.cell? ⟨g, i - 16, none⟩ = some (.int .u32 x16) ∧ w'.cell? ⟨g, i - 7, none⟩ = some (.int .u32 x7))
    (first | exact ⟨c16, c7⟩ | exact ⟨(World.cell?_setCell_other (h := ne16) ..).trans c16, (World.cell?_setCell_other (h := ne7) ..).trans c7⟩ | go_keep)
    (first | (go_at_call 37; (with_reducible refine (turn_int x15 7 7 rfl (by decide) (by decide) _ U15.out).mono ?_); rintro e wn ⟨rfl, kk, rfl⟩) | (go_at_call 37; (with_reducible refine (turn_int x15 18 18 rfl (by decide) (by decide) _ U15.out).mono ?_); rintro e wn ⟨rfl, kk, rfl⟩) | (go_at_call 37; (with_reducible refine (turn_int x2 17 17 rfl (by decide) (by decide) _ U2.out).mono ?_); rintro e wn ⟨rfl, kk, rfl⟩) | (go_at_call 37; (with_reducible refine (turn_int x2 19 19 rfl (by decide) (by decide) _ U2.out).mono ?_); rintro e wn ⟨rfl, kk, rfl⟩))
  go_wp2_with fail
  go_step3
  exact ⟨rfl, HJ.out _ _ _ _ _ _ _ _ _ _ _ _ _ _ _ _ _ _ _ _ _ _ _ _ _ _ _ _ _ _ _ _ _ _ _ _ _ _ _ _ _ _ _ _ _ _ _ _ _ _ _ _ _ _ _ _ _ _ _ _ _ _ _ _ _ _ _ _ _ _ _ _ _ _ _ _ _ _ _ _ _ _ (by rw [HNX.out]; exact IsWords.set (w := wr.drewN _) HWS.out i _) ((below_drewN hbel _).setCell hB _)⟩
end Go.Proofs.Ythkjihfnphdfkaa.Sha
