/- take: the last word, and what stands behind the label. -/
import Derived.Test.YthkjihfnphdfkaaSTake2
import Derived.WalkMore
import Derived.Deep.Cut
import Derived.ScopeJumps
import Derived.StillTailTactics
import Derived.Deep.RegionHeld3
namespace Go.Proofs.Ythkjihfnphdfkaa.Sha
open Go.RowKit

set_option maxRecDepth 100000 in
set_option maxHeartbeats 8000000 in
theorem tail_any (p g blk off cap B : Nat) (W : Nat → List Int) (s : St) (rest : Value) (n : Int) (w wr : World) (i : Nat) (hi63 : i = 63) (hB : B ≤ g)
    (hWr : ∀ i, ∀ x ∈ W i, U32 x) (hW : ∀ i, (W i).length = 64)
    (hWn : ∀ i (h : i < (W i).length), 16 ≤ i → W (i + 1) = (W i).set i (wordI (W i)[i - 16] (W i)[i - 15] (W i)[i - 7] (W i)[i - 2]))
    (hws : IsWords wr g 70 (W i)) (hbel : Below B w wr) (hBw : w.heap.size = B) (hp : IsHash w p s.row rest n) (hok : s.ok)
    (v6 v7 v16 v17 v18 v19 v20 v21 v22 v23 v24 v25 v26 v27 v28 v29 v30 v31 v32 v33 v34 v35 v36 v37 v38 v39 v40 v41 v42 v43 v44 v45 v46 v47 v48 v49 v50 v51 v52 v53 v54 v55 v56 v57 v58 v59 v60 v61 v62 v63 v64 v65 v66 v67 v68 v69 v70 v71 v72 v73 v74 v75 v76 v77 v78 v79 v80 v81 v82 v83 v84 v85 v86 v87 v88 v89 v90 v91 v92 v93 v94 : Value) (Q : Exit → Act → World → Prop) (J : Act → World → Prop)
    (hend : ∀ tmps w', Keeps (fun k => k = p) w w' → IsHash w' p (s.add (St.run keyL (W 64) s 64)).row rest n → Q .normal ⟨tmps, []⟩ w')
    (code : Code) (hcode : code = restCode) : Code.wp Try.prog code (Exit.jump 0 J Q) ⟨(.pointer (some ⟨p, 0, none⟩) :: .slice (some ⟨blk, off, none⟩) 64 cap :: undef :: undef :: .pointer (some ⟨g, 0, none⟩) :: .int .i64 i :: v6 :: v7 :: undef :: undef :: undef :: undef :: undef :: undef :: undef :: undef :: v16 :: v17 :: v18 :: v19 :: v20 :: v21 :: v22 :: v23 :: v24 :: v25 :: v26 :: v27 :: v28 :: v29 :: v30 :: v31 :: v32 :: v33 :: v34 :: v35 :: v36 :: v37 :: v38 :: v39 :: v40 :: v41 :: v42 :: v43 :: v44 :: v45 :: v46 :: v47 :: v48 :: v49 :: v50 :: v51 :: v52 :: v53 :: v54 :: v55 :: v56 :: v57 :: v58 :: v59 :: v60 :: v61 :: v62 :: v63 :: v64 :: v65 :: v66 :: v67 :: v68 :: v69 :: v70 :: v71 :: v72 :: v73 :: v74 :: v75 :: v76 :: v77 :: v78 :: v79 :: v80 :: v81 :: v82 :: v83 :: v84 :: v85 :: v86 :: v87 :: v88 :: v89 :: v90 :: v91 :: v92 :: v93 :: v94 :: undef :: undef :: undef :: undef :: undef :: undef :: undef :: undef :: undef :: undef :: undef :: undef :: undef :: undef :: undef :: undef :: undef :: undef :: undef :: undef :: undef :: undef :: undef :: undef :: undef :: undef :: undef :: undef :: undef :: undef :: undef :: undef :: undef :: undef :: undef :: undef :: undef :: undef :: undef :: undef :: undef :: undef :: undef :: undef :: undef :: undef :: undef :: undef :: undef :: undef :: undef :: undef :: undef :: undef :: undef :: undef :: undef :: undef :: undef :: undef :: undef :: undef :: undef :: undef :: undef :: undef :: undef :: undef :: undef :: undef :: undef :: undef :: undef :: undef :: undef :: undef :: undef :: undef :: undef :: undef :: undef :: undef :: undef :: undef :: undef :: undef :: undef :: undef :: undef :: undef :: undef :: undef :: undef :: undef :: undef :: undef :: undef :: undef :: undef :: undef :: undef :: undef :: []).toArray, []⟩ wr := by
  subst hcode
  have h16 : 16 ≤ i := by omega
  have HW := Lib.hid hW
  have HWR := Lib.hid hWr
  have HWN := Lib.hid hWn
  have HE := Lib.hid hend
  have HP := Lib.hid hp
  have HOK := Lib.hid hok
  have hplt := hp.lt
  rw [hBw] at hplt
  clear hWr hW hWn hend hp hok
  conv => arg 2; whnf
  have hl := HW.out i
  have hiL : i < (W i).length := by omega
  have a15 : i - 15 < (W i).length := by omega
  have a2 : i - 2 < (W i).length := by omega
  have a16 : i - 16 < (W i).length := by omega
  have a7 : i - 7 < (W i).length := by omega
  have c15 := hws.cell (i - 15) a15
  have c2 := hws.cell (i - 2) a2
  have c16 := hws.cell (i - 16) a16
  have c7 := hws.cell (i - 7) a7
  have hnext := HWN.out i hiL (by omega)
  have U15 := Lib.hid (HWR.out i _ (List.getElem_mem a15))
  have U2 := Lib.hid (HWR.out i _ (List.getElem_mem a2))
  generalize (W i)[i - 15] = x15 at *
  generalize (W i)[i - 2] = x2 at *
  generalize (W i)[i - 16] = x16 at *
  generalize (W i)[i - 7] = x7 at *
  have d := hws.cell i hiL
  have f := hws.free i
  have ne16 : (⟨g, i, none⟩ : Addr) ≠ ⟨g, i - 16, none⟩ := by intro e; have := congrArg Addr.off e; simp at this; omega
  have ne7 : (⟨g, i, none⟩ : Addr) ≠ ⟨g, i - 7, none⟩ := by intro e; have := congrArg Addr.off e; simp at this; omega
  have HNX := Lib.hid hnext
  have HWS := Lib.hid hws
  clear hnext hws
  have t15 : ((i : Int) - 15).toNat = i - 15 := by omega
  have t2 : ((i : Int) - 2).toNat = i - 2 := by omega
  have t16 : ((i : Int) - 16).toNat = i - 16 := by omega
  have t7 : ((i : Int) - 7).toNat = i - 7 := by omega
  have l15 : (i : Int) - 15 < 64 := by omega
  have l2 : (i : Int) - 2 < 64 := by omega
  have l16 : (i : Int) - 16 < 64 := by omega
  have l7 : (i : Int) - 7 < 64 := by omega
  have m15 : (15 : Int) ≤ (i : Int) := by omega
  have m2 : (2 : Int) ≤ (i : Int) := by omega
  have m16 : (16 : Int) ≤ (i : Int) := by omega
  have m7 : (7 : Int) ≤ (i : Int) := by omega
  have i0 : (0 : Int) ≤ (i : Int) := by omega
  have i1 : (i : Int) < 64 := by omega
  have e15 : IntKind.i64.wrap ((i : Int) - 15) = (i : Int) - 15 := IntWalk.i64_in _ (by omega)
  have e2 : IntKind.i64.wrap ((i : Int) - 2) = (i : Int) - 2 := IntWalk.i64_in _ (by omega)
  have e16 : IntKind.i64.wrap ((i : Int) - 16) = (i : Int) - 16 := IntWalk.i64_in _ (by omega)
  have e7 : IntKind.i64.wrap ((i : Int) - 7) = (i : Int) - 7 := IntWalk.i64_in _ (by omega)
  have HI := Lib.hid hi63
  clear hi63
  go_wp2_with fail
  go_quiet (fail)
  go_wp2_with fail
  go_region_held3 (fun w' => w'.cell? ⟨g, i - 16, none⟩ = some (.int .u32 x16) ∧ w'.cell? ⟨g, i - 7, none⟩ = some (.int .u32 x7))
    (first | exact ⟨c16, c7⟩ | exact ⟨(World.cell?_setCell_other (h := ne16) ..).trans c16, (World.cell?_setCell_other (h := ne7) ..).trans c7⟩ | go_keep)
    (first | (go_at_call 37; (with_reducible refine (turn_int x15 7 7 rfl (by decide) (by decide) _ U15.out).mono ?_); rintro e wn ⟨rfl, kk, rfl⟩) | (go_at_call 37; (with_reducible refine (turn_int x15 18 18 rfl (by decide) (by decide) _ U15.out).mono ?_); rintro e wn ⟨rfl, kk, rfl⟩) | (go_at_call 37; (with_reducible refine (turn_int x2 17 17 rfl (by decide) (by decide) _ U2.out).mono ?_); rintro e wn ⟨rfl, kk, rfl⟩) | (go_at_call 37; (with_reducible refine (turn_int x2 19 19 rfl (by decide) (by decide) _ U2.out).mono ?_); rintro e wn ⟨rfl, kk, rfl⟩))
  have hi63 := HI.out
  clear HI
  subst hi63
  go_wp2_with fail
  refine (key_any _).mono ?_
  rintro e w2 ⟨rfl, hb2⟩
  have hws2 : IsWords w2 g 70 (W 64) := by
    rw [HNX.out]
    exact ((IsWords.set (w := wr.drewN _) HWS.out 63 _).below hb2 (by
      have := (Array.getElem?_eq_some_iff.1 HWS.out).1
      simpa using this))
  have hgl : g < w2.heap.size := (Array.getElem?_eq_some_iff.1 hws2).1
  have hgr : g < wr.heap.size := (Array.getElem?_eq_some_iff.1 HWS.out).1
  have hbel2 : Below B w w2 := Below.trans ((below_drewN hbel _).setCell hB _) (hb2.mono (by simpa using Nat.le_trans hB (Nat.le_of_lt hgr)))
  clear hb2
  have hkc := Lib.hid key_cells
  have hki := Lib.hid key_info
  generalize hks : (keyL.map w32).toArray = kys at *
  have HKS := Lib.hid hks
  clear hks
  go_wp2_with (refine wpList_store_row_to rfl 70 _ _ rfl w2.heap.size kys rfl rfl 70 _ (heap_alloc_new w2 _) hki.out (by rw [← HKS.out]; kernel_rfl) hkc.out ?_)
  intro w3 hk3 hb3
  have hlt2 : B ≤ w2.heap.size := by omega
  have hw3 : IsWords w3 g 70 (W 64) := (IsWords.alloc hws2 _).below (hb3 _ (Nat.le_refl _)) hgl
  have hbel3 : Below B w w3 := (hbel2.alloc hlt2 _).trans (hb3 _ hlt2)
  have hk3' : IsWords w3 w2.heap.size 70 keyL := by unfold IsWords; rw [HKS.out]; exact hk3
  have hlt3 : w2.heap.size < w3.heap.size := (Array.getElem?_eq_some_iff.1 hk3).1
  have hp3 := HP.out.below hbel3 hplt
  clear hk3 hb3 hws2 hbel2
  generalize w2.heap.size = kk at *
  clear hkc hki HKS
  have HW3 := Lib.hid hw3
  have HK3 := Lib.hid hk3'
  have HP3 := Lib.hid hp3
  clear hw3 hk3' hp3
  obtain ⟨sa, sb, sc, sd, se, sf, sg, sh⟩ := s
  have d0 := HP3.out.cell 0 (by simp [St.row])
  have d1 := HP3.out.cell 1 (by simp [St.row])
  have d2 := HP3.out.cell 2 (by simp [St.row])
  have d3 := HP3.out.cell 3 (by simp [St.row])
  have d4 := HP3.out.cell 4 (by simp [St.row])
  have d5 := HP3.out.cell 5 (by simp [St.row])
  have d6 := HP3.out.cell 6 (by simp [St.row])
  have d7 := HP3.out.cell 7 (by simp [St.row])
  simp only [St.row, List.getElem_cons_zero, List.getElem_cons_succ] at d0 d1 d2 d3 d4 d5 d6 d7
  go_wp2_with fail
  refine rounds_any g kk w3.heap.size (W 64) keyL ⟨sa, sb, sc, sd, se, sf, sg, sh⟩ HOK.out (HW.out 64) (by kernel_rfl) (by omega) (by omega) _ B (by omega) ?_ ?_ ?_ _ _ _ _ _ _ _ _ _ _ _ _ _ _ _ _ _ _ _ _ _ _ _ _ _ _ _ _ _ _ _ _ _ _ _ _ _ _ _ _ _ _ _ _ _ _ _ _ _ _ _ _ _ _ _ _ _ _ _ _ _ _ _ _ _ _ _ _ _ _ _ _ _ _ _ _ _ _ _ _ _ _ _ _ _ _ _ _ _ _ _ _ _ _ _ _ _ _ _ _ _ _ _ _ _ _ _ _ _ _ _ _ _ _ _ _ _ _ _ _ _ _ _ _ _ _ _ _ _ _ _ _ _ _ _ _ _ _ _ _ _ _ _ _ _ _ _ _ _ _ _ _ _ _ _ _ _ _ _ _ _ _ _ _ _ _ _ _ _ _ _ _ _ _ _ _ _ _ _ _ _ _ _ _ _ _ _ _ _ _ _ _ _ _ ?_ _ (by kernel_rfl)
  · exact HW3.out.alloc _
  · exact HK3.out.alloc _
  · exact heap_alloc_new w3 _
  intro _ _ _ _ _ _ _ _ _ _ _ _ _ _ _ _ _ _ _ _ _ _ _ _ _ _ _ _ _ _ _ _ _ _ _ _ _ _ _ _ _ _ _ _ _ _ _ _ _ _ _ _ _ _ _ _ _ _ _ _ _ _ _ _ _ _ _ _ _ _ _ _ _ _ _ _ _ _ _ _ _ _ _ _ w4 hb4 hs4
  have hkeep4 : Keeps (fun k => k = p) w w4 := Keeps.of_below (by rw [hBw]; exact ((hbel3.alloc (by omega) _)).trans hb4)
  have hp4 : IsHash w4 p (St.row ⟨sa, sb, sc, sd, se, sf, sg, sh⟩) rest n := (HP3.out.below ((Below.refl w3.heap.size w3).alloc (Nat.le_refl _) _) HP3.out.lt).below hb4 hplt
  have HK4 := Lib.hid hkeep4
  have HP4 := Lib.hid hp4
  have HS4 := Lib.hid hs4
  have hne : p ≠ w3.heap.size := Nat.ne_of_lt HP3.out.lt
  generalize w3.heap.size = ss at *
  clear hkeep4 hp4 hs4 hb4
  go_wp2_with fail
  refine adds_any p ss ⟨sa, sb, sc, sd, se, sf, sg, sh⟩ _ rest n hne w4 HP4.out HS4.out _ _ _ _ _ _ _ _ _ _ _ _ _ _ _ _ _ _ _ _ _ _ _ _ _ _ _ _ _ _ _ _ _ _ _ _ _ _ _ _ _ _ _ _ _ _ _ _ _ _ _ _ _ _ _ _ _ _ _ _ _ _ _ _ _ _ _ _ _ _ _ _ _ _ _ _ _ _ _ _ _ _ _ _ _ _ _ _ _ _ _ _ _ _ _ _ _ _ _ _ _ _ _ _ _ _ _ _ _ _ _ _ _ _ _ _ _ _ _ _ _ _ _ _ _ _ _ _ _ _ _ _ _ _ _ _ _ _ _ _ _ _ _ _ _ _ _ _ _ _ _ _ _ _ _ _ _ _ _ _ _ _ _ _ _ _ _ _ _ _ _ _ _ _ _ _ _ _ _ _ _ _ _ _ _ _ _ _ _ _ _ _ _ _ _ ?_ _ (by kernel_rfl)
  intro _ _ _ _ _ _ _ _ _ _ _ _ _ _ _ _ _ w5 hk5 hp5
  have HF := Lib.hid (HE.out · w5 (HK4.out.trans' hk5) hp5)
  clear hk5 hp5
  go_wp2_with fail
  exact HF.out _
end Go.Proofs.Ythkjihfnphdfkaa.Sha
