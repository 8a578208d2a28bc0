/- Commit: a ledger that is dead. (PRINTED by genl24.py out of L18.) -/
import Derived.Test.YthfncgbkigmmcaaFormL
namespace Go.Proofs.Ythfncgbkigmmcaa
open Go.RowKit Go.Maps

variable {w w' w1 wr : World} {O R O1 R1 : Nat → Prop} {lp p : Nat} {d D : DS} {dead dead1 : Bool}
def DAt (w : World) (O R : Nat → Prop) (lp p : Nat) (d : DS) (wr : World) : Prop :=
  LedO wr O R lp p d true ∧ Turned (w.alloc (.cells #[.int .i64 0] 31)) wr O R O R
theorem DAt.below (h : DAt w O R lp p d wr) (hb : Below wr.heap.size wr w1) : DAt w O R lp p d w1 := ⟨h.1.below hb, h.2.trans (Turned.of_below hb O R)⟩
theorem DAt.bad (h0 : LedO w O R lp p d dead) (h : DAt w O R lp p d wr) {fn : Func} {tmps : Array Value} (hr : fn.results = #[.cell 4 31]) (h4 : tmps.getD 4 undef = .pointer (some ⟨w.heap.size, 0, none⟩)) :
    Leaves Try.prog fn tmps (fun e w' => e = .returned (.int .i64 11) ∧ Gone w w' O R lp p d) [defd lp w.heap.size] (.panicking (stopP 11)) wr := by
  obtain ⟨e1, e2, e3, e4⟩ := h0.fresh h.2
  have hne : lp ≠ w.heap.size := fun e => by have := h0.lt lp h0.own; omega
  have hc : wr.cell? ⟨w.heap.size, 0, none⟩ = some (.int .i64 0) := by rw [cell_of_row wr _ 0 _ _ _ e1]; rfl
  refine leaves_off h.1.c1 (h.1.fr 1) hc (frozen_of_row wr _ 0 _ _ e1) hne ?_
  exact ⟨_, results_err hr _ _ w.heap.size 11 h4 (cell_11 wr lp _ _ _ hc hne), rfl, _, _, h0.gone h.2 h.1 _⟩
set_option maxRecDepth 20000 in
set_option maxHeartbeats 6400000 in
theorem commit_dead (h : LedO w O R lp p d true) (ps : List (Nat × Bs)) (v : Value) (hp : PutsF w O v ps) (hok : PutOk d.n ps) (hn2 : d.n ≤ 4096) :
    Calls Try.prog 15 #[.pointer (some ⟨lp, 0, none⟩), v] w fun e w' => e = .returned (.int .i64 11) ∧ Gone w w' O R lp p d := by
  obtain ⟨a, cap, rfl, _⟩ := id hp
  have hmm := @run_makeMap Try.prog
  have H0 := Lib.hid h
  have HP := Lib.hid hp
  have HOK := Lib.hid hok
  obtain ⟨X, hX⟩ : ∃ X, X = Obj.cells #[Value.int .i64 0] 31 (0, 0) := ⟨_, rfl⟩
  have A0 : Hid (DAt w O R lp p d (w.alloc X)) := ⟨h.below (by rw [hX]; exact (Below.refl _ _).alloc (Nat.le_refl _) _), by rw [hX]; exact Turned.refl _ _ _⟩
  have L1 : ¬ (ps.length : Int) < 1 := by have := hok.1; omega
  have L2 : ¬ (40 : Int) < (ps.length : Int) := by have := hok.2.1; omega
  have L3 : (ps.length : Int) ≤ 40 := by omega
  have L4 := hok.2.1
  clear h hp hok
  have HXX := Lib.hid hX
  go_enter_defers Try.func15, Try.ntmps15
  go_wp2_with fail
  go_loopw [27] (fun i wr => ∃ k : Nat, k ≤ ps.length ∧ i = .int .i64 k ∧ OwnSeen wr (w.heap.size + 1) k ((ps.map (·.1)).take k) ∧ Below (w.heap.size + 1) (w.alloc X) wr) (fun i _ => ps.length - (intOf i).toNat)
  case atStart =>
    refine ⟨0, Nat.zero_le _, rfl, ?_, by rw [hX]; exact (Below.refl _ _).alloc (by simp) _⟩
    have := World.ownsMap_made (H := Unit) (w.alloc X) Try.prog 3 (plainElem Try.prog 3)
    rw [World.size_alloc, hX] at this
    exact this
  case round =>
    obtain ⟨k, hk, rfl, hown, hb⟩ := hrel
    have hbw : Below w.heap.size w wr := ((Below.refl _ w).alloc (Nat.le_refl _) X).trans (hb.mono (by omega))
    have k0 : (0 : Int) ≤ (k : Int) := by omega
    by_cases hlt : k < ps.length
    · have k1 : (k : Int) < (ps.length : Int) := by omega
      obtain ⟨g, off, g0, off0, cap0, e1, hc1, hc2, _, _⟩ := (HP.out.below HOK.out hbw).at k hlt
      subst e1
      have hat : ps[k].1 + 96 < d.n := (HOK.out.2.2.2 _ (List.getElem_mem hlt)).1
      have hnew : ps[k].1 ∉ (ps.map (·.1)).take k := by
        have hnd := HOK.out.2.2.1
        intro hin
        rw [List.mem_take_iff_getElem] at hin
        obtain ⟨j, hj, e⟩ := hin
        have hj2 : j < k := by simp at hj; omega
        have := (List.getElem_inj (i := j) (j := k) (h₀ := by simp; omega) (h₁ := by simp; omega) hnd).1 (by rw [e]; simp)
        omega
      have HSN : Hid ((ps.map (·.1)).take (k + 1) = (ps.map (·.1)).take k ++ [ps[k].1]) := by
        show _ = _
        rw [List.take_succ_eq_append_getElem (by simp; omega)]
        simp
      generalize ps[k].1 = x at *
      have HLK : ∀ o, (Instr.lookup 70 (.map (some (w.heap.size + 1))) (.int .i64 (x : Int)) false).run Try.prog (wr.alloc o) = .ok (.int .i64 0) (wr.alloc o) := fun o => seen_look (World.ownsMap.alloc hown o) hnew (by omega)
      have HOWN : Hid (∀ o, (wr.alloc o).ownsMap Try.prog 3 (plainElem Try.prog 3) (w.heap.size + 1) k (mapD ((ps.map (·.1)).take k))) := fun o => World.ownsMap.alloc hown o
      have HKY : Hid (keyOf Try.prog 3 (.int .i64 (x : Int)) = some (.int .i64 (x : Int))) := keyOf_int_mk (a := (x : Int)) Try.underlying3 (WalkArith.wf_i64 (by omega))
      have HB := Lib.hid hb
      clear hown hb hbw hnew
      go_wp2_with (at_mapUpdate; refine wpList_mapUpdate_own _ rfl _ _ _ 70 rfl 3 3 keyed3 Try.underlying70 _ (w.heap.size + 1) k _ rfl (HOWN.out _) (by unfold maxLen; omega) _ _ _ rfl rfl HKY.out _ [] (plainElem_int Try.underlying3 (WalkArith.wf_i64 (by decide))) ?_)
      intro w2 hown2 hgrow2
      have HB2 : Hid (Below (w.heap.size + 1) (w.alloc X) w2) := (HB.out.alloc (by have := HB.out.size; simp at this; omega) _).grown hgrow2 (by have := HB.out.size; simp at this; simp; omega) (fun j e => by cases e; exact Nat.le_refl _)
      have HO2 : Hid (OwnSeen w2 (w.heap.size + 1) (k + 1) ((ps.map (·.1)).take (k + 1))) := by
        show OwnSeen _ _ _ _
        rw [HSN.out, OwnSeen, mapD_snoc]
        exact hown2
      clear hown2 hgrow2 HLK
      go_wp2_with fail
      go_roundw
      case rel => exact ⟨k + 1, by omega, by go_num, HO2.out, HB2.out⟩
      case measure => simp [intOf]; omega
    · obtain rfl : k = ps.length := by omega
      obtain ⟨wA, hwA⟩ : ∃ x, x = wr := ⟨_, rfl⟩
      subst hwA
      have HB := Lib.hid hb
      have HBW := Lib.hid hbw
      clear hown hb hbw
      obtain ⟨i0, hi, hz0, hz1, hz2⟩ := info_parts infoI
      have HI := Lib.hid (And.intro hi (And.intro hz0 (And.intro hz1 hz2)))
      clear hi hz0 hz1 hz2
      have HBA : Hid (∀ (W : World) (o : Obj), Below W.heap.size W (W.alloc o)) := fun W o => (Below.refl W.heap.size W).alloc (Nat.le_refl _) o
      have hone : ∀ (x : Int), ∀ u ∈ [Value.int .i64 x], u.oneCell' = true := fun x u hu => by rw [List.mem_singleton] at hu; subst hu; rfl
      have HONE := Lib.hid hone
      clear hone
      have HWS : Hid (w.heap.size + 1 ≤ wA.heap.size) := by have := HB.out.size; simp at this; show _ ≤ _; omega
      go_wp2_with fail
      go_loopw [8, 50] (fun l i w3 => ∃ k : Nat, k ≤ ps.length ∧ i = .int .i64 k ∧ w3.ownsRow wA.heap.size 3 1 l k (natsV ((ps.map (·.1)).take k)) ∧ Below wA.heap.size wA w3) (fun _ i _ => ps.length - (intOf i).toNat)
      case atStart => exact ⟨0, Nat.zero_le _, rfl, World.ownsRow_nil _ _ _ _, Below.refl _ _⟩
      case round =>
        obtain ⟨k, hk, rfl, hown, hb⟩ := hrel
        have k0 : (0 : Int) ≤ (k : Int) := by omega
        obtain ⟨va, vc, hv⟩ := row_len hown
        subst hv
        have HROW := Lib.hid hown
        have HB3 := Lib.hid hb
        have HBW3 : Hid (Below w.heap.size w wr) := HBW.out.trans (hb.mono HBW.out.size)
        have hsz := hb.size
        clear hown hb
        by_cases hlt : k < ps.length
        · have k1 : (k : Int) < (ps.length : Int) := by omega
          obtain ⟨g, off, g0, off0, cap0, e1, hc1, hc2, _, _⟩ := (HP.out.below HOK.out HBW3.out).at k hlt
          subst e1
          have hat : ps[k].1 + 96 < d.n := (HOK.out.2.2.2 _ (List.getElem_mem hlt)).1
          have HSN : Hid (natsV ((ps.map (·.1)).take (k + 1)) = natsV ((ps.map (·.1)).take k) ++ [.int .i64 (ps[k].1 : Int)]) := by
            show _ = _
            rw [List.take_succ_eq_append_getElem (by simp; omega)]
            simp [natsV]
          generalize ps[k].1 = x at *
          have L5 : Hid (k + 1 ≤ maxLen) := by show _ ≤ _; unfold maxLen; omega
          have L6 : Hid ((k + 1) * 8 ≤ 140737488355328) := by show _ ≤ _; omega
          have x0 : ¬ (x : Int) < 0 := by omega
          have x1 : ¬ (d.n : Int) - 96 ≤ (x : Int) := by omega
          have HLB := Lib.hid (fun W (hW : Below w.heap.size w W) => lblocks_any (H0.out.below hW))
          go_wp2_with fail
          obtain ⟨Y, hY⟩ : ∃ Y, Y = wr.alloc (Obj.cells #[Value.int .i64 (x : Int), Value.slice (some ⟨g0, off0, none⟩) 512 cap0] 26 (0, 0)) := ⟨_, rfl⟩
          rw [← hY]
          have hyc : ∀ W, Below Y.heap.size Y W → W.cell? ⟨wr.heap.size, 0, none⟩ = some (.int .i64 (x : Int)) := fun W hW => by
            rw [hW.cell (by rw [hY]; simp), hY]
            simp [go_sem]
          have HYB : Hid (Below wr.heap.size wr Y) := by rw [hY]; exact (Below.refl _ _).alloc (Nat.le_refl _) _
          have HYC := Lib.hid hyc
          have HS0 : Hid (Below Y.heap.size Y Y.drew) := (Below.refl _ _).drew
          clear hY hyc
          refine wp_region_noPanic ?_
          refine wp_region_ord [0, 1, 2, 3, 4, 5, 6, 7, 8, 9] (fun W => W.cell? ⟨wr.heap.size, 0, none⟩ = some (.int .i64 (x : Int)) ∧ Below Y.heap.size Y W) (by kernel_rfl) (by kernel_rfl) rfl (by kernel_rfl) (fun _ _ _ _ _ h => h) ⟨HYC.out _ HS0.out, HS0.out⟩ ?_
          repeat (apply held_run rfl (by rfl) (by rfl); (intro w hSw; go_simp; with_reducible rfl); (try simp only [Act.put, List.setIfInBounds_toArray, List.set_cons_zero, List.set_cons_succ]))
          refine held_step rfl (by rfl) (by rfl) (fun K hK => ?_)
          go_simp
          have HYW : Hid (Below w.heap.size w Y.drew) := HBW3.out.trans ((HYB.out.trans (HS0.out.mono HYB.out.size)).mono HBW3.out.size)
          refine (HLB.out _ HYW.out).mono ?_
          rintro e w4 ⟨rfl, rfl⟩
          refine hK.out _ _ (⟨HYC.out _ HS0.out, HS0.out⟩) (fun _ => ?_)
          clear hK K
          (try simp only [Act.put, List.setIfInBounds_toArray, List.set_cons_zero, List.set_cons_succ])
          repeat (apply held_run rfl (by rfl) (by rfl); (intro w hSw; go_simp; with_reducible rfl); (try simp only [Act.put, List.setIfInBounds_toArray, List.set_cons_zero, List.set_cons_succ]))
          refine held_nil (NoPanic.normal ?_)
          have hyc1 := HYC.out _ (Below.refl _ _)
          have HRY : Hid (Y.drew.ownsRow wA.heap.size 3 1 (.slice va k vc) k (natsV ((ps.map (·.1)).take k))) := owns_below HROW.out (HYB.out.trans (HS0.out.mono HYB.out.size))
          have HYA : Hid (Below wA.heap.size wA Y.drew) := HB3.out.trans ((HYB.out.trans (HS0.out.mono HYB.out.size)).mono HB3.out.size)
          have hys : wA.heap.size ≤ Y.heap.size := by have := HYA.out.size; simpa using this
          go_wp2_with (at_builtin; refine wpList_append_rowAt rfl (.tmp 64) (.tmp 67) 46 rfl wA.heap.size 3 i0 (.int .i64 0) 8 Try.underlying46 HI.out.1 HI.out.2.1 HI.out.2.2.1 HI.out.2.2.2 rfl _ k _ rfl (owns_below HRY.out (HBA.out _ _)) _ [.int .i64 (x : Int)] rfl (.inl (row_new Y.drew #[.int .i64 (x : Int)] 3 (0, 0) 1 (Nat.le_refl _))) (HONE.out _) L5.out L6.out (by simp; omega) ?_)
          intro v2 w4 hown2 hgrow2 _
          have HB4 : Hid (Below wA.heap.size wA w4) := (HYA.out.trans ((HBA.out _ _).mono (by simpa using hys))).grown hgrow2 (by simp; omega) (fun j e => (HROW.out.lt j e).1)
          have HROW2 : Hid (w4.ownsRow wA.heap.size 3 1 v2 (k + 1) (natsV ((ps.map (·.1)).take (k + 1)))) := by
            show World.ownsRow _ _ _ _ _ _ _
            rw [HSN.out]
            exact hown2
          clear hown2 hgrow2
          go_wp2_with fail
          go_roundw
          case rel => exact ⟨k + 1, by omega, by go_num, HROW2.out, HB4.out⟩
          case measure => simp [intOf]; omega
        · obtain rfl : k = ps.length := by omega
          have AB : Hid (DAt w O R lp p d wr) := A0.out.below ((HB.out.mono (by simp)).trans (HB3.out.mono (by have := HWS.out; simp; omega)))
          have HAW := Lib.hid (awake_dead AB.out.1)
          clear HROW HI
          go_wp2_with fail
          refine (HAW.out).mono ?_
          rintro e w3 ⟨rfl, rfl⟩
          go_wp2_with fail
          exact AB.out.bad H0.out rfl rfl
end Go.Proofs.Ythfncgbkigmmcaa
