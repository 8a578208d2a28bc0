/- Commit. -/
import Derived.Test.YthfncgbkigmmcaaL17
namespace Go.Proofs.Ythfncgbkigmmcaa
open Go.RowKit Go.Maps

variable {w w' w1 wr : World} {O R O1 R1 : Nat → Prop} {lp p : Nat} {d D : DS} {dead dead1 : Bool}
set_option maxRecDepth 20000 in
set_option maxHeartbeats 6400000 in
theorem commit_any (h : LedO w O R lp p d false) (ps : List (Nat × Bs)) (v : Value) (hp : PutsF w O v ps) (hok : PutOk d.n ps) (hn2 : d.n ≤ 4096) (hr : Room 200 d) :
    Calls Try.prog 15 #[.pointer (some ⟨lp, 0, none⟩), v] w fun e w' => CEnds w O R lp p (runL (commOps ps) d) e w' := by
  obtain ⟨a, cap, rfl, _⟩ := id hp
  have hmm := @run_makeMap Try.prog
  have H0 := Lib.hid h
  have HP := Lib.hid hp
  have HOK := Lib.hid hok
  generalize hZ : runL (commOps ps) d = Z
  have HZ := Lib.hid hZ
  obtain ⟨X, hX⟩ : ∃ X, X = Obj.cells #[Value.int .i64 0] 31 (0, 0) := ⟨_, rfl⟩
  have A0 : Hid (CAt w O R lp p d.n 200 d O R (w.alloc X)) := ⟨h.below (by rw [hX]; exact (Below.refl _ _).alloc (Nat.le_refl _) _), by rw [hX]; exact Turned.refl _ _ _, rfl, hr⟩
  have L1 : ¬ (ps.length : Int) < 1 := by have := hok.1; omega
  have L2 : ¬ (40 : Int) < (ps.length : Int) := by have := hok.2.1; omega
  have L3 : (ps.length : Int) ≤ 40 := by omega
  have L4 := hok.2.1
  clear hZ h hp hok hr
  have HXX := Lib.hid hX
  go_enter_defers Try.func15, Try.ntmps15
  go_wp2_with fail
  go_loopw [27] (fun i wr => ∃ k : Nat, k ≤ ps.length ∧ i = .int .i64 k ∧ OwnSeen wr (w.heap.size + 1) k ((ps.map (·.1)).take k) ∧ Below (w.heap.size + 1) (w.alloc X) wr) (fun i _ => ps.length - (intOf i).toNat)
  case atStart =>
    refine ⟨0, Nat.zero_le _, rfl, ?_, by rw [hX]; exact (Below.refl _ _).alloc (by simp) _⟩
    have := World.ownsMap_made (H := Unit) (w.alloc X) Try.prog 3 (plainElem Try.prog 3)
    rw [World.size_alloc, hX] at this
    exact this
  case round =>
    obtain ⟨k, hk, rfl, hown, hb⟩ := hrel
    have hbw : Below w.heap.size w wr := ((Below.refl _ w).alloc (Nat.le_refl _) X).trans (hb.mono (by omega))
    have k0 : (0 : Int) ≤ (k : Int) := by omega
    by_cases hlt : k < ps.length
    · have k1 : (k : Int) < (ps.length : Int) := by omega
      obtain ⟨g, off, g0, off0, cap0, e1, hc1, hc2, _, _⟩ := (HP.out.below HOK.out hbw).at k hlt
      subst e1
      have hat : ps[k].1 + 96 < d.n := (HOK.out.2.2.2 _ (List.getElem_mem hlt)).1
      have hnew : ps[k].1 ∉ (ps.map (·.1)).take k := by
        have hnd := HOK.out.2.2.1
        intro hin
        rw [List.mem_take_iff_getElem] at hin
        obtain ⟨j, hj, e⟩ := hin
        have hj2 : j < k := by simp at hj; omega
        have := (List.getElem_inj (i := j) (j := k) (h₀ := by simp; omega) (h₁ := by simp; omega) hnd).1 (by rw [e]; simp)
        omega
      have HSN : Hid ((ps.map (·.1)).take (k + 1) = (ps.map (·.1)).take k ++ [ps[k].1]) := by
        show _ = _
        rw [List.take_succ_eq_append_getElem (by simp; omega)]
        simp
      generalize ps[k].1 = x at *
      have HLK : ∀ o, (Instr.lookup 70 (.map (some (w.heap.size + 1))) (.int .i64 (x : Int)) false).run Try.prog (wr.alloc o) = .ok (.int .i64 0) (wr.alloc o) := fun o => seen_look (World.ownsMap.alloc hown o) hnew (by omega)
      have HOWN : Hid (∀ o, (wr.alloc o).ownsMap Try.prog 3 (plainElem Try.prog 3) (w.heap.size + 1) k (mapD ((ps.map (·.1)).take k))) := fun o => World.ownsMap.alloc hown o
      have HKY : Hid (keyOf Try.prog 3 (.int .i64 (x : Int)) = some (.int .i64 (x : Int))) := keyOf_int_mk (a := (x : Int)) Try.underlying3 (WalkArith.wf_i64 (by omega))
      have HB := Lib.hid hb
      clear hown hb hbw hnew
      go_wp2_with (at_mapUpdate; refine wpList_mapUpdate_own _ rfl _ _ _ 70 rfl 3 3 keyed3 Try.underlying70 _ (w.heap.size + 1) k _ rfl (HOWN.out _) (by unfold maxLen; omega) _ _ _ rfl rfl HKY.out _ [] (plainElem_int Try.underlying3 (WalkArith.wf_i64 (by decide))) ?_)
      intro w2 hown2 hgrow2
      have HB2 : Hid (Below (w.heap.size + 1) (w.alloc X) w2) := (HB.out.alloc (by have := HB.out.size; simp at this; omega) _).grown hgrow2 (by have := HB.out.size; simp at this; simp; omega) (fun j e => by cases e; exact Nat.le_refl _)
      have HO2 : Hid (OwnSeen w2 (w.heap.size + 1) (k + 1) ((ps.map (·.1)).take (k + 1))) := by
        show OwnSeen _ _ _ _
        rw [HSN.out, OwnSeen, mapD_snoc]
        exact hown2
      clear hown2 hgrow2 HLK
      go_wp2_with fail
      go_roundw
      case rel => exact ⟨k + 1, by omega, by go_num, HO2.out, HB2.out⟩
      case measure => simp [intOf]; omega
    · obtain rfl : k = ps.length := by omega
      obtain ⟨wA, hwA⟩ : ∃ x, x = wr := ⟨_, rfl⟩
      subst hwA
      have HB := Lib.hid hb
      have HBW := Lib.hid hbw
      clear hown hb hbw
      obtain ⟨i0, hi, hz0, hz1, hz2⟩ := info_parts infoI
      have HI := Lib.hid (And.intro hi (And.intro hz0 (And.intro hz1 hz2)))
      clear hi hz0 hz1 hz2
      have HBA : Hid (∀ (W : World) (o : Obj), Below W.heap.size W (W.alloc o)) := fun W o => (Below.refl W.heap.size W).alloc (Nat.le_refl _) o
      have hone : ∀ (x : Int), ∀ u ∈ [Value.int .i64 x], u.oneCell' = true := fun x u hu => by rw [List.mem_singleton] at hu; subst hu; rfl
      have HONE := Lib.hid hone
      clear hone
      have HWS : Hid (w.heap.size + 1 ≤ wA.heap.size) := by have := HB.out.size; simp at this; show _ ≤ _; omega
      go_wp2_with fail
      go_loopw [8, 50] (fun l i w3 => ∃ k : Nat, k ≤ ps.length ∧ i = .int .i64 k ∧ w3.ownsRow wA.heap.size 3 1 l k (natsV ((ps.map (·.1)).take k)) ∧ Below wA.heap.size wA w3) (fun _ i _ => ps.length - (intOf i).toNat)
      case atStart => exact ⟨0, Nat.zero_le _, rfl, World.ownsRow_nil _ _ _ _, Below.refl _ _⟩
      case round =>
        obtain ⟨k, hk, rfl, hown, hb⟩ := hrel
        have k0 : (0 : Int) ≤ (k : Int) := by omega
        obtain ⟨va, vc, hv⟩ := row_len hown
        subst hv
        have HROW := Lib.hid hown
        have HB3 := Lib.hid hb
        have HBW3 : Hid (Below w.heap.size w wr) := HBW.out.trans (hb.mono HBW.out.size)
        have hsz := hb.size
        clear hown hb
        by_cases hlt : k < ps.length
        · have k1 : (k : Int) < (ps.length : Int) := by omega
          obtain ⟨g, off, g0, off0, cap0, e1, hc1, hc2, _, _⟩ := (HP.out.below HOK.out HBW3.out).at k hlt
          subst e1
          have hat : ps[k].1 + 96 < d.n := (HOK.out.2.2.2 _ (List.getElem_mem hlt)).1
          have HSN : Hid (natsV ((ps.map (·.1)).take (k + 1)) = natsV ((ps.map (·.1)).take k) ++ [.int .i64 (ps[k].1 : Int)]) := by
            show _ = _
            rw [List.take_succ_eq_append_getElem (by simp; omega)]
            simp [natsV]
          generalize ps[k].1 = x at *
          have L5 : Hid (k + 1 ≤ maxLen) := by show _ ≤ _; unfold maxLen; omega
          have L6 : Hid ((k + 1) * 8 ≤ 140737488355328) := by show _ ≤ _; omega
          have x0 : ¬ (x : Int) < 0 := by omega
          have x1 : ¬ (d.n : Int) - 96 ≤ (x : Int) := by omega
          have HLB := Lib.hid (fun W (hW : Below w.heap.size w W) => lblocks_any (H0.out.below hW))
          go_wp2_with fail
          obtain ⟨Y, hY⟩ : ∃ Y, Y = wr.alloc (Obj.cells #[Value.int .i64 (x : Int), Value.slice (some ⟨g0, off0, none⟩) 512 cap0] 26 (0, 0)) := ⟨_, rfl⟩
          rw [← hY]
          have hyc : ∀ W, Below Y.heap.size Y W → W.cell? ⟨wr.heap.size, 0, none⟩ = some (.int .i64 (x : Int)) := fun W hW => by
            rw [hW.cell (by rw [hY]; simp), hY]
            simp [go_sem]
          have HYB : Hid (Below wr.heap.size wr Y) := by rw [hY]; exact (Below.refl _ _).alloc (Nat.le_refl _) _
          have HYC := Lib.hid hyc
          have HS0 : Hid (Below Y.heap.size Y Y.drew) := (Below.refl _ _).drew
          clear hY hyc
          refine wp_region_noPanic ?_
          refine wp_region_ord [0, 1, 2, 3, 4, 5, 6, 7, 8, 9] (fun W => W.cell? ⟨wr.heap.size, 0, none⟩ = some (.int .i64 (x : Int)) ∧ Below Y.heap.size Y W) (by kernel_rfl) (by kernel_rfl) rfl (by kernel_rfl) (fun _ _ _ _ _ h => h) ⟨HYC.out _ HS0.out, HS0.out⟩ ?_
          repeat (apply held_run rfl (by rfl) (by rfl); (intro w hSw; go_simp; with_reducible rfl); (try simp only [Act.put, List.setIfInBounds_toArray, List.set_cons_zero, List.set_cons_succ]))
          refine held_step rfl (by rfl) (by rfl) (fun K hK => ?_)
          go_simp
          have HYW : Hid (Below w.heap.size w Y.drew) := HBW3.out.trans ((HYB.out.trans (HS0.out.mono HYB.out.size)).mono HBW3.out.size)
          refine (HLB.out _ HYW.out).mono ?_
          rintro e w4 ⟨rfl, rfl⟩
          refine hK.out _ _ (⟨HYC.out _ HS0.out, HS0.out⟩) (fun _ => ?_)
          clear hK K
          (try simp only [Act.put, List.setIfInBounds_toArray, List.set_cons_zero, List.set_cons_succ])
          repeat (apply held_run rfl (by rfl) (by rfl); (intro w hSw; go_simp; with_reducible rfl); (try simp only [Act.put, List.setIfInBounds_toArray, List.set_cons_zero, List.set_cons_succ]))
          refine held_nil (NoPanic.normal ?_)
          have hyc1 := HYC.out _ (Below.refl _ _)
          have HRY : Hid (Y.drew.ownsRow wA.heap.size 3 1 (.slice va k vc) k (natsV ((ps.map (·.1)).take k))) := owns_below HROW.out (HYB.out.trans (HS0.out.mono HYB.out.size))
          have HYA : Hid (Below wA.heap.size wA Y.drew) := HB3.out.trans ((HYB.out.trans (HS0.out.mono HYB.out.size)).mono HB3.out.size)
          have hys : wA.heap.size ≤ Y.heap.size := by have := HYA.out.size; simpa using this
          go_wp2_with (at_builtin; refine wpList_append_rowAt rfl (.tmp 64) (.tmp 67) 46 rfl wA.heap.size 3 i0 (.int .i64 0) 8 Try.underlying46 HI.out.1 HI.out.2.1 HI.out.2.2.1 HI.out.2.2.2 rfl _ k _ rfl (owns_below HRY.out (HBA.out _ _)) _ [.int .i64 (x : Int)] rfl (.inl (row_new Y.drew #[.int .i64 (x : Int)] 3 (0, 0) 1 (Nat.le_refl _))) (HONE.out _) L5.out L6.out (by simp; omega) ?_)
          intro v2 w4 hown2 hgrow2 _
          have HB4 : Hid (Below wA.heap.size wA w4) := (HYA.out.trans ((HBA.out _ _).mono (by simpa using hys))).grown hgrow2 (by simp; omega) (fun j e => (HROW.out.lt j e).1)
          have HROW2 : Hid (w4.ownsRow wA.heap.size 3 1 v2 (k + 1) (natsV ((ps.map (·.1)).take (k + 1)))) := by
            show World.ownsRow _ _ _ _ _ _ _
            rw [HSN.out]
            exact hown2
          clear hown2 hgrow2
          go_wp2_with fail
          go_roundw
          case rel => exact ⟨k + 1, by omega, by go_num, HROW2.out, HB4.out⟩
          case measure => simp [intOf]; omega
        · obtain rfl : k = ps.length := by omega
          have hfull : (ps.map (·.1)).take ps.length = ps.map (·.1) := List.take_of_length_le (by simp)
          have hvp := HROW.out
          rw [hfull] at hvp
          have hvp2 := (natsF_own (ps := ps.map (·.1)) (by rw [List.length_map]; exact hvp)).weaken (O1 := O) (fun j hj => by have := H0.out.lt j hj; have := HBW.out.size; omega)
          obtain ⟨wB, hwB⟩ : ∃ x, x = wr := ⟨_, rfl⟩
          subst hwB
          have AB : Hid (CAt w O R lp p d.n 200 d O R wB) := A0.out.below ((HB.out.mono (by simp)).trans (HB3.out.mono (by have := HWS.out; simp; omega)))
          have HPB := Lib.hid (HP.out.below HOK.out HBW3.out)
          obtain ⟨ats, hats⟩ : ∃ ats, ats = ps.map (·.1) := ⟨_, rfl⟩
          have hal : ats.length = ps.length := by rw [hats]; simp
          have hax : ∀ x ∈ ats, x < 65536 := fun x hx => by
            rw [hats, List.mem_map] at hx
            obtain ⟨y, hy, rfl⟩ := hx
            have := (HOK.out.2.2.2 y hy).1
            omega
          have HZ1 : Hid (Z = runL (commW1 0 ps ++ (mark3 ats ++ (commW2 ps ++ mark3 []))) d) := by rw [hats]; exact HZ.out.symm
          rw [← hats] at hvp2
          rw [← hal] at hvp2 ⊢
          have HVB := Lib.hid hvp2
          have HAX := Lib.hid hax
          clear hvp hvp2 hfull HZ HI hats hax HROW
          have HAW := Lib.hid (awake_ok AB.out.1)
          rw [hal]
          go_wp2_with fail
          refine (HAW.out).mono ?_
          rintro e w3 ⟨rfl, rfl⟩
          go_wp2_with fail
          go_loopw [74] (fun i wr => ∃ (k : Nat) (D : DS) (O1 R1 : Nat → Prop), k ≤ ps.length ∧ i = .int .i64 k ∧ CAt w O R lp p d.n (190 - k) D O1 R1 wr ∧ Hid (PutsF wr O1 (.slice a ps.length cap) ps ∧ NatsF wr O1 (.slice va ats.length vc) ats) ∧ Hid (Z = runL (commW1 k (ps.drop k) ++ (mark3 ats ++ (commW2 ps ++ mark3 []))) D)) (fun i _ => ps.length - (intOf i).toNat)
          case atStart => exact ⟨0, d, O, R, Nat.zero_le _, rfl, AB.out.less (by omega), ⟨HPB.out, HVB.out⟩, HZ1.out⟩
          case round =>
            obtain ⟨k, D, O1, R1, hk, rfl, A1, HV1, HX1⟩ := hrel
            have k0 : (0 : Int) ≤ (k : Int) := by omega
            have HA1 := Lib.hid A1
            clear A1
            by_cases hlt : k < ps.length
            · have k1 : (k : Int) < (ps.length : Int) := by omega
              obtain ⟨g, off, g0, off0, cap0, e1, hc1, hc2, hg0, hbx⟩ := HV1.out.1.at k hlt
              have hpk := HOK.out.2.2.2 _ (List.getElem_mem hlt)
              have HDR : Hid (commW1 k (ps.drop k) = .w (1 + k) ps[k].2 :: commW1 (k + 1) (ps.drop (k + 1))) := by
                show _ = _
                rw [List.drop_eq_getElem_cons hlt, commW1]
              have HXL := Lib.hid hpk
              subst e1
              generalize ps[k].1 = x1 at *
              generalize ps[k].2 = x2 at *
              have HW : Hid (∀ o, Calls Try.prog 39 #[.pointer (some ⟨lp, 0, none⟩), .int .i64 (1 + (k : Int)), .slice (some ⟨g0, off0, none⟩) 512 cap0] (wr.alloc o) fun e w' =>
                  (D.off = true ∧ e = .panicked (stopP 11) ∧ w' = wr.alloc o) ∨ (D.off = false ∧ e = .returned (.tuple #[]) ∧ ∃ O' R', CAt w O R lp p d.n (190 - (k + 1)) (D.write (1 + k) x2) O' R' w' ∧ Hid (PutsF w' O' (.slice (some ⟨g, off, none⟩) ps.length cap) ps ∧ NatsF w' O' (.slice va ats.length vc) ats))) := fun o => by
                have hb : Below wr.heap.size wr (wr.alloc o) := (Below.refl _ _).alloc (Nat.le_refl _) o
                have := CAt.write (m := 190 - (k + 1)) ((HA1.out.below hb).less (by omega)) (1 + k) (by have := HXL.out.1; have := HOK.out.2.1; omega) g0 off0 cap0 hg0 x2 (RowAt.below hbx hb (Nat.le_refl _)) HXL.out.2
                rw [show ((1 + k : Nat) : Int) = 1 + (k : Int) by omega] at this
                refine this.mono ?_
                rintro e w' (q | ⟨q1, q2, O', R', q3, q4⟩)
                · exact .inl q
                · exact .inr ⟨q1, q2, O', R', q3, (HV1.out.1.below HOK.out hb).turned HOK.out q4, (HV1.out.2.below hb).turned q4⟩
              have HNX : Hid (D.off = false → Z = runL (commW1 (k + 1) (ps.drop (k + 1)) ++ (mark3 ats ++ (commW2 ps ++ mark3 []))) (D.write (1 + k) x2)) := fun ho => by
                rw [HX1.out, HDR.out, List.cons_append, runL_on ho]
                rfl
              have HOFF : Hid (D.off = true → Z = (D, false)) := fun ho => by rw [HX1.out, HDR.out, List.cons_append, runL_off ho]
              have HAO : Hid (∀ o, CAt w O R lp p d.n (190 - k) D O1 R1 (wr.alloc o)) := fun o => HA1.out.below ((Below.refl _ _).alloc (Nat.le_refl _) o)
              clear hbx hg0 hpk
              go_wp2_with fail
              refine (HW.out _).mono ?_
              rintro e w5 (⟨ho, rfl, rfl⟩ | ⟨ho, rfl, O2, R2, q1, q2⟩)
              · have hz := HOFF.out ho
                go_wp2_with fail
                exact (HAO.out _).bad H0.out hz rfl rfl
              · have HQ1 := Lib.hid q1
                have HQ2 := Lib.hid q2
                have HNN := Lib.hid (HNX.out ho)
                clear q1 q2
                go_wp2_with fail
                go_roundw
                case rel => exact ⟨k + 1, _, O2, R2, by omega, by go_num, HQ1.out, HQ2.out, HNN.out⟩
                case measure => simp [intOf]; omega
            · obtain rfl : k = ps.length := by omega
              have hz : Z = runL (mark3 ats ++ (commW2 ps ++ mark3 [])) D := by
                rw [HX1.out, List.drop_of_length_le (Nat.le_refl _)]
                rfl
              have HZ2 := Lib.hid hz
              have A1 : Hid (CAt w O R lp p d.n 150 D O1 R1 wr) := HA1.out.less (by omega)
              have HP1 := Lib.hid HV1.out.1
              have HV1' := Lib.hid HV1.out.2
              clear hz HX1 HV1 HA1
              go_wp2_with fail
              refine (A1.out.flush).mono ?_
              rintro e w4 (⟨ho4, rfl, q1⟩ | ⟨ho4, rfl, O4, R4, q1, q2⟩)
              · have hz := HZ2.out
                rw [mark3, List.cons_append, runL_off ho4] at hz
                have HQ := Lib.hid q1
                clear q1
                go_wp2_with fail
                exact HQ.out.bad H0.out hz rfl rfl
              have A4 := Lib.hid q1
              have HP4 := Lib.hid (HP1.out.turned HOK.out q2)
              have HV4 := Lib.hid (HV1'.out.turned q2)
              have HZ3 : Hid (Z = runL (.w 0 (headB ats) :: (.f :: (commW2 ps ++ mark3 []))) D.flush) := by
                show _ = _
                rw [HZ2.out, mark3, List.cons_append, runL_on ho4]
                rfl
              clear q1 q2 HZ2
              generalize D.flush = D4 at *
              have hnn := HV4.out.nats
              have hna : ats.length ≤ 40 := by omega
              have HHD := Lib.hid (head_any ats _ w4 hnn hna HAX.out)
              rw [hal] at HHD
              clear hnn
              go_wp2_with fail
              refine (HHD.out).mono ?_
              rintro e w5 ⟨rfl, q1, q2, q3⟩
              have hn0 : 0 < d.n := by have := HOK.out.2.2.2 _ (List.getElem_mem (show 0 < ps.length by omega)); omega
              have HW := Lib.hid (CAt.write (m := 149) (A4.out.below q2) 0 hn0 w4.heap.size 0 512 (fun e => by have := A4.out.1.lt _ e; omega) _ q1 (headB_length _))
              have HB5 := Lib.hid q2
              clear q1 q2 q3
              go_wp2_with fail
              refine (HW.out).mono ?_
              rintro e w6 (⟨ho5, rfl, rfl⟩ | ⟨ho5, rfl, O6, R6, q1, q2⟩)
              · have hz := HZ3.out
                rw [runL_off ho5] at hz
                go_wp2_with fail
                exact (A4.out.below HB5.out).bad H0.out hz rfl rfl
              have A6 := Lib.hid q1
              have HP6 := Lib.hid ((HP4.out.below HOK.out HB5.out).turned HOK.out q2)
              have HZ6 : Hid (Z = runL (.f :: (commW2 ps ++ mark3 [])) (D4.write 0 (headB ats))) := by
                show _ = _
                rw [HZ3.out, runL_on ho5]
                rfl
              clear q1 q2 HZ3
              generalize D4.write 0 (headB ats) = D5 at *
              go_wp2_with fail
              refine (A6.out.flush).mono ?_
              rintro e w7 (⟨ho6, rfl, q1⟩ | ⟨ho6, rfl, O7, R7, q1, q2⟩)
              · have hz := HZ6.out
                rw [runL_off ho6] at hz
                have HQ := Lib.hid q1
                clear q1
                go_wp2_with fail
                exact HQ.out.bad H0.out hz rfl rfl
              have A7 := Lib.hid q1
              have HP7 := Lib.hid (HP6.out.turned HOK.out q2)
              have HZ7 : Hid (Z = runL (commW2 ps ++ mark3 []) D5.flush) := by
                show _ = _
                rw [HZ6.out, runL_on ho6]
                rfl
              clear q1 q2 HZ6
              generalize D5.flush = D7 at *
              go_wp2_with fail
              go_loopw [96] (fun i wr => ∃ (k : Nat) (D : DS) (O1 R1 : Nat → Prop), k ≤ ps.length ∧ i = .int .i64 k ∧ CAt w O R lp p d.n (140 - k) D O1 R1 wr ∧ Hid (PutsF wr O1 (.slice a ps.length cap) ps) ∧ Hid (Z = runL (commW2 (ps.drop k) ++ mark3 []) D)) (fun i _ => ps.length - (intOf i).toNat)
              case atStart => exact ⟨0, D7, O7, R7, Nat.zero_le _, rfl, A7.out.less (by omega), HP7.out, HZ7.out⟩
              case round =>
                obtain ⟨k, D, O1, R1, hk, rfl, A1, HV1, HX1⟩ := hrel
                have k0 : (0 : Int) ≤ (k : Int) := by omega
                have HA1 := Lib.hid A1
                clear A1
                by_cases hlt : k < ps.length
                · have k1 : (k : Int) < (ps.length : Int) := by omega
                  obtain ⟨g, off, g0, off0, cap0, e1, hc1, hc2, hg0, hbx⟩ := HV1.out.at k hlt
                  have hpk := HOK.out.2.2.2 _ (List.getElem_mem hlt)
                  have HDR : Hid (commW2 (ps.drop k) = .w (96 + ps[k].1) ps[k].2 :: commW2 (ps.drop (k + 1))) := by
                    show _ = _
                    rw [List.drop_eq_getElem_cons hlt, commW2]
                  have HXL := Lib.hid hpk
                  subst e1
                  generalize ps[k].1 = x1 at *
                  generalize ps[k].2 = x2 at *
                  have HW : Hid (∀ o, Calls Try.prog 39 #[.pointer (some ⟨lp, 0, none⟩), .int .i64 (96 + (x1 : Int)), .slice (some ⟨g0, off0, none⟩) 512 cap0] (wr.alloc o) fun e w' =>
                      (D.off = true ∧ e = .panicked (stopP 11) ∧ w' = wr.alloc o) ∨ (D.off = false ∧ e = .returned (.tuple #[]) ∧ ∃ O' R', CAt w O R lp p d.n (140 - (k + 1)) (D.write (96 + x1) x2) O' R' w' ∧ Hid (PutsF w' O' (.slice (some ⟨g, off, none⟩) ps.length cap) ps))) := fun o => by
                    have hb : Below wr.heap.size wr (wr.alloc o) := (Below.refl _ _).alloc (Nat.le_refl _) o
                    have := CAt.write (m := 140 - (k + 1)) ((HA1.out.below hb).less (by omega)) (96 + x1) (by have := HXL.out.1; omega) g0 off0 cap0 hg0 x2 (RowAt.below hbx hb (Nat.le_refl _)) HXL.out.2
                    rw [show ((96 + x1 : Nat) : Int) = 96 + (x1 : Int) by omega] at this
                    refine this.mono ?_
                    rintro e w' (q | ⟨q1, q2, O', R', q3, q4⟩)
                    · exact .inl q
                    · exact .inr ⟨q1, q2, O', R', q3, (HV1.out.below HOK.out hb).turned HOK.out q4⟩
                  have HNX : Hid (D.off = false → Z = runL (commW2 (ps.drop (k + 1)) ++ mark3 []) (D.write (96 + x1) x2)) := fun ho => by
                    rw [HX1.out, HDR.out, List.cons_append, runL_on ho]
                    rfl
                  have HOFF : Hid (D.off = true → Z = (D, false)) := fun ho => by rw [HX1.out, HDR.out, List.cons_append, runL_off ho]
                  have HAO : Hid (∀ o, CAt w O R lp p d.n (140 - k) D O1 R1 (wr.alloc o)) := fun o => HA1.out.below ((Below.refl _ _).alloc (Nat.le_refl _) o)
                  have x0 : (x1 : Int) ≤ 65536 := by have := HXL.out.1; omega
                  clear hbx hg0 hpk
                  go_wp2_with fail
                  refine (HW.out _).mono ?_
                  rintro e w9 (⟨ho, rfl, rfl⟩ | ⟨ho, rfl, O2, R2, q1, q2⟩)
                  · have hz := HOFF.out ho
                    go_wp2_with fail
                    exact (HAO.out _).bad H0.out hz rfl rfl
                  · have HQ1 := Lib.hid q1
                    have HQ2 := Lib.hid q2
                    have HNN := Lib.hid (HNX.out ho)
                    clear q1 q2
                    go_wp2_with fail
                    go_roundw
                    case rel => exact ⟨k + 1, _, O2, R2, by omega, by go_num, HQ1.out, HQ2.out, HNN.out⟩
                    case measure => simp [intOf]; omega
                · obtain rfl : k = ps.length := by omega
                  have hz : Z = runL (mark3 []) D := by
                    rw [HX1.out, List.drop_of_length_le (Nat.le_refl _)]
                    rfl
                  have HZ8 := Lib.hid hz
                  have A8 : Hid (CAt w O R lp p d.n 100 D O1 R1 wr) := HA1.out.less (by omega)
                  clear hz HX1 HV1 HA1
                  go_wp2_with fail
                  refine (A8.out.flush).mono ?_
                  rintro e w9 (⟨ho9, rfl, q1⟩ | ⟨ho9, rfl, O9, R9, q1, q2⟩)
                  · have hz := HZ8.out
                    rw [mark3, runL_off ho9] at hz
                    have HQ := Lib.hid q1
                    clear q1
                    go_wp2_with fail
                    exact HQ.out.bad H0.out hz rfl rfl
                  have A9 := Lib.hid q1
                  have HZ9 : Hid (Z = runL [.w 0 (headB []), .f] D.flush) := by
                    show _ = _
                    rw [HZ8.out, mark3, runL_on ho9]
                    rfl
                  clear q1 q2 HZ8
                  generalize D.flush = D9 at *
                  go_wp2_with fail
                  refine (head_any [] (.slice none 0 0) w9 (NatsW.nil _) (by simp) (fun x hx => by cases hx)).mono ?_
                  rintro e w10 ⟨rfl, q1, q2, q3⟩
                  have HW := Lib.hid (CAt.write (m := 99) (A9.out.below q2) 0 hn0 w9.heap.size 0 512 (fun e => by have := A9.out.1.lt _ e; omega) _ q1 (headB_length _))
                  have HB10 := Lib.hid q2
                  clear q1 q2 q3
                  go_wp2_with fail
                  refine (HW.out).mono ?_
                  rintro e w11 (⟨ho5, rfl, rfl⟩ | ⟨ho5, rfl, O11, R11, q1, q2⟩)
                  · have hz := HZ9.out
                    rw [runL_off ho5] at hz
                    go_wp2_with fail
                    exact (A9.out.below HB10.out).bad H0.out hz rfl rfl
                  have A11 := Lib.hid q1
                  have HZ11 : Hid (Z = runL [.f] (D9.write 0 (headB []))) := by
                    show _ = _
                    rw [HZ9.out, runL_on ho5]
                    rfl
                  clear q1 q2 HZ9
                  generalize D9.write 0 (headB []) = D11 at *
                  go_wp2_with fail
                  refine (A11.out.flush).mono ?_
                  rintro e w12 (⟨ho6, rfl, q1⟩ | ⟨ho6, rfl, O12, R12, q1, q2⟩)
                  · have hz := HZ11.out
                    rw [runL_off ho6] at hz
                    have HQ := Lib.hid q1
                    clear q1
                    go_wp2_with fail
                    exact HQ.out.bad H0.out hz rfl rfl
                  have A12 := Lib.hid q1
                  have HZ12 : Hid (Z = (D11.flush, true)) := by
                    show _ = _
                    rw [HZ11.out, runL_on ho6]
                    rfl
                  clear q1 q2 HZ11
                  generalize D11.flush = D12 at *
                  obtain ⟨hce, _, _, _⟩ := H0.out.fresh A12.out.2.1
                  have hce1 : w12.cell? ⟨w.heap.size, 0, none⟩ = some (.int .i64 0) := by rw [cell_of_row w12 _ 0 _ _ _ hce]; rfl
                  have hfe := frozen_of_row w12 _ 0 _ _ hce
                  clear hce
                  go_wp2_with fail
                  exact A12.out.good H0.out HZ12.out rfl rfl
end Go.Proofs.Ythfncgbkigmmcaa
