/- DiskPlays: the walk. -/
import Derived.Test.YthdefaodioapbaaPlaysL
import Derived.Test.YthdefaodioapbaaOpsD
import Derived.Test.YthdefaodioapbaaOne
namespace Go.Proofs.Ythdefaodioapbaa
open Go.RowKit

variable {w w' wr : World} {X : Nat → Prop} {p q : Nat} {d : DS}
attribute [local irreducible] zA blk

theorem IntsW.at_ {a : Option Addr} {n : Nat} {zs : List Int} (h : IntsW w a n zs) (hn : n ≤ 2000) : IntsAt w a n (fun i => zs.getD i 0) ∧ ∀ x, a = some x → 0 < n → x.block < w.heap.size := by
  obtain ⟨hl, h0, _⟩ := h
  rcases h0 with h0 | ⟨g, off, rfl, hc⟩
  · exact ⟨⟨by omega, .inl h0⟩, fun _ _ h => by omega⟩
  · refine ⟨⟨by omega, .inr ⟨g, off, rfl, fun i hi => ?_⟩⟩, fun x hx h1 => ?_⟩
    · rw [hc i (by omega)]
      simp [List.getD, List.getElem?_eq_getElem (show i < zs.length by omega)]
    · cases hx
      exact World.block_lt_of_cell? _ _ (hc 0 (by omega))
theorem wf_i64_le {a : Int} (h : (Lit.int .i64 a).wf = true) : a ≤ 9223372036854775807 := by
  simp [Lit.wf, IntKind.min, IntKind.max, IntKind.signed, IntKind.bits] at h
  omega
theorem pair_bad (n : Int) (w : World) (h : n < 1 ∨ (1 ≤ n ∧ 4096 < n)) : Calls Try.prog 26 #[.int .i64 n] w fun e w' => e = .returned (.tuple #[.pointer none, .pointer none, .bool true]) ∧ Below w.heap.size w w' := by
  have H := Lib.hid h
  clear h
  go_enter Try.func26, Try.ntmps26
  go_wp2_with fail
  refine (new_bad n w H.out).mono ?_
  rintro e w1 ⟨rfl, rfl⟩
  go_wp2_with fail
  refine (rNew_bad n w H.out).mono ?_
  rintro e w1 ⟨rfl, rfl⟩
  go_wp2_with fail
  refine (num_any _ _).mono ?_
  rintro e w3 ⟨rfl, rfl⟩
  go_wp2_with fail
  go_ret3
  exact ⟨rfl, Below.refl _ _⟩

/-- no calls to be played -/
theorem plays_out (n : Int) (oa : Option Addr) (on oc : Nat) (ops : List OpD) (w : World) (ho : OpsD w (.slice oa on oc) ops) (h : 300 < on ∨ (64 < n ∧ n ≤ 4096)) :
    Calls Try.prog 9 #[.int .i64 n, .slice oa on oc] w fun e w' => e = .returned (.bool true) ∧ Below w.heap.size w w' := by
  have HOD := Lib.hid ho
  obtain ⟨rfl, _, _⟩ := ho.get
  have HH := Lib.hid h
  clear ho h
  go_enter Try.func9, Try.ntmps9
  go_wp2_with fail
  refine (alive_any _).mono ?_
  rintro e w0 ⟨rfl, hb0⟩
  have HB0 := Lib.hid hb0
  have HOD0 := Lib.hid (HOD.out.below hb0)
  clear hb0
  go_wp2_with fail
  refine (long_any _ ops _ HOD0.out).mono ?_
  rintro e w1 ⟨⟨much, rfl, _⟩, rfl⟩
  by_cases h3 : 300 < ops.length
  · have n1 : (300 : Int) < (ops.length : Int) := by omega
    clear HH
    cases much
    all_goals
      go_wp2_with fail
      go_ret
      exact ⟨rfl, HB0.out⟩
  · have n1 : (ops.length : Int) ≤ 300 := by omega
    have n2 : ¬ (300 : Int) < (ops.length : Int) := by omega
    have hh := HH.out.resolve_left h3
    obtain ⟨n3, n4⟩ := hh
    clear HH
    cases much
    all_goals
      go_wp2_with fail
      go_ret
      exact ⟨rfl, HB0.out⟩
theorem plays_bad (n : Int) (oa : Option Addr) (on oc : Nat) (ops : List OpD) (w : World) (ho : OpsD w (.slice oa on oc) ops) (h : n < 1 ∨ (1 ≤ n ∧ 4096 < n)) :
    Calls Try.prog 9 #[.int .i64 n, .slice oa on oc] w fun e w' => e = .returned (.bool true) ∧ Below w.heap.size w w' := by
  have HOD := Lib.hid ho
  obtain ⟨rfl, _, _⟩ := ho.get
  have HH := Lib.hid h
  clear ho h
  go_enter Try.func9, Try.ntmps9
  go_wp2_with fail
  refine (alive_any _).mono ?_
  rintro e w0 ⟨rfl, hb0⟩
  have HB0 := Lib.hid hb0
  have HOD0 := Lib.hid (HOD.out.below hb0)
  clear hb0
  go_wp2_with fail
  refine (long_any _ ops _ HOD0.out).mono ?_
  rintro e w1 ⟨⟨much, rfl, _⟩, rfl⟩
  by_cases h3 : 300 < ops.length
  · have n1 : (300 : Int) < (ops.length : Int) := by omega
    clear HH
    cases much
    all_goals
      go_wp2_with fail
      go_ret
      exact ⟨rfl, HB0.out⟩
  · have n1 : (ops.length : Int) ≤ 300 := by omega
    have n2 : ¬ (300 : Int) < (ops.length : Int) := by omega
    have hh := HH.out
    rcases hh with h1 | ⟨h1, h2⟩
    · have h4 : n ≤ 64 := by omega
      have h5 : ¬ (64 : Int) < n := by omega
      cases much
      · go_wp2_with fail
        refine (pair_bad n _ HH.out).mono ?_
        rintro e w2 ⟨rfl, hb2⟩
        have HB2 := Lib.hid (HB0.out.trans (hb2.mono HB0.out.size))
        clear hb2
        go_wp2_with fail
        go_ret
        exact ⟨rfl, HB2.out⟩
      · go_wp2_with fail
        go_ret
        exact ⟨rfl, HB0.out⟩
    · have h4 : (64 : Int) < n := by omega
      have h5 : ¬ n ≤ (4096 : Int) := by omega
      cases much
      · go_wp2_with fail
        refine (pair_bad n _ HH.out).mono ?_
        rintro e w2 ⟨rfl, hb2⟩
        have HB2 := Lib.hid (HB0.out.trans (hb2.mono HB0.out.size))
        clear hb2
        go_wp2_with fail
        go_ret
        exact ⟨rfl, HB2.out⟩
      · go_wp2_with fail
        go_ret
        exact ⟨rfl, HB0.out⟩

/-- the pair, wherever it stands -/
def PlayD (w wr : World) (n : Nat) (v7 v8 v10 v11 : Value) (m : Nat) : Prop := ∃ (X : Nat → Prop) (p q : Nat) (d : DS) (L : List Tw), v7 = .pointer (some ⟨p, 0, none⟩) ∧ v8 = .pointer (some ⟨q, 0, none⟩) ∧ L.length = m ∧ m ≤ 4 ∧ DP w wr X p q d L v10 v11 n

set_option maxHeartbeats 1000000 in
set_option maxRecDepth 100000 in
theorem plays_in (n : Nat) (h1 : 1 ≤ n) (h2 : n ≤ 64) (oa : Option Addr) (on oc : Nat) (ops : List OpD) (w : World) (ho : OpsD w (.slice oa on oc) ops) (h3 : on ≤ 300) :
    Calls Try.prog 9 #[.int .i64 n, .slice oa on oc] w fun e w' => e = .returned (.bool true) ∧ Below w.heap.size w w' := by
  have HOD := Lib.hid ho
  obtain ⟨rfl, _, hO⟩ := ho.get
  have HO := Lib.hid hO
  have n1 : (ops.length : Int) ≤ 300 := by omega
  have n2 : ¬ (300 : Int) < (ops.length : Int) := by omega
  have n3 : (n : Int) ≤ 64 := by omega
  have n4 : ¬ (64 : Int) < (n : Int) := by omega
  obtain ⟨iD, hiD, zD, sD, bD⟩ := info_parts infoPD
  obtain ⟨iR, hiR, zR, sR, bR⟩ := info_parts infoPR
  have HID := Lib.hid (And.intro hiD (And.intro zD (And.intro sD bD)))
  have HIR := Lib.hid (And.intro hiR (And.intro zR (And.intro sR bR)))
  clear ho hO hiD zD sD bD hiR zR sR bR
  go_enter Try.func9, Try.ntmps9
  go_wp2_with fail
  refine (alive_any _).mono ?_
  rintro e w0 ⟨rfl, hb0⟩
  have HB0 := Lib.hid hb0
  have HOD0 := Lib.hid (HOD.out.below hb0)
  clear hb0
  go_wp2_with fail
  refine (long_any _ ops _ HOD0.out).mono ?_
  rintro e w1 ⟨⟨much, rfl, hle⟩, rfl⟩
  have HLE := Lib.hid hle
  clear hle
  cases much with
  | true =>
    go_wp2_with fail
    go_ret
    exact ⟨rfl, HB0.out⟩
  | false =>
    go_wp2_with fail
    refine (pair_any (w := w0) (B := w.heap.size) (l := []) n h1 (by omega) (DisksX.nil w0 _) HB0.out.size).mono ?_
    rintro e w2 ⟨p, q, rfl, hd, hb2⟩
    have HP : Hid (PlayD w w2 n (.pointer (some ⟨p, 0, none⟩)) (.pointer (some ⟨q, 0, none⟩)) (.slice none 0 0) (.slice none 0 0) 0) := ⟨_, p, q, _, [], rfl, rfl, rfl, by omega, DP.mk hd (DS.new_good n) rfl (fun x hx => absurd hx (List.not_mem_nil)) (World.ownsRow_nil _ _ _ _) (World.ownsRow_nil _ _ _ _) (InB.nil _) (InB.nil _) (HB0.out.trans (hb2.mono HB0.out.size))⟩
    clear hd hb2
    go_wp2_with fail
    go_loopw [7, 8, 10, 11, 12] (fun v7 v8 v10 v11 i wr => ∃ k m : Nat, k ≤ ops.length ∧ i = .int .i64 k ∧ PlayD w wr n v7 v8 v10 v11 m) (fun _ _ _ _ i _ => ops.length - (intOf i).toNat)
    case atStart => exact ⟨0, 0, Nat.zero_le _, rfl, HP.out⟩
    case round =>
      obtain ⟨k, m, hk, rfl, X, p, q, d, L, rfl, rfl, rfl, hm, hdp⟩ := hrel
      have k0 : (0 : Int) ≤ (k : Int) := by omega
      have HDP := Lib.hid hdp
      obtain ⟨la, lc, hls⟩ := row_len hdp.row
      obtain ⟨wa, wc, hws⟩ := row_len hdp.row2
      subst hls
      subst hws
      by_cases hlt : k < ops.length
      · have k1 : (k : Int) < (ops.length : Int) := by omega
        obtain ⟨g, off, rfl, hok⟩ := HO.out k hlt
        have hle := HLE.out trivial _ (List.getElem_mem hlt)
        obtain ⟨c0, c1, c2, c3, _, ia, _, _, _, hcap, hint⟩ := hok
        obtain ⟨hka, hkb⟩ := hint.at_ hle
        have HCALL := Lib.hid (fun (wr : World) (X : Nat → Prop) (p q : Nat) (d : DS) (L : List Tw) (lv wv : Value) (h : DP w wr X p q d L lv wv n) => h.call ops[k].kind ops[k].a ops[k].b ops[k].ka ops[k].kn ops[k].kc _ (wf_i64_le ia) hka hkb hcap)
        have HC0 : Hid (∀ {W : World}, Below w.heap.size w W → W.cell? ⟨g, off + k * 4, none⟩ = some (.int .i64 ops[k].kind)) := fun hb => (hb.cell (p := ⟨g, off + k * 4, none⟩) (World.block_lt_of_cell? _ _ c0)).trans c0
        have HG4 : Hid (∀ {W : World}, Below w.heap.size w W → W.cell? ⟨g, off + k * 4, none⟩ = some (.int .i64 ops[k].kind) ∧ W.cell? ⟨g, off + k * 4 + 1, none⟩ = some (.int .i64 ops[k].a) ∧ W.cell? ⟨g, off + k * 4 + 2, none⟩ = some (.int .i64 ops[k].b) ∧ W.cell? ⟨g, off + k * 4 + 3, none⟩ = some (.slice ops[k].ka ops[k].kn ops[k].kc)) := fun hb => by
          have hg := World.block_lt_of_cell? w ⟨g, off + k * 4, none⟩ c0
          exact ⟨(hb.cell (p := ⟨g, off + k * 4, none⟩) hg).trans c0, (hb.cell (p := ⟨g, off + k * 4 + 1, none⟩) hg).trans c1, (hb.cell (p := ⟨g, off + k * 4 + 2, none⟩) hg).trans c2, (hb.cell (p := ⟨g, off + k * 4 + 3, none⟩) hg).trans c3⟩
        clear hle c0 c1 c2 c3 ia hcap hint hka hkb hdp
        generalize ops[k] = o at *
        by_cases hpush : o.kind = 6 ∧ L.length < 4
        · obtain ⟨h6, hl4⟩ := hpush
          have l4 : (L.length : Int) < 4 := by omega
          have C0 := HC0.out HDP.out.bel
          rw [h6] at C0 HCALL
          have HQ := Lib.hid HDP.out.toQ
          have L1 : Hid (L.length + 1 ≤ maxLen) := by show _ ≤ _; unfold maxLen; omega
          have L2 : Hid ((L.length + 1) * 8 ≤ 140737488355328) := by show _ ≤ _; omega
          have hone : ∀ (p : Nat), ∀ u ∈ [Value.pointer (some ⟨p, 0, none⟩)], u.oneCell' = true := fun p u hu => by rw [List.mem_singleton] at hu; subst hu; rfl
          have HONE := Lib.hid hone
          clear hone
          have hr1 := HDP.out.row
          have hr2 := HDP.out.row2
          have HR1 := Lib.hid hr1
          have HR2 := Lib.hid hr2
          clear hr1 hr2
          have HBA : ∀ (W : World) (o : Obj), Below W.heap.size W (W.alloc o) := fun W o => (Below.refl W.heap.size W).alloc (Nat.le_refl _) o
          have HBA := Lib.hid HBA
          go_wp2_with (at_builtin; refine wpList_append_rowAt rfl (.tmp 69) (.tmp 71) 55 rfl 0 24 iD (.pointer none) 8 Try.underlying55 HID.out.1 HID.out.2.1 HID.out.2.2.1 HID.out.2.2.2 rfl _ L.length _ rfl (owns_below HR1.out (HBA.out _ _)) _ [.pointer (some ⟨p, 0, none⟩)] rfl (.inl (row_new wr #[.pointer (some ⟨p, 0, none⟩)] 24 (0, 0) 1 (Nat.le_refl _))) (HONE.out p) L1.out L2.out (Nat.zero_le _) ?_)
          intro v2 w3 hown hgrow hat
          have HQ2 := Lib.hid (HQ.out.push1 (HBA.out _ _) (by rw [List.length_map]; exact hown) hgrow (by simpa using hat))
          obtain ⟨va, vc, rfl⟩ := row_len hown
          clear hown hgrow hat
          have hr3 := HQ2.out.row2
          rw [List.length_map] at hr3
          have HR3 := Lib.hid hr3
          clear hr3
          go_wp2_with (at_builtin; refine wpList_append_rowAt rfl (.tmp 73) (.tmp 75) 56 rfl 0 47 iR (.pointer none) 8 Try.underlying56 HIR.out.1 HIR.out.2.1 HIR.out.2.2.1 HIR.out.2.2.2 rfl _ L.length _ rfl (owns_below HR3.out (HBA.out _ _)) _ [.pointer (some ⟨q, 0, none⟩)] rfl (.inl (row_new w3 #[.pointer (some ⟨q, 0, none⟩)] 47 (0, 0) 1 (Nat.le_refl _))) (HONE.out q) L1.out L2.out (Nat.zero_le _) ?_)
          intro v3 w4 hown hgrow hat
          have HQ3 := Lib.hid (HQ2.out.push2 (HBA.out _ _) (by rw [List.length_map]; exact hown) hgrow (by simpa using hat))
          obtain ⟨va3, vc3, rfl⟩ := row_len hown
          clear hown hgrow hat
          go_wp2_with fail
          refine (HQ3.out.twin).mono ?_
          rintro e w5 ⟨p2, rfl, h5⟩
          have HQ5 := Lib.hid ((h5.perm ((List.Perm.swap _ _ _).cons _)).perm (List.Perm.swap _ _ _))
          clear h5
          go_wp2_with fail
          refine (HQ5.out.rtwin).mono ?_
          rintro e w6 ⟨q2, rfl, h6⟩
          have HDP6 := Lib.hid (HDP.out.next h6)
          clear h6
          obtain ⟨D0, D1, D2, D3⟩ := HG4.out HDP6.out.bel
          rw [h6] at D0
          go_wp2_with fail
          refine (HCALL.out _ _ _ _ _ _ _ _ HDP6.out).mono ?_
          rintro e w7 ⟨rfl, d7, h7⟩
          have HDP7 := Lib.hid h7
          clear h7 HCALL
          go_wp2_with fail
          refine (HDP7.out.alike).mono ?_
          rintro e w8 ⟨rfl, h8⟩
          have HDP8 := Lib.hid h8
          clear h8
          go_wp2_with fail
          go_roundw
          case rel => exact ⟨k + 1, L.length + 1, by omega, by go_num, _, _, _, _, _, rfl, rfl, by rw [List.length_append]; rfl, by omega, HDP8.out⟩
          case measure => simp [intOf]; omega
        · have hgo : ¬ (o.kind = 6) ∨ (o.kind = 6 ∧ 4 ≤ L.length) := by omega
          have hl4 : L.length ≤ 4 := by omega
          clear hpush
          rcases hgo with h6 | ⟨h6, l4⟩
          · have h6' : (o.kind == 6) = false := by simpa using h6
            obtain ⟨D0, D1, D2, D3⟩ := HG4.out HDP.out.bel
            go_wp2_with fail
            refine (HCALL.out _ _ _ _ _ _ _ _ HDP.out).mono ?_
            rintro e w7 ⟨rfl, d7, h7⟩
            have HDP7 := Lib.hid h7
            clear h7 HCALL
            go_wp2_with fail
            refine (HDP7.out.alike).mono ?_
            rintro e w8 ⟨rfl, h8⟩
            have HDP8 := Lib.hid h8
            clear h8
            go_wp2_with fail
            go_roundw
            case rel => exact ⟨k + 1, L.length, by omega, by go_num, _, _, _, _, _, rfl, rfl, rfl, by omega, HDP8.out⟩
            case measure => simp [intOf]; omega
          · have l4' : (4 : Int) ≤ (L.length : Int) := by omega
            obtain ⟨D0, D1, D2, D3⟩ := HG4.out HDP.out.bel
            rw [h6] at D0 HCALL
            go_wp2_with fail
            refine (HCALL.out _ _ _ _ _ _ _ _ HDP.out).mono ?_
            rintro e w7 ⟨rfl, d7, h7⟩
            have HDP7 := Lib.hid h7
            clear h7 HCALL
            go_wp2_with fail
            refine (HDP7.out.alike).mono ?_
            rintro e w8 ⟨rfl, h8⟩
            have HDP8 := Lib.hid h8
            clear h8
            go_wp2_with fail
            go_roundw
            case rel => exact ⟨k + 1, L.length, by omega, by go_num, _, _, _, _, _, rfl, rfl, rfl, by omega, HDP8.out⟩
            case measure => simp [intOf]; omega
      · obtain rfl : k = ops.length := by omega
        clear hdp HLE HO HID HIR HB0 HOD HOD0 HP
        go_wp2_with fail
        go_loopw [14] (fun i wq => ∃ j : Nat, j ≤ L.length ∧ i = .int .i64 j ∧ DP w wq X p q d L (.slice la L.length lc) (.slice wa L.length wc) n) (fun i _ => L.length - (intOf i).toNat)
        case atStart => exact ⟨0, Nat.zero_le _, rfl, HDP.out⟩
        case round =>
          obtain ⟨j, hj, rfl, hdp⟩ := hrel
          have HDP := Lib.hid hdp
          have j0 : (0 : Int) ≤ (j : Int) := by omega
          by_cases hlt : j < L.length
          · have j1 : (j : Int) < (L.length : Int) := by omega
            obtain ⟨r, g, g2, c, c2, hd, hg, hn, hl, hw, e1, e2⟩ := hdp.at_ j hlt
            simp only [Value.slice.injEq] at hl hw
            obtain ⟨rfl, _, rfl⟩ := hl
            obtain ⟨rfl, _, rfl⟩ := hw
            have HD := Lib.hid hd
            have HG := Lib.hid hg
            have HZ := Lib.hid hdp.size
            clear hd hg hdp
            generalize L[j] = t at *
            obtain ⟨p2, q2, d2⟩ := t
            have hEE : wr.drew.cell? ⟨g, j, none⟩ = some (.pointer (some ⟨p2, 0, none⟩)) ∧ wr.drew.cell? ⟨g2, j, none⟩ = some (.pointer (some ⟨q2, 0, none⟩)) := ⟨e1, e2⟩
            have HEE := Lib.hid hEE
            clear e1 e2 hEE
            go_wp2_with fail
            refine wp_region_noPanic ?_
            refine wp_region_ordL 9 [9] [0, 1, 2, 3, 4, 5, 6, 7, 8, 9] (fun W => W.cell? ⟨g, j, none⟩ = some (.pointer (some ⟨p2, 0, none⟩)) ∧ W.cell? ⟨g2, j, none⟩ = some (.pointer (some ⟨q2, 0, none⟩))) (by kernel_rfl) (by kernel_rfl) rfl (by kernel_rfl) (fun _ _ _ _ _ h => h) HEE.out ?_
            repeat (apply heldL_run rfl (by rfl) (by rfl); (intro w hSw; go_simp; with_reducible rfl); (try simp only [Act.put, List.setIfInBounds_toArray, List.set_cons_zero, List.set_cons_succ]))
            refine heldL_step rfl (by rfl) (by rfl) (fun K hK => ?_)
            go_simp
            change Calls _ _ _ wr.drew _
            refine (alike_any (HD.out.below (Below.refl _ _).drew) HZ.out).mono ?_
            rintro e w8 ⟨rfl, hb8⟩
            have hb8' : Below wr.heap.size wr w8 := (Below.refl _ _).drew.trans hb8
            have HB8 := Lib.hid hb8'
            have HE8 : Hid (w8.cell? ⟨g, j, none⟩ = some (.pointer (some ⟨p2, 0, none⟩)) ∧ w8.cell? ⟨g2, j, none⟩ = some (.pointer (some ⟨q2, 0, none⟩))) := ⟨(hb8.cell (p := ⟨g, j, none⟩) (World.block_lt_of_cell? _ _ HEE.out.1)).trans HEE.out.1, (hb8.cell (p := ⟨g2, j, none⟩) (World.block_lt_of_cell? _ _ HEE.out.2)).trans HEE.out.2⟩
            have HDP8 := Lib.hid (HDP.out.below hb8')
            have HZ8 : Hid (w.heap.size ≤ w8.heap.size) := Nat.le_trans HZ.out hb8'.size
            have HD8 := Lib.hid (HD.out.below hb8')
            clear hb8 hb8'
            refine hK.out _ _ (.inr HE8.out) ?_
            clear hK K
            (try simp only [Act.put, List.setIfInBounds_toArray, List.set_cons_zero, List.set_cons_succ])
            repeat (apply heldL_run rfl (by rfl) (by rfl); (intro w hSw; go_simp; with_reducible rfl); (try simp only [Act.put, List.setIfInBounds_toArray, List.set_cons_zero, List.set_cons_succ]))
            refine heldL_step rfl (by rfl) (by rfl) (fun K hK => ?_)
            go_simp
            refine hK.out _ _ (.inl rfl) ?_
            clear hK K
            (try simp only [Act.put, List.setIfInBounds_toArray, List.set_cons_zero, List.set_cons_succ])
            refine heldL_nil (NoPanic.normal ?_)
            clear HD HZ HEE HDP HB8
            go_wp2_with fail
            go_loopw [15] (fun i wq => ∃ m : Nat, m ≤ n ∧ i = .int .i64 m ∧ Below w8.heap.size w8 wq) (fun i _ => n - (intOf i).toNat)
            case atStart => exact ⟨0, Nat.zero_le _, rfl, Below.refl _ _⟩
            case round =>
              obtain ⟨m, hmn, rfl, hb⟩ := hrel
              have m0 : (0 : Int) ≤ (m : Int) := by omega
              have HB := Lib.hid hb
              clear hb
              by_cases hlm : m < n
              · have m1 : (m : Int) < (n : Int) := by omega
                have hE9 : ∀ {W : World}, Below w8.heap.size w8 W → W.cell? ⟨g, j, none⟩ = some (.pointer (some ⟨p2, 0, none⟩)) ∧ W.cell? ⟨g2, j, none⟩ = some (.pointer (some ⟨q2, 0, none⟩)) := fun hb => ⟨(hb.cell (p := ⟨g, j, none⟩) (World.block_lt_of_cell? _ _ HE8.out.1)).trans HE8.out.1, (hb.cell (p := ⟨g2, j, none⟩) (World.block_lt_of_cell? _ _ HE8.out.2)).trans HE8.out.2⟩
                have HE9 := Lib.hid (fun (W : World) hb => hE9 (W := W) hb)
                clear hE9
                go_wp2_with fail
                refine wp_region_noPanic ?_
                refine wp_region_ordL 11 [11] [0, 1, 2, 3, 4, 5, 6, 7, 8, 9, 10, 11] (fun W => W.cell? ⟨g, j, none⟩ = some (.pointer (some ⟨p2, 0, none⟩)) ∧ W.cell? ⟨g2, j, none⟩ = some (.pointer (some ⟨q2, 0, none⟩))) (by kernel_rfl) (by kernel_rfl) rfl (by kernel_rfl) (fun _ _ _ _ _ h => h) (HE9.out _ HB.out.drew) ?_
                repeat (apply heldL_run rfl (by rfl) (by rfl); (intro w hSw; go_simp; with_reducible rfl); (try simp only [Act.put, List.setIfInBounds_toArray, List.set_cons_zero, List.set_cons_succ]))
                refine heldL_step rfl (by rfl) (by rfl) (fun K hK => ?_)
                go_simp
                change Calls _ _ _ wr.drew _
                refine (call0 (HD8.out.below HB.out.drew) (Nat.le_trans HZ8.out HB.out.size) HG.out m 0 none 0 0).mono ?_
                rintro e w9 ⟨rfl, hb9⟩
                have HB9 : Hid (Below w8.heap.size w8 w9) := HB.out.drew.trans (hb9.mono HB.out.size)
                clear hb9
                refine hK.out _ _ (.inr (HE9.out _ HB9.out)) ?_
                clear hK K
                (try simp only [Act.put, List.setIfInBounds_toArray, List.set_cons_zero, List.set_cons_succ])
                repeat (apply heldL_run rfl (by rfl) (by rfl); (intro w hSw; go_simp; with_reducible rfl); (try simp only [Act.put, List.setIfInBounds_toArray, List.set_cons_zero, List.set_cons_succ]))
                refine heldL_step rfl (by rfl) (by rfl) (fun K hK => ?_)
                go_simp
                refine hK.out _ _ (.inl rfl) ?_
                clear hK K
                (try simp only [Act.put, List.setIfInBounds_toArray, List.set_cons_zero, List.set_cons_succ])
                refine heldL_nil (NoPanic.normal ?_)
                go_wp2_with fail
                go_roundw
                case rel => exact ⟨m + 1, by omega, by go_num, HB9.out⟩
                case measure => simp [intOf]; omega
              · obtain rfl : m = n := by omega
                have HDP9 := Lib.hid (HDP8.out.below HB.out)
                go_wp2_with fail
                go_roundw
                case rel => exact ⟨j + 1, by omega, by go_num, HDP9.out⟩
                case measure => simp [intOf]; omega
          · obtain rfl : j = L.length := by omega
            go_wp2_with fail
            go_ret
            exact ⟨rfl, HDP.out.bel⟩

theorem plays_walk (n : Int) (oa : Option Addr) (on oc : Nat) (ops : List OpD) (w : World) (_ : (Lit.int .i64 n).wf = true) (ho : OpsD w (.slice oa on oc) ops) :
    Calls Try.prog 9 #[.int .i64 n, .slice oa on oc] w fun e w' => e = .returned (.bool true) ∧ Below w.heap.size w w' := by
  by_cases h1 : 300 < on
  · exact plays_out n oa on oc ops w ho (.inl h1)
  · by_cases h2 : 64 < n ∧ n ≤ 4096
    · exact plays_out n oa on oc ops w ho (.inr h2)
    · by_cases h3 : n < 1 ∨ (1 ≤ n ∧ 4096 < n)
      · exact plays_bad n oa on oc ops w ho h3
      · obtain ⟨k, rfl⟩ : ∃ k : Nat, n = k := ⟨n.toNat, by omega⟩
        exact plays_in k (by omega) (by omega) oa on oc ops w ho (by omega)
end Go.Proofs.Ythdefaodioapbaa
