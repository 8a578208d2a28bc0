/- LedgerSynced. -/
import Derived.Test.YthfncgbkigmmcaaL33
namespace Go.Proofs.Ythfncgbkigmmcaa
open Go.RowKit
set_option linter.unusedVariables false

variable {w w' w1 wr : World} {S T : Nat → Prop} {B lp p n : Nat} {d D : DS} {dead : Bool} {c : Nat → Bs} {P : Bs → Prop}
/-- what may be there behind k rounds -/
def SynC (x y k : Int) (c : Nat → Bs) : Prop := c 7 = blk x ∧ c 29 = blk y ∧ ((c 3 = blk 0 ∧ c 8 = blk 0) ∨ ∃ q : Nat, (q : Int) < k ∧ c 3 = blk ((q : Int) + 5) ∧ c 8 = blk ((q : Int) + 6))
theorem SynC.put {x y : Int} {k : Nat} (h : SynC x y k c) : SynC x y ((k : Int) + 1) (putC c [(3, blk ((k : Int) + 5)), (8, blk ((k : Int) + 6))]) := by
  obtain ⟨h1, h2, h3⟩ := putC_two c (a := 3) (b := 8) (blk ((k : Int) + 5)) (blk ((k : Int) + 6)) (by omega)
  exact ⟨by rw [h3 7 (by omega) (by omega)]; exact h.1, by rw [h3 29 (by omega) (by omega)]; exact h.2.1, .inr ⟨k, by omega, h1, h2⟩⟩
theorem SynC.next {x y : Int} {k : Nat} (h : SynC x y k c) : SynC x y ((k : Int) + 1) c := ⟨h.1, h.2.1, h.2.2.imp id (fun ⟨q, h1, h2⟩ => ⟨q, by omega, h2⟩)⟩
theorem SynC.start (x y : Int) : SynC x y 0 (putC (fun _ => zeroB) [(7, blk x), (29, blk y)]) := by
  obtain ⟨h1, h2, h3⟩ := putC_two (fun _ => zeroB) (a := 7) (b := 29) (blk x) (blk y) (by omega)
  have hz : zeroB = blk 0 := (if_pos rfl).symm
  exact ⟨h1, h2, .inl ⟨(h3 3 (by omega) (by omega)).trans hz, (h3 8 (by omega) (by omega)).trans hz⟩⟩
set_option maxRecDepth 8000 in
set_option maxHeartbeats 6400000 in
theorem synced_law (x : Int) (fa : Option Addr) (fn fc : Nat) (fs : Nat → Int) (ka : Option Addr) (kn kc : Nat) (ks : Nat → Int) (w : World) (hf : IntsB w fa fn fs) (hkeep : IntsAt w ka kn ks) (hka : ∀ x, ka = some x → 0 < kn → x.block < w.heap.size) (hfn : fn ≤ 8) (hkn : kn ≤ 300) (hx1 : 1 ≤ x) (hx2 : x ≤ 9223372036854775807) :
    Calls Try.prog 12 #[.int .i64 x, .slice fa fn fc, .slice ka kn kc] w fun e w' => e = .returned (.bool true) ∧ Below w.heap.size w w' := by
  have HF := Lib.hid hf
  have HKEEP := Lib.hid hkeep
  have HKA := Lib.hid hka
  have HFN := Lib.hid hfn
  have n1 : ¬ (8 : Int) < (fn : Int) := by omega
  have n2 : ¬ (300 : Int) < (kn : Int) := by omega
  have n3 : ¬ x < 1 := by omega
  have f8 : (fn : Int) ≤ 8 := by omega
  clear hf hkeep hka hfn hkn
  obtain ⟨y, hy⟩ : ∃ y, wrap64 (x + 1) = y := ⟨_, rfl⟩
  have hwy : IntKind.i64.wrap (x + 1) = y := by rw [← hy, IntKind.wrap_i64]; unfold wrap64; rfl
  go_enter Try.func12, Try.ntmps12
  go_wp2_with fail
  refine (alive_any _).mono ?_
  rintro e w0 ⟨rfl, hb0⟩
  have HB0 := Lib.hid hb0
  have HFR := Lib.hid (fresh_in 30 w0 (by omega) (by omega))
  clear hb0
  go_wp2_with fail
  refine (HFR.out).mono ?_
  rintro e w2 ⟨p, lp, rfl, hq2, hb2⟩
  obtain ⟨SS, hSS⟩ : ∃ SS : Nat → Prop, SS = fun j => w0.heap.size ≤ j := ⟨_, rfl⟩
  have hq2s := hq2.s
  rw [← hSS] at hq2s
  have HQ2 := Lib.hid hq2s
  have HB2 := Lib.hid (HB0.out.trans (hb2.mono HB0.out.size))
  have HZ2 := Lib.hid hb2.size
  have HZ0 := Lib.hid HB0.out.size
  have HUP : Hid (∀ W : World, w0.heap.size ≤ W.heap.size → Up W SS) := fun W h1 j hj => by rw [hSS]; show _ ≤ _; omega
  have HKB : Hid (∀ (W W' : World), w.heap.size ≤ W.heap.size → Keeps SS W W' → Below w.heap.size W W') := fun W W' h1 h2 => h2.below_of h1 (fun k hk e => by rw [hSS] at e; have : w0.heap.size ≤ k := e; have := HZ0.out; omega)
  have HKA2 : Hid (∀ z, ka = some z → 0 < kn → ¬ SS z.block) := fun z h1 h2 e => by rw [hSS] at e; have : w0.heap.size ≤ z.block := e; have := HKA.out z h1 h2; have := HZ0.out; omega
  clear hq2 hb2 HFR hSS hq2s
  go_wp2_with fail
  refine (block_any x _).mono ?_
  rintro e w3 ⟨rfl, hx3, hb3⟩
  have HX3 := Lib.hid hx3
  have HB3 := Lib.hid hb3
  clear hx3 hb3
  go_wp2_with fail
  refine (block_any y _).mono ?_
  rintro e w4 ⟨rfl, hx4, hb4⟩
  have hb24 := HB3.out.trans (hb4.mono HB3.out.size)
  have hpf := puts_two (a := 7) (b := 29) (lo := w2.heap.size) hb24.size (Nat.le_refl _) HB3.out.size (RowAt.below HX3.out hb4 (Nat.le_refl _)) hx4
  have hal := (Below.refl _ w4).alloc (Nat.le_refl _) (.cells #[.int .i64 ((7 : Nat) : Int), .slice (some ⟨w2.heap.size, 0, none⟩) 512 512, .int .i64 ((29 : Nat) : Int), .slice (some ⟨w3.heap.size, 0, none⟩) 512 512] 26 (0, 0))
  have hb25 := hb24.trans (hal.mono hb24.size)
  have HC := Lib.hid (commit_qs HQ2.out (Keeps.of_below (S := fun _ => False) hb25) (fun _ _ _ e => e) (HUP.out _ HZ2.out) _ _ hpf (putOk_two (n := 96 + 30) (by omega) (by omega) (by omega) (blk_length _) (blk_length _)))
  have HB5 := Lib.hid (HB2.out.trans (hb25.mono HB2.out.size))
  have HZ5 := Lib.hid (Nat.le_trans HZ2.out hb25.size)
  clear hx4 hb4 hb24 hpf hal hb25 HX3 HB3
  go_wp2_with fail
  refine (HC.out).mono ?_
  rintro e w5 ⟨rfl, hq5, hk5⟩
  have HZ6 := Lib.hid (Nat.le_trans HZ5.out hk5.size)
  have HB6 := Lib.hid (HB5.out.trans (HKB.out _ _ HB5.out.size hk5))
  have HSY := Lib.hid (sync_qs hq5 (by omega))
  clear hq5 hk5 HC HB5 HZ5 HZ2 HB2 HQ2
  go_wp2_with fail
  refine (HSY.out).mono ?_
  rintro e w6 ⟨rfl, hq6, hb6⟩
  have HQ6 := Lib.hid hq6
  have HZ7 := Lib.hid (Nat.le_trans HZ6.out hb6.size)
  have HB7 := Lib.hid (HB6.out.trans (hb6.mono HB6.out.size))
  clear hq6 hb6 HSY HB6 HZ6
  go_wp2_with fail
  refine (num_any _ _).mono ?_
  rintro e w7 ⟨rfl, rfl⟩
  go_wp2_with fail
  refine (num_any _ _).mono ?_
  rintro e w7 ⟨rfl, rfl⟩
  go_wp2_with fail
  go_loopw [9, 13] (fun l i wr => ∃ (lp2 k : Nat) (c : Nat → Bs), l = .pointer (some ⟨lp2, 0, none⟩) ∧ i = .int .i64 (k : Int) ∧ k ≤ fn ∧ Hid (SynC x y (k : Int) c) ∧ QS wr SS lp2 p (96 + 30) c ∧ w0.heap.size ≤ wr.heap.size ∧ Below w.heap.size w wr) (fun _ i _ => fn - (intOf i).toNat)
  case atStart => exact ⟨lp, 0, _, rfl, rfl, Nat.zero_le _, SynC.start x y, HQ6.out, HZ7.out, HB7.out⟩
  case round =>
    obtain ⟨lp2, k, c, rfl, rfl, hk, HSC, hq, hz, hb⟩ := hrel
    have HQ := Lib.hid hq
    have HZ := Lib.hid hz
    have HB := Lib.hid hb
    have k0 : (0 : Int) ≤ (k : Int) := by omega
    clear hq hz hb HQ6 HZ7 HB7
    by_cases hlt : k < fn
    · have k1 : (k : Int) < (fn : Int) := by omega
      have k8 : (k : Int) ≤ 7 := by omega
      obtain ⟨g, off, hg, hcell⟩ : ∃ g off, fa = some ⟨g, off, none⟩ ∧ ∀ i, i < fn → w.cell? ⟨g, off + i, none⟩ = some (.int .i64 (fs i)) := HF.out.elim (fun e => by omega) id
      have hck := (HB.out.cell (p := ⟨g, off + k, none⟩) (World.block_lt_of_cell? _ _ (hcell k hlt))).trans (hcell k hlt)
      obtain ⟨m, hm, hbits⟩ := and_low (fs k) 63 (by omega)
      have hbits : bits BinOp.and IntKind.i64 (fs k) 63 = (m : Int) := hbits
      have m0 : (0 : Int) ≤ (m : Int) := by omega
      have m1 : (m : Int) ≤ 63 := by omega
      subst hg
      have HFU := Lib.hid (fuse_qo HQ.out.qo (HUP.out _ HZ.out) (m : Int) (by omega) (by omega))
      clear hcell hlt hk hm
      go_wp2_with fail
      refine (HFU.out).mono ?_
      rintro e w8 ⟨rfl, hq8, hk8⟩
      have HQ8 := Lib.hid hq8
      have HZ8 := Lib.hid (Nat.le_trans HZ.out hk8.size)
      have HB8 := Lib.hid (HB.out.trans (HKB.out _ _ HB.out.size hk8))
      clear hq8 hk8 HFU HQ HZ HB hck hbits
      go_wp2_with fail
      refine (block_any ((k : Int) + 5) _).mono ?_
      rintro e w9 ⟨rfl, hx9, hb9⟩
      have HX9 := Lib.hid hx9
      have HB9 := Lib.hid hb9
      clear hx9 hb9
      go_wp2_with fail
      refine (block_any ((k : Int) + 6) _).mono ?_
      rintro e w10 ⟨rfl, hx10, hb10⟩
      have hb24 := HB9.out.trans (hb10.mono HB9.out.size)
      have hpf := puts_two (a := 3) (b := 8) (lo := w8.heap.size) hb24.size (Nat.le_refl _) HB9.out.size (RowAt.below HX9.out hb10 (Nat.le_refl _)) hx10
      have hal := (Below.refl _ w10).alloc (Nat.le_refl _) (.cells #[.int .i64 ((3 : Nat) : Int), .slice (some ⟨w8.heap.size, 0, none⟩) 512 512, .int .i64 ((8 : Nat) : Int), .slice (some ⟨w9.heap.size, 0, none⟩) 512 512] 26 (0, 0))
      have hb25 := hb24.trans (hal.mono hb24.size)
      have HC := Lib.hid (commit_cr HQ8.out (Keeps.of_below (S := fun _ => False) hb25) (fun _ _ _ e => e) (HUP.out _ HZ8.out) _ _ hpf (putOk_two (n := 96 + 30) (by omega) (by omega) (by omega) (blk_length _) (blk_length _)))
      have HB10 := Lib.hid (HB8.out.trans (hb25.mono HB8.out.size))
      have HZ10 := Lib.hid (Nat.le_trans HZ8.out hb25.size)
      clear hx10 hb10 hb24 hpf hal hb25 HX9 HB9 HB8 HZ8 HQ8
      go_wp2_with fail
      refine (HC.out).mono ?_
      rintro e w11 ⟨⟨v11, rfl⟩, hc11, hk11⟩
      have HZ11 := Lib.hid (Nat.le_trans HZ10.out hk11.size)
      have HB11 := Lib.hid (HB10.out.trans (HKB.out _ _ HB10.out.size hk11))
      have HCR := Lib.hid (crash_s hc11 (HUP.out _ HZ11.out) ka kn kc ks (HKEEP.out.below HB11.out) HKA2.out)
      clear hc11 hk11 HC HB10 HZ10
      go_wp2_with fail
      refine (HCR.out).mono ?_
      rintro e w12 ⟨⟨v12, rfl⟩, hl12, hk12⟩
      have HZ12 := Lib.hid (Nat.le_trans HZ11.out hk12.size)
      have HB12 := Lib.hid (HB11.out.trans (HKB.out _ _ HB11.out.size hk12))
      have HFU := Lib.hid (fuse_ls hl12 (HUP.out _ HZ12.out) ((m : Int) / 2) (by omega) (by omega))
      clear hl12 hk12 HCR HB11 HZ11
      go_wp2_with fail
      refine (HFU.out).mono ?_
      rintro e w13 ⟨rfl, hf13, hk13⟩
      have HZ13 := Lib.hid (Nat.le_trans HZ12.out hk13.size)
      have HB13 := Lib.hid (HB12.out.trans (HKB.out _ _ HB12.out.size hk13))
      have HOP := Lib.hid (open_cr hf13 (HUP.out _ HZ13.out) (by omega) (C := SynC x y ((k : Int) + 1)) (fun I hI => hI.elim (fun h => ⟨_, HSC.out.next, h⟩) (fun h => ⟨_, HSC.out.put, h⟩)))
      clear hf13 hk13 HFU HB12 HZ12
      go_wp2_with fail
      refine (HOP.out).mono ?_
      rintro e w14 ⟨⟨v14, rfl⟩, hc14, hk14⟩
      have HZ14 := Lib.hid (Nat.le_trans HZ13.out hk14.size)
      have HB14 := Lib.hid (HB13.out.trans (HKB.out _ _ HB13.out.size hk14))
      have HCR := Lib.hid (crash_s hc14 (HUP.out _ HZ14.out) ka kn kc ks (HKEEP.out.below HB14.out) HKA2.out)
      clear hc14 hk14 HOP HB13 HZ13
      go_wp2_with fail
      refine (HCR.out).mono ?_
      rintro e w15 ⟨⟨v15, rfl⟩, hl15, hk15⟩
      have HZ15 := Lib.hid (Nat.le_trans HZ14.out hk15.size)
      have HB15 := Lib.hid (HB14.out.trans (HKB.out _ _ HB14.out.size hk15))
      have HOP := Lib.hid (open_ls hl15 (HUP.out _ HZ15.out) (by omega) (C := SynC x y ((k : Int) + 1)) (fun I hI => hI))
      clear hl15 hk15 HCR HB14 HZ14
      go_wp2_with fail
      refine (HOP.out).mono ?_
      rintro e w16 ⟨lp3, c3, rfl, hsc, hq16, hk16⟩
      have HQ16 := Lib.hid hq16
      have HSC3 := Lib.hid hsc
      have HZ16 := Lib.hid (Nat.le_trans HZ15.out hk16.size)
      have HB16 := Lib.hid (HB15.out.trans (HKB.out _ _ HB15.out.size hk16))
      have HR7 := Lib.hid (read_qo hq16.qo 7 (by omega))
      clear hq16 hsc hk16 HOP HB15 HZ15
      go_wp2_with fail
      refine (num_any _ _).mono ?_
      rintro e w17 ⟨rfl, rfl⟩
      go_wp2_with fail
      refine (HR7.out).mono ?_
      rintro e w17 ⟨g7, c7, rfl, hx7, _, hb7⟩
      have HX7 := Lib.hid hx7
      have HB7 := Lib.hid hb7
      have HR29 := Lib.hid (read_qo (HQ16.out.qo.below hb7) 29 (by omega))
      clear hx7 hb7 HR7
      go_wp2_with fail
      refine (HR29.out).mono ?_
      rintro e w18 ⟨g29, c29, rfl, hx29, _, hb29⟩
      have HX29 := Lib.hid hx29
      have HB29 := Lib.hid hb29
      have HB729 := Lib.hid (HB7.out.trans (hb29.mono HB7.out.size))
      have HR3 := Lib.hid (read_qo (HQ16.out.qo.below HB729.out) 3 (by omega))
      clear hx29 hb29 HR29
      go_wp2_with fail
      refine (HR3.out).mono ?_
      rintro e w19 ⟨g3, cp3, rfl, hx3, _, hb3⟩
      have HX3 := Lib.hid hx3
      have HB3 := Lib.hid hb3
      have HB73 := Lib.hid (HB729.out.trans (hb3.mono HB729.out.size))
      have HR8 := Lib.hid (read_qo (HQ16.out.qo.below HB73.out) 8 (by omega))
      clear hx3 hb3 HR3
      go_wp2_with fail
      refine (HR8.out).mono ?_
      rintro e w20 ⟨g8, cp8, rfl, hx8, _, hb8⟩
      have HB20 := Lib.hid (HB73.out.trans (hb8.mono HB73.out.size))
      have HQ20 := Lib.hid (HQ16.out.below HB20.out)
      have HZ20 := Lib.hid (Nat.le_trans HZ16.out HB20.out.size)
      have HBW := Lib.hid (HB16.out.trans (HB20.out.mono HB16.out.size))
      have h7 : Bytes w20 (.slice (some ⟨g7, 0, none⟩) 512 c7) (blk x) := by
        rw [← HSC3.out.1]
        exact RowAt.below HX7.out (HB29.out.trans ((HB3.out.trans (hb8.mono HB3.out.size)).mono HB29.out.size)) (Nat.le_refl _)
      have h29 : Bytes w20 (.slice (some ⟨g29, 0, none⟩) 512 c29) (blk y) := by
        rw [← HSC3.out.2.1]
        exact RowAt.below HX29.out (HB3.out.trans (hb8.mono HB3.out.size)) (Nat.le_refl _)
      have h3 : Bytes w20 (.slice (some ⟨g3, 0, none⟩) 512 cp3) (c3 3) := RowAt.below HX3.out hb8 (Nat.le_refl _)
      have hcv7 : ∀ W, Below w20.heap.size w20 W → (convert 24 9 (.slice (some ⟨g7, 0, none⟩) 512 c7)).run Try.prog W = .ok (.string ⟨(blk x).toArray⟩) W := fun W hW => run_string_of W 24 5 Try.underlying24 Try.underlying5 (RowAt.below h7 hW (Nat.le_refl _)) 9 Try.underlying9
      have hcv29 : ∀ W, Below w20.heap.size w20 W → (convert 24 9 (.slice (some ⟨g29, 0, none⟩) 512 c29)).run Try.prog W = .ok (.string ⟨(blk y).toArray⟩) W := fun W hW => run_string_of W 24 5 Try.underlying24 Try.underlying5 (RowAt.below h29 hW (Nat.le_refl _)) 9 Try.underlying9
      have hcv3 : ∀ W, Below w20.heap.size w20 W → (convert 24 9 (.slice (some ⟨g3, 0, none⟩) 512 cp3)).run Try.prog W = .ok (.string ⟨(c3 3).toArray⟩) W := fun W hW => run_string_of W 24 5 Try.underlying24 Try.underlying5 (RowAt.below h3 hW (Nat.le_refl _)) 9 Try.underlying9
      have hcv8 : ∀ W, Below w20.heap.size w20 W → (convert 24 9 (.slice (some ⟨g8, 0, none⟩) 512 cp8)).run Try.prog W = .ok (.string ⟨(c3 8).toArray⟩) W := fun W hW => run_string_of W 24 5 Try.underlying24 Try.underlying5 (RowAt.below hx8 hW (Nat.le_refl _)) 9 Try.underlying9
      have H7 := Lib.hid hcv7
      have H29 := Lib.hid hcv29
      have H3 := Lib.hid hcv3
      have H8 := Lib.hid hcv8
      have HOR : Hid ((c3 3 = blk 0 ∧ c3 8 = blk 0) ∨ ∃ q : Nat, (q : Int) < (k : Int) + 1 ∧ c3 3 = blk ((q : Int) + 5) ∧ c3 8 = blk ((q : Int) + 6)) := HSC3.out.2.2
      clear hx8 hb8 HR8 hcv7 hcv29 hcv3 hcv8 h7 h29 h3 HX7 HX29 HX3 HB7 HB29 HB3 HB729 HB73 HB16 HZ16 HQ16 HB20
      obtain ⟨B3, hB3⟩ : ∃ B3, c3 3 = B3 := ⟨_, rfl⟩
      obtain ⟨B8, hB8⟩ : ∃ B8, c3 8 = B8 := ⟨_, rfl⟩
      rw [hB3, hB8] at HOR
      rw [hB3] at H3
      rw [hB8] at H8
      clear hB3 hB8
      have HSD : Hid (Below w20.heap.size w20 w20.drew) := (Below.refl _ _).drew
      go_upto_region 26 with fail
      go_cut [25] from 71 to 199 (fun s25 wx => ∃ nn : Bool, s25 = .bool nn ∧ Hid (nn = true ∨ ∃ q : Nat, (q : Int) < (k : Int) + 1 ∧ B3 = blk ((q : Int) + 5) ∧ B8 = blk ((q : Int) + 6)) ∧ Below w20.heap.size w20 wx)
      case first =>
        have hcv3 := H3.out
        by_cases h3 : B3 = blk 0
        · by_cases h8 : B8 = blk 0
          · have HN : Hid (true = true ∨ ∃ q : Nat, (q : Int) < (k : Int) + 1 ∧ B3 = blk ((q : Int) + 5) ∧ B8 = blk ((q : Int) + 6)) := .inl rfl
            rw [h3] at hcv3
            clear h3
            refine wp_region_noPanic ?_
            refine wp_region_ordL 12 [3, 9, 12] [0, 1, 2, 3, 4, 5, 6, 7, 8, 9, 10, 11, 12] (fun W => Below w20.heap.size w20 W) (by kernel_rfl) (by kernel_rfl) rfl (by kernel_rfl) (fun _ _ _ _ _ h => h) HSD.out ?_
            repeat (apply heldL_run rfl (by rfl) (by rfl); (intro w hSw; go_simp; with_reducible rfl); (try simp only [Act.put, List.setIfInBounds_toArray, List.set_cons_zero, List.set_cons_succ]))
            refine heldL_step rfl (by rfl) (by rfl) (fun K hK => ?_)
            go_simp
            refine (block_any 0 _).mono ?_
            rintro e w21 ⟨rfl, hx21, hb21⟩
            have HS21 : Hid (Below w20.heap.size w20 w21) := HSD.out.trans hb21
            have hc21 := run_string_of w21 24 5 Try.underlying24 Try.underlying5 hx21 9 Try.underlying9
            clear hx21 hb21
            generalize w20.drew.heap.size = q9 at *
            refine hK.out _ _ (.inr HS21.out) ?_
            clear hK K
            (try simp only [Act.put, List.setIfInBounds_toArray, List.set_cons_zero, List.set_cons_succ])
            repeat (apply heldL_run rfl (by rfl) (by rfl); (intro w hSw; go_simp; with_reducible rfl); (try simp only [Act.put, List.setIfInBounds_toArray, List.set_cons_zero, List.set_cons_succ]))
            refine heldL_step rfl (by rfl) (by rfl) (fun K hK => ?_)
            go_simp
            refine hK.out _ _ (.inr HS21.out) ?_
            clear hK K
            (try simp only [Act.put, List.setIfInBounds_toArray, List.set_cons_zero, List.set_cons_succ])
            have hcv8 := H8.out
            rw [h8] at hcv8
            clear h8 hc21
            repeat (apply heldL_run rfl (by rfl) (by rfl); (intro w hSw; go_simp; with_reducible rfl); (try simp only [Act.put, List.setIfInBounds_toArray, List.set_cons_zero, List.set_cons_succ]))
            refine heldL_step rfl (by rfl) (by rfl) (fun K hK => ?_)
            go_simp
            refine (block_any 0 _).mono ?_
            rintro e w22 ⟨rfl, hx22, hb22⟩
            have HS22 : Hid (Below w20.heap.size w20 w22) := HS21.out.trans (hb22.mono HS21.out.size)
            have hc22 := run_string_of w22 24 5 Try.underlying24 Try.underlying5 hx22 9 Try.underlying9
            clear hx22 hb22
            generalize w21.heap.size = q10 at *
            refine hK.out _ _ (.inr HS22.out) ?_
            clear hK K
            (try simp only [Act.put, List.setIfInBounds_toArray, List.set_cons_zero, List.set_cons_succ])
            repeat (apply heldL_run rfl (by rfl) (by rfl); (intro w hSw; go_simp; with_reducible rfl); (try simp only [Act.put, List.setIfInBounds_toArray, List.set_cons_zero, List.set_cons_succ]))
            refine heldL_step rfl (by rfl) (by rfl) (fun K hK => ?_)
            go_simp
            refine hK.out _ _ (.inr HS22.out) ?_
            clear hK K
            (try simp only [Act.put, List.setIfInBounds_toArray, List.set_cons_zero, List.set_cons_succ])
            repeat (apply heldL_run rfl (by rfl) (by rfl); (intro w hSw; go_simp; with_reducible rfl); (try simp only [Act.put, List.setIfInBounds_toArray, List.set_cons_zero, List.set_cons_succ]))
            refine heldL_step rfl (by rfl) (by rfl) (fun K hK => ?_)
            go_simp
            refine hK.out _ _ (.inl rfl) ?_
            clear hK K
            (try simp only [Act.put, List.setIfInBounds_toArray, List.set_cons_zero, List.set_cons_succ])
            refine heldL_nil (NoPanic.normal ?_)
            go_wp2_with fail
            go_meet
            exact ⟨true, rfl, .inl rfl, HS22.out⟩
          · have HN : Hid (false = true ∨ ∃ q : Nat, (q : Int) < (k : Int) + 1 ∧ B3 = blk ((q : Int) + 5) ∧ B8 = blk ((q : Int) + 6)) := HOR.out.elim (fun e => absurd e.2 h8) .inr
            have hbe : (B8 == blk 0) = false := by simpa using h8
            rw [h3] at hcv3
            clear h3 h8
            refine wp_region_noPanic ?_
            refine wp_region_ordL 12 [3, 9, 12] [0, 1, 2, 3, 4, 5, 6, 7, 8, 9, 10, 11, 12] (fun W => Below w20.heap.size w20 W) (by kernel_rfl) (by kernel_rfl) rfl (by kernel_rfl) (fun _ _ _ _ _ h => h) HSD.out ?_
            repeat (apply heldL_run rfl (by rfl) (by rfl); (intro w hSw; go_simp; with_reducible rfl); (try simp only [Act.put, List.setIfInBounds_toArray, List.set_cons_zero, List.set_cons_succ]))
            refine heldL_step rfl (by rfl) (by rfl) (fun K hK => ?_)
            go_simp
            refine (block_any 0 _).mono ?_
            rintro e w21 ⟨rfl, hx21, hb21⟩
            have HS21 : Hid (Below w20.heap.size w20 w21) := HSD.out.trans hb21
            have hc21 := run_string_of w21 24 5 Try.underlying24 Try.underlying5 hx21 9 Try.underlying9
            clear hx21 hb21
            generalize w20.drew.heap.size = q9 at *
            refine hK.out _ _ (.inr HS21.out) ?_
            clear hK K
            (try simp only [Act.put, List.setIfInBounds_toArray, List.set_cons_zero, List.set_cons_succ])
            repeat (apply heldL_run rfl (by rfl) (by rfl); (intro w hSw; go_simp; with_reducible rfl); (try simp only [Act.put, List.setIfInBounds_toArray, List.set_cons_zero, List.set_cons_succ]))
            refine heldL_step rfl (by rfl) (by rfl) (fun K hK => ?_)
            go_simp
            refine hK.out _ _ (.inr HS21.out) ?_
            clear hK K
            (try simp only [Act.put, List.setIfInBounds_toArray, List.set_cons_zero, List.set_cons_succ])
            have hcv8 := H8.out
            clear hc21
            repeat (apply heldL_run rfl (by rfl) (by rfl); (intro w hSw; go_simp; with_reducible rfl); (try simp only [Act.put, List.setIfInBounds_toArray, List.set_cons_zero, List.set_cons_succ]))
            refine heldL_step rfl (by rfl) (by rfl) (fun K hK => ?_)
            go_simp
            refine (block_any 0 _).mono ?_
            rintro e w22 ⟨rfl, hx22, hb22⟩
            have HS22 : Hid (Below w20.heap.size w20 w22) := HS21.out.trans (hb22.mono HS21.out.size)
            have hc22 := run_string_of w22 24 5 Try.underlying24 Try.underlying5 hx22 9 Try.underlying9
            clear hx22 hb22
            generalize w21.heap.size = q10 at *
            refine hK.out _ _ (.inr HS22.out) ?_
            clear hK K
            (try simp only [Act.put, List.setIfInBounds_toArray, List.set_cons_zero, List.set_cons_succ])
            repeat (apply heldL_run rfl (by rfl) (by rfl); (intro w hSw; go_simp; with_reducible rfl); (try simp only [Act.put, List.setIfInBounds_toArray, List.set_cons_zero, List.set_cons_succ]))
            refine heldL_step rfl (by rfl) (by rfl) (fun K hK => ?_)
            go_simp
            refine hK.out _ _ (.inr HS22.out) ?_
            clear hK K
            (try simp only [Act.put, List.setIfInBounds_toArray, List.set_cons_zero, List.set_cons_succ])
            repeat (apply heldL_run rfl (by rfl) (by rfl); (intro w hSw; go_simp; with_reducible rfl); (try simp only [Act.put, List.setIfInBounds_toArray, List.set_cons_zero, List.set_cons_succ]))
            refine heldL_step rfl (by rfl) (by rfl) (fun K hK => ?_)
            go_simp
            refine hK.out _ _ (.inl rfl) ?_
            clear hK K
            (try simp only [Act.put, List.setIfInBounds_toArray, List.set_cons_zero, List.set_cons_succ])
            refine heldL_nil (NoPanic.normal ?_)
            go_wp2_with fail
            go_meet
            exact ⟨false, rfl, HN.out, HS22.out⟩
        · have HN : Hid (false = true ∨ ∃ q : Nat, (q : Int) < (k : Int) + 1 ∧ B3 = blk ((q : Int) + 5) ∧ B8 = blk ((q : Int) + 6)) := HOR.out.elim (fun e => absurd e.1 h3) .inr
          have hbe : (B3 == blk 0) = false := by simpa using h3
          clear h3
          refine wp_region_noPanic ?_
          refine wp_region_ordL 12 [3, 9, 12] [0, 1, 2, 3, 4, 5, 6, 7, 8, 9, 10, 11, 12] (fun W => Below w20.heap.size w20 W) (by kernel_rfl) (by kernel_rfl) rfl (by kernel_rfl) (fun _ _ _ _ _ h => h) HSD.out ?_
          repeat (apply heldL_run rfl (by rfl) (by rfl); (intro w hSw; go_simp; with_reducible rfl); (try simp only [Act.put, List.setIfInBounds_toArray, List.set_cons_zero, List.set_cons_succ]))
          refine heldL_step rfl (by rfl) (by rfl) (fun K hK => ?_)
          go_simp
          refine (block_any 0 _).mono ?_
          rintro e w21 ⟨rfl, hx21, hb21⟩
          have HS21 : Hid (Below w20.heap.size w20 w21) := HSD.out.trans hb21
          have hc21 := run_string_of w21 24 5 Try.underlying24 Try.underlying5 hx21 9 Try.underlying9
          clear hx21 hb21
          generalize w20.drew.heap.size = q9 at *
          refine hK.out _ _ (.inr HS21.out) ?_
          clear hK K
          (try simp only [Act.put, List.setIfInBounds_toArray, List.set_cons_zero, List.set_cons_succ])
          repeat (apply heldL_run rfl (by rfl) (by rfl); (intro w hSw; go_simp; with_reducible rfl); (try simp only [Act.put, List.setIfInBounds_toArray, List.set_cons_zero, List.set_cons_succ]))
          refine heldL_step rfl (by rfl) (by rfl) (fun K hK => ?_)
          go_simp
          refine hK.out _ _ (.inr HS21.out) ?_
          clear hK K
          (try simp only [Act.put, List.setIfInBounds_toArray, List.set_cons_zero, List.set_cons_succ])
          repeat (first | (apply heldL_run rfl (by rfl) (by rfl); (intro w hSw; go_simp; with_reducible rfl); (try simp only [Act.put, List.setIfInBounds_toArray, List.set_cons_zero, List.set_cons_succ])) | (refine heldL_skip rfl (by rfl) (by rfl) ?_; (try simp only [Act.put, List.setIfInBounds_toArray, List.set_cons_zero, List.set_cons_succ])) | (refine heldL_pass rfl (by rfl) (by rfl) (.inr HS21.out) ?_; (try simp only [Act.put, List.setIfInBounds_toArray, List.set_cons_zero, List.set_cons_succ])))
          refine heldL_step rfl (by rfl) (by rfl) (fun K hK => ?_)
          go_simp
          refine hK.out _ _ (.inl rfl) ?_
          clear hK K
          (try simp only [Act.put, List.setIfInBounds_toArray, List.set_cons_zero, List.set_cons_succ])
          refine heldL_nil (NoPanic.normal ?_)
          go_wp2_with fail
          go_meet
          exact ⟨false, rfl, HN.out, HS21.out⟩
      case rest =>
      obtain ⟨nn, rfl, HNN, hbc⟩ := hcut
      have HBC := Lib.hid hbc
      clear hbc HSD
      go_wp2_with fail
      go_loopw [26, 27] (fun b i wr => ∃ (bb : Bool) (j : Nat), b = .bool bb ∧ i = .int .i64 (j : Int) ∧ (j : Int) ≤ (k : Int) + 1 ∧ Hid (bb = true ∨ ∀ q : Nat, q < j → ¬ (B3 = blk ((q : Int) + 5) ∧ B8 = blk ((q : Int) + 6))) ∧ Below w20.heap.size w20 wr) (fun _ i _ => k + 1 - (intOf i).toNat)
      case atStart => exact ⟨false, 0, rfl, rfl, by omega, .inr (fun q h => by omega), HBC.out⟩
      case round =>
        obtain ⟨bb, j, rfl, rfl, hj, HJ, hbj⟩ := hrel
        have HBJ := Lib.hid hbj
        have j0 : (0 : Int) ≤ (j : Int) := by omega
        have HSD : Hid (Below w20.heap.size w20 wr.drew) := hbj.trans ((Below.refl _ _).drew.mono hbj.size)
        clear hbj
        by_cases hjl : (j : Int) ≤ (k : Int)
        · have hj7 : (j : Int) ≤ 7 := by omega
          have hw5 : IntKind.i64.wrap ((j : Int) + 5) = (j : Int) + 5 := by rw [IntKind.wrap_i64]; omega
          have hw6 : IntKind.i64.wrap ((j : Int) + 6) = (j : Int) + 6 := by rw [IntKind.wrap_i64]; omega
          cases bb with
          | true =>
            go_wp2_with fail
            refine wp_region_noPanic ?_
            refine wp_region_ordL 19 [7, 15, 19] [0, 1, 2, 3, 4, 5, 6, 7, 8, 9, 10, 11, 12, 13, 14, 15, 16, 17, 18, 19] (fun W => Below w20.heap.size w20 W) (by kernel_rfl) (by kernel_rfl) rfl (by kernel_rfl) (fun _ _ _ _ _ h => h) HSD.out ?_
            repeat (first | (apply heldL_run rfl (by rfl) (by rfl); (intro w hSw; go_simp; with_reducible rfl); (try simp only [Act.put, List.setIfInBounds_toArray, List.set_cons_zero, List.set_cons_succ])) | (refine heldL_skip rfl (by rfl) (by rfl) ?_; (try simp only [Act.put, List.setIfInBounds_toArray, List.set_cons_zero, List.set_cons_succ])) | (refine heldL_pass rfl (by rfl) (by rfl) (.inr HSD.out) ?_; (try simp only [Act.put, List.setIfInBounds_toArray, List.set_cons_zero, List.set_cons_succ])))
            refine heldL_step rfl (by rfl) (by rfl) (fun K hK => ?_)
            go_simp
            refine hK.out _ _ (.inl rfl) ?_
            clear hK K
            (try simp only [Act.put, List.setIfInBounds_toArray, List.set_cons_zero, List.set_cons_succ])
            refine heldL_nil (NoPanic.normal ?_)
            go_wp2_with fail
            go_roundw
            case rel => exact ⟨true, j + 1, rfl, by go_num, by omega, .inl rfl, HSD.out⟩
            case measure => simp [intOf]; omega
          | false =>
            have HJ2 : Hid (∀ q : Nat, q < j → ¬ (B3 = blk ((q : Int) + 5) ∧ B8 = blk ((q : Int) + 6))) := HJ.out.elim (fun e => by cases e) id
            have hcv3 := H3.out
            by_cases h3 : B3 = blk ((j : Int) + 5)
            · by_cases h8 : B8 = blk ((j : Int) + 6)
              · rw [h3] at hcv3
                have H83 := Lib.hid h8
                clear h3 h8
                go_wp2_with fail
                refine wp_region_noPanic ?_
                refine wp_region_ordL 19 [7, 15, 19] [0, 1, 2, 3, 4, 5, 6, 7, 8, 9, 10, 11, 12, 13, 14, 15, 16, 17, 18, 19] (fun W => Below w20.heap.size w20 W) (by kernel_rfl) (by kernel_rfl) rfl (by kernel_rfl) (fun _ _ _ _ _ h => h) HSD.out ?_
                repeat (apply heldL_run rfl (by rfl) (by rfl); (intro w hSw; go_simp; with_reducible rfl); (try simp only [Act.put, List.setIfInBounds_toArray, List.set_cons_zero, List.set_cons_succ]))
                refine heldL_step rfl (by rfl) (by rfl) (fun K hK => ?_)
                go_simp
                refine (block_any ((j : Int) + 5) _).mono ?_
                rintro e w21 ⟨rfl, hx21, hb21⟩
                have HS21 : Hid (Below w20.heap.size w20 w21) := HSD.out.trans (hb21.mono HSD.out.size)
                have hc21 := run_string_of w21 24 5 Try.underlying24 Try.underlying5 hx21 9 Try.underlying9
                clear hx21 hb21
                generalize wr.drew.heap.size = q9 at *
                refine hK.out _ _ (.inr HS21.out) ?_
                clear hK K
                (try simp only [Act.put, List.setIfInBounds_toArray, List.set_cons_zero, List.set_cons_succ])
                repeat (apply heldL_run rfl (by rfl) (by rfl); (intro w hSw; go_simp; with_reducible rfl); (try simp only [Act.put, List.setIfInBounds_toArray, List.set_cons_zero, List.set_cons_succ]))
                refine heldL_step rfl (by rfl) (by rfl) (fun K hK => ?_)
                go_simp
                refine hK.out _ _ (.inr HS21.out) ?_
                clear hK K
                (try simp only [Act.put, List.setIfInBounds_toArray, List.set_cons_zero, List.set_cons_succ])
                have hcv8 := H8.out
                rw [H83.out] at hcv8
                clear hc21
                repeat (apply heldL_run rfl (by rfl) (by rfl); (intro w hSw; go_simp; with_reducible rfl); (try simp only [Act.put, List.setIfInBounds_toArray, List.set_cons_zero, List.set_cons_succ]))
                refine heldL_step rfl (by rfl) (by rfl) (fun K hK => ?_)
                go_simp
                refine (block_any ((j : Int) + 6) _).mono ?_
                rintro e w22 ⟨rfl, hx22, hb22⟩
                have HS22 : Hid (Below w20.heap.size w20 w22) := HS21.out.trans (hb22.mono HS21.out.size)
                have hc22 := run_string_of w22 24 5 Try.underlying24 Try.underlying5 hx22 9 Try.underlying9
                clear hx22 hb22
                generalize w21.heap.size = q10 at *
                refine hK.out _ _ (.inr HS22.out) ?_
                clear hK K
                (try simp only [Act.put, List.setIfInBounds_toArray, List.set_cons_zero, List.set_cons_succ])
                repeat (apply heldL_run rfl (by rfl) (by rfl); (intro w hSw; go_simp; with_reducible rfl); (try simp only [Act.put, List.setIfInBounds_toArray, List.set_cons_zero, List.set_cons_succ]))
                refine heldL_step rfl (by rfl) (by rfl) (fun K hK => ?_)
                go_simp
                refine hK.out _ _ (.inr HS22.out) ?_
                clear hK K
                (try simp only [Act.put, List.setIfInBounds_toArray, List.set_cons_zero, List.set_cons_succ])
                repeat (apply heldL_run rfl (by rfl) (by rfl); (intro w hSw; go_simp; with_reducible rfl); (try simp only [Act.put, List.setIfInBounds_toArray, List.set_cons_zero, List.set_cons_succ]))
                refine heldL_step rfl (by rfl) (by rfl) (fun K hK => ?_)
                go_simp
                refine hK.out _ _ (.inl rfl) ?_
                clear hK K
                (try simp only [Act.put, List.setIfInBounds_toArray, List.set_cons_zero, List.set_cons_succ])
                refine heldL_nil (NoPanic.normal ?_)
                go_wp2_with fail
                go_roundw
                case rel => exact ⟨true, j + 1, rfl, by go_num, by omega, .inl rfl, HS22.out⟩
                case measure => simp [intOf]; omega
              · have HJ3 : Hid (∀ q : Nat, q < j + 1 → ¬ (B3 = blk ((q : Int) + 5) ∧ B8 = blk ((q : Int) + 6))) := fun q hq e => by
                  rcases Nat.lt_or_ge q j with h | h
                  · exact HJ2.out q h e
                  · rw [show q = j by omega] at e
                    exact h8 e.2
                have hbe : (B8 == blk ((j : Int) + 6)) = false := by simpa using h8
                rw [h3] at hcv3
                clear h3 h8
                go_wp2_with fail
                refine wp_region_noPanic ?_
                refine wp_region_ordL 19 [7, 15, 19] [0, 1, 2, 3, 4, 5, 6, 7, 8, 9, 10, 11, 12, 13, 14, 15, 16, 17, 18, 19] (fun W => Below w20.heap.size w20 W) (by kernel_rfl) (by kernel_rfl) rfl (by kernel_rfl) (fun _ _ _ _ _ h => h) HSD.out ?_
                repeat (apply heldL_run rfl (by rfl) (by rfl); (intro w hSw; go_simp; with_reducible rfl); (try simp only [Act.put, List.setIfInBounds_toArray, List.set_cons_zero, List.set_cons_succ]))
                refine heldL_step rfl (by rfl) (by rfl) (fun K hK => ?_)
                go_simp
                refine (block_any ((j : Int) + 5) _).mono ?_
                rintro e w21 ⟨rfl, hx21, hb21⟩
                have HS21 : Hid (Below w20.heap.size w20 w21) := HSD.out.trans (hb21.mono HSD.out.size)
                have hc21 := run_string_of w21 24 5 Try.underlying24 Try.underlying5 hx21 9 Try.underlying9
                clear hx21 hb21
                generalize wr.drew.heap.size = q9 at *
                refine hK.out _ _ (.inr HS21.out) ?_
                clear hK K
                (try simp only [Act.put, List.setIfInBounds_toArray, List.set_cons_zero, List.set_cons_succ])
                repeat (apply heldL_run rfl (by rfl) (by rfl); (intro w hSw; go_simp; with_reducible rfl); (try simp only [Act.put, List.setIfInBounds_toArray, List.set_cons_zero, List.set_cons_succ]))
                refine heldL_step rfl (by rfl) (by rfl) (fun K hK => ?_)
                go_simp
                refine hK.out _ _ (.inr HS21.out) ?_
                clear hK K
                (try simp only [Act.put, List.setIfInBounds_toArray, List.set_cons_zero, List.set_cons_succ])
                have hcv8 := H8.out
                clear hc21
                repeat (apply heldL_run rfl (by rfl) (by rfl); (intro w hSw; go_simp; with_reducible rfl); (try simp only [Act.put, List.setIfInBounds_toArray, List.set_cons_zero, List.set_cons_succ]))
                refine heldL_step rfl (by rfl) (by rfl) (fun K hK => ?_)
                go_simp
                refine (block_any ((j : Int) + 6) _).mono ?_
                rintro e w22 ⟨rfl, hx22, hb22⟩
                have HS22 : Hid (Below w20.heap.size w20 w22) := HS21.out.trans (hb22.mono HS21.out.size)
                have hc22 := run_string_of w22 24 5 Try.underlying24 Try.underlying5 hx22 9 Try.underlying9
                clear hx22 hb22
                generalize w21.heap.size = q10 at *
                refine hK.out _ _ (.inr HS22.out) ?_
                clear hK K
                (try simp only [Act.put, List.setIfInBounds_toArray, List.set_cons_zero, List.set_cons_succ])
                repeat (apply heldL_run rfl (by rfl) (by rfl); (intro w hSw; go_simp; with_reducible rfl); (try simp only [Act.put, List.setIfInBounds_toArray, List.set_cons_zero, List.set_cons_succ]))
                refine heldL_step rfl (by rfl) (by rfl) (fun K hK => ?_)
                go_simp
                refine hK.out _ _ (.inr HS22.out) ?_
                clear hK K
                (try simp only [Act.put, List.setIfInBounds_toArray, List.set_cons_zero, List.set_cons_succ])
                repeat (apply heldL_run rfl (by rfl) (by rfl); (intro w hSw; go_simp; with_reducible rfl); (try simp only [Act.put, List.setIfInBounds_toArray, List.set_cons_zero, List.set_cons_succ]))
                refine heldL_step rfl (by rfl) (by rfl) (fun K hK => ?_)
                go_simp
                refine hK.out _ _ (.inl rfl) ?_
                clear hK K
                (try simp only [Act.put, List.setIfInBounds_toArray, List.set_cons_zero, List.set_cons_succ])
                refine heldL_nil (NoPanic.normal ?_)
                go_wp2_with fail
                go_roundw
                case rel => exact ⟨false, j + 1, rfl, by go_num, by omega, .inr HJ3.out, HS22.out⟩
                case measure => simp [intOf]; omega
            · have HJ3 : Hid (∀ q : Nat, q < j + 1 → ¬ (B3 = blk ((q : Int) + 5) ∧ B8 = blk ((q : Int) + 6))) := fun q hq e => by
                rcases Nat.lt_or_ge q j with h | h
                · exact HJ2.out q h e
                · rw [show q = j by omega] at e
                  exact h3 e.1
              have hbe : (B3 == blk ((j : Int) + 5)) = false := by simpa using h3
              clear h3
              go_wp2_with fail
              refine wp_region_noPanic ?_
              refine wp_region_ordL 19 [7, 15, 19] [0, 1, 2, 3, 4, 5, 6, 7, 8, 9, 10, 11, 12, 13, 14, 15, 16, 17, 18, 19] (fun W => Below w20.heap.size w20 W) (by kernel_rfl) (by kernel_rfl) rfl (by kernel_rfl) (fun _ _ _ _ _ h => h) HSD.out ?_
              repeat (apply heldL_run rfl (by rfl) (by rfl); (intro w hSw; go_simp; with_reducible rfl); (try simp only [Act.put, List.setIfInBounds_toArray, List.set_cons_zero, List.set_cons_succ]))
              refine heldL_step rfl (by rfl) (by rfl) (fun K hK => ?_)
              go_simp
              refine (block_any ((j : Int) + 5) _).mono ?_
              rintro e w21 ⟨rfl, hx21, hb21⟩
              have HS21 : Hid (Below w20.heap.size w20 w21) := HSD.out.trans (hb21.mono HSD.out.size)
              have hc21 := run_string_of w21 24 5 Try.underlying24 Try.underlying5 hx21 9 Try.underlying9
              clear hx21 hb21
              generalize wr.drew.heap.size = q9 at *
              refine hK.out _ _ (.inr HS21.out) ?_
              clear hK K
              (try simp only [Act.put, List.setIfInBounds_toArray, List.set_cons_zero, List.set_cons_succ])
              repeat (apply heldL_run rfl (by rfl) (by rfl); (intro w hSw; go_simp; with_reducible rfl); (try simp only [Act.put, List.setIfInBounds_toArray, List.set_cons_zero, List.set_cons_succ]))
              refine heldL_step rfl (by rfl) (by rfl) (fun K hK => ?_)
              go_simp
              refine hK.out _ _ (.inr HS21.out) ?_
              clear hK K
              (try simp only [Act.put, List.setIfInBounds_toArray, List.set_cons_zero, List.set_cons_succ])
              repeat (first | (apply heldL_run rfl (by rfl) (by rfl); (intro w hSw; go_simp; with_reducible rfl); (try simp only [Act.put, List.setIfInBounds_toArray, List.set_cons_zero, List.set_cons_succ])) | (refine heldL_skip rfl (by rfl) (by rfl) ?_; (try simp only [Act.put, List.setIfInBounds_toArray, List.set_cons_zero, List.set_cons_succ])) | (refine heldL_pass rfl (by rfl) (by rfl) (.inr HS21.out) ?_; (try simp only [Act.put, List.setIfInBounds_toArray, List.set_cons_zero, List.set_cons_succ])))
              refine heldL_step rfl (by rfl) (by rfl) (fun K hK => ?_)
              go_simp
              refine hK.out _ _ (.inl rfl) ?_
              clear hK K
              (try simp only [Act.put, List.setIfInBounds_toArray, List.set_cons_zero, List.set_cons_succ])
              refine heldL_nil (NoPanic.normal ?_)
              go_wp2_with fail
              go_roundw
              case rel => exact ⟨false, j + 1, rfl, by go_num, by omega, .inr HJ3.out, HS21.out⟩
              case measure => simp [intOf]; omega
        · have HNB : Hid (nn = true ∨ (nn = false ∧ bb = true)) := by
            cases nn with
            | true => exact .inl rfl
            | false =>
              refine .inr ⟨rfl, ?_⟩
              rcases HNN.out with h | ⟨q, hq, e⟩
              · cases h
              · rcases HJ.out with h | h
                · exact h
                · exact absurd e (h q (by omega))
          have hcv7 := H7.out
          have hcv29 := H29.out
          rcases HNB.out with h | ⟨h, h2⟩
          · subst h
            go_wp2_with fail
            refine wp_region_noPanic ?_
            refine wp_region_ordL 22 [4, 12, 22] [0, 1, 2, 3, 4, 5, 6, 7, 8, 9, 10, 11, 12, 13, 14, 15, 16, 17, 18, 19, 20, 21, 22] (fun W => Below w20.heap.size w20 W) (by kernel_rfl) (by kernel_rfl) rfl (by kernel_rfl) (fun _ _ _ _ _ h => h) HSD.out ?_
            repeat (apply heldL_run rfl (by rfl) (by rfl); (intro w hSw; go_simp; with_reducible rfl); (try simp only [Act.put, List.setIfInBounds_toArray, List.set_cons_zero, List.set_cons_succ]))
            refine heldL_step rfl (by rfl) (by rfl) (fun K hK => ?_)
            go_simp
            refine (block_any x _).mono ?_
            rintro e w21 ⟨rfl, hx21, hb21⟩
            have HS21 : Hid (Below w20.heap.size w20 w21) := HSD.out.trans (hb21.mono HSD.out.size)
            have hc21 := run_string_of w21 24 5 Try.underlying24 Try.underlying5 hx21 9 Try.underlying9
            clear hx21 hb21
            generalize wr.drew.heap.size = q9 at *
            refine hK.out _ _ (.inr HS21.out) ?_
            clear hK K
            (try simp only [Act.put, List.setIfInBounds_toArray, List.set_cons_zero, List.set_cons_succ])
            repeat (apply heldL_run rfl (by rfl) (by rfl); (intro w hSw; go_simp; with_reducible rfl); (try simp only [Act.put, List.setIfInBounds_toArray, List.set_cons_zero, List.set_cons_succ]))
            refine heldL_step rfl (by rfl) (by rfl) (fun K hK => ?_)
            go_simp
            refine hK.out _ _ (.inr HS21.out) ?_
            clear hK K
            (try simp only [Act.put, List.setIfInBounds_toArray, List.set_cons_zero, List.set_cons_succ])
            clear hc21
            repeat (apply heldL_run rfl (by rfl) (by rfl); (intro w hSw; go_simp; with_reducible rfl); (try simp only [Act.put, List.setIfInBounds_toArray, List.set_cons_zero, List.set_cons_succ]))
            refine heldL_step rfl (by rfl) (by rfl) (fun K hK => ?_)
            go_simp
            refine (block_any y _).mono ?_
            rintro e w22 ⟨rfl, hx22, hb22⟩
            have HS22 : Hid (Below w20.heap.size w20 w22) := HS21.out.trans (hb22.mono HS21.out.size)
            have hc22 := run_string_of w22 24 5 Try.underlying24 Try.underlying5 hx22 9 Try.underlying9
            clear hx22 hb22
            generalize w21.heap.size = q10 at *
            refine hK.out _ _ (.inr HS22.out) ?_
            clear hK K
            (try simp only [Act.put, List.setIfInBounds_toArray, List.set_cons_zero, List.set_cons_succ])
            repeat (apply heldL_run rfl (by rfl) (by rfl); (intro w hSw; go_simp; with_reducible rfl); (try simp only [Act.put, List.setIfInBounds_toArray, List.set_cons_zero, List.set_cons_succ]))
            refine heldL_step rfl (by rfl) (by rfl) (fun K hK => ?_)
            go_simp
            refine hK.out _ _ (.inr HS22.out) ?_
            clear hK K
            (try simp only [Act.put, List.setIfInBounds_toArray, List.set_cons_zero, List.set_cons_succ])
            repeat (first | (apply heldL_run rfl (by rfl) (by rfl); (intro w hSw; go_simp; with_reducible rfl); (try simp only [Act.put, List.setIfInBounds_toArray, List.set_cons_zero, List.set_cons_succ])) | (refine heldL_skip rfl (by rfl) (by rfl) ?_; (try simp only [Act.put, List.setIfInBounds_toArray, List.set_cons_zero, List.set_cons_succ])) | (refine heldL_pass rfl (by rfl) (by rfl) (.inr HS22.out) ?_; (try simp only [Act.put, List.setIfInBounds_toArray, List.set_cons_zero, List.set_cons_succ])))
            refine heldL_step rfl (by rfl) (by rfl) (fun K hK => ?_)
            go_simp
            refine hK.out _ _ (.inl rfl) ?_
            clear hK K
            (try simp only [Act.put, List.setIfInBounds_toArray, List.set_cons_zero, List.set_cons_succ])
            refine heldL_nil (NoPanic.normal ?_)
            have HQE := Lib.hid (HQ20.out.below HS22.out)
            have HZE := Lib.hid (Nat.le_trans HZ20.out HS22.out.size)
            have HBE := Lib.hid (HBW.out.trans (HS22.out.mono HBW.out.size))
            go_wp2_with fail
            go_roundw
            case rel => exact ⟨lp3, k + 1, c3, rfl, by go_num, by omega, HSC3.out, HQE.out, HZE.out, HBE.out⟩
            case measure => simp [intOf]; omega
          · subst h h2
            go_wp2_with fail
            refine wp_region_noPanic ?_
            refine wp_region_ordL 22 [4, 12, 22] [0, 1, 2, 3, 4, 5, 6, 7, 8, 9, 10, 11, 12, 13, 14, 15, 16, 17, 18, 19, 20, 21, 22] (fun W => Below w20.heap.size w20 W) (by kernel_rfl) (by kernel_rfl) rfl (by kernel_rfl) (fun _ _ _ _ _ h => h) HSD.out ?_
            repeat (apply heldL_run rfl (by rfl) (by rfl); (intro w hSw; go_simp; with_reducible rfl); (try simp only [Act.put, List.setIfInBounds_toArray, List.set_cons_zero, List.set_cons_succ]))
            refine heldL_step rfl (by rfl) (by rfl) (fun K hK => ?_)
            go_simp
            refine (block_any x _).mono ?_
            rintro e w21 ⟨rfl, hx21, hb21⟩
            have HS21 : Hid (Below w20.heap.size w20 w21) := HSD.out.trans (hb21.mono HSD.out.size)
            have hc21 := run_string_of w21 24 5 Try.underlying24 Try.underlying5 hx21 9 Try.underlying9
            clear hx21 hb21
            generalize wr.drew.heap.size = q9 at *
            refine hK.out _ _ (.inr HS21.out) ?_
            clear hK K
            (try simp only [Act.put, List.setIfInBounds_toArray, List.set_cons_zero, List.set_cons_succ])
            repeat (apply heldL_run rfl (by rfl) (by rfl); (intro w hSw; go_simp; with_reducible rfl); (try simp only [Act.put, List.setIfInBounds_toArray, List.set_cons_zero, List.set_cons_succ]))
            refine heldL_step rfl (by rfl) (by rfl) (fun K hK => ?_)
            go_simp
            refine hK.out _ _ (.inr HS21.out) ?_
            clear hK K
            (try simp only [Act.put, List.setIfInBounds_toArray, List.set_cons_zero, List.set_cons_succ])
            clear hc21
            repeat (apply heldL_run rfl (by rfl) (by rfl); (intro w hSw; go_simp; with_reducible rfl); (try simp only [Act.put, List.setIfInBounds_toArray, List.set_cons_zero, List.set_cons_succ]))
            refine heldL_step rfl (by rfl) (by rfl) (fun K hK => ?_)
            go_simp
            refine (block_any y _).mono ?_
            rintro e w22 ⟨rfl, hx22, hb22⟩
            have HS22 : Hid (Below w20.heap.size w20 w22) := HS21.out.trans (hb22.mono HS21.out.size)
            have hc22 := run_string_of w22 24 5 Try.underlying24 Try.underlying5 hx22 9 Try.underlying9
            clear hx22 hb22
            generalize w21.heap.size = q10 at *
            refine hK.out _ _ (.inr HS22.out) ?_
            clear hK K
            (try simp only [Act.put, List.setIfInBounds_toArray, List.set_cons_zero, List.set_cons_succ])
            repeat (apply heldL_run rfl (by rfl) (by rfl); (intro w hSw; go_simp; with_reducible rfl); (try simp only [Act.put, List.setIfInBounds_toArray, List.set_cons_zero, List.set_cons_succ]))
            refine heldL_step rfl (by rfl) (by rfl) (fun K hK => ?_)
            go_simp
            refine hK.out _ _ (.inr HS22.out) ?_
            clear hK K
            (try simp only [Act.put, List.setIfInBounds_toArray, List.set_cons_zero, List.set_cons_succ])
            repeat (first | (apply heldL_run rfl (by rfl) (by rfl); (intro w hSw; go_simp; with_reducible rfl); (try simp only [Act.put, List.setIfInBounds_toArray, List.set_cons_zero, List.set_cons_succ])) | (refine heldL_skip rfl (by rfl) (by rfl) ?_; (try simp only [Act.put, List.setIfInBounds_toArray, List.set_cons_zero, List.set_cons_succ])) | (refine heldL_pass rfl (by rfl) (by rfl) (.inr HS22.out) ?_; (try simp only [Act.put, List.setIfInBounds_toArray, List.set_cons_zero, List.set_cons_succ])))
            refine heldL_step rfl (by rfl) (by rfl) (fun K hK => ?_)
            go_simp
            refine hK.out _ _ (.inl rfl) ?_
            clear hK K
            (try simp only [Act.put, List.setIfInBounds_toArray, List.set_cons_zero, List.set_cons_succ])
            refine heldL_nil (NoPanic.normal ?_)
            have HQE := Lib.hid (HQ20.out.below HS22.out)
            have HZE := Lib.hid (Nat.le_trans HZ20.out HS22.out.size)
            have HBE := Lib.hid (HBW.out.trans (HS22.out.mono HBW.out.size))
            go_wp2_with fail
            go_roundw
            case rel => exact ⟨lp3, k + 1, c3, rfl, by go_num, by omega, HSC3.out, HQE.out, HZE.out, HBE.out⟩
            case measure => simp [intOf]; omega
    · obtain rfl : k = fn := by omega
      go_wp2_with fail
      go_ret
      exact ⟨rfl, HB.out⟩
set_option maxRecDepth 8000 in
set_option maxHeartbeats 1600000 in
/-- what is not asked -/
theorem synced_out (x : Int) (fa : Option Addr) (fn fc : Nat) (ka : Option Addr) (kn kc : Nat) (w : World) (h : 8 < fn ∨ (fn ≤ 8 ∧ 300 < kn) ∨ (fn ≤ 8 ∧ kn ≤ 300 ∧ x < 1)) :
    Calls Try.prog 12 #[.int .i64 x, .slice fa fn fc, .slice ka kn kc] w fun e w' => e = .returned (.bool true) ∧ Below w.heap.size w w' := by
  have h1 : (8 : Int) < (fn : Int) ∨ (¬ (8 : Int) < (fn : Int) ∧ (300 : Int) < (kn : Int)) ∨ (¬ (8 : Int) < (fn : Int) ∧ ¬ (300 : Int) < (kn : Int) ∧ x < 1) := by omega
  clear h
  rcases h1 with h1 | ⟨h1, h2⟩ | ⟨h1, h2, h3⟩
  all_goals
    go_enter Try.func12, Try.ntmps12
    go_wp2_with fail
    refine (alive_any _).mono ?_
    rintro e w0 ⟨rfl, hb0⟩
    have HB0 := Lib.hid hb0
    clear hb0
    go_wp2_with fail
    go_ret
    exact ⟨rfl, HB0.out⟩
theorem synced_walk (a0 : Int) (a1 : Option Addr) (len1 cap1 : Nat) (z1 : List Int) (a2 : Option Addr) (len2 cap2 : Nat) (z2 : List Int) (w : World) (w0 : (Lit.int .i64 a0).wf = true) (w1 : RowIn .i64 w a1 len1 cap1 z1) (w2 : RowIn .i64 w a2 len2 cap2 z2) :
    Calls Try.prog 12 #[.int .i64 a0, .slice a1 len1 cap1, .slice a2 len2 cap2] w fun e w' => e = .returned (.bool true) ∧ Below w.heap.size w w' := by
  by_cases h1 : 8 < len1
  · exact synced_out _ _ _ _ _ _ _ w (.inl h1)
  by_cases h2 : 300 < len2
  · exact synced_out _ _ _ _ _ _ _ w (.inr (.inl ⟨by omega, h2⟩))
  by_cases h3 : a0 < 1
  · exact synced_out _ _ _ _ _ _ _ w (.inr (.inr ⟨by omega, by omega, h3⟩))
  obtain ⟨q1, q2⟩ := ints_of_row w2 (by omega)
  have hw : a0 ≤ 9223372036854775807 := by
    have := w0
    simp [Lit.wf] at this
    omega
  exact synced_law _ _ _ _ _ _ _ _ _ w (intsB_of_row w1) q1 q2 (by omega) (by omega) (by omega) hw
end Go.Proofs.Ythfncgbkigmmcaa
