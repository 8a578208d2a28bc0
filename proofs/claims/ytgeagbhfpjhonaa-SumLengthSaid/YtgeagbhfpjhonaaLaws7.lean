/- SumLength: the walk. -/
import Derived.Test.YtgeagbhfpjhonaaLaws5
import Derived.Test.YtgeagbhfpjhonaaText
import Derived.Test.YtgeagbhfpjhonaaLaws3
import Derived.Test.YtgeagbhfpjhonaaLaws2
namespace Go.Proofs.Ytgeagbhfpjhonaa
open Go.RowKit
attribute [local go_sem ↓] eql30

/-- the first k of n bytes are x. -/
def setTo (x : UInt8) (n : Nat) : Nat → List UInt8
  | 0 => List.replicate n 0
  | k + 1 => (setTo x n k).set k x
theorem setTo_length (x : UInt8) (n : Nat) : ∀ k, (setTo x n k).length = n
  | 0 => by simp [setTo]
  | k + 1 => by rw [setTo, List.length_set, setTo_length x n k]
theorem setTo_get (x : UInt8) (n : Nat) : ∀ k i, i < k → i < n → (setTo x n k)[i]? = some x
  | 0, i, h, _ => by omega
  | k + 1, i, h, hn => by
    rw [setTo]
    by_cases e : i = k
    · subst e
      rw [List.getElem?_set_self (by rw [setTo_length]; exact hn)]
    · rw [List.getElem?_set_ne (Ne.symm e)]
      exact setTo_get x n k i (by omega) hn
theorem setTo_all (x : UInt8) (n : Nat) : setTo x n n = List.replicate n x := by
  apply List.ext_getElem?
  intro i
  by_cases h : i < n
  · rw [setTo_get x n n i h h, List.getElem?_replicate, if_pos h]
  · rw [List.getElem?_eq_none (by rw [setTo_length]; omega), List.getElem?_eq_none (by simp; omega)]
theorem u8_wrap (c : Int) : Value.int .u8 (c % 256) = u8 (UInt8.ofNat (c % 256).toNat) := by
  unfold u8
  congr 1
  rw [UInt8.toNat_ofNat']
  omega

set_option maxHeartbeats 6400000 in
theorem length_in (n : Nat) (c : Int) (w : World) (hn : n ≤ 600) :
    Calls Try.prog 9 #[.int .i64 n, .int .i64 c] w fun e w' => e = .returned (.bool true) ∧ Below w.heap.size w w' := by
  obtain ⟨i0, hi, hz0, hz1, hz2⟩ := info_parts info5
  have n0 : (0 : Int) ≤ (n : Int) := by omega
  have n1 : (n : Int) ≤ 600 := by omega
  have HNN : Hid (n ≤ 600) := hn
  have M1 : Hid (i0.bytes * n ≤ 281474976710656) := by show i0.bytes * n ≤ _; rw [hz2]; omega
  have M2 : Hid (n ≤ maxLen) := by show n ≤ maxLen; unfold maxLen; omega
  clear hn
  go_enter Try.func9, Try.ntmps9
  go_wp2_with fail
  refine (alive_any _).mono ?_
  rintro e w1 ⟨rfl, hb1⟩
  have BB1 := Lib.hid hb1
  clear hb1
  go_wp2_with (at_make; refine wpList_make_full _ rfl (.tmp 23) (.tmp 23) 22 rfl w1.heap.size 5 i0 (.int .u8 0) 1 Try.underlying22 hi hz0 hz1 .i64 .i64 _ _ n rfl rfl rfl rfl M1.out M2.out (Nat.le_refl _) ?_)
  intro w2 hown hgrow
  have hmc : (madeCells #[Value.int .u8 0] n).toList = u8s (setTo (UInt8.ofNat (c % 256).toNat) n 0) := by
    rw [toList_madeCells_one]
    unfold setTo u8s
    rw [List.map_replicate]
    rfl
  rw [hmc] at hown
  have hrow : RowAt w2 (.slice (some ⟨w1.heap.size, 0, none⟩) n n) (u8s (setTo (UInt8.ofNat (c % 256).toNat) n 0)) := RowAt.of_owns hown
  have hfrz : ∀ i, w2.frozen? ⟨w1.heap.size, i, none⟩ = false := fun i => by
    rcases hown.2 with ⟨h, _⟩ | ⟨g', cap', cur, h, _, hg, _⟩
    · cases h
    · cases h; exact frozen_of_row w2 _ _ _ _ hg
  have hlt : w1.heap.size < w2.heap.size := by
    rcases owns_shape hown with ⟨h, _⟩ | ⟨g', cap', h, _, _, _, hl⟩
    · cases h
    · cases h; exact hl
  have BB2 : Hid (Below w.heap.size w w2) := BB1.out.grown hgrow BB1.out.size (by simp)
  have HROW := Lib.hid hrow
  have HFRZ := Lib.hid hfrz
  have HGW : Hid (w.heap.size ≤ w1.heap.size) := BB1.out.size
  have HXV := Lib.hid (u8_wrap c)
  generalize UInt8.ofNat (c % 256).toNat = x at *
  clear hown hgrow hmc hrow hfrz BB1
  generalize w1.heap.size = g at *
  go_wp2_with fail
  go_loopw [7] (fun i wr => ∃ k : Nat, k ≤ n ∧ i = .int .i64 k ∧ RowAt wr (.slice (some ⟨g, 0, none⟩) n n) (u8s (setTo x n k)) ∧ (∀ i, wr.frozen? ⟨g, i, none⟩ = false) ∧ Below w.heap.size w wr ∧ g < wr.heap.size) (fun i _ => n - (intOf i).toNat)
  case atStart => exact ⟨0, Nat.zero_le _, rfl, HROW.out, HFRZ.out, BB2.out, hlt⟩
  case round =>
    obtain ⟨k, hk, rfl, hrw, hfz, hbw, hgl⟩ := hrel
    by_cases hkn : k < n
    · have hl := setTo_length x n k
      have hcl : ∃ u : Int, wr.cell? ⟨g, k, none⟩ = some (.int .u8 u) := by
        have h0 : k < (setTo x n k).length := by omega
        rcases hrw with ⟨h, _⟩ | ⟨g', off', cap', h, _, hcell⟩
        · cases h
        · simp only [Value.slice.injEq, Option.some.injEq, Addr.mk.injEq] at h
          obtain ⟨⟨rfl, rfl, _⟩, _, rfl⟩ := h
          have := hcell k (u8 (setTo x n k)[k]) (by rw [u8s_getElem?]; simp [h0])
          exact ⟨_, by simpa [u8] using this⟩
      obtain ⟨u, hcl⟩ := hcl
      have hfk := hfz k
      have hst := RowAt.set (u := .int .u8 (c % 256)) hrw (by rw [u8s_length, hl]; exact hkn)
      have hse : (u8s (setTo x n k)).set k (.int .u8 (c % 256)) = u8s (setTo x n (k + 1)) := by
        rw [HXV.out, setTo]
        unfold u8s
        rw [List.map_set]
      rw [hse, Nat.zero_add] at hst
      have HST := Lib.hid hst
      have HFZ := Lib.hid hfz
      have HBW := Lib.hid hbw
      clear hst hse hrw hbw hfz
      have k0 : (0 : Int) ≤ (k : Int) := by omega
      have k1 : (k : Int) < (n : Int) := by omega
      go_wp2_with fail
      go_roundw
      case rel => exact ⟨k + 1, by omega, by go_num, HST.out, fun i => by rw [World.frozen?_setCell]; exact HFZ.out i, HBW.out.setCell HGW.out _, by simpa using hgl⟩
      case measure => simp [intOf]; omega
    · have hke : k = n := by omega
      subst hke
      rw [setTo_all] at hrw
      have hrep : Hid (∀ j, List.replicate j x ++ [x] = List.replicate (j + 1) x) := fun j => by rw [List.replicate_succ']
      have HM : Hid (Bytes wr (.slice (some ⟨g, 0, none⟩) k k) (List.replicate k x)) := hrw
      have BBr := Lib.hid hbw
      clear hrw hfz hbw
      go_wp2_with fail
      refine (new_dig wr).mono ?_
      rintro e w3 ⟨rfl, hd3, hb3⟩
      have HD3 := Lib.hid hd3
      have HM3 : Hid (Bytes w3 (.slice (some ⟨g, 0, none⟩) k k) (List.replicate k x)) := Bytes.below HM.out hb3
      have BB3 : Hid (Below w.heap.size w w3) := BBr.out.trans (hb3.mono BBr.out.size)
      have HPW : Hid (w.heap.size ≤ wr.heap.size) := BBr.out.size
      clear hd3 hb3 HM BBr
      have hgp : g < wr.heap.size := hgl
      clear hgl
      generalize wr.heap.size = p at *
      go_wp2_with fail
      go_loopw [9] (fun i wq => ∃ j : Nat, j ≤ k ∧ i = .int .i64 j ∧ (∃ v lim, g < lim ∧ w.heap.size ≤ lim ∧ Digested wq p lim (List.replicate j x) v) ∧ Bytes wq (.slice (some ⟨g, 0, none⟩) k k) (List.replicate k x) ∧ Below w.heap.size w wq) (fun i _ => k - (intOf i).toNat)
      case atStart => exact ⟨0, Nat.zero_le _, rfl, ⟨_, p, hgp, HPW.out, HD3.out⟩, HM3.out, BB3.out⟩
      case round =>
        obtain ⟨j, hj, rfl, ⟨v, lim, hgl, hwl, hd⟩, hm, hbw⟩ := hrel
        by_cases hjk : j < k
        · have hone : Bytes wr (.slice (some ⟨g, j, none⟩) 1 (k - j)) [x] := by
            rcases hm with ⟨h, _⟩ | ⟨g', off', cap', h, _, hcell⟩
            · cases h
            · simp only [Value.slice.injEq, Option.some.injEq, Addr.mk.injEq] at h
              obtain ⟨⟨rfl, rfl, _⟩, _, rfl⟩ := h
              refine .inr ⟨g, j, k - j, by simp [u8s], by simp [u8s]; omega, fun i u hi => ?_⟩
              have hi0 : i = 0 := by
                have := (List.getElem?_eq_some_iff.1 hi).1
                simp [u8s] at this
                exact this
              subst hi0
              have := hcell j u (by rw [u8s_getElem?, List.getElem?_replicate, if_pos hjk]; exact hi)
              simpa using this
          have HA := Lib.hid (add_dig hd (.slice (some ⟨g, j, none⟩) 1 (k - j)) [x] hone (by simp; have := HNN.out; omega) (by simp))
          have HVL := Lib.hid hd.vlow
          have HMM := Lib.hid hm
          have HBW := Lib.hid hbw
          have HSZ : Hid (g < wr.heap.size) := Nat.lt_of_lt_of_le hgl hd.low
          clear hd hm hbw hone
          have j0 : (0 : Int) ≤ (j : Int) := by omega
          have j1 : (j : Int) < (k : Int) := by omega
          have j2 : (j : Int) + 1 ≤ (k : Int) := by omega
          go_wp2_with fail
          refine HA.out.mono ?_
          rintro e w5 ⟨rfl, v5, hd5, hk5⟩
          rw [hrep.out] at hd5
          have hng : ¬ (g = p ∨ v.ownBlock = some g) := fun h => by
            rcases h with h | h
            · omega
            · have := HVL.out _ h; omega
          have HD5 := Lib.hid hd5
          have HM5 : Hid (Bytes w5 (.slice (some ⟨g, 0, none⟩) k k) (List.replicate k x)) := RowAt.keeps HMM.out hk5 (fun b hb => by cases hb; exact hng)
          have HB5 : Hid (Below w.heap.size w w5) := HBW.out.trans (hk5.below_of HBW.out.size (fun b hb h => by
            have := HPW.out
            rcases h with rfl | h
            · omega
            · have := HVL.out _ h; omega))
          have HWS : Hid (w.heap.size ≤ wr.heap.size) := HBW.out.size
          clear hd5 hk5 HA
          go_wp2_with fail
          go_roundw
          case rel => exact ⟨j + 1, by omega, by go_num, ⟨v5, _, HSZ.out, HWS.out, HD5.out⟩, HM5.out, HB5.out⟩
          case measure => simp [intOf]; omega
        · have hje : j = k := by omega
          subst hje
          have HMb : Hid (Bytes wr (.slice (some ⟨g, 0, none⟩) j j) (List.replicate j x)) := hm
          have HMB : Hid (Bytes wr (.slice (some ⟨g, 0, none⟩) j j) (List.replicate j x)) := HMb
          have HD := Lib.hid hd
          have BBq := Lib.hid hbw
          have hml : (List.replicate j x).length = j := by simp
          have HML := Lib.hid hml
          have hmb : (List.replicate j x).length ≤ 1000000000000 := by rw [hml]; have := HNN.out; omega
          have hmc : (List.replicate j x).length ≤ 140737488355328 := by rw [hml]; have := HNN.out; omega
          have C1 := Lib.hid (fun v w h => crc_any v (List.replicate j x) w h hmc)
          have C2 := Lib.hid (fun v w h => refCRC_any v (List.replicate j x) w h hmc)
          have C3 := Lib.hid (fun v w h => sha_anyL v (List.replicate j x) w h hmb)
          have C4 := Lib.hid (fun v w h => refSHA_anyL v (List.replicate j x) w h hmb)
          have C5 := Lib.hid (fun (w : World) v lim (h : Digested w p lim (List.replicate j x) v) => sum_digL h hmb)
          have C6 := Lib.hid (fun (w : World) v lim (h : Digested w p lim (List.replicate j x) v) => size_dig h)
          rw [hml] at C6
          have hdig := isDigL (List.replicate j x)
          have HDG := Lib.hid hdig
          have HI : Hid ((Try.prog.info? 30).map (·.size) = some (shaL (List.replicate j x)).length) := by show _ = _; rw [shaL_len]; exact info30
          have HO := Lib.hid (shaL_one (List.replicate j x))
          have HS : Hid ((shaL (List.replicate j x)).toArray.size = 32) := by show _ = _; rw [List.size_toArray, shaL_len]
          clear hm hd hbw hml hmb hmc hdig hrep HM3 HD3 BB3
          generalize shaL (List.replicate j x) = cs at *
          generalize List.replicate j x = m at *
          generalize Crc.more 0 m = y at *
          go_wp2_with fail
          refine (C4.out _ _ HMb.out).mono ?_
          rintro e w4 ⟨rfl, hb4⟩
          have HD4 := Lib.hid (HD.out.below hb4)
          have HM4 : Hid (Bytes w4 (.slice (some ⟨g, 0, none⟩) j j) m) := Bytes.below HMb.out hb4
          have BB4 : Hid (Below w.heap.size w w4) := BBq.out.trans (hb4.mono BBq.out.size)
          clear hb4 HD HMb HMB BBq
          go_wp2_with (refine wpList_store_row_to rfl 30 _ _ rfl w4.heap.size cs.toArray rfl rfl 30 _ (heap_alloc_new w4 _) HI.out (by rw [HS.out]; rfl) HO.out ?_)
          intro w5 hr hbx
          have hx : Below w4.heap.size w4 w5 := ((Below.refl _ _).alloc (Nat.le_refl _) _).trans (hbx _ (Nat.le_refl _))
          have HR : Hid (w5.rangeAt w4.heap.size 0 cs) := range_new hr
          have HQ : Hid (w4.heap.size < w5.heap.size) := (Array.getElem?_eq_some_iff.1 hr).1
          have HD5 := Lib.hid (HD4.out.below hx)
          have HM5 : Hid (Bytes w5 (.slice (some ⟨g, 0, none⟩) j j) m) := Bytes.below HM4.out hx
          have BB5 : Hid (Below w.heap.size w w5) := BB4.out.trans (hx.mono BB4.out.size)
          clear hr hbx hx HD4 HM4 BB4
          generalize w4.heap.size = q at *
          have HBW : Hid (Below w5.heap.size w5 w5.drew) := (Below.refl _ _).drew
          go_wp2_with fail
          have hu30 := under30
          have hi30 := HI.out
          have hdig := HDG.out
          refine wp_region_noPanic ?_
          refine wp_region_ord [0, 2, 1, 3, 4, 5, 6, 8, 7, 9, 10, 11, 12, 14, 13, 15, 16, 17, 18, 20, 19, 21, 22, 23] (fun W => W.rangeAt q 0 cs ∧ Below w5.heap.size w5 W) (by kernel_rfl) (by kernel_rfl) rfl (by kernel_rfl) (fun _ _ _ _ _ h => h) ⟨HR.out, HBW.out⟩ ?_
          repeat (first
            | (refine held_row rfl (by rfl) (by rfl) 30 _ rfl q 0 rfl cs (.array 32 5) (fun W h => h.1) hu30 rfl hi30 ?_; (try simp only [Act.put, List.setIfInBounds_toArray, List.set_cons_zero, List.set_cons_succ]))
            | (apply held_run rfl (by rfl) (by rfl); (intro w hSw; go_simp; with_reducible rfl); (try simp only [Act.put, List.setIfInBounds_toArray, List.set_cons_zero, List.set_cons_succ])))
          refine held_step rfl (by rfl) (by rfl) (fun K hK => ?_)
          go_simp
          refine (C1.out _ _ (HM5.out.below HBW.out)).mono ?_
          rintro e w' ⟨rfl, hb⟩
          have hb2 : Below w5.heap.size w5 w' := HBW.out.trans (hb.mono HBW.out.size)
          replace HBW := Lib.hid hb2
          clear hb hb2
          refine hK.out _ _ ⟨rangeAt_below HR.out HBW.out HQ.out, HBW.out⟩ (fun _ => ?_)
          clear hK K
          (try simp only [Act.put, List.setIfInBounds_toArray, List.set_cons_zero, List.set_cons_succ])
          repeat (first
            | (refine held_row rfl (by rfl) (by rfl) 30 _ rfl q 0 rfl cs (.array 32 5) (fun W h => h.1) hu30 rfl hi30 ?_; (try simp only [Act.put, List.setIfInBounds_toArray, List.set_cons_zero, List.set_cons_succ]))
            | (apply held_run rfl (by rfl) (by rfl); (intro w hSw; go_simp; with_reducible rfl); (try simp only [Act.put, List.setIfInBounds_toArray, List.set_cons_zero, List.set_cons_succ])))
          refine held_step rfl (by rfl) (by rfl) (fun K hK => ?_)
          go_simp
          refine (C2.out _ _ (HM5.out.below HBW.out)).mono ?_
          rintro e w' ⟨rfl, rfl⟩
          refine hK.out _ _ ⟨rangeAt_below HR.out HBW.out HQ.out, HBW.out⟩ (fun _ => ?_)
          clear hK K
          (try simp only [Act.put, List.setIfInBounds_toArray, List.set_cons_zero, List.set_cons_succ])
          repeat (first
            | (refine held_row rfl (by rfl) (by rfl) 30 _ rfl q 0 rfl cs (.array 32 5) (fun W h => h.1) hu30 rfl hi30 ?_; (try simp only [Act.put, List.setIfInBounds_toArray, List.set_cons_zero, List.set_cons_succ]))
            | (apply held_run rfl (by rfl) (by rfl); (intro w hSw; go_simp; with_reducible rfl); (try simp only [Act.put, List.setIfInBounds_toArray, List.set_cons_zero, List.set_cons_succ])))
          refine held_step rfl (by rfl) (by rfl) (fun K hK => ?_)
          go_simp
          refine (C3.out _ _ (HM5.out.below HBW.out)).mono ?_
          rintro e w' ⟨rfl, hb⟩
          have hb2 : Below w5.heap.size w5 w' := HBW.out.trans (hb.mono HBW.out.size)
          replace HBW := Lib.hid hb2
          clear hb hb2
          refine hK.out _ _ ⟨rangeAt_below HR.out HBW.out HQ.out, HBW.out⟩ (fun _ => ?_)
          clear hK K
          (try simp only [Act.put, List.setIfInBounds_toArray, List.set_cons_zero, List.set_cons_succ])
          repeat (first
            | (refine held_row rfl (by rfl) (by rfl) 30 _ rfl q 0 rfl cs (.array 32 5) (fun W h => h.1) hu30 rfl hi30 ?_; (try simp only [Act.put, List.setIfInBounds_toArray, List.set_cons_zero, List.set_cons_succ]))
            | (apply held_run rfl (by rfl) (by rfl); (intro w hSw; go_simp; with_reducible rfl); (try simp only [Act.put, List.setIfInBounds_toArray, List.set_cons_zero, List.set_cons_succ])))
          refine held_step rfl (by rfl) (by rfl) (fun K hK => ?_)
          go_simp
          refine (C5.out _ _ _ (HD5.out.below HBW.out)).mono ?_
          rintro e w' ⟨rfl, hb⟩
          have hb2 : Below w5.heap.size w5 w' := HBW.out.trans (hb.mono HBW.out.size)
          replace HBW := Lib.hid hb2
          clear hb hb2
          refine hK.out _ _ ⟨rangeAt_below HR.out HBW.out HQ.out, HBW.out⟩ (fun _ => ?_)
          clear hK K
          (try simp only [Act.put, List.setIfInBounds_toArray, List.set_cons_zero, List.set_cons_succ])
          repeat (first
            | (refine held_row rfl (by rfl) (by rfl) 30 _ rfl q 0 rfl cs (.array 32 5) (fun W h => h.1) hu30 rfl hi30 ?_; (try simp only [Act.put, List.setIfInBounds_toArray, List.set_cons_zero, List.set_cons_succ]))
            | (apply held_run rfl (by rfl) (by rfl); (intro w hSw; go_simp; with_reducible rfl); (try simp only [Act.put, List.setIfInBounds_toArray, List.set_cons_zero, List.set_cons_succ])))
          refine held_step rfl (by rfl) (by rfl) (fun K hK => ?_)
          go_simp
          refine (C6.out _ _ _ (HD5.out.below HBW.out)).mono ?_
          rintro e w' ⟨rfl, rfl⟩
          refine hK.out _ _ ⟨rangeAt_below HR.out HBW.out HQ.out, HBW.out⟩ (fun _ => ?_)
          clear hK K
          (try simp only [Act.put, List.setIfInBounds_toArray, List.set_cons_zero, List.set_cons_succ])
          repeat (first
            | (refine held_row rfl (by rfl) (by rfl) 30 _ rfl q 0 rfl cs (.array 32 5) (fun W h => h.1) hu30 rfl hi30 ?_; (try simp only [Act.put, List.setIfInBounds_toArray, List.set_cons_zero, List.set_cons_succ]))
            | (apply held_run rfl (by rfl) (by rfl); (intro w hSw; go_simp; with_reducible rfl); (try simp only [Act.put, List.setIfInBounds_toArray, List.set_cons_zero, List.set_cons_succ])))
          refine held_nil (NoPanic.normal ?_)
          go_wp2
          go_ret
          exact ⟨rfl, BB5.out.trans (HBW.out.mono BB5.out.size)⟩

set_option maxHeartbeats 400000 in
theorem length_out (n c : Int) (w : World) (h : n < 0 ∨ (0 ≤ n ∧ 600 < n)) :
    Calls Try.prog 9 #[.int .i64 n, .int .i64 c] w fun e w' => e = .returned (.bool true) ∧ Below w.heap.size w w' := by
  rcases h with h | ⟨h1, h⟩
  all_goals
    go_enter Try.func9, Try.ntmps9
    go_wp2_with fail
    refine (alive_any _).mono ?_
    rintro e w1 ⟨rfl, hb1⟩
    go_wp2_with fail
    go_ret
    exact ⟨rfl, hb1⟩
theorem length_walk (a0 a1 : Int) (_ : (Lit.int .i64 a0).wf = true) (_ : (Lit.int .i64 a1).wf = true) (w : World) :
    Calls Try.prog 9 #[.int .i64 a0, .int .i64 a1] w fun e w' => e = .returned (.bool true) ∧ Below w.heap.size w w' := by
  by_cases h1 : 0 ≤ a0
  · by_cases h2 : a0 ≤ 600
    · obtain ⟨k, rfl⟩ := Int.eq_ofNat_of_zero_le h1
      exact length_in k a1 w (by omega)
    · exact length_out _ _ w (.inr ⟨h1, by omega⟩)
  · exact length_out _ _ w (.inl (by omega))
end Go.Proofs.Ytgeagbhfpjhonaa
