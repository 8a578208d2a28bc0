/- StockLists: the walk. -/
import Derived.Test.YthkjihfnphdfkaaLsF
namespace Go.Proofs.Ythkjihfnphdfkaa
open Go.RowKit Go.Maps
attribute [local go_sem ↓] neq54

set_option maxRecDepth 100000 in
set_option maxHeartbeats 6400000 in
theorem lists_walk (la : Option Addr) (ln lc : Nat) (bss : List Bs) (w : World) (hl : RowsW w (.slice la ln lc) bss) :
    Calls Try.prog 8 #[.slice la ln lc] w fun e w' => e = .returned (.bool true) ∧ Below w.heap.size w w' := by
  have hln : ln = bss.length := by
    rcases hl with ⟨h, rfl⟩ | ⟨b, off, cap, h, _⟩
    · cases h; rfl
    · cases h; rfl
  subst hln
  have hnb : bss.length ≤ 140737488351232 := by
    rcases hl with ⟨h, rfl⟩ | ⟨b, off, cap, h, h1, h2, _⟩
    · simp
    · omega
  have HL := Lib.hid hl
  clear hl
  go_enter Try.func8, Try.ntmps8
  go_wp2_with fail
  refine (alive_any _).mono ?_
  rintro e w1 ⟨rfl, hb1⟩
  have HB1 := Lib.hid hb1
  clear hb1
  go_wp2_with fail
  go_loop [4, 5] (fun n i => ∃ k m : Nat, Hid (m = wt bss k) ∧ k ≤ bss.length ∧ m ≤ 140737488600000 ∧ i = .int .i64 k ∧ n = .int .i64 m) (fun _ i => bss.length - (intOf i).toNat)
  case atStart => exact ⟨0, 0, (wt_zero _).symm, Nat.zero_le _, by omega, rfl, rfl⟩
  case round =>
    obtain ⟨k, m, hm, hk, hm2, rfl, rfl⟩ := hrel
    have k0 : (0 : Int) ≤ (k : Int) := by omega
    by_cases h9 : m ≤ 90000
    · have m9 : (m : Int) ≤ 90000 := by omega
      by_cases hlt : k < bss.length
      · have k1 : (k : Int) < (bss.length : Int) := by omega
        obtain ⟨b, off, cp, hv, hc, u, hu, hbw, hbl⟩ := (HL.out.below HB1.out (Nat.le_refl _)).at_ k hlt
        simp only [Value.slice.injEq, true_and] at hv
        obtain ⟨rfl, rfl⟩ := hv
        obtain ⟨ua, uc, hus, _⟩ := hbw.shape
        subst hus
        have hs := wt_succ bss k hlt
        rw [← hm.out] at hs
        have HS := Lib.hid hs
        clear hm hs hbw
        generalize bss[k].length = q at *
        have q1 : (q : Int) ≤ 140737488351232 := by omega
        go_wp2_with fail
        go_round
        case rel => exact ⟨k + 1, m + q + 1, HS.out.symm, by omega, by omega, by go_num, by go_num⟩
        case measure => simp [intOf]; omega
      · have hke : k = bss.length := by omega
        subst hke
        have hn : bss.length ≤ 90000 := by have := wt_many bss bss.length (Nat.le_refl _); have := hm.out; omega
        have hm9 : ∀ j (h : j < bss.length), bss[j].length ≤ 90000 := fun j h => by have := wt_each bss j h; have := hm.out; omega
        have HM := Lib.hid hm9
        clear hm9 hlt hm k0
        have HLE := Lib.hid (lent_lists _ bss w1 (HL.out.below HB1.out (Nat.le_refl _)) hn HM.out)
        go_wp2_with fail
        refine HLE.out.mono ?_
        rintro e w2 ⟨g, cap, rfl, hF, hb2⟩
        have HF := Lib.hid hF
        have HB2 : Hid (Below w.heap.size w w2) := HB1.out.trans (hb2.mono HB1.out.size)
        clear hb2 hF HLE HB1
        have HCK := Lib.hid (check_any _ _ _ (HF.out.lens HM.out) (by simp [lensOf]; omega))
        have n0 : (0 : Int) ≤ (bss.length : Int) := by omega
        go_wp2_with fail
        refine HCK.out.mono ?_
        rintro e w3 ⟨rfl, rfl⟩
        clear HCK
        by_cases hq : checkV (lensOf bss) = 0
        · have HSU := Lib.hid (sums_ok g cap bss w2 hq (HF.out.lens HM.out) HF.out.full hn HM.out)
          rw [hq]
          have HQ := Lib.hid hq
          clear hq
          go_wp2_with fail
          refine HSU.out.mono ?_
          rintro e w3 ⟨v, rfl, ho, hb3⟩
          obtain ⟨va, vc, hvs⟩ : ∃ a c, v = .slice a bss.length c := by
            rcases owns_shape ho with ⟨rfl, h⟩ | ⟨g, c, rfl, _⟩
            · exact ⟨none, 0, by rw [h]⟩
            · exact ⟨_, c, rfl⟩
          subst hvs
          have HO := Lib.hid ho
          have HB3 : Hid (Below w.heap.size w w3) := HB2.out.trans (hb3.mono HB2.out.size)
          have HST := Lib.hid (stay_lists _ bss w3 _ g cap (HF.out.below hb3) (HL.out.below HB3.out (Nat.le_refl _)) hn HM.out)
          clear ho hb3 HSU
          go_wp2_with fail
          refine HST.out.mono ?_
          rintro e w4 ⟨rfl, hb4⟩
          have HB4 : Hid (Below w.heap.size w w4) := HB3.out.trans (hb4.mono HB3.out.size)
          have HO4 := Lib.hid (owns_below HO.out hb4)
          have HRC := Lib.hid (rcheck_any _ _ w4 ((HL.out.below HB4.out (Nat.le_refl _)).lens HM.out) (by simp [lensOf]; omega))
          rw [HQ.out] at HRC
          clear hb4 HST HO HB3
          go_wp2_with fail
          refine HRC.out.mono ?_
          rintro e w5 ⟨rfl, rfl⟩
          clear HRC
          go_wp2_with fail
          refine (num_any _ _).mono ?_
          rintro e w5 ⟨rfl, rfl⟩
          go_wp2_with fail
          refine (num_any _ _).mono ?_
          rintro e w5 ⟨rfl, rfl⟩
          go_wp2_with fail
          go_loopw [12] (fun i wr => ∃ k : Nat, k ≤ bss.length ∧ i = .int .i64 k ∧ Below w4.heap.size w4 wr) (fun i _ => bss.length - (intOf i).toNat)
          case atStart => exact ⟨0, by omega, rfl, Below.refl _ _⟩
          case round =>
            obtain ⟨k, hk, rfl, hb⟩ := hrel
            have k0 : (0 : Int) ≤ (k : Int) := by omega
            have HB := Lib.hid hb
            clear hb
            by_cases hlt : k < bss.length
            · have k1 : (k : Int) < (bss.length : Int) := by omega
              by_cases h12 : k < 12
              · have k2 : (k : Int) < 12 := by omega
                have HBW : Hid (Below w.heap.size w wr) := HB4.out.trans (HB.out.mono HB4.out.size)
                obtain ⟨b, off, cp, hv, hc, u, hu, hbw, _⟩ := HL.out.at_ k hlt
                simp only [Value.slice.injEq, true_and] at hv
                obtain ⟨rfl, rfl⟩ := hv
                obtain ⟨ua, uc, hus, _⟩ := hbw.shape
                subst hus
                obtain ⟨gd, hgd⟩ : ∃ gd, va = some ⟨gd, 0, none⟩ := by
                  rcases owns_shape HO4.out with ⟨_, h⟩ | ⟨g, c, h, _⟩
                  · omega
                  · cases h; exact ⟨g, rfl⟩
                subst hgd
                have hvc : bss.length ≤ vc := by
                  rcases owns_shape HO4.out with ⟨h, _⟩ | ⟨g, c, h, h1, _⟩
                  · cases h
                  · cases h; exact h1
                have hrg := digs_at HO4.out k hlt
                have hml := HM.out k hlt
                have hdig := Sha.isDig_sha bss[k]
                have hx32 := sha_length bss[k]
                have hSS : ∀ W, Below wr.heap.size wr W → W.rangeAt gd (32 * k) (Sha.shaOf bss[k]).toList ∧ W.cell? ⟨b, off + k, none⟩ = some (.slice ua bss[k].length uc) := fun W hW =>
                  ⟨rangeAt_below hrg (HB.out.trans (hW.mono HB.out.size)), (World.cell?_of_block (w := w) ((HBW.out.trans (hW.mono HBW.out.size)).block b (World.block_lt_of_cell? _ _ hu))).trans hu⟩
                have HSS := Lib.hid hSS
                have HS0 := Lib.hid (hSS wr.drew (Below.refl _ _).drew)
                have HX : ∀ W, Below wr.heap.size wr W → Calls Try.prog 26 #[.slice ua bss[k].length uc] W fun e w' => e = .returned (.agg (Sha.shaOf bss[k])) ∧ Below W.heap.size W w' := fun W hW => rsum_any _ bss[k] W (hbw.below (HBW.out.trans (hW.mono HBW.out.size)) (Nat.le_refl _)) (by omega)
                have HXX := Lib.hid HX
                clear hrg hSS HX hbw hu
                generalize Sha.shaOf bss[k] = D at *
                generalize bss[k] = x at *
                have hD : (Try.prog.info? 54).map (·.size) = some D.toList.length := by rw [hx32]; kernel_rfl
                have HD := Lib.hid hD
                clear hD hx32
                go_wp2_with fail
                refine wp_region_noPanic ?_
                refine wp_region_ordL 13 [13] [0, 1, 2, 3, 4, 5, 6, 7, 8, 9, 10, 11, 12, 13] (fun W => W.rangeAt gd (32 * k) D.toList ∧ W.cell? ⟨b, off + k, none⟩ = some (.slice ua x.length uc)) (by kernel_rfl) (by kernel_rfl) rfl (by kernel_rfl) (fun _ _ _ _ _ h => h) HS0.out ?_
                iterate 6 (apply heldL_run rfl (by rfl) (by rfl); (rintro w ⟨_, hSw⟩; go_simp; with_reducible rfl); (try simp only [Act.put, List.setIfInBounds_toArray, List.set_cons_zero, List.set_cons_succ]))
                refine heldL_take rfl (by rfl) (yieldsIf_load_mid (by rfl) 54 (.tmp 88) rfl gd (32 * k) (by show Value.pointer (some ⟨gd, _, none⟩) = _; congr 3; omega) D.toList (.array 32 5) (fun _ h => h.1) (by kernel_rfl) rfl HD.out) ?_
                (try simp only [Act.put, List.setIfInBounds_toArray, List.set_cons_zero, List.set_cons_succ, Array.toArray_toList])
                iterate 4 (apply heldL_run rfl (by rfl) (by rfl); (rintro w ⟨_, hSw⟩; go_simp; with_reducible rfl); (try simp only [Act.put, List.setIfInBounds_toArray, List.set_cons_zero, List.set_cons_succ]))
                refine heldL_step rfl (by rfl) (by rfl) (fun K hK => ?_)
                go_simp
                refine (HXX.out wr.drew (Below.refl _ _).drew).mono ?_
                rintro e w5 ⟨rfl, hb5⟩
                have HB5 : Hid (Below wr.heap.size wr w5) := (Below.refl _ _).drew.trans hb5
                clear hb5
                refine hK.out _ _ (.inr (HSS.out _ HB5.out)) ?_
                clear hK K
                (try simp only [Act.put, List.setIfInBounds_toArray, List.set_cons_zero, List.set_cons_succ])
                iterate 1 (apply heldL_run rfl (by rfl) (by rfl); (rintro w ⟨_, hSw⟩; go_simp; with_reducible rfl); (try simp only [Act.put, List.setIfInBounds_toArray, List.set_cons_zero, List.set_cons_succ]))
                refine heldL_step rfl (by rfl) (by rfl) (fun K hK => ?_)
                go_simp
                refine hK.out _ _ (.inl rfl) ?_
                clear hK K
                (try simp only [Act.put, List.setIfInBounds_toArray, List.set_cons_zero, List.set_cons_succ])
                refine heldL_nil (NoPanic.normal ?_)
                go_wp2_with fail
                go_roundw
                case rel => exact ⟨k + 1, by omega, by go_num, HB.out.trans (HB5.out.mono HB.out.size)⟩
                case measure => simp [intOf]; omega
              · skip
                have k2 : decide ((k : Int) < 12) = false := decide_eq_false (by omega)
                have HS0 : Hid (True) := trivial
                go_wp2_with fail
                refine wp_region_noPanic ?_
                refine wp_region_ordL 13 [13] [0, 1, 2, 3, 4, 5, 6, 7, 8, 9, 10, 11, 12, 13] (fun _ => True) (by kernel_rfl) (by kernel_rfl) rfl (by kernel_rfl) (fun _ _ _ _ _ h => h) trivial ?_
                repeat (first | (apply heldL_run rfl (by rfl) (by rfl); (intro w hSw; go_simp; with_reducible rfl); (try simp only [Act.put, List.setIfInBounds_toArray, List.set_cons_zero, List.set_cons_succ])) | (refine heldL_skip rfl (by rfl) (by rfl) ?_; (try simp only [Act.put, List.setIfInBounds_toArray, List.set_cons_zero, List.set_cons_succ])) | (refine heldL_pass rfl (by rfl) (by rfl) (.inr trivial) ?_; (try simp only [Act.put, List.setIfInBounds_toArray, List.set_cons_zero, List.set_cons_succ])))
                refine heldL_step rfl (by rfl) (by rfl) (fun K hK => ?_)
                go_simp
                refine hK.out _ _ (.inl rfl) ?_
                clear hK K
                (try simp only [Act.put, List.setIfInBounds_toArray, List.set_cons_zero, List.set_cons_succ])
                refine heldL_nil (NoPanic.normal ?_)
                go_wp2_with fail
                go_roundw
                case rel => exact ⟨k + 1, by omega, by go_num, HB.out.drew⟩
                case measure => simp [intOf]; omega
            · have hke : k = bss.length := by omega
              subst hke
              go_wp2_with fail
              go_ret
              exact ⟨rfl, HB4.out.trans (HB.out.mono HB4.out.size)⟩
        · have hq2 : checkV (lensOf bss) = 2 := by
            unfold checkV at hq ⊢
            split
            · rfl
            · rename_i h
              rw [if_neg h] at hq
              exact (checkL_two _ _).resolve_left hq
          have HSU := Lib.hid (sums_bad g cap bss w2 2 hq2 (by decide) (HF.out.lens HM.out) hn)
          have HST := Lib.hid (stay_lists _ bss w2 _ g cap HF.out (HL.out.below HB2.out (Nat.le_refl _)) hn HM.out)
          rw [hq2]
          have HQ := Lib.hid hq2
          clear hq hq2
          go_wp2_with fail
          refine HSU.out.mono ?_
          rintro e w3 ⟨rfl, rfl⟩
          clear HSU
          go_wp2_with fail
          refine HST.out.mono ?_
          rintro e w4 ⟨rfl, hb4⟩
          have HB4 : Hid (Below w.heap.size w w4) := HB2.out.trans (hb4.mono HB2.out.size)
          have HRC := Lib.hid (rcheck_any _ _ w4 ((HL.out.below HB4.out (Nat.le_refl _)).lens HM.out) (by simp [lensOf]; omega))
          rw [HQ.out] at HRC
          clear hb4 HST
          go_wp2_with fail
          refine HRC.out.mono ?_
          rintro e w5 ⟨rfl, rfl⟩
          clear HRC
          go_wp2_with fail
          refine (num_any _ _).mono ?_
          rintro e w5 ⟨rfl, rfl⟩
          go_wp2_with fail
          refine (num_any _ _).mono ?_
          rintro e w5 ⟨rfl, rfl⟩
          go_wp2_with fail
          go_ret
          exact ⟨rfl, HB4.out⟩
    · have m9 : ¬ (m : Int) ≤ 90000 := by omega
      have m10 : 90000 < (m : Int) := by omega
      clear hm
      by_cases hlt : k < bss.length
      · have k1 : (k : Int) < (bss.length : Int) := by omega
        go_wp2_with fail
        go_ret
        exact ⟨rfl, HB1.out⟩
      · have hke : k = bss.length := by omega
        subst hke
        go_wp2_with fail
        go_ret
        exact ⟨rfl, HB1.out⟩
end Go.Proofs.Ythkjihfnphdfkaa
