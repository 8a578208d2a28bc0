/- LedgerRow. -/
import Derived.Test.YthfncgbkigmmcaaL27
namespace Go.Proofs.Ythfncgbkigmmcaa
open Go.RowKit

variable {w w' w1 wr : World} {B lp p n : Nat} {d D : DS} {dead : Bool} {c : Nat → Bs}
/-- behind so many commits -/
def rowC (wide k j : Nat) : Bs := if j < wide then blk (k : Int) else zeroB
def rowPs (k j : Nat) : List (Nat × Bs) := (List.range j).map fun i => (i, blk (k : Int))
theorem rowPs_snoc (k j : Nat) : rowPs k (j + 1) = rowPs k j ++ [(j, blk (k : Int))] := by
  unfold rowPs
  rw [List.range_succ, List.map_append]
  rfl
theorem rowPs_length (k j : Nat) : (rowPs k j).length = j := by simp [rowPs]
theorem rowPs_ok {n : Nat} (k j : Nat) (h1 : 1 ≤ j) (h2 : j ≤ 40) (hn : j + 96 ≤ n) : PutOk n (rowPs k j) := by
  refine ⟨by rw [rowPs_length]; exact h1, by rw [rowPs_length]; exact h2, ?_, fun x hx => ?_⟩
  · have : (rowPs k j).map (·.1) = List.range j := by simp [rowPs, Function.comp_def]
    rw [this]
    exact List.nodup_range
  · obtain ⟨i, hi, rfl⟩ := List.mem_map.1 hx
    rw [List.mem_range] at hi
    exact ⟨by show i + 96 < n; omega, blk_length _⟩
theorem lastW_row (k j : Nat) : ∀ (m : Nat), lastW (rowPs k m) j = if j < m then some (blk (k : Int)) else none := by
  intro m
  induction m with
  | zero => rfl
  | succ m ih =>
    have key : ∀ (l : List (Nat × Bs)) (a : Nat) (x : Bs), lastW (l ++ [(a, x)]) j = if a = j then some x else lastW l j := by
      intro l a x
      induction l with
      | nil => simp [lastW]
      | cons p r ih2 =>
        obtain ⟨b, y⟩ := p
        rw [List.cons_append, lastW, ih2]
        by_cases h : a = j
        · simp [h]
        · rw [if_neg h, if_neg h, lastW]
    rw [rowPs_snoc, key, ih]
    by_cases h : m = j
    · subst h
      rw [if_pos rfl, if_pos (by omega)]
    · rw [if_neg h]
      by_cases h2 : j < m
      · rw [if_pos h2, if_pos (by omega)]
      · rw [if_neg h2, if_neg (by omega)]
theorem rowC_put (wide t k j : Nat) : putC (rowC wide t) (rowPs k wide) j = rowC wide k j := by
  unfold putC rowC
  rw [lastW_row]
  by_cases h : j < wide
  · simp [h]
  · simp [h]
theorem rowC_0 (wide j : Nat) : zeroB = rowC wide 0 j := by
  unfold rowC
  have : blk ((0 : Nat) : Int) = zeroB := if_pos rfl
  rw [this]
  split <;> rfl
/-- so many commits are told done, of k tried -/
def RowS (w : World) (B lp p wide t k n : Nat) : Prop := t ≤ n ∧ ((t = k ∧ LA w B lp p (96 + 40) (rowC wide t)) ∨ (t < k ∧ t < n ∧ LD w B lp p (96 + 40) (fun I => Has (96 + 40) (rowC wide t) I ∨ Has (96 + 40) (rowC wide (t + 1)) I)))
set_option maxRecDepth 8000 in
set_option maxHeartbeats 3200000 in
theorem row_law (n wide s : Nat) (ka : Option Addr) (kn kcap : Nat) (ks : Nat → Int) (w : World) (hkeep : IntsAt w ka kn ks) (hka : ∀ x, ka = some x → 0 < kn → x.block < w.heap.size) (hn : n ≤ 12) (hw1 : 1 ≤ wide) (hw2 : wide ≤ 40) (hs : s ≤ 600) (hkn : kn ≤ 400) :
    Calls Try.prog 9 #[.int .i64 n, .int .i64 wide, .int .i64 s, .slice ka kn kcap] w fun e w' => e = .returned (.bool true) ∧ Below w.heap.size w w' := by
  have n0 : ¬ (n : Int) < 0 := by omega
  have n1 : ¬ (12 : Int) < (n : Int) := by omega
  have n2 : ¬ (wide : Int) < 1 := by omega
  have n3 : ¬ (40 : Int) < (wide : Int) := by omega
  have n4 : ¬ (s : Int) < 0 := by omega
  have n5 : ¬ (600 : Int) < (s : Int) := by omega
  have n6 : ¬ (400 : Int) < (kn : Int) := by omega
  have HKEEP := Lib.hid hkeep
  have HKA := Lib.hid hka
  have HN := Lib.hid hn
  have HW := Lib.hid (And.intro hw1 hw2)
  have HSS := Lib.hid hs
  clear hkeep hka hn hw1 hw2 hs hkn
  go_enter Try.func9, Try.ntmps9
  go_wp2_with fail
  refine (alive_any _).mono ?_
  rintro e w0 ⟨rfl, hb0⟩
  have HB0 := Lib.hid hb0
  have HFR := Lib.hid (fresh_in 40 w0 (by omega) (by omega))
  clear hb0
  go_wp2_with fail
  refine (HFR.out).mono ?_
  rintro e w1 ⟨p, lp, rfl, ⟨d, hl1, hq1, hv1⟩, hb1⟩
  have HB1 := Lib.hid (HB0.out.trans (hb1.mono HB0.out.size))
  have HS1 := Lib.hid hb1.size
  have HS0 := Lib.hid HB0.out.size
  have HQ1 := Lib.hid hq1
  have HF := Lib.hid (fuse_led hl1 hb1.size s (by omega) hv1.1)
  clear hb1 hl1 hv1 hq1 HFR HB0
  go_wp2_with fail
  refine (HF.out).mono ?_
  rintro e w2 ⟨rfl, hd2, hb2⟩
  have HB2 := Lib.hid (HB1.out.trans (hb2.mono HS0.out))
  have HS2 := Lib.hid (Nat.le_trans HS1.out hb2.size)
  have HRS : Hid (RowS w2 w0.heap.size lp p wide 0 0 n) := by
    refine ⟨Nat.zero_le _, .inl ⟨rfl, LA.ext (c := fun _ => zeroB) ?_ (fun j _ => rowC_0 wide j)⟩⟩
    obtain ⟨I, q1, q2⟩ := HQ1.out
    exact ⟨_, hd2, ⟨I, ⟨q1.hn, q1.fast, q1.back, q1.now, q1.len⟩, q2⟩, by show (s : Int) ≤ _; have := HSS.out; omega⟩
  clear hd2 hb2 HF HB1 HS1 HQ1
  obtain ⟨i0, hi, hz0, hz1, hz2⟩ := info_parts infoPut
  have HI := Lib.hid (And.intro hi (And.intro hz0 (And.intro hz1 hz2)))
  clear hi hz0 hz1 hz2
  have n7 := HN.out
  go_wp2_with fail
  go_loopw [13, 14] (fun t k wr => ∃ t0 k0 : Nat, t = .int .i64 t0 ∧ k = .int .i64 (k0 + 1 : Nat) ∧ k0 ≤ n ∧ RowS wr w0.heap.size lp p wide t0 k0 n ∧ w0.heap.size ≤ wr.heap.size ∧ Below w.heap.size w wr) (fun _ k _ => n + 1 - (intOf k).toNat)
  case atStart => exact ⟨0, 0, rfl, rfl, Nat.zero_le _, HRS.out, HS2.out, HB2.out⟩
  case round =>
    obtain ⟨t, k, rfl, rfl, hk, hrs, hs, hb⟩ := hrel
    have HRS := Lib.hid hrs
    have HS := Lib.hid hs
    have HB := Lib.hid hb
    have k0 : (0 : Int) ≤ ((k + 1 : Nat) : Int) := by omega
    have kk : ((k + 1 : Nat) : Int) = (k : Int) + 1 := by omega
    by_cases hlt : k < n
    · obtain ⟨m, hm⟩ : ∃ m, m = k + 1 := ⟨_, rfl⟩
      rw [← hm] at k0 ⊢
      have k1 : (m : Int) ≤ (n : Int) := by omega
      have HM := Lib.hid hm
      clear hm kk hrs hs hb
      obtain ⟨wA, hwA⟩ : ∃ x, x = wr := ⟨_, rfl⟩
      subst hwA
      go_wp2_with fail
      go_loopw [15, 16] (fun v i wr => ∃ j : Nat, i = .int .i64 j ∧ j ≤ wide ∧ PutsB wr wA.heap.size v (rowPs m j) ∧ Below wA.heap.size wA wr) (fun _ i _ => wide - (intOf i).toNat)
      case atStart => exact ⟨0, rfl, Nat.zero_le _, PutsB.nil _ _, Below.refl _ _⟩
      case round =>
        obtain ⟨j, rfl, hj, hpb, hb⟩ := hrel
        have HPB := Lib.hid hpb
        have HBJ := Lib.hid hb
        clear hpb hb
        have j0 : (0 : Int) ≤ (j : Int) := by omega
        by_cases hjl : j < wide
        · have j1 : (j : Int) < (wide : Int) := by omega
          obtain ⟨gs, hg1, hown, hg3⟩ := HPB.out
          rw [rowPs_length] at hg1 hown
          obtain ⟨va, vc, rfl⟩ := row_len hown
          have HOWN := Lib.hid hown
          have HG := Lib.hid (And.intro hg1 hg3)
          clear hown hg1 hg3
          go_wp2_with fail
          refine (block_any (m : Int) _).mono ?_
          rintro e w3 ⟨rfl, hx3, hb3⟩
          obtain ⟨X, hX⟩ : ∃ X, X = Obj.cells #[.int .i64 (j : Int), .slice (some ⟨wr.heap.size, 0, none⟩) 512 512] 26 (0, 0) := ⟨_, rfl⟩
          have HAL : Hid (Below wr.heap.size wr (w3.alloc X)) := hb3.trans (((Below.refl _ _).alloc (Nat.le_refl _) X).mono hb3.size)
          have HNEWS : Hid (∀ i u, [Value.int .i64 (j : Int), .slice (some ⟨wr.heap.size, 0, none⟩) 512 512][i]? = some u → (w3.alloc X).cell? ((⟨w3.heap.size, 0, none⟩ : Addr).add i) = some u) := fun i u hi => by
            rw [addr_add, cell_of_row (w3.alloc X) w3.heap.size _ _ _ _ (by rw [heap_alloc_new, hX]), Nat.zero_add]
            simpa using hi
          have HX3 : Hid (Bytes (w3.alloc X) (.slice (some ⟨wr.heap.size, 0, none⟩) 512 512) (blk (m : Int))) := RowAt.below hx3 ((Below.refl _ _).alloc (Nat.le_refl _) X) (Nat.le_refl _)
          have HOWX : Hid ((w3.alloc X).ownsRow wA.heap.size 26 2 (.slice va j vc) j (putV (rowPs m j) gs)) := owns_below HOWN.out HAL.out
          have HBB : Hid (wA.heap.size ≤ (w3.alloc X).heap.size) := Nat.le_trans HBJ.out.size HAL.out.size
          have HONE : Hid (∀ u ∈ [Value.int .i64 (j : Int), .slice (some ⟨wr.heap.size, 0, none⟩) 512 512], u.oneCell' = true) := by show ∀ u ∈ _, _; simp [Value.oneCell']
          have L5 : Hid (j + 1 ≤ maxLen) := by show _ ≤ _; unfold maxLen; have := HW.out.2; omega
          have L6 : Hid ((j + 1) * 32 ≤ 140737488355328) := by show _ ≤ _; have := HW.out.2; omega
          rw [hX] at HNEWS HOWX HBB
          clear hx3 hb3
          go_wp2_with (at_builtin; refine wpList_append_own_at _ rfl (.tmp 76) (.tmp 81) 22 rfl wA.heap.size 26 i0 (.agg #[.int .i64 0, .slice none 0 0]) 2 32 Try.underlying22 HI.out.1 HI.out.2.1 HI.out.2.2.1 HI.out.2.2.2 rfl (by decide) _ j _ rfl HOWX.out ⟨w3.heap.size, 0, none⟩ 1 1 [.int .i64 (j : Int), .slice (some ⟨wr.heap.size, 0, none⟩) 512 512] rfl rfl HNEWS.out HONE.out L5.out L6.out HBB.out ?_)
          intro v2 w4 hown2 hgrow2 _ hat
          rw [← hX] at hgrow2
          rw [show w3.heap.size + 1 = (w3.alloc X).heap.size by simp] at hat
          have HPB4 : Hid (PutsB w4 wA.heap.size v2 (rowPs m (j + 1))) := by
            show PutsB _ _ _ _
            rw [rowPs_snoc]
            refine PutsB.add (gs := gs) (w := wr) (w1 := w3.alloc X) (g0 := wr.heap.size) (by rw [rowPs_length]; exact HG.out.1) HG.out.2 (fun y hy => ?_) (fun i e => (HOWN.out.lt i e).2) HAL.out HBJ.out.size (Nat.le_refl _) HX3.out (blk_length _) ?_ hgrow2 hat
            · obtain ⟨i, _, rfl⟩ := List.mem_map.1 hy
              exact blk_length _
            · rw [rowPs_length]
              exact hown2
          have HBJ4 : Hid (Below wA.heap.size wA w4) := (HBJ.out.trans (HAL.out.mono HBJ.out.size)).grown hgrow2 (Nat.le_trans HBJ.out.size HAL.out.size) (fun i e => (HOWN.out.lt i e).1)
          clear hown2 hgrow2 hat
          go_wp2_with fail
          go_roundw
          case rel => exact ⟨j + 1, by go_num, by omega, HPB4.out, HBJ4.out⟩
          case measure => simp [intOf]; omega
        · obtain rfl : j = wide := by omega
          have HPF := Lib.hid HPB.out.puts
          have HPO := Lib.hid (rowPs_ok (n := 96 + 40) m j HW.out.1 HW.out.2 (by omega))
          have HBR := Lib.hid (HB.out.trans (HBJ.out.mono HB.out.size))
          have HSR := Lib.hid (Nat.le_trans HS.out HBJ.out.size)
          obtain ⟨htn, ⟨rfl, hla⟩ | ⟨ht1, ht2, hld⟩⟩ := HRS.out
          · have HC := Lib.hid (commit_la hla HBJ.out HS.out _ _ HPF.out HPO.out)
            clear hla
            go_wp2_with fail
            refine (HC.out).mono ?_
            rintro e w5 ⟨⟨rfl, hla5⟩ | ⟨rfl, hld5⟩, hb5⟩
            · have HB5 := Lib.hid (HBR.out.trans (hb5.mono HS0.out))
              have HS5 := Lib.hid (Nat.le_trans HSR.out hb5.size)
              have HRS5 : Hid (RowS w5 w0.heap.size lp p j m m n) := ⟨by have := HM.out; omega, .inl ⟨rfl, hla5.ext (fun i _ => rowC_put j t m i)⟩⟩
              clear hla5 hb5 HC
              go_wp2_with fail
              refine (num_any _ _).mono ?_
              rintro e w6 ⟨rfl, rfl⟩
              go_wp2_with fail
              go_roundw
              case rel => exact ⟨m, m, rfl, by go_num, by have := HM.out; omega, HRS5.out, HS5.out, HB5.out⟩
              case measure => simp [intOf]; omega
            · have HB5 := Lib.hid (HBR.out.trans (hb5.mono HS0.out))
              have HS5 := Lib.hid (Nat.le_trans HSR.out hb5.size)
              have HRS5 : Hid (RowS w5 w0.heap.size lp p j t m n) := ⟨htn, .inr ⟨by have := HM.out; omega, hlt, hld5.mono (fun I hI => hI.imp id (fun h => by rw [← HM.out]; exact h.ext (fun i _ => rowC_put j t m i)))⟩⟩
              clear hld5 hb5 HC
              go_wp2_with fail
              refine (num_any _ _).mono ?_
              rintro e w6 ⟨rfl, rfl⟩
              go_wp2_with fail
              refine (num_any _ _).mono ?_
              rintro e w6 ⟨rfl, rfl⟩
              go_wp2_with fail
              go_roundw
              case rel => exact ⟨t, m, rfl, by go_num, by have := HM.out; omega, HRS5.out, HS5.out, HB5.out⟩
              case measure => simp [intOf]; omega
          · have HC := Lib.hid (commit_ld hld HBJ.out HS.out _ _ HPF.out HPO.out)
            clear hld
            go_wp2_with fail
            refine (HC.out).mono ?_
            rintro e w5 ⟨⟨rfl, hld5⟩, hb5⟩
            have HB5 := Lib.hid (HBR.out.trans (hb5.mono HS0.out))
            have HS5 := Lib.hid (Nat.le_trans HSR.out hb5.size)
            have HRS5 : Hid (RowS w5 w0.heap.size lp p j t m n) := ⟨htn, .inr ⟨by have := HM.out; omega, ht2, hld5⟩⟩
            clear hld5 hb5 HC
            go_wp2_with fail
            refine (num_any _ _).mono ?_
            rintro e w6 ⟨rfl, rfl⟩
            go_wp2_with fail
            refine (num_any _ _).mono ?_
            rintro e w6 ⟨rfl, rfl⟩
            go_wp2_with fail
            go_roundw
            case rel => exact ⟨t, m, rfl, by go_num, by have := HM.out; omega, HRS5.out, HS5.out, HB5.out⟩
            case measure => simp [intOf]; omega
    · obtain rfl : k = n := by omega
      have k1 : ¬ ((k + 1 : Nat) : Int) ≤ (k : Int) := by omega
      have hcr : CrIn wr w0.heap.size p (96 + 40) (fun I => ∃ v, v ≤ k ∧ v ≤ t + 1 ∧ Has (96 + 40) (rowC wide v) I) := by
        obtain ⟨htn, ⟨rfl, hla⟩ | ⟨ht1, ht2, hld⟩⟩ := hrs
        · exact hla.crIn.mono (fun I hI => ⟨t, Nat.le_refl _, by omega, hI⟩)
        · exact hld.crIn.mono (fun I hI => hI.elim (fun h => ⟨t, by omega, by omega, h⟩) (fun h => ⟨t + 1, by omega, Nat.le_refl _, h⟩))
      have HCR := Lib.hid (crash_cr hcr hs ka kn kcap ks (HKEEP.out.below (Below.mono hb (Nat.le_refl _))) (fun x hx h0 => Nat.lt_of_lt_of_le (HKA.out x hx h0) HS0.out))
      have htk : t ≤ k := hrs.1
      clear hcr hrs hs hb
      go_wp2_with fail
      refine (HCR.out).mono ?_
      rintro e w5 ⟨⟨v5, rfl⟩, hl5, hb5⟩
      have HB5 := Lib.hid (HB.out.trans (hb5.mono HS0.out))
      have HS5 := Lib.hid (Nat.le_trans HS.out hb5.size)
      have HOP := Lib.hid (open_left hl5 HS5.out (by omega) (C := fun c => ∃ v, v ≤ k ∧ v ≤ t + 1 ∧ c = rowC wide v) (fun I ⟨v, q1, q2, q3⟩ => ⟨_, ⟨v, q1, q2, rfl⟩, q3⟩))
      clear hl5 hb5 HCR
      go_wp2_with fail
      refine (HOP.out).mono ?_
      rintro e w6 ⟨lp2, c, rfl, ⟨v, hv1, hv2, rfl⟩, hq6, hb6⟩
      have HB6 := Lib.hid (HB5.out.trans (hb6.mono HS0.out))
      have HQ6 := Lib.hid hq6
      clear hq6 hb6 HOP
      go_wp2_with fail
      refine (num_any _ _).mono ?_
      rintro e w7 ⟨rfl, rfl⟩
      go_wp2_with fail
      go_loopw [20] (fun i wr => ∃ q : Nat, i = .int .i64 q ∧ q ≤ v ∧ QL wr w0.heap.size lp2 p (96 + 40) (rowC wide v) ∧ Below w.heap.size w wr) (fun i _ => v + 1 - (intOf i).toNat)
      case atStart => exact ⟨0, rfl, Nat.zero_le _, HQ6.out, HB6.out⟩
      case round =>
        obtain ⟨q, rfl, hq, hql, hbq⟩ := hrel
        have q0 : (0 : Int) ≤ (q : Int) := by omega
        have q1 : (q : Int) ≤ (k : Int) := by omega
        have q2 : (q : Int) ≤ (t : Int) + 1 := by omega
        have HQL := Lib.hid hql
        have HBQ := Lib.hid hbq
        clear hql hbq
        go_wp2_with fail
        go_loopw [21, 22] (fun b i wr => ∃ (bb : Bool) (j : Nat), b = .bool bb ∧ i = .int .i64 j ∧ j ≤ wide ∧ (q = v → bb = true) ∧ QL wr w0.heap.size lp2 p (96 + 40) (rowC wide v) ∧ Below w.heap.size w wr) (fun _ i _ => wide - (intOf i).toNat)
        case atStart => exact ⟨true, 0, rfl, rfl, Nat.zero_le _, fun _ => rfl, HQL.out, HBQ.out⟩
        case round =>
          obtain ⟨bb, j, rfl, rfl, hj, hbb, hql, hbq⟩ := hrel
          have j0 : (0 : Int) ≤ (j : Int) := by omega
          have HBB := Lib.hid hbb
          have HQJ := Lib.hid hql
          have HBJ := Lib.hid hbq
          clear hql hbq hbb
          by_cases hjl : j < wide
          · have j1 : (j : Int) < (wide : Int) := by omega
            have hrd := read_quiet HQJ.out j (by have := HW.out.2; omega)
            rw [show rowC wide v j = blk (v : Int) from if_pos hjl] at hrd
            have HRD := Lib.hid hrd
            clear hrd
            go_wp2_with fail
            refine (HRD.out).mono ?_
            rintro e w7 ⟨g, cap7, rfl, hx7, _, hb7⟩
            have hcv : ∀ W, Below w7.heap.size w7 W → (convert 24 9 (.slice (some ⟨g, 0, none⟩) 512 cap7)).run Try.prog W = .ok (.string ⟨(blk (v : Int)).toArray⟩) W := fun W hW => run_string_of W 24 5 Try.underlying24 Try.underlying5 (RowAt.below hx7 hW (Nat.le_refl _)) 9 Try.underlying9
            have HB7 := Lib.hid (HBJ.out.trans (hb7.mono HBJ.out.size))
            have HQ7 := Lib.hid (HQJ.out.below hb7)
            have HS0' : Hid (Below w7.heap.size w7 w7.drew) := (Below.refl _ _).drew
            clear hx7 hb7 HRD
            cases bb with
            | false =>
              go_wp2_with fail
              refine wp_region_noPanic ?_
              refine wp_region_ordL 14 [11, 14] [0, 1, 2, 3, 4, 5, 6, 7, 8, 9, 10, 11, 12, 13, 14] (fun W => Below w7.heap.size w7 W) (by kernel_rfl) (by kernel_rfl) rfl (by kernel_rfl) (fun _ _ _ _ _ h => h) HS0'.out ?_
              repeat (first | (apply heldL_run rfl (by rfl) (by rfl); (intro w hSw; go_simp; with_reducible rfl); (try simp only [Act.put, List.setIfInBounds_toArray, List.set_cons_zero, List.set_cons_succ])) | (refine heldL_skip rfl (by rfl) (by rfl) ?_; (try simp only [Act.put, List.setIfInBounds_toArray, List.set_cons_zero, List.set_cons_succ])) | (refine heldL_pass rfl (by rfl) (by rfl) (.inr HS0'.out) ?_; (try simp only [Act.put, List.setIfInBounds_toArray, List.set_cons_zero, List.set_cons_succ])))
              refine heldL_step rfl (by rfl) (by rfl) (fun K hK => ?_)
              go_simp
              refine hK.out _ _ (.inl rfl) ?_
              clear hK K
              (try simp only [Act.put, List.setIfInBounds_toArray, List.set_cons_zero, List.set_cons_succ])
              refine heldL_nil (NoPanic.normal ?_)
              have HB8 := Lib.hid (HB7.out.trans (HS0'.out.mono HB7.out.size))
              have HQ8 := Lib.hid (HQ7.out.below HS0'.out)
              go_wp2_with fail
              go_roundw
              case rel => exact ⟨false, j + 1, rfl, by go_num, by omega, HBB.out, HQ8.out, HB8.out⟩
              case measure => simp [intOf]; omega
            | true =>
              go_wp2_with fail
              refine wp_region_noPanic ?_
              refine wp_region_ordL 14 [11, 14] [0, 1, 2, 3, 4, 5, 6, 7, 8, 9, 10, 11, 12, 13, 14] (fun W => Below w7.heap.size w7 W) (by kernel_rfl) (by kernel_rfl) rfl (by kernel_rfl) (fun _ _ _ _ _ h => h) HS0'.out ?_
              repeat (apply heldL_run rfl (by rfl) (by rfl); (intro w hSw; go_simp; with_reducible rfl); (try simp only [Act.put, List.setIfInBounds_toArray, List.set_cons_zero, List.set_cons_succ]))
              refine heldL_step rfl (by rfl) (by rfl) (fun K hK => ?_)
              go_simp
              refine (num_any _ _).mono ?_
              rintro e w8 ⟨rfl, rfl⟩
              refine hK.out _ _ (.inr HS0'.out) ?_
              clear hK K
              (try simp only [Act.put, List.setIfInBounds_toArray, List.set_cons_zero, List.set_cons_succ])
              repeat (apply heldL_run rfl (by rfl) (by rfl); (intro w hSw; go_simp; with_reducible rfl); (try simp only [Act.put, List.setIfInBounds_toArray, List.set_cons_zero, List.set_cons_succ]))
              refine heldL_step rfl (by rfl) (by rfl) (fun K hK => ?_)
              go_simp
              refine (block_any (q : Int) _).mono ?_
              rintro e w8 ⟨rfl, hx8, hb8⟩
              have HS8 : Hid (Below w7.heap.size w7 w8) := HS0'.out.trans hb8
              have hc8 := run_string_of w8 24 5 Try.underlying24 Try.underlying5 hx8 9 Try.underlying9
              clear hx8 hb8
              generalize w7.drew.heap.size = q9 at *
              refine hK.out _ _ (.inr HS8.out) ?_
              clear hK K
              (try simp only [Act.put, List.setIfInBounds_toArray, List.set_cons_zero, List.set_cons_succ])
              repeat (apply heldL_run rfl (by rfl) (by rfl); (intro w hSw; go_simp; with_reducible rfl); (try simp only [Act.put, List.setIfInBounds_toArray, List.set_cons_zero, List.set_cons_succ]))
              refine heldL_step rfl (by rfl) (by rfl) (fun K hK => ?_)
              go_simp
              refine hK.out _ _ (.inr HS8.out) ?_
              clear hK K
              (try simp only [Act.put, List.setIfInBounds_toArray, List.set_cons_zero, List.set_cons_succ])
              have HB8 := Lib.hid (HB7.out.trans (HS8.out.mono HB7.out.size))
              have HQ8 := Lib.hid (HQ7.out.below HS8.out)
              by_cases hvq : blk (v : Int) = blk (q : Int)
              · rw [hvq]
                repeat (apply heldL_run rfl (by rfl) (by rfl); (intro w hSw; go_simp; with_reducible rfl); (try simp only [Act.put, List.setIfInBounds_toArray, List.set_cons_zero, List.set_cons_succ]))
                refine heldL_step rfl (by rfl) (by rfl) (fun K hK => ?_)
                go_simp
                refine hK.out _ _ (.inl rfl) ?_
                clear hK K
                (try simp only [Act.put, List.setIfInBounds_toArray, List.set_cons_zero, List.set_cons_succ])
                refine heldL_nil (NoPanic.normal ?_)
                go_wp2_with fail
                go_roundw
                case rel => exact ⟨true, j + 1, rfl, by go_num, by omega, fun _ => rfl, HQ8.out, HB8.out⟩
                case measure => simp [intOf]; omega
              · have hbe : (blk (v : Int) == blk (q : Int)) = false := by simpa using hvq
                have HVQ : Hid (q = v → false = true) := fun e => absurd (by rw [e]) hvq
                repeat (apply heldL_run rfl (by rfl) (by rfl); (intro w hSw; go_simp; with_reducible rfl); (try simp only [Act.put, List.setIfInBounds_toArray, List.set_cons_zero, List.set_cons_succ]))
                refine heldL_step rfl (by rfl) (by rfl) (fun K hK => ?_)
                go_simp
                refine hK.out _ _ (.inl rfl) ?_
                clear hK K
                (try simp only [Act.put, List.setIfInBounds_toArray, List.set_cons_zero, List.set_cons_succ])
                refine heldL_nil (NoPanic.normal ?_)
                clear hvq
                go_wp2_with fail
                go_roundw
                case rel => exact ⟨false, j + 1, rfl, by go_num, by omega, HVQ.out, HQ8.out, HB8.out⟩
                case measure => simp [intOf]; omega
          · obtain rfl : j = wide := by omega
            cases bb with
            | true =>
              go_wp2_with fail
              go_ret
              exact ⟨rfl, HBJ.out⟩
            | false =>
              have hqv : q < v := by
                rcases Nat.lt_or_ge q v with h | h
                · exact h
                · exact absurd (HBB.out (by omega)) (by decide)
              go_wp2_with fail
              go_roundw
              case rel => exact ⟨q + 1, by go_num, by omega, HQJ.out, HBJ.out⟩
              case measure => simp [intOf]; omega
set_option maxHeartbeats 1600000 in
theorem row_out (a0 a1 a2 : Int) (ka : Option Addr) (kn kcap : Nat) (w : World) (h : a0 < 0 ∨ (0 ≤ a0 ∧ 12 < a0) ∨ (0 ≤ a0 ∧ a0 ≤ 12 ∧ a1 < 1) ∨ (0 ≤ a0 ∧ a0 ≤ 12 ∧ 1 ≤ a1 ∧ 40 < a1) ∨ (0 ≤ a0 ∧ a0 ≤ 12 ∧ 1 ≤ a1 ∧ a1 ≤ 40 ∧ a2 < 0) ∨ (0 ≤ a0 ∧ a0 ≤ 12 ∧ 1 ≤ a1 ∧ a1 ≤ 40 ∧ 0 ≤ a2 ∧ 600 < a2) ∨ (0 ≤ a0 ∧ a0 ≤ 12 ∧ 1 ≤ a1 ∧ a1 ≤ 40 ∧ 0 ≤ a2 ∧ a2 ≤ 600 ∧ (400 : Int) < (kn : Int))) :
    Calls Try.prog 9 #[.int .i64 a0, .int .i64 a1, .int .i64 a2, .slice ka kn kcap] w fun e w' => e = .returned (.bool true) ∧ Below w.heap.size w w' := by
  rcases h with h | ⟨h1, h⟩ | ⟨h1, h2, h⟩ | ⟨h1, h2, h3, h⟩ | ⟨h1, h2, h3, h4, h⟩ | ⟨h1, h2, h3, h4, h5, h⟩ | ⟨h1, h2, h3, h4, h5, h6, h⟩
  all_goals
    go_enter Try.func9, Try.ntmps9
    go_wp2_with fail
    refine (alive_any _).mono ?_
    rintro e w0 ⟨rfl, hb0⟩
    have HB0 := Lib.hid hb0
    clear hb0
    go_wp2_with fail
    go_ret
    exact ⟨rfl, HB0.out⟩
theorem row_walk (a0 a1 a2 : Int) (a3 : Option Addr) (len3 cap3 : Nat) (z3 : List Int) (w : World) (_ : (Lit.int .i64 a0).wf = true) (_ : (Lit.int .i64 a1).wf = true) (_ : (Lit.int .i64 a2).wf = true) (w3 : RowIn .i64 w a3 len3 cap3 z3) :
    Calls Try.prog 9 #[.int .i64 a0, .int .i64 a1, .int .i64 a2, .slice a3 len3 cap3] w fun e w' => e = .returned (.bool true) ∧ Below w.heap.size w w' := by
  by_cases h1 : a0 < 0
  · exact row_out _ _ _ _ _ _ w (.inl h1)
  by_cases h2 : 12 < a0
  · exact row_out _ _ _ _ _ _ w (.inr (.inl ⟨by omega, h2⟩))
  by_cases h3 : a1 < 1
  · exact row_out _ _ _ _ _ _ w (.inr (.inr (.inl ⟨by omega, by omega, h3⟩)))
  by_cases h4 : 40 < a1
  · exact row_out _ _ _ _ _ _ w (.inr (.inr (.inr (.inl ⟨by omega, by omega, by omega, h4⟩))))
  by_cases h5 : a2 < 0
  · exact row_out _ _ _ _ _ _ w (.inr (.inr (.inr (.inr (.inl ⟨by omega, by omega, by omega, by omega, h5⟩)))))
  by_cases h6 : 600 < a2
  · exact row_out _ _ _ _ _ _ w (.inr (.inr (.inr (.inr (.inr (.inl ⟨by omega, by omega, by omega, by omega, by omega, h6⟩))))))
  by_cases h7 : len3 ≤ 400
  · obtain ⟨n, rfl⟩ := Int.eq_ofNat_of_zero_le (show 0 ≤ a0 by omega)
    obtain ⟨k, rfl⟩ := Int.eq_ofNat_of_zero_le (show 0 ≤ a1 by omega)
    obtain ⟨s, rfl⟩ := Int.eq_ofNat_of_zero_le (show 0 ≤ a2 by omega)
    obtain ⟨q1, q2⟩ := ints_of_row w3 (by omega)
    exact row_law n k s a3 len3 cap3 _ w q1 q2 (by omega) (by omega) (by omega) (by omega) h7
  · exact row_out _ _ _ _ _ _ w (.inr (.inr (.inr (.inr (.inr (.inr ⟨by omega, by omega, by omega, by omega, by omega, by omega, by omega⟩))))))
end Go.Proofs.Ythfncgbkigmmcaa
