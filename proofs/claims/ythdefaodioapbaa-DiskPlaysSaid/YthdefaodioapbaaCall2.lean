/- call of Read, Flush, Crash. -/
import Derived.Test.YthdefaodioapbaaCall
namespace Go.Proofs.Ythdefaodioapbaa
open Go.RowKit

variable {w w' : World} {B : Nat} {X : Nat → Prop} {l : List (Bool × Nat × DS)} {p q : Nat} {d : DS}
attribute [local irreducible] zA

def opV (kind a b : Int) (ka : Option Addr) (kn kc : Nat) : Value := .agg #[.int .i64 kind, .int .i64 a, .int .i64 b, .slice ka kn kc]
theorem bytes_block {w : World} {g n : Nat} {t : TypeId} {x : Bs} (h : w.heap[g]? = some (.cells (u8s x).toArray t (0, 0))) (hn : n = x.length) (c : Nat) (hc : n ≤ c) : Bytes w (.slice (some ⟨g, 0, none⟩) n c) x := by
  refine .inr ⟨g, 0, c, by rw [hn, u8s_length], by rw [u8s_length]; omega, fun i u hi => ?_⟩
  rw [cell_of_row w g (0 + i) _ _ _ h, Nat.zero_add]
  simpa using hi

set_option maxHeartbeats 2000000 in
set_option maxRecDepth 100000 in
theorem call0 (h : DisksX w B X ((false, p, d) :: (true, q, d) :: l)) (hB : B ≤ w.heap.size) (hg : d.Good) (a b : Int) (ka : Option Addr) (kn kc : Nat) :
    Calls Try.prog 27 #[.pointer (some ⟨p, 0, none⟩), .pointer (some ⟨q, 0, none⟩), .agg #[.int .i64 0, .int .i64 a, .int .i64 b, .slice ka kn kc]] w fun e w' => e = .returned (.bool true) ∧ Below w.heap.size w w' := by
  obtain ⟨W1, hW1⟩ : ∃ W1, W1 = w.alloc (.cells #[.int .i64 0, .int .i64 a, .int .i64 b, .slice ka kn kc] 51) := ⟨_, rfl⟩
  have hb1 : Below w.heap.size w W1 := by rw [hW1]; exact (Below.refl _ _).alloc (Nat.le_refl _) _
  have hr1 : W1.heap[w.heap.size]? = some (.cells #[.int .i64 0, .int .i64 a, .int .i64 b, .slice ka kn kc] 51 (0, 0)) := by rw [hW1]; exact heap_alloc_new w _
  have e0 : W1.cell? ⟨w.heap.size, 0, none⟩ = some (.int .i64 0) := by rw [cell_of_row _ _ _ _ _ _ hr1]; rfl
  have e1 : W1.cell? ⟨w.heap.size, 1, none⟩ = some (.int .i64 a) := by rw [cell_of_row _ _ _ _ _ _ hr1]; rfl
  have HW1 := Lib.hid hW1
  have HB1 := Lib.hid hb1
  have H1 := Lib.hid (h.below hb1)
  have HZ1 : Hid (B ≤ W1.heap.size) := Nat.le_trans hB hb1.size
  have HG := Lib.hid hg
  have HL1 : Hid (w.heap.size < W1.heap.size) := (Array.getElem?_eq_some_iff.1 hr1).1
  clear hW1 hb1 hr1 h hg
  by_cases hth : d.there a = 0
  · obtain ⟨ho, k, rfl, hk⟩ := DS.there_0 hth
    have HO := Lib.hid (And.intro ho hk)
    clear ho hk hth
    go_enter Try.func27, Try.ntmps27
    go_wp2_with (refine wpList_box_to rfl 51 _ rfl ?_; change wpList _ _ _ _ _ (w.alloc (.cells #[.int .i64 0, .int .i64 (k : Int), .int .i64 b, .slice ka kn kc] 51)); rw [← HW1.out])
    refine (dRead_ok H1.out HZ1.out k HO.out.2 HO.out.1).mono ?_
    rintro e W2 ⟨g, cap, rfl, hx2, hn2, hf2, hb2⟩
    have e1' := (hb2.cell (p := ⟨w.heap.size, 1, none⟩) HL1.out).trans e1
    have H2 := Lib.hid (H1.out.below hb2)
    have HX2 := Lib.hid hx2
    have HF2 := Lib.hid hf2
    have HB2 : Hid (Below w.heap.size w W2) := HB1.out.trans (hb2.mono HB1.out.size)
    have HZ2 : Hid (B ≤ W2.heap.size) := Nat.le_trans HZ1.out hb2.size
    have HN2 : Hid (w.heap.size ≤ g ∧ g < W2.heap.size) := ⟨Nat.le_trans HB1.out.size hn2.1, hn2.2⟩
    clear hx2 hn2 hf2 hb2 e0 e1
    go_wp2_with fail
    refine (rRead_yes H2.out.two HZ2.out HG.out k HO.out.2 HO.out.1).mono ?_
    rintro e W3 ⟨rfl, hb3⟩
    have HXL : Hid ((blockAt d.now k).length = 512) := by
      obtain ⟨O, R, gn, gf, vb, vs, hd⟩ := H2.out.disk HZ2.out
      exact blockAt_length hd.nlen HO.out.2
    have HX3 := Lib.hid (RowAt.below HX2.out hb3 (Nat.le_refl _))
    have HJ3 := Lib.hid (Junk.of_bytes HX3.out HXL.out.symm (fun j i e => by cases e; rw [hb3.frozen (p := ⟨g, i, none⟩) HN2.out.2]; exact HF2.out i))
    have HB3 : Hid (Below w.heap.size w W3) := HB2.out.trans (hb3.mono HB2.out.size)
    have HN3 : Hid (w.heap.size ≤ g ∧ g < W3.heap.size) := ⟨HN2.out.1, Nat.lt_of_lt_of_le HN2.out.2 hb3.size⟩
    clear hb3 e1'
    generalize blockAt d.now k = x at *
    have HS2 : Hid ((Try.prog.info? 75).map (·.size) = some (u8s x).toArray.size) := by show _ = _; rw [List.size_toArray, u8s_length, HXL.out]; exact sizeA
    have HS3 : Hid (zA.size = (u8s x).toArray.size) := by show zA.size = _; rw [zA_size, List.size_toArray, u8s_length, HXL.out]
    obtain ⟨W4, hW4⟩ : ∃ W4, W4 = W3.alloc (.cells zA 75) := ⟨_, rfl⟩
    have HH4 : Hid (W4.heap[W3.heap.size]? = some (.cells zA 75 (0, 0))) := by show _ = _; rw [hW4]; exact heap_alloc_new W3 _
    have hb4 : Below W3.heap.size W3 W4 := by rw [hW4]; exact (Below.refl _ _).alloc (Nat.le_refl _) _
    have HW4 := Lib.hid hW4
    have HB4 := Lib.hid hb4
    clear hW4 hb4
    obtain ⟨g9, hg9⟩ : ∃ g9, g9 = W3.heap.size := ⟨_, rfl⟩
    have HG9 := Lib.hid hg9
    clear hg9
    go_wp2_with (first | (refine wpList_alloc_row rfl 75 rfl (.agg zA) infoAzz ?_; change wpList _ _ _ _ _ (W3.alloc (.cells zA 75)); rw [← HW4.out, ← HG9.out]) | (refine wpList_store_row_to rfl 75 _ _ rfl g9 (u8s x).toArray rfl rfl 75 _ (HG9.out ▸ HH4.out) HS2.out HS3.out (u8s_arr_one x) ?_; intro W5 hg5 hgr5; have HG5 := Lib.hid hg5; have HGR5 := Lib.hid hgr5; clear hg5 hgr5) | (go_at_call 17; refine (num_any _ _).mono ?_; rintro e w9 ⟨rfl, rfl⟩))
    have hb5 : Below W3.heap.size W3 W5 := HB4.out.grown HGR5.out HB4.out.size (fun j e => by cases e; rw [HG9.out]; exact Nat.le_refl _)
    have hx5 := RowAt.below HX3.out hb5 (Nat.le_refl _)
    have hc5 : Bytes W5 (.slice (some ⟨g9, 0, none⟩) 512 512) x := bytes_block HG5.out HXL.out.symm 512 (Nat.le_refl _)
    have hv1 : ∀ nq, (convert 29 9 (.slice (some ⟨g, 0, none⟩) 512 cap)).run Try.prog (W5.drewN nq) = .ok (.string ⟨x.toArray⟩) (W5.drewN nq) := fun nq => run_string_of (W5.drewN nq) 29 5 Try.underlying29 Try.underlying5 (RowAt.below hx5 (below_drewN (Below.refl _ _) nq) (Nat.le_refl _)) 9 Try.underlying9
    have hv2 : ∀ nq, (convert 29 9 (.slice (some ⟨g9, 0, none⟩) 512 512)).run Try.prog (W5.drewN nq) = .ok (.string ⟨x.toArray⟩) (W5.drewN nq) := fun nq => run_string_of (W5.drewN nq) 29 5 Try.underlying29 Try.underlying5 (RowAt.below hc5 (below_drewN (Below.refl _ _) nq) (Nat.le_refl _)) 9 Try.underlying9
    have HJ5 : Hid (Junk W5 (some ⟨g, 0, none⟩) 512) := HJ3.out.kept (fun j e hj => by cases e; exact hb5.block _ hj)
    have HB5 : Hid (Below w.heap.size w W5) := HB3.out.trans (hb5.mono HB3.out.size)
    clear hb5 hx5 hc5
    go_wp2_with fail
    go_quiet (fail)
    have HJ6 : Hid (Junk (W5.drewN nq) (some ⟨g, 0, none⟩) 512) := HJ5.out.kept (fun _ _ _ => rfl)
    have HB6 : Hid (Below w.heap.size w (W5.drewN nq)) := below_drewN HB5.out _
    generalize W5.drewN nq = W6 at *
    clear hv1 hv2
    go_wp2_with fail
    go_loopw [12] (fun i wq => ∃ j : Nat, j ≤ 512 ∧ i = .int .i64 j ∧ Junk wq (some ⟨g, 0, none⟩) 512 ∧ Below w.heap.size w wq) (fun i _ => 512 - (intOf i).toNat)
    case atStart => exact ⟨0, by omega, rfl, HJ6.out, HB6.out⟩
    case round =>
      obtain ⟨j, hj, rfl, hJ, hb⟩ := hrel
      have j0 : (0 : Int) ≤ (j : Int) := by omega
      by_cases hlt : j < 512
      · have j1 : (j : Int) < 512 := by omega
        have HJ := Lib.hid hJ
        have HB := Lib.hid hb
        rcases hJ with h0 | ⟨g2, off2, he, hJ⟩
        · cases h0
        cases he
        obtain ⟨⟨y, hy⟩, hf⟩ := hJ j hlt
        rw [Nat.zero_add] at hy hf
        clear hJ hb
        go_wp2_with fail
        go_roundw
        case rel => exact ⟨j + 1, by omega, by go_num, HJ.out.set _ _, HB.out.setCell HN3.out.1 _⟩
        case measure => simp [intOf]; omega
      · obtain rfl : j = 512 := by omega
        go_wp2_with fail
        go_ret
        exact ⟨rfl, hb⟩
  · have HTH := Lib.hid hth
    have hcases := DS.there_ne hth
    have hE : d.there a = 11 ∨ d.there a = 10 := hcases.imp (·.2) (·.2.1)
    clear hcases hth
    have HR := Lib.hid (dRead_bad H1.out HZ1.out a HTH.out)
    have HR2 := Lib.hid (rRead_bad H1.out.two HZ1.out a HTH.out)
    obtain ⟨W4, hW4⟩ : ∃ W4 : World → World, W4 = fun W => W.alloc (.cells zA 75) := ⟨_, rfl⟩
    generalize d.there a = E at *
    have HE := Lib.hid hE
    clear hW4 W4
    have hE' := HE.out
    clear hE
    rcases hE' with rfl | rfl
    all_goals
      go_enter Try.func27, Try.ntmps27
      go_wp2_with (refine wpList_box_to rfl 51 _ rfl ?_; change wpList _ _ _ _ _ (w.alloc (.cells #[.int .i64 0, .int .i64 a, .int .i64 b, .slice ka kn kc] 51)); rw [← HW1.out])
      refine (HR.out).mono ?_
      rintro e W2 ⟨rfl, rfl⟩
      go_wp2_with fail
      refine (HR2.out).mono ?_
      rintro e W3 ⟨rfl, hb3⟩
      obtain ⟨W4, hW4⟩ : ∃ W4, W4 = W3.alloc (.cells zA 75) := ⟨_, rfl⟩
      have HH4 : Hid (W4.heap[W3.heap.size]? = some (.cells zA 75 (0, 0))) := by show _ = _; rw [hW4]; exact heap_alloc_new W3 _
      have hb4 : Below W3.heap.size W3 W4 := by rw [hW4]; exact (Below.refl _ _).alloc (Nat.le_refl _) _
      have HW4 := Lib.hid hW4
      have HB4 := Lib.hid hb4
      have HB3 : Hid (Below w.heap.size w W3) := HB1.out.trans (hb3.mono HB1.out.size)
      clear hW4 hb4 hb3
      obtain ⟨g9, hg9⟩ : ∃ g9, g9 = W3.heap.size := ⟨_, rfl⟩
      have HG9 := Lib.hid hg9
      clear hg9
      go_wp2_with (first | (refine wpList_alloc_row rfl 75 rfl (.agg zA) infoAzz ?_; change wpList _ _ _ _ _ (W3.alloc (.cells zA 75)); rw [← HW4.out, ← HG9.out]) | (refine wpList_store_row_to rfl 75 _ _ rfl g9 zA rfl rfl 75 _ (HG9.out ▸ HH4.out) sizeAz rfl zA_one ?_; intro W5 hg5 hgr5; have HG5 := Lib.hid hg5; have HGR5 := Lib.hid hgr5; clear hg5 hgr5) | (go_at_call 17; refine (num_any _ _).mono ?_; rintro e w9 ⟨rfl, rfl⟩))
      go_ret
      exact ⟨rfl, HB3.out.trans ((HB4.out.grown HGR5.out HB4.out.size (fun j e => by cases e; rw [HG9.out]; exact Nat.le_refl _)).mono HB3.out.size)⟩

set_option maxHeartbeats 1000000 in
set_option maxRecDepth 100000 in
theorem call2 (h : DisksX w B X ((false, p, d) :: (true, q, d) :: l)) (hB : B ≤ w.heap.size) (hg : d.Good) (a b : Int) (ka : Option Addr) (kn kc : Nat) :
    Calls Try.prog 27 #[.pointer (some ⟨p, 0, none⟩), .pointer (some ⟨q, 0, none⟩), .agg #[.int .i64 2, .int .i64 a, .int .i64 b, .slice ka kn kc]] w fun e w' => e = .returned (.bool true) ∧ DisksX w' B X ((false, p, d.fl) :: (true, q, d.fl) :: l) ∧ Keeps (fun j => B ≤ j ∧ ¬ X j) w w' := by
  obtain ⟨W1, hW1⟩ : ∃ W1, W1 = w.alloc (.cells #[.int .i64 2, .int .i64 a, .int .i64 b, .slice ka kn kc] 51) := ⟨_, rfl⟩
  have hb1 : Below w.heap.size w W1 := by rw [hW1]; exact (Below.refl _ _).alloc (Nat.le_refl _) _
  have hr1 : W1.heap[w.heap.size]? = some (.cells #[.int .i64 2, .int .i64 a, .int .i64 b, .slice ka kn kc] 51 (0, 0)) := by rw [hW1]; exact heap_alloc_new w _
  have e0 : W1.cell? ⟨w.heap.size, 0, none⟩ = some (.int .i64 2) := by rw [cell_of_row _ _ _ _ _ _ hr1]; rfl
  have HW1 := Lib.hid hW1
  have HB1 : Hid (Keeps (fun j => B ≤ j ∧ ¬ X j) w W1) := Keeps.of_below hb1
  have H1 := Lib.hid (h.below hb1)
  have HZ1 : Hid (B ≤ W1.heap.size) := Nat.le_trans hB hb1.size
  have HG := Lib.hid hg
  clear hW1 hb1 hr1 h hg
  go_enter Try.func27, Try.ntmps27
  go_wp2_with (refine wpList_box_to rfl 51 _ rfl ?_; change wpList _ _ _ _ _ (w.alloc (.cells #[.int .i64 2, .int .i64 a, .int .i64 b, .slice ka kn kc] 51)); rw [← HW1.out])
  refine (dFlush H1.out HZ1.out HG.out).mono ?_
  rintro e W2 ⟨rfl, h2, hb2⟩
  have H2 := Lib.hid h2.two
  have HB2 : Hid (Keeps (fun j => B ≤ j ∧ ¬ X j) w W2) := HB1.out.trans' hb2
  have HZ2 : Hid (B ≤ W2.heap.size) := Nat.le_trans HZ1.out hb2.size
  clear h2 hb2 e0
  go_wp2_with fail
  refine (num_any _ _).mono ?_
  rintro e W3 ⟨rfl, rfl⟩
  go_wp2_with fail
  refine (rFlush H2.out HZ2.out HG.out).mono ?_
  rintro e W4 ⟨rfl, h4, hb4⟩
  have H4 := Lib.hid h4.two
  have HB4 : Hid (Keeps (fun j => B ≤ j ∧ ¬ X j) w W4) := HB2.out.trans' hb4
  clear h4 hb4
  generalize d.flE = E at *
  go_wp2_with fail
  go_ret
  exact ⟨by simp, H4.out, HB4.out⟩
end Go.Proofs.Ythdefaodioapbaa
