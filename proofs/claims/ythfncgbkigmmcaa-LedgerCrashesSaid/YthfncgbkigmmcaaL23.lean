/- alive. -/
import Derived.Test.YthfncgbkigmmcaaL22
namespace Go.Proofs.Ythfncgbkigmmcaa
open Go.RowKit

variable {w w' w1 wr : World} {B lp p n : Nat} {d D : DS} {dead : Bool} {c : Nat → Bs}
/-- one put, made here -/
theorem puts_one {lo g a g0 cap : Nat} {x : Bs} (h0 : lo ≤ g) (h1 : w.cell? ⟨g, 0, none⟩ = some (.int .i64 (a : Int))) (h2 : w.cell? ⟨g, 1, none⟩ = some (.slice (some ⟨g0, 0, none⟩) 512 cap)) (h3 : lo ≤ g0) (hx : Bytes w (.slice (some ⟨g0, 0, none⟩) 512 cap) x) :
    PutsF w (fun j => j < lo) (.slice (some ⟨g, 0, none⟩) 1 1) [(a, x)] := by
  refine ⟨_, 1, rfl, fun k hk => ?_⟩
  obtain rfl : k = 0 := by simpa using hk
  exact ⟨g, 0, g0, 0, cap, rfl, by show ¬ g < lo; omega, h1, h2, by show ¬ g0 < lo; omega, hx⟩
theorem putOk_one {n a : Nat} {x : Bs} (h : a + 96 < n) (hx : x.length = 512) : PutOk n [(a, x)] := ⟨by simp, by simp, by simp, fun y hy => by rw [List.mem_singleton] at hy; subst hy; exact ⟨h, hx⟩⟩
theorem putC_one (c : Nat → Bs) (a : Nat) (x : Bs) : putC c [(a, x)] a = x := by simp [putC, lastW]
theorem commit_one {w3 : World} (h : QL w B lp p n c) (hb : Below w.heap.size w w3) (hB : B ≤ w.heap.size) (g0 cap a : Nat) (x : Bs) (h3 : w.heap.size ≤ g0) (hx : Bytes w3 (.slice (some ⟨g0, 0, none⟩) 512 cap) x) (hxl : x.length = 512) (ha : a + 96 < n) :
    Calls Try.prog 15 #[.pointer (some ⟨lp, 0, none⟩), .slice (some ⟨w3.heap.size, 0, none⟩) 1 1] (w3.alloc (.cells #[.int .i64 a, .slice (some ⟨g0, 0, none⟩) 512 cap] 26 (0, 0))) fun e w2 => e = .returned (.int .i64 0) ∧ QL w2 B lp p n (putC c [(a, x)]) ∧ Below B w3 w2 := by
  have hal : Below w3.heap.size w3 (w3.alloc (.cells #[.int .i64 a, .slice (some ⟨g0, 0, none⟩) 512 cap] 26 (0, 0))) := (Below.refl _ _).alloc (Nat.le_refl _) _
  have hs := heap_alloc_new w3 (.cells #[.int .i64 a, .slice (some ⟨g0, 0, none⟩) 512 cap] 26 (0, 0))
  refine (commit_quiet h (hb.trans (hal.mono hb.size)) hB [(a, x)] _ (puts_one (g := w3.heap.size) (g0 := g0) (cap := cap) hb.size ?_ ?_ h3 (RowAt.below hx hal (Nat.le_refl _))) (putOk_one ha hxl)).mono ?_
  · rw [cell_of_row _ _ _ _ _ _ hs]; rfl
  · rw [cell_of_row _ _ _ _ _ _ hs]; rfl
  · rintro e w2 ⟨q1, q2, q3⟩
    exact ⟨q1, q2, (hal.mono (Nat.le_trans hB hb.size)).trans q3⟩
set_option maxHeartbeats 1600000 in
theorem alive_any (w : World) : Calls Try.prog 13 #[] w fun e w' => e = .returned (.bool true) ∧ Below w.heap.size w w' := by
  have H0 := Lib.hid (fresh_in 4 w (by omega) (by omega))
  go_enter Try.func13, Try.ntmps13
  go_wp2_with fail
  refine (H0.out).mono ?_
  rintro e w1 ⟨p, lp, rfl, hq1, hb1⟩
  have HQ1 := Lib.hid hq1
  have HB1 := Lib.hid hb1
  have hbl := lblocks_quiet hq1
  have HBL := Lib.hid hbl
  clear hq1 hb1 H0 hbl
  go_wp2_with fail
  refine (HBL.out).mono ?_
  rintro e w2 ⟨rfl, rfl⟩
  go_wp2_with fail
  refine (block_any 5 _).mono ?_
  rintro e w3 ⟨rfl, hx3, hb3⟩
  have HC := Lib.hid (commit_one HQ1.out hb3 HB1.out.size w2.heap.size 512 1 (blk 5) (Nat.le_refl _) hx3 (blk_length 5) (by omega))
  have HB3 := Lib.hid (HB1.out.trans (hb3.mono HB1.out.size))
  clear hx3 hb3
  go_wp2_with fail
  refine (HC.out).mono ?_
  rintro e w4 ⟨rfl, hq4, hb4⟩
  have HRD := Lib.hid (read_quiet hq4 1 (by omega))
  rw [putC_one] at HRD
  have HB4 := Lib.hid (HB3.out.trans hb4)
  clear hq4 hb4 HC HB3
  go_wp2_with fail
  refine (HRD.out).mono ?_
  rintro e w5 ⟨g, cap, rfl, hx5, hg5, hb5⟩
  have HX5 := Lib.hid hx5
  have HB5 := Lib.hid (HB4.out.trans (hb5.mono HB4.out.size))
  clear hx5 hb5 HRD HB4 HB1 HQ1 HBL hg5
  go_wp2_with fail
  have hcv : ∀ W, Below w5.heap.size w5 W → (convert 24 9 (.slice (some ⟨g, 0, none⟩) 512 cap)).run Try.prog W = .ok (.string ⟨(blk 5).toArray⟩) W := fun W hW => run_string_of W 24 5 Try.underlying24 Try.underlying5 (RowAt.below HX5.out hW (Nat.le_refl _)) 9 Try.underlying9
  have HS0 : Hid (Below w5.heap.size w5 w5.drew) := (Below.refl _ _).drew
  refine wp_region_noPanic ?_
  refine wp_region_ordL 15 [12, 15] [0, 1, 2, 3, 4, 5, 6, 7, 8, 9, 10, 11, 12, 13, 14, 15] (fun W => Below w5.heap.size w5 W) (by kernel_rfl) (by kernel_rfl) rfl (by kernel_rfl) (fun _ _ _ _ _ h => h) HS0.out ?_
  repeat (apply heldL_run rfl (by rfl) (by rfl); (intro w hSw; go_simp; with_reducible rfl); (try simp only [Act.put, List.setIfInBounds_toArray, List.set_cons_zero, List.set_cons_succ]))
  refine heldL_step rfl (by rfl) (by rfl) (fun K hK => ?_)
  go_simp
  refine (num_any _ _).mono ?_
  rintro e w6 ⟨rfl, rfl⟩
  refine hK.out _ _ (.inr HS0.out) ?_
  clear hK K
  (try simp only [Act.put, List.setIfInBounds_toArray, List.set_cons_zero, List.set_cons_succ])
  repeat (apply heldL_run rfl (by rfl) (by rfl); (intro w hSw; go_simp; with_reducible rfl); (try simp only [Act.put, List.setIfInBounds_toArray, List.set_cons_zero, List.set_cons_succ]))
  refine heldL_step rfl (by rfl) (by rfl) (fun K hK => ?_)
  go_simp
  refine (num_any _ _).mono ?_
  rintro e w6 ⟨rfl, rfl⟩
  refine hK.out _ _ (.inr HS0.out) ?_
  clear hK K
  (try simp only [Act.put, List.setIfInBounds_toArray, List.set_cons_zero, List.set_cons_succ])
  repeat (apply heldL_run rfl (by rfl) (by rfl); (intro w hSw; go_simp; with_reducible rfl); (try simp only [Act.put, List.setIfInBounds_toArray, List.set_cons_zero, List.set_cons_succ]))
  refine heldL_step rfl (by rfl) (by rfl) (fun K hK => ?_)
  go_simp
  refine (block_any 5 _).mono ?_
  rintro e w6 ⟨rfl, hx6, hb6⟩
  have HS6 : Hid (Below w5.heap.size w5 w6) := HS0.out.trans hb6
  have hc6 := run_string_of w6 24 5 Try.underlying24 Try.underlying5 hx6 9 Try.underlying9
  clear hx6 hb6
  generalize w5.drew.heap.size = q at *
  refine hK.out _ _ (.inr HS6.out) ?_
  clear hK K
  (try simp only [Act.put, List.setIfInBounds_toArray, List.set_cons_zero, List.set_cons_succ])
  repeat (apply heldL_run rfl (by rfl) (by rfl); (intro w hSw; go_simp; with_reducible rfl); (try simp only [Act.put, List.setIfInBounds_toArray, List.set_cons_zero, List.set_cons_succ]))
  refine heldL_step rfl (by rfl) (by rfl) (fun K hK => ?_)
  go_simp
  refine hK.out _ _ (.inr HS6.out) ?_
  clear hK K
  (try simp only [Act.put, List.setIfInBounds_toArray, List.set_cons_zero, List.set_cons_succ])
  repeat (apply heldL_run rfl (by rfl) (by rfl); (intro w hSw; go_simp; with_reducible rfl); (try simp only [Act.put, List.setIfInBounds_toArray, List.set_cons_zero, List.set_cons_succ]))
  refine heldL_step rfl (by rfl) (by rfl) (fun K hK => ?_)
  go_simp
  refine hK.out _ _ (.inl rfl) ?_
  clear hK K
  (try simp only [Act.put, List.setIfInBounds_toArray, List.set_cons_zero, List.set_cons_succ])
  refine heldL_nil (NoPanic.normal ?_)
  go_wp2
  go_ret
  exact ⟨rfl, HB5.out.trans (HS6.out.mono HB5.out.size)⟩
end Go.Proofs.Ythfncgbkigmmcaa
