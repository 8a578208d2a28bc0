/- puts. -/
import Derived.Test.YthfncgbkigmmcaaL28
namespace Go.Proofs.Ythfncgbkigmmcaa
open Go.RowKit

variable {w w' w1 wr : World} {B lp p n : Nat} {d D : DS} {dead : Bool} {c : Nat → Bs}
def opN (dn : Nat) (ds : Nat → Int) (i : Nat) : Int := if i < dn then ds i else 0
def opPs (fs : Nat → Int) (dn : Nat) (ds : Nat → Int) (m : Nat) : List (Nat × Bs) := (List.range m).map fun i => ((fs i).toNat, blk (opN dn ds i))
theorem opPs_snoc (fs : Nat → Int) (dn : Nat) (ds : Nat → Int) (m : Nat) : opPs fs dn ds (m + 1) = opPs fs dn ds m ++ [((fs m).toNat, blk (opN dn ds m))] := by
  unfold opPs
  rw [List.range_succ, List.map_append]
  rfl
theorem opPs_length (fs : Nat → Int) (dn : Nat) (ds : Nat → Int) (m : Nat) : (opPs fs dn ds m).length = m := by simp [opPs]
theorem opPs_ok {n an : Nat} {fs : Nat → Int} (h : GoodAts n an fs) (dn : Nat) (ds : Nat → Int) : PutOk (96 + n) (opPs fs dn ds an) := by
  obtain ⟨h1, h2, h3, h4⟩ := h
  refine ⟨by rw [opPs_length]; exact h1, by rw [opPs_length]; exact h2, ?_, fun x hx => ?_⟩
  · have : (opPs fs dn ds an).map (·.1) = (List.range an).map fun i => (fs i).toNat := by simp [opPs, Function.comp_def]
    rw [this, List.Nodup, List.pairwise_map]
    refine List.Pairwise.imp_of_mem (R := fun a b => a < b) ?_ List.pairwise_lt_range
    intro a b ha hb hab e
    rw [List.mem_range] at ha hb
    have q1 := h3 a ha
    have q2 := h3 b hb
    exact h4 b a hab hb (by omega)
  · obtain ⟨i, hi, rfl⟩ := List.mem_map.1 hx
    rw [List.mem_range] at hi
    have := h3 i hi
    exact ⟨by show (fs i).toNat + 96 < _; omega, blk_length _⟩
set_option maxRecDepth 8000 in
set_option maxHeartbeats 1600000 in
theorem puts_any (x1 x2 : Int) (aa : Option Addr) (an ac : Nat) (fs : Nat → Int) (da : Option Addr) (dn dc : Nat) (ds : Nat → Int) (v5 : Value) (w : World) (ha : IntsB w aa an fs) (hd : IntsB w da dn ds) (hgood : ∀ i, i < an → 0 ≤ fs i ∧ fs i < 4096) (han : an ≤ 40) :
    Calls Try.prog 30 #[.agg #[.int .i64 x1, .int .i64 x2, .slice aa an ac, .slice da dn dc, v5]] w fun e w' => ∃ v, e = .returned v ∧ PutsF w' (fun j => j < w.heap.size) v (opPs fs dn ds an) ∧ Below w.heap.size w w' := by
  obtain ⟨X, hX⟩ : ∃ X, X = Obj.cells #[.int .i64 x1, .int .i64 x2, .slice aa an ac, .slice da dn dc, v5] 52 (0, 0) := ⟨_, rfl⟩
  have HBX : Hid (Below w.heap.size w (w.alloc X)) := (Below.refl _ w).alloc (Nat.le_refl _) X
  have HX := Lib.hid hX
  have HXC0 : (w.alloc X).cell? ⟨w.heap.size, 2, none⟩ = some (.slice aa an ac) := by
    rw [cell_of_row _ _ _ _ _ _ (by rw [heap_alloc_new, hX])]
    rfl
  have HXD0 : (w.alloc X).cell? ⟨w.heap.size, 3, none⟩ = some (.slice da dn dc) := by
    rw [cell_of_row _ _ _ _ _ _ (by rw [heap_alloc_new, hX])]
    rfl
  have HXC : Hid (∀ W, Below (w.alloc X).heap.size (w.alloc X) W → W.cell? ⟨w.heap.size, 2, none⟩ = some (.slice aa an ac)) := fun W hW => (hW.cell (p := ⟨w.heap.size, 2, none⟩) (World.block_lt_of_cell? _ _ HXC0)).trans HXC0
  have HXD : Hid (∀ W, Below (w.alloc X).heap.size (w.alloc X) W → W.cell? ⟨w.heap.size, 3, none⟩ = some (.slice da dn dc)) := fun W hW => (hW.cell (p := ⟨w.heap.size, 3, none⟩) (World.block_lt_of_cell? _ _ HXD0)).trans HXD0
  have HZZ : Hid (w.heap.size ≤ (w.alloc X).heap.size) := HBX.out.size
  have HA : Hid (IntsB (w.alloc X) aa an fs) := ha.below HBX.out
  have HD : Hid (IntsB (w.alloc X) da dn ds) := hd.below HBX.out
  have HGG := Lib.hid hgood
  have HAN := Lib.hid han
  obtain ⟨i0, hi, hz0, hz1, hz2⟩ := info_parts infoPut
  have HI := Lib.hid (And.intro hi (And.intro hz0 (And.intro hz1 hz2)))
  clear hi hz0 hz1 hz2
  clear HXC0 HXD0 ha hd hgood han
  go_enter Try.func30, Try.ntmps30
  go_wp2_with fail
  rw [← hX]
  clear hX HX
  generalize w.alloc X = W1 at *
  go_loopw [3, 4] (fun v i wr => ∃ k : Nat, i = .int .i64 k ∧ k ≤ an ∧ PutsB wr W1.heap.size v (opPs fs dn ds k) ∧ Below W1.heap.size W1 wr) (fun _ i _ => an - (intOf i).toNat)
  case atStart => exact ⟨0, rfl, Nat.zero_le _, PutsB.nil _ _, Below.refl _ _⟩
  case round =>
    obtain ⟨k, rfl, hk, hpb, hb⟩ := hrel
    have k0 : (0 : Int) ≤ (k : Int) := by omega
    have HPB := Lib.hid hpb
    have HBJ := Lib.hid hb
    clear hpb hb
    by_cases hlt : k < an
    · have k1 : (k : Int) < (an : Int) := by omega
      have a40 : (an : Int) ≤ 40 := by have := HAN.out; omega
      obtain ⟨gs, hg1, hown, hg3⟩ := HPB.out
      rw [opPs_length] at hg1 hown
      obtain ⟨va, vc, rfl⟩ := row_len hown
      have HOWN := Lib.hid hown
      have HG := Lib.hid (And.intro hg1 hg3)
      clear hown hg1 hg3
      obtain ⟨g, off, hg, hcell⟩ : ∃ g off, aa = some ⟨g, off, none⟩ ∧ ∀ i, i < an → W1.cell? ⟨g, off + i, none⟩ = some (.int .i64 (fs i)) := HA.out.elim (fun e => by omega) id
      obtain ⟨m, hm⟩ := Int.eq_ofNat_of_zero_le (HGG.out k hlt).1
      have HCL : Hid (∀ W, Below W1.heap.size W1 W → Below W1.heap.size W1 W ∧ W.cell? ⟨w.heap.size, 2, none⟩ = some (.slice (some ⟨g, off, none⟩) an ac) ∧ W.cell? ⟨g, off + k, none⟩ = some (.int .i64 (m : Int))) := fun W hW => ⟨hW, by rw [← hg]; exact HXC.out W hW, by rw [← hm]; exact (hW.cell (p := ⟨g, off + k, none⟩) (World.block_lt_of_cell? _ _ (hcell k hlt))).trans (hcell k hlt)⟩
      have HM := Lib.hid hm
      have HWD : Hid (Below W1.heap.size W1 wr.drew) := HBJ.out.trans ((Below.refl _ _).drew.mono HBJ.out.size)
      have hxc := HXC.out _ HBJ.out
      have hxd := HXD.out _ HBJ.out
      subst hg
      clear hm hcell
      by_cases hdk : k < dn
      · have d1 : (k : Int) < (dn : Int) := by omega
        obtain ⟨g9, off9, hg9, hcell9⟩ : ∃ g off, da = some ⟨g, off, none⟩ ∧ ∀ i, i < dn → W1.cell? ⟨g, off + i, none⟩ = some (.int .i64 (ds i)) := HD.out.elim (fun e => by omega) id
        have hc9 := (HBJ.out.cell (p := ⟨g9, off9 + k, none⟩) (World.block_lt_of_cell? _ _ (hcell9 k hdk))).trans (hcell9 k hdk)
        subst hg9
        have HOP : Hid (opN dn ds k = ds k) := if_pos hdk
        clear hcell9 hdk
        go_wp2_with fail
        refine wp_region_noPanic ?_
        refine wp_region_ordL 11 [11] [0, 1, 2, 3, 4, 5, 6, 7, 8, 9, 10, 11] (fun W => Below W1.heap.size W1 W ∧ W.cell? ⟨w.heap.size, 2, none⟩ = some (.slice (some ⟨g, off, none⟩) an ac) ∧ W.cell? ⟨g, off + k, none⟩ = some (.int .i64 (m : Int))) (by kernel_rfl) (by kernel_rfl) rfl (by kernel_rfl) (fun _ _ _ _ _ h => h) (HCL.out _ HWD.out) ?_
        repeat (apply heldL_run rfl (by rfl) (by rfl); (intro w hSw; go_simp; with_reducible rfl); (try simp only [Act.put, List.setIfInBounds_toArray, List.set_cons_zero, List.set_cons_succ]))
        refine heldL_step rfl (by rfl) (by rfl) (fun K hK => ?_)
        go_simp
        refine (block_any (ds k) _).mono ?_
        rintro e w3 ⟨rfl, hx3, hb3⟩
        have HS3 : Hid (Below W1.heap.size W1 w3) := HWD.out.trans (hb3.mono HWD.out.size)
        have HX3 := Lib.hid hx3
        have HB3 : Hid (Below wr.heap.size wr w3) := (Below.refl _ wr).drew.trans hb3
        clear hx3 hb3
        refine hK.out _ _ (.inr (HCL.out _ HS3.out)) ?_
        clear hK K
        (try simp only [Act.put, List.setIfInBounds_toArray, List.set_cons_zero, List.set_cons_succ])
        repeat (apply heldL_run rfl (by rfl) (by rfl); (intro w hSw; go_simp; with_reducible rfl); (try simp only [Act.put, List.setIfInBounds_toArray, List.set_cons_zero, List.set_cons_succ]))
        refine heldL_step rfl (by rfl) (by rfl) (fun K hK => ?_)
        go_simp
        obtain ⟨Y, hY⟩ : ∃ Y, Y = Obj.cells #[.int .i64 (m : Int), .slice (some ⟨wr.heap.size, 0, none⟩) 512 512] 26 (0, 0) := ⟨_, rfl⟩
        have HAL : Hid (Below wr.heap.size wr (w3.alloc Y)) := HB3.out.trans (((Below.refl _ _).alloc (Nat.le_refl _) Y).mono HB3.out.size)
        have HS4 : Hid (Below W1.heap.size W1 (w3.alloc Y)) := HS3.out.trans (((Below.refl _ _).alloc (Nat.le_refl _) Y).mono HS3.out.size)
        have HNEWS : Hid (∀ i u, [Value.int .i64 (m : Int), .slice (some ⟨wr.heap.size, 0, none⟩) 512 512][i]? = some u → (w3.alloc Y).cell? ((⟨w3.heap.size, 0, none⟩ : Addr).add i) = some u) := fun i u hi => by
          rw [addr_add, cell_of_row (w3.alloc Y) w3.heap.size _ _ _ _ (by rw [heap_alloc_new, hY]), Nat.zero_add]
          simpa using hi
        have HX4 : Hid (Bytes (w3.alloc Y) (.slice (some ⟨wr.heap.size, 0, none⟩) 512 512) (blk (opN dn ds k))) := by
          show Bytes _ _ _
          rw [HOP.out]
          exact RowAt.below HX3.out ((Below.refl _ _).alloc (Nat.le_refl _) Y) (Nat.le_refl _)
        have HOWX : Hid ((w3.alloc Y).ownsRow W1.heap.size 26 2 (.slice va k vc) k (putV (opPs fs dn ds k) gs)) := owns_below HOWN.out HAL.out
        have HBB : Hid (W1.heap.size ≤ (w3.alloc Y).heap.size) := HS4.out.size
        have hwz : (w3.alloc Y).heap.size = w3.heap.size + 1 := by simp
        have HWZ := Lib.hid hwz
        rw [← hY]
        clear hwz hY
        generalize w3.alloc Y = w4 at *
        refine hK.out _ _ (.inr (HCL.out _ HS4.out)) ?_
        clear hK K
        (try simp only [Act.put, List.setIfInBounds_toArray, List.set_cons_zero, List.set_cons_succ])
        refine heldL_step rfl (by rfl) (by rfl) (fun K hK => ?_)
        refine op_append (.tmp 23) (.tmp 32) 22 rfl W1.heap.size 26 i0 (.agg #[.int .i64 0, .slice none 0 0]) 2 32 Try.underlying22 HI.out.1 HI.out.2.1 HI.out.2.2.1 HI.out.2.2.2 rfl (by decide) (.slice va k vc) k _ rfl HOWX.out ⟨w3.heap.size, 0, none⟩ 1 1 [.int .i64 (m : Int), .slice (some ⟨wr.heap.size, 0, none⟩) 512 512] rfl rfl HNEWS.out (by simp [Value.oneCell']) (by have := HAN.out; unfold maxLen; omega) (by have := HAN.out; omega) HBB.out ?_
        intro v2 w5 hown2 hgrow2 hat
        have HPB5 : Hid (PutsB w5 W1.heap.size v2 (opPs fs dn ds (k + 1))) := by
          show PutsB _ _ _ _
          rw [opPs_snoc, show (fs k).toNat = m by have := HM.out; omega]
          refine PutsB.add (gs := gs) (w := wr) (w1 := w4) (g0 := wr.heap.size) (by rw [opPs_length]; exact HG.out.1) HG.out.2 (fun y hy => ?_) (fun i e => (HOWN.out.lt i e).2) HAL.out HBJ.out.size (Nat.le_refl _) HX4.out (blk_length _) ?_ hgrow2 hat
          · obtain ⟨i, _, rfl⟩ := List.mem_map.1 hy
            exact blk_length _
          · rw [opPs_length]
            exact hown2
        have HS5 : Hid (Below W1.heap.size W1 w5) := HS4.out.grown hgrow2 HS4.out.size (fun i e => (HOWN.out.lt i e).1)
        clear hown2 hgrow2 hat
        refine hK.out _ _ (.inr (HCL.out _ HS5.out)) ?_
        clear hK K
        (try simp only [Act.put, List.setIfInBounds_toArray, List.set_cons_zero, List.set_cons_succ])
        repeat (apply heldL_run rfl (by rfl) (by rfl); (intro w hSw; go_simp; with_reducible rfl); (try simp only [Act.put, List.setIfInBounds_toArray, List.set_cons_zero, List.set_cons_succ]))
        refine heldL_step rfl (by rfl) (by rfl) (fun K hK => ?_)
        go_simp
        refine hK.out _ _ (.inl rfl) ?_
        clear hK K
        (try simp only [Act.put, List.setIfInBounds_toArray, List.set_cons_zero, List.set_cons_succ])
        refine heldL_nil (NoPanic.normal ?_)
        go_wp2_with fail
        go_roundw
        case rel => exact ⟨k + 1, by go_num, by omega, HPB5.out, HS5.out⟩
        case measure => simp [intOf]; omega
      · have d1 : ¬ (k : Int) < (dn : Int) := by omega
        have HOP : Hid (opN dn ds k = 0) := if_neg hdk
        clear hdk
        go_wp2_with fail
        refine wp_region_noPanic ?_
        refine wp_region_ordL 11 [11] [0, 1, 2, 3, 4, 5, 6, 7, 8, 9, 10, 11] (fun W => Below W1.heap.size W1 W ∧ W.cell? ⟨w.heap.size, 2, none⟩ = some (.slice (some ⟨g, off, none⟩) an ac) ∧ W.cell? ⟨g, off + k, none⟩ = some (.int .i64 (m : Int))) (by kernel_rfl) (by kernel_rfl) rfl (by kernel_rfl) (fun _ _ _ _ _ h => h) (HCL.out _ HWD.out) ?_
        repeat (apply heldL_run rfl (by rfl) (by rfl); (intro w hSw; go_simp; with_reducible rfl); (try simp only [Act.put, List.setIfInBounds_toArray, List.set_cons_zero, List.set_cons_succ]))
        refine heldL_step rfl (by rfl) (by rfl) (fun K hK => ?_)
        go_simp
        refine (block_any (0) _).mono ?_
        rintro e w3 ⟨rfl, hx3, hb3⟩
        have HS3 : Hid (Below W1.heap.size W1 w3) := HWD.out.trans (hb3.mono HWD.out.size)
        have HX3 := Lib.hid hx3
        have HB3 : Hid (Below wr.heap.size wr w3) := (Below.refl _ wr).drew.trans hb3
        clear hx3 hb3
        refine hK.out _ _ (.inr (HCL.out _ HS3.out)) ?_
        clear hK K
        (try simp only [Act.put, List.setIfInBounds_toArray, List.set_cons_zero, List.set_cons_succ])
        repeat (apply heldL_run rfl (by rfl) (by rfl); (intro w hSw; go_simp; with_reducible rfl); (try simp only [Act.put, List.setIfInBounds_toArray, List.set_cons_zero, List.set_cons_succ]))
        refine heldL_step rfl (by rfl) (by rfl) (fun K hK => ?_)
        go_simp
        obtain ⟨Y, hY⟩ : ∃ Y, Y = Obj.cells #[.int .i64 (m : Int), .slice (some ⟨wr.heap.size, 0, none⟩) 512 512] 26 (0, 0) := ⟨_, rfl⟩
        have HAL : Hid (Below wr.heap.size wr (w3.alloc Y)) := HB3.out.trans (((Below.refl _ _).alloc (Nat.le_refl _) Y).mono HB3.out.size)
        have HS4 : Hid (Below W1.heap.size W1 (w3.alloc Y)) := HS3.out.trans (((Below.refl _ _).alloc (Nat.le_refl _) Y).mono HS3.out.size)
        have HNEWS : Hid (∀ i u, [Value.int .i64 (m : Int), .slice (some ⟨wr.heap.size, 0, none⟩) 512 512][i]? = some u → (w3.alloc Y).cell? ((⟨w3.heap.size, 0, none⟩ : Addr).add i) = some u) := fun i u hi => by
          rw [addr_add, cell_of_row (w3.alloc Y) w3.heap.size _ _ _ _ (by rw [heap_alloc_new, hY]), Nat.zero_add]
          simpa using hi
        have HX4 : Hid (Bytes (w3.alloc Y) (.slice (some ⟨wr.heap.size, 0, none⟩) 512 512) (blk (opN dn ds k))) := by
          show Bytes _ _ _
          rw [HOP.out]
          exact RowAt.below HX3.out ((Below.refl _ _).alloc (Nat.le_refl _) Y) (Nat.le_refl _)
        have HOWX : Hid ((w3.alloc Y).ownsRow W1.heap.size 26 2 (.slice va k vc) k (putV (opPs fs dn ds k) gs)) := owns_below HOWN.out HAL.out
        have HBB : Hid (W1.heap.size ≤ (w3.alloc Y).heap.size) := HS4.out.size
        have hwz : (w3.alloc Y).heap.size = w3.heap.size + 1 := by simp
        have HWZ := Lib.hid hwz
        rw [← hY]
        clear hwz hY
        generalize w3.alloc Y = w4 at *
        refine hK.out _ _ (.inr (HCL.out _ HS4.out)) ?_
        clear hK K
        (try simp only [Act.put, List.setIfInBounds_toArray, List.set_cons_zero, List.set_cons_succ])
        refine heldL_step rfl (by rfl) (by rfl) (fun K hK => ?_)
        refine op_append (.tmp 23) (.tmp 32) 22 rfl W1.heap.size 26 i0 (.agg #[.int .i64 0, .slice none 0 0]) 2 32 Try.underlying22 HI.out.1 HI.out.2.1 HI.out.2.2.1 HI.out.2.2.2 rfl (by decide) (.slice va k vc) k _ rfl HOWX.out ⟨w3.heap.size, 0, none⟩ 1 1 [.int .i64 (m : Int), .slice (some ⟨wr.heap.size, 0, none⟩) 512 512] rfl rfl HNEWS.out (by simp [Value.oneCell']) (by have := HAN.out; unfold maxLen; omega) (by have := HAN.out; omega) HBB.out ?_
        intro v2 w5 hown2 hgrow2 hat
        have HPB5 : Hid (PutsB w5 W1.heap.size v2 (opPs fs dn ds (k + 1))) := by
          show PutsB _ _ _ _
          rw [opPs_snoc, show (fs k).toNat = m by have := HM.out; omega]
          refine PutsB.add (gs := gs) (w := wr) (w1 := w4) (g0 := wr.heap.size) (by rw [opPs_length]; exact HG.out.1) HG.out.2 (fun y hy => ?_) (fun i e => (HOWN.out.lt i e).2) HAL.out HBJ.out.size (Nat.le_refl _) HX4.out (blk_length _) ?_ hgrow2 hat
          · obtain ⟨i, _, rfl⟩ := List.mem_map.1 hy
            exact blk_length _
          · rw [opPs_length]
            exact hown2
        have HS5 : Hid (Below W1.heap.size W1 w5) := HS4.out.grown hgrow2 HS4.out.size (fun i e => (HOWN.out.lt i e).1)
        clear hown2 hgrow2 hat
        refine hK.out _ _ (.inr (HCL.out _ HS5.out)) ?_
        clear hK K
        (try simp only [Act.put, List.setIfInBounds_toArray, List.set_cons_zero, List.set_cons_succ])
        repeat (apply heldL_run rfl (by rfl) (by rfl); (intro w hSw; go_simp; with_reducible rfl); (try simp only [Act.put, List.setIfInBounds_toArray, List.set_cons_zero, List.set_cons_succ]))
        refine heldL_step rfl (by rfl) (by rfl) (fun K hK => ?_)
        go_simp
        refine hK.out _ _ (.inl rfl) ?_
        clear hK K
        (try simp only [Act.put, List.setIfInBounds_toArray, List.set_cons_zero, List.set_cons_succ])
        refine heldL_nil (NoPanic.normal ?_)
        go_wp2_with fail
        go_roundw
        case rel => exact ⟨k + 1, by go_num, by omega, HPB5.out, HS5.out⟩
        case measure => simp [intOf]; omega
    · obtain rfl : k = an := by omega
      have hxc := HXC.out _ HBJ.out
      have HPF := Lib.hid (HPB.out.puts.weaken (O1 := fun j => j < w.heap.size) (fun j hj => Nat.lt_of_lt_of_le hj HZZ.out))
      go_wp2_with fail
      go_ret
      exact ⟨_, rfl, HPF.out, HBX.out.trans (HBJ.out.mono HZZ.out)⟩
end Go.Proofs.Ythfncgbkigmmcaa
