/- is, put. -/
import Derived.Test.YthfncgbkigmmcaaL29
namespace Go.Proofs.Ythfncgbkigmmcaa
open Go.RowKit

variable {w w' w1 wr : World} {B lp p n : Nat} {d D : DS} {dead : Bool} {c : Nat → Bs}
/-- a state: so many numbers -/
def StAt (w : World) (v : Value) (n : Nat) (ss : Nat → Int) : Prop := ∃ g cap, v = .slice (some ⟨g, 0, none⟩) n cap ∧ n ≤ cap ∧ ∀ i, i < n → w.cell? ⟨g, i, none⟩ = some (.int .i64 (ss i))
theorem StAt.below {v : Value} {ss : Nat → Int} (h : StAt w v n ss) (hb : Below w.heap.size w w') : StAt w' v n ss := by
  obtain ⟨g, cap, h1, h2, h3⟩ := h
  exact ⟨g, cap, h1, h2, fun i hi => (hb.cell (p := ⟨g, i, none⟩) (World.block_lt_of_cell? _ _ (h3 i hi))).trans (h3 i hi)⟩
set_option maxRecDepth 8000 in
set_option maxHeartbeats 1600000 in
theorem is_any {v : Value} {sn : Nat} {ss : Nat → Int} (h : QL w B lp p n c) (hst : StAt w v sn ss) (hn : sn + 96 ≤ n) (hn2 : sn ≤ 100) :
    Calls Try.prog 31 #[.pointer (some ⟨lp, 0, none⟩), v] w fun e w' => ∃ r : Bool, e = .returned (.bool r) ∧ (r = true ↔ ∀ i, i < sn → c i = blk (ss i)) ∧ Below w.heap.size w w' := by
  obtain ⟨g, cap, rfl, hsc, hcell⟩ := hst
  have HCELL := Lib.hid hcell
  have HQ0 := Lib.hid h
  have s100 : (sn : Int) ≤ 100 := by omega
  clear hcell h
  go_enter Try.func31, Try.ntmps31
  go_wp2_with fail
  go_loopw [5] (fun i wr => ∃ k : Nat, i = .int .i64 k ∧ k ≤ sn ∧ Hid (∀ i, i < k → c i = blk (ss i)) ∧ Below w.heap.size w wr) (fun i _ => sn - (intOf i).toNat)
  case atStart => exact ⟨0, rfl, Nat.zero_le _, fun i h => by omega, Below.refl _ _⟩
  case round =>
    obtain ⟨k, rfl, hk, HE, hb⟩ := hrel
    have k0 : (0 : Int) ≤ (k : Int) := by omega
    have HB := Lib.hid hb
    clear hb
    by_cases hlt : k < sn
    · have k1 : (k : Int) < (sn : Int) := by omega
      have HRD := Lib.hid (read_quiet (HQ0.out.below HB.out) k (by omega))
      go_wp2_with fail
      refine (HRD.out).mono ?_
      rintro e w7 ⟨g7, cap7, rfl, hx7, _, hb7⟩
      have hcv : ∀ W, Below w7.heap.size w7 W → (convert 24 9 (.slice (some ⟨g7, 0, none⟩) 512 cap7)).run Try.prog W = .ok (.string ⟨(c k).toArray⟩) W := fun W hW => run_string_of W 24 5 Try.underlying24 Try.underlying5 (RowAt.below hx7 hW (Nat.le_refl _)) 9 Try.underlying9
      have HB7 := Lib.hid (HB.out.trans (hb7.mono HB.out.size))
      have HCK : Hid (∀ W, Below w7.heap.size w7 W → Below w7.heap.size w7 W ∧ W.cell? ⟨g, k, none⟩ = some (.int .i64 (ss k))) := fun W hW => ⟨hW, ((HB7.out.trans (hW.mono HB7.out.size)).cell (p := ⟨g, k, none⟩) (World.block_lt_of_cell? _ _ (HCELL.out k hlt))).trans (HCELL.out k hlt)⟩
      have HS0 : Hid (Below w7.heap.size w7 w7.drew) := (Below.refl _ _).drew
      have HCV := Lib.hid hcv
      clear hx7 hb7 HRD
      go_wp2_with fail
      refine wp_region_noPanic ?_
      refine wp_region_ordL 13 [11, 13] [0, 1, 2, 3, 4, 5, 6, 7, 8, 9, 10, 11, 12, 13] (fun W => Below w7.heap.size w7 W ∧ W.cell? ⟨g, k, none⟩ = some (.int .i64 (ss k))) (by kernel_rfl) (by kernel_rfl) rfl (by kernel_rfl) (fun _ _ _ _ _ h => h) (HCK.out _ HS0.out) ?_
      repeat (apply heldL_run rfl (by rfl) (by rfl); (intro w hSw; go_simp; with_reducible rfl); (try simp only [Act.put, List.setIfInBounds_toArray, List.set_cons_zero, List.set_cons_succ]))
      refine heldL_step rfl (by rfl) (by rfl) (fun K hK => ?_)
      go_simp
      refine (num_any _ _).mono ?_
      rintro e w8 ⟨rfl, rfl⟩
      refine hK.out _ _ (.inr (HCK.out _ HS0.out)) ?_
      clear hK K
      (try simp only [Act.put, List.setIfInBounds_toArray, List.set_cons_zero, List.set_cons_succ])
      clear hcv
      have hcv : ∀ W, (Below w7.heap.size w7 W ∧ W.cell? ⟨g, k, none⟩ = some (.int .i64 (ss k))) → (convert 24 9 (.slice (some ⟨g7, 0, none⟩) 512 cap7)).run Try.prog W = .ok (.string ⟨(c k).toArray⟩) W := fun W hW => HCV.out W hW.1
      repeat (apply heldL_run rfl (by rfl) (by rfl); (intro w hSw; go_simp; with_reducible rfl); (try simp only [Act.put, List.setIfInBounds_toArray, List.set_cons_zero, List.set_cons_succ]))
      refine heldL_step rfl (by rfl) (by rfl) (fun K hK => ?_)
      go_simp
      refine (block_any (ss k) _).mono ?_
      rintro e w8 ⟨rfl, hx8, hb8⟩
      have HS8 : Hid (Below w7.heap.size w7 w8) := HS0.out.trans hb8
      have hc8 := run_string_of w8 24 5 Try.underlying24 Try.underlying5 hx8 9 Try.underlying9
      clear hx8 hb8
      generalize w7.drew.heap.size = q9 at *
      refine hK.out _ _ (.inr (HCK.out _ HS8.out)) ?_
      clear hK K
      (try simp only [Act.put, List.setIfInBounds_toArray, List.set_cons_zero, List.set_cons_succ])
      repeat (apply heldL_run rfl (by rfl) (by rfl); (intro w hSw; go_simp; with_reducible rfl); (try simp only [Act.put, List.setIfInBounds_toArray, List.set_cons_zero, List.set_cons_succ]))
      refine heldL_step rfl (by rfl) (by rfl) (fun K hK => ?_)
      go_simp
      refine hK.out _ _ (.inr (HCK.out _ HS8.out)) ?_
      clear hK K
      (try simp only [Act.put, List.setIfInBounds_toArray, List.set_cons_zero, List.set_cons_succ])
      have HB8 := Lib.hid (HB7.out.trans (HS8.out.mono HB7.out.size))
      clear hcv
      by_cases hvq : c k = blk (ss k)
      · have HE2 : Hid (∀ i, i < k + 1 → c i = blk (ss i)) := fun i hi => by
          rcases Nat.lt_or_ge i k with h | h
          · exact HE.out i h
          · rw [show i = k by omega]
            exact hvq
        rw [hvq]
        clear hvq
        repeat (apply heldL_run rfl (by rfl) (by rfl); (intro w hSw; go_simp; with_reducible rfl); (try simp only [Act.put, List.setIfInBounds_toArray, List.set_cons_zero, List.set_cons_succ]))
        refine heldL_step rfl (by rfl) (by rfl) (fun K hK => ?_)
        go_simp
        refine hK.out _ _ (.inl rfl) ?_
        clear hK K
        (try simp only [Act.put, List.setIfInBounds_toArray, List.set_cons_zero, List.set_cons_succ])
        refine heldL_nil (NoPanic.normal ?_)
        go_wp2_with fail
        go_roundw
        case rel => exact ⟨k + 1, by go_num, by omega, HE2.out, HB8.out⟩
        case measure => simp [intOf]; omega
      · have hbe : (c k == blk (ss k)) = false := by simpa using hvq
        have HVQ : Hid (false = true ↔ ∀ i, i < sn → c i = blk (ss i)) := ⟨(fun e => by cases e), fun h => absurd (h k hlt) hvq⟩
        clear hvq
        repeat (apply heldL_run rfl (by rfl) (by rfl); (intro w hSw; go_simp; with_reducible rfl); (try simp only [Act.put, List.setIfInBounds_toArray, List.set_cons_zero, List.set_cons_succ]))
        refine heldL_step rfl (by rfl) (by rfl) (fun K hK => ?_)
        go_simp
        refine hK.out _ _ (.inl rfl) ?_
        clear hK K
        (try simp only [Act.put, List.setIfInBounds_toArray, List.set_cons_zero, List.set_cons_succ])
        refine heldL_nil (NoPanic.normal ?_)
        go_wp2_with fail
        go_ret
        exact ⟨false, rfl, HVQ.out, HB8.out⟩
    · obtain rfl : k = sn := by omega
      go_wp2_with fail
      go_ret
      exact ⟨true, rfl, ⟨fun _ => HE.out, fun _ => rfl⟩, HB.out⟩
/-- a state with so many of a commit's places laid -/
def stPut (ss fs : Nat → Int) (dn : Nat) (ds : Nat → Int) : Nat → Nat → Int
  | 0, j => ss j
  | m + 1, j => if (fs m).toNat = j then opN dn ds m else stPut ss fs dn ds m j
theorem lastW_snoc (j : Nat) (a : Nat) (x : Bs) : ∀ (l : List (Nat × Bs)), lastW (l ++ [(a, x)]) j = if a = j then some x else lastW l j
  | [] => by simp [lastW]
  | (b, y) :: r => by
    rw [List.cons_append, lastW, lastW_snoc j a x r]
    by_cases h : a = j
    · simp [h]
    · rw [if_neg h, if_neg h, lastW]
theorem stPut_blk (ss fs : Nat → Int) (dn : Nat) (ds : Nat → Int) (j : Nat) : ∀ m, putC (fun j => blk (ss j)) (opPs fs dn ds m) j = blk (stPut ss fs dn ds m j)
  | 0 => rfl
  | m + 1 => by
    have := stPut_blk ss fs dn ds j m
    unfold putC at this ⊢
    rw [opPs_snoc, lastW_snoc, stPut]
    by_cases h : (fs m).toNat = j
    · simp [h]
    · rw [if_neg h, if_neg h]
      exact this
set_option maxRecDepth 8000 in
set_option maxHeartbeats 1600000 in
theorem put_any {v : Value} {sn : Nat} {ss : Nat → Int} (x1 x2 : Int) (aa : Option Addr) (an ac : Nat) (fs : Nat → Int) (da : Option Addr) (dn dc : Nat) (ds : Nat → Int) (v5 : Value) (hst : StAt w v sn ss) (ha : IntsB w aa an fs) (hd : IntsB w da dn ds) (hgood : ∀ i, i < an → 0 ≤ fs i ∧ fs i < sn) (han : an ≤ 40) (hsn : sn ≤ 100) (hs0 : 0 < sn) :
    Calls Try.prog 34 #[v, .agg #[.int .i64 x1, .int .i64 x2, .slice aa an ac, .slice da dn dc, v5]] w fun e w' => ∃ v', e = .returned v' ∧ StAt w' v' sn (stPut ss fs dn ds an) ∧ (∃ g cap, v' = .slice (some ⟨g, 0, none⟩) sn cap ∧ w.heap.size ≤ g) ∧ Below w.heap.size w w' := by
  obtain ⟨g, cap, rfl, hsc, hcell⟩ := hst
  obtain ⟨X, hX⟩ : ∃ X, X = Obj.cells #[.int .i64 x1, .int .i64 x2, .slice aa an ac, .slice da dn dc, v5] 52 (0, 0) := ⟨_, rfl⟩
  have HBX : Hid (Below w.heap.size w (w.alloc X)) := (Below.refl _ w).alloc (Nat.le_refl _) X
  have HX := Lib.hid hX
  have HXC0 : (w.alloc X).cell? ⟨w.heap.size, 2, none⟩ = some (.slice aa an ac) := by
    rw [cell_of_row _ _ _ _ _ _ (by rw [heap_alloc_new, hX])]
    rfl
  have HXD0 : (w.alloc X).cell? ⟨w.heap.size, 3, none⟩ = some (.slice da dn dc) := by
    rw [cell_of_row _ _ _ _ _ _ (by rw [heap_alloc_new, hX])]
    rfl
  have HXC : Hid (∀ W, Below (w.alloc X).heap.size (w.alloc X) W → W.cell? ⟨w.heap.size, 2, none⟩ = some (.slice aa an ac)) := fun W hW => (hW.cell (p := ⟨w.heap.size, 2, none⟩) (World.block_lt_of_cell? _ _ HXC0)).trans HXC0
  have HXD : Hid (∀ W, Below (w.alloc X).heap.size (w.alloc X) W → W.cell? ⟨w.heap.size, 3, none⟩ = some (.slice da dn dc)) := fun W hW => (hW.cell (p := ⟨w.heap.size, 3, none⟩) (World.block_lt_of_cell? _ _ HXD0)).trans HXD0
  have HZZ : Hid (w.heap.size ≤ (w.alloc X).heap.size) := HBX.out.size
  have HA : Hid (IntsB (w.alloc X) aa an fs) := ha.below HBX.out
  have HD : Hid (IntsB (w.alloc X) da dn ds) := hd.below HBX.out
  have HGG := Lib.hid hgood
  have HAN := Lib.hid (And.intro han hsn)
  have HST : Hid (RowAt (w.alloc X) (.slice (some ⟨g, 0, none⟩) sn cap) ((List.range sn).map fun i => Value.int .i64 (ss i))) := by
    refine .inr ⟨g, 0, cap, by simp, by simpa using hsc, fun i u hi => ?_⟩
    have hi2 : i < sn := by
      have := (List.getElem?_eq_some_iff.1 hi).1
      simpa using this
    have hu : u = .int .i64 (ss i) := by
      rw [List.getElem?_map, List.getElem?_range hi2] at hi
      simpa using hi.symm
    rw [hu, Nat.zero_add]
    exact (HBX.out.cell (p := ⟨g, i, none⟩) (World.block_lt_of_cell? _ _ (hcell i hi2))).trans (hcell i hi2)
  have HNL : Hid (((List.range sn).map fun i => Value.int .i64 (ss i)).length = sn) := by show _ = _; simp
  have HONE : Hid (∀ u ∈ (List.range sn).map fun i => Value.int .i64 (ss i), u.oneCell' = true) := by
    show ∀ u ∈ _, _
    intro u hu
    obtain ⟨i, _, rfl⟩ := List.mem_map.1 hu
    rfl
  obtain ⟨i0, hi, hz0, hz1, hz2⟩ := info_parts infoI
  have HI := Lib.hid (And.intro hi (And.intro hz0 (And.intro hz1 hz2)))
  have HNG : Hid (∀ i (h : i < sn), ((List.range sn).map fun i => Value.int .i64 (ss i))[i]? = some (.int .i64 (ss i))) := fun i h => by rw [List.getElem?_map, List.getElem?_range h]; rfl
  generalize ((List.range sn).map fun i => Value.int .i64 (ss i)) = news at *
  clear hi hz0 hz1 hz2
  clear HXC0 HXD0 ha hd hgood han hcell
  have L5 : Hid (0 + news.length ≤ maxLen) := by show _ ≤ _; rw [HNL.out]; unfold maxLen; omega
  have L6 : Hid ((0 + news.length) * 8 ≤ 140737488355328) := by show _ ≤ _; rw [HNL.out]; omega
  rw [hX] at HST
  clear hX
  go_enter Try.func34, Try.ntmps34
  go_wp2_with (at_builtin; refine wpList_append_rowAt rfl (.const (.slice none 0 0)) (.tmp 8) 46 rfl _ 3 i0 (.int .i64 0) 8 Try.underlying46 HI.out.1 HI.out.2.1 HI.out.2.2.1 HI.out.2.2.2 rfl (.slice none 0 0) 0 [] rfl (World.ownsRow_nil _ _ _ _) (.slice (some ⟨g, 0, none⟩) sn cap) news rfl (.inl HST.out) HONE.out L5.out L6.out (Nat.le_refl _) ?_)
  intro v2 w2 hown hgrow _
  rw [← HX.out] at hgrow
  rw [HNL.out, show w.heap.size + 1 = (w.alloc X).heap.size by simp] at hown
  rcases owns_shape hown with ⟨_, h0⟩ | ⟨g5, cap5, rfl, hle5, _, hbg5, hlt5⟩
  · omega
  have hfz : ∀ i, w2.frozen? ⟨g5, i, none⟩ = false := fun i => by
    rcases hown.2 with ⟨h, _⟩ | ⟨g', cap', cur, h, _, hg, _⟩
    · cases h
    · cases h; exact frozen_of_row w2 _ _ _ _ hg
  have hcs : ∀ i, i < sn → w2.cell? ⟨g5, i, none⟩ = some (.int .i64 (stPut ss fs dn ds 0 i)) := fun i hi => by
    have := hown.cells (g := g5) rfl i _ (HNG.out i hi)
    rw [addr_add, Nat.zero_add] at this
    exact this
  have HW2 : Hid (Below (w.alloc X).heap.size (w.alloc X) w2) := (Below.refl _ _).grown hgrow (Nat.le_refl _) (fun k e => by cases e)
  have HFZ := Lib.hid hfz
  have HCS := Lib.hid hcs
  have HG5 := Lib.hid (And.intro hle5 hbg5)
  clear hown hgrow hfz hcs hle5 hbg5 hlt5 HX HST
  generalize w.alloc X = W1 at *
  go_wp2_with fail
  go_loopw [6] (fun i wr => ∃ k : Nat, i = .int .i64 k ∧ k ≤ an ∧ Hid ((∀ i, i < sn → wr.cell? ⟨g5, i, none⟩ = some (.int .i64 (stPut ss fs dn ds k i))) ∧ ∀ i, wr.frozen? ⟨g5, i, none⟩ = false) ∧ Below W1.heap.size W1 wr) (fun i _ => an - (intOf i).toNat)
  case atStart => exact ⟨0, rfl, Nat.zero_le _, ⟨HCS.out, HFZ.out⟩, HW2.out⟩
  case round =>
    obtain ⟨k, rfl, hk, HS, hb⟩ := hrel
    have k0 : (0 : Int) ≤ (k : Int) := by omega
    have HBJ := Lib.hid hb
    have hxc := HXC.out _ HBJ.out
    have hxd := HXD.out _ HBJ.out
    clear hb
    by_cases hlt : k < an
    · have k1 : (k : Int) < (an : Int) := by omega
      have a40 : (an : Int) ≤ 40 := by have := HAN.out.1; omega
      obtain ⟨g7, off, hg7, hcell⟩ : ∃ g off, aa = some ⟨g, off, none⟩ ∧ ∀ i, i < an → W1.cell? ⟨g, off + i, none⟩ = some (.int .i64 (fs i)) := HA.out.elim (fun e => by omega) id
      have hck := (HBJ.out.cell (p := ⟨g7, off + k, none⟩) (World.block_lt_of_cell? _ _ (hcell k hlt))).trans (hcell k hlt)
      obtain ⟨m, hm⟩ := Int.eq_ofNat_of_zero_le (HGG.out k hlt).1
      have hms : m < sn := by have := (HGG.out k hlt).2; omega
      have hms2 : (m : Int) < (sn : Int) := by omega
      have hm0 : (0 : Int) ≤ (m : Int) := by omega
      have hcm := HS.out.1 m hms
      have hfm := HS.out.2 m
      have HM := Lib.hid hm
      have HNS : Hid (∀ (y : Int), opN dn ds k = y → (∀ i, i < sn → (wr.setCell ⟨g5, m, none⟩ (.int .i64 y)).cell? ⟨g5, i, none⟩ = some (.int .i64 (stPut ss fs dn ds (k + 1) i))) ∧ ∀ i, (wr.setCell ⟨g5, m, none⟩ (.int .i64 y)).frozen? ⟨g5, i, none⟩ = false) := fun y hy => by
        refine ⟨fun i hi => ?_, fun i => by rw [World.frozen?_setCell]; exact HS.out.2 i⟩
        rw [stPut, show (fs k).toNat = m by have := HM.out; omega]
        by_cases e : m = i
        · subst e
          rw [if_pos rfl, hy]
          exact World.cell?_setCell_same' _ _ _ (by rw [HS.out.1 m hi]; rfl)
        · rw [if_neg e, World.cell?_setCell_other (h := by intro e'; have := congrArg Addr.off e'; simp at this; omega)]
          exact HS.out.1 i hi
      rw [hm] at hck
      subst hg7
      clear hm hcell
      by_cases hdk : k < dn
      · have d1 : (k : Int) < (dn : Int) := by omega
        obtain ⟨g9, off9, hg9, hcell9⟩ : ∃ g off, da = some ⟨g, off, none⟩ ∧ ∀ i, i < dn → W1.cell? ⟨g, off + i, none⟩ = some (.int .i64 (ds i)) := HD.out.elim (fun e => by omega) id
        have hc9 := (HBJ.out.cell (p := ⟨g9, off9 + k, none⟩) (World.block_lt_of_cell? _ _ (hcell9 k hdk))).trans (hcell9 k hdk)
        subst hg9
        have HN2 := Lib.hid (HNS.out (ds k) (if_pos hdk))
        clear hcell9 hdk
        go_wp2_with fail
        go_roundw
        case rel => exact ⟨k + 1, by go_num, by omega, HN2.out, HBJ.out.setCell HG5.out.2 _⟩
        case measure => simp [intOf]; omega
      · have d1 : ¬ (k : Int) < (dn : Int) := by omega
        have HN2 := Lib.hid (HNS.out 0 (if_neg hdk))
        clear hdk
        go_wp2_with fail
        go_roundw
        case rel => exact ⟨k + 1, by go_num, by omega, HN2.out, HBJ.out.setCell HG5.out.2 _⟩
        case measure => simp [intOf]; omega
    · obtain rfl : k = an := by omega
      go_wp2_with fail
      go_ret
      exact ⟨_, rfl, ⟨g5, cap5, rfl, HG5.out.1, HS.out.1⟩, ⟨g5, cap5, rfl, Nat.le_trans HZZ.out HG5.out.2⟩, HBX.out.trans (HBJ.out.mono HZZ.out)⟩
end Go.Proofs.Ythfncgbkigmmcaa
