/- is, of a ledger with power. -/
import Derived.Test.YthfncgbkigmmcaaL31
namespace Go.Proofs.Ythfncgbkigmmcaa
open Go.RowKit

variable {w w' w1 wr : World} {S T : Nat → Prop} {B lp p n : Nat} {d D : DS} {dead : Bool} {c : Nat → Bs} {P : Bs → Prop}
set_option maxRecDepth 8000 in
set_option maxHeartbeats 1600000 in
theorem is_qo {v : Value} {sn : Nat} {ss : Nat → Int} (h : QO w S lp p n c) (hst : StAt w v sn ss) (hn : sn + 96 ≤ n) (hn2 : sn ≤ 100) :
    Calls Try.prog 31 #[.pointer (some ⟨lp, 0, none⟩), v] w fun e w' => ∃ r : Bool, e = .returned (.bool r) ∧ (r = true ↔ ∀ i, i < sn → c i = blk (ss i)) ∧ Below w.heap.size w w' := by
  obtain ⟨g, cap, rfl, hsc, hcell⟩ := hst
  have HCELL := Lib.hid hcell
  have HQ0 := Lib.hid h
  have s100 : (sn : Int) ≤ 100 := by omega
  clear hcell h
  go_enter Try.func31, Try.ntmps31
  go_wp2_with fail
  go_loopw [5] (fun i wr => ∃ k : Nat, i = .int .i64 k ∧ k ≤ sn ∧ Hid (∀ i, i < k → c i = blk (ss i)) ∧ Below w.heap.size w wr) (fun i _ => sn - (intOf i).toNat)
  case atStart => exact ⟨0, rfl, Nat.zero_le _, fun i h => by omega, Below.refl _ _⟩
  case round =>
    obtain ⟨k, rfl, hk, HE, hb⟩ := hrel
    have k0 : (0 : Int) ≤ (k : Int) := by omega
    have HB := Lib.hid hb
    clear hb
    by_cases hlt : k < sn
    · have k1 : (k : Int) < (sn : Int) := by omega
      have HRD := Lib.hid (read_qo (HQ0.out.below HB.out) k (by omega))
      go_wp2_with fail
      refine (HRD.out).mono ?_
      rintro e w7 ⟨g7, cap7, rfl, hx7, _, hb7⟩
      have hcv : ∀ W, Below w7.heap.size w7 W → (convert 24 9 (.slice (some ⟨g7, 0, none⟩) 512 cap7)).run Try.prog W = .ok (.string ⟨(c k).toArray⟩) W := fun W hW => run_string_of W 24 5 Try.underlying24 Try.underlying5 (RowAt.below hx7 hW (Nat.le_refl _)) 9 Try.underlying9
      have HB7 := Lib.hid (HB.out.trans (hb7.mono HB.out.size))
      have HCK : Hid (∀ W, Below w7.heap.size w7 W → Below w7.heap.size w7 W ∧ W.cell? ⟨g, k, none⟩ = some (.int .i64 (ss k))) := fun W hW => ⟨hW, ((HB7.out.trans (hW.mono HB7.out.size)).cell (p := ⟨g, k, none⟩) (World.block_lt_of_cell? _ _ (HCELL.out k hlt))).trans (HCELL.out k hlt)⟩
      have HS0 : Hid (Below w7.heap.size w7 w7.drew) := (Below.refl _ _).drew
      have HCV := Lib.hid hcv
      clear hx7 hb7 HRD
      go_wp2_with fail
      refine wp_region_noPanic ?_
      refine wp_region_ordL 13 [11, 13] [0, 1, 2, 3, 4, 5, 6, 7, 8, 9, 10, 11, 12, 13] (fun W => Below w7.heap.size w7 W ∧ W.cell? ⟨g, k, none⟩ = some (.int .i64 (ss k))) (by kernel_rfl) (by kernel_rfl) rfl (by kernel_rfl) (fun _ _ _ _ _ h => h) (HCK.out _ HS0.out) ?_
      repeat (apply heldL_run rfl (by rfl) (by rfl); (intro w hSw; go_simp; with_reducible rfl); (try simp only [Act.put, List.setIfInBounds_toArray, List.set_cons_zero, List.set_cons_succ]))
      refine heldL_step rfl (by rfl) (by rfl) (fun K hK => ?_)
      go_simp
      refine (num_any _ _).mono ?_
      rintro e w8 ⟨rfl, rfl⟩
      refine hK.out _ _ (.inr (HCK.out _ HS0.out)) ?_
      clear hK K
      (try simp only [Act.put, List.setIfInBounds_toArray, List.set_cons_zero, List.set_cons_succ])
      clear hcv
      have hcv : ∀ W, (Below w7.heap.size w7 W ∧ W.cell? ⟨g, k, none⟩ = some (.int .i64 (ss k))) → (convert 24 9 (.slice (some ⟨g7, 0, none⟩) 512 cap7)).run Try.prog W = .ok (.string ⟨(c k).toArray⟩) W := fun W hW => HCV.out W hW.1
      repeat (apply heldL_run rfl (by rfl) (by rfl); (intro w hSw; go_simp; with_reducible rfl); (try simp only [Act.put, List.setIfInBounds_toArray, List.set_cons_zero, List.set_cons_succ]))
      refine heldL_step rfl (by rfl) (by rfl) (fun K hK => ?_)
      go_simp
      refine (block_any (ss k) _).mono ?_
      rintro e w8 ⟨rfl, hx8, hb8⟩
      have HS8 : Hid (Below w7.heap.size w7 w8) := HS0.out.trans hb8
      have hc8 := run_string_of w8 24 5 Try.underlying24 Try.underlying5 hx8 9 Try.underlying9
      clear hx8 hb8
      generalize w7.drew.heap.size = q9 at *
      refine hK.out _ _ (.inr (HCK.out _ HS8.out)) ?_
      clear hK K
      (try simp only [Act.put, List.setIfInBounds_toArray, List.set_cons_zero, List.set_cons_succ])
      repeat (apply heldL_run rfl (by rfl) (by rfl); (intro w hSw; go_simp; with_reducible rfl); (try simp only [Act.put, List.setIfInBounds_toArray, List.set_cons_zero, List.set_cons_succ]))
      refine heldL_step rfl (by rfl) (by rfl) (fun K hK => ?_)
      go_simp
      refine hK.out _ _ (.inr (HCK.out _ HS8.out)) ?_
      clear hK K
      (try simp only [Act.put, List.setIfInBounds_toArray, List.set_cons_zero, List.set_cons_succ])
      have HB8 := Lib.hid (HB7.out.trans (HS8.out.mono HB7.out.size))
      clear hcv
      by_cases hvq : c k = blk (ss k)
      · have HE2 : Hid (∀ i, i < k + 1 → c i = blk (ss i)) := fun i hi => by
          rcases Nat.lt_or_ge i k with h | h
          · exact HE.out i h
          · rw [show i = k by omega]
            exact hvq
        rw [hvq]
        clear hvq
        repeat (apply heldL_run rfl (by rfl) (by rfl); (intro w hSw; go_simp; with_reducible rfl); (try simp only [Act.put, List.setIfInBounds_toArray, List.set_cons_zero, List.set_cons_succ]))
        refine heldL_step rfl (by rfl) (by rfl) (fun K hK => ?_)
        go_simp
        refine hK.out _ _ (.inl rfl) ?_
        clear hK K
        (try simp only [Act.put, List.setIfInBounds_toArray, List.set_cons_zero, List.set_cons_succ])
        refine heldL_nil (NoPanic.normal ?_)
        go_wp2_with fail
        go_roundw
        case rel => exact ⟨k + 1, by go_num, by omega, HE2.out, HB8.out⟩
        case measure => simp [intOf]; omega
      · have hbe : (c k == blk (ss k)) = false := by simpa using hvq
        have HVQ : Hid (false = true ↔ ∀ i, i < sn → c i = blk (ss i)) := ⟨(fun e => by cases e), fun h => absurd (h k hlt) hvq⟩
        clear hvq
        repeat (apply heldL_run rfl (by rfl) (by rfl); (intro w hSw; go_simp; with_reducible rfl); (try simp only [Act.put, List.setIfInBounds_toArray, List.set_cons_zero, List.set_cons_succ]))
        refine heldL_step rfl (by rfl) (by rfl) (fun K hK => ?_)
        go_simp
        refine hK.out _ _ (.inl rfl) ?_
        clear hK K
        (try simp only [Act.put, List.setIfInBounds_toArray, List.set_cons_zero, List.set_cons_succ])
        refine heldL_nil (NoPanic.normal ?_)
        go_wp2_with fail
        go_ret
        exact ⟨false, rfl, HVQ.out, HB8.out⟩
    · obtain rfl : k = sn := by omega
      go_wp2_with fail
      go_ret
      exact ⟨true, rfl, ⟨fun _ => HE.out, fun _ => rfl⟩, HB.out⟩
theorem PutsB.setCell {v : Value} {ps : List (Nat × Bs)} (h : PutsB w B v ps) {a : Addr} (ha : a.block < B) (u : Value) : PutsB (w.setCell a u) B v ps := by
  obtain ⟨gs, h1, h2, h3⟩ := h
  refine ⟨gs, h1, ownsRow_setCell_below h2 ha u, fun k hk hg => ?_⟩
  obtain ⟨q1, q2, x⟩ := h3 k hk hg
  exact ⟨q1, q2, RowAt.keeps (S := fun j => j = a.block) x ((Keeps.refl _ _).setCell a u (.inl rfl)) (fun j e => by cases e; exact fun e2 => absurd q1 (by rw [show gs[k] = a.block from e2]; omega))⟩
/-- numbers that came in lie outside -/
theorem IntsB.keep {K : Nat → Prop} {ka : Option Addr} {kn : Nat} {ks : Nat → Int} (h : IntsB w ka kn ks) (hk : Keeps K w w') (ho : ∀ x, ka = some x → 0 < kn → ¬ K x.block) : IntsB w' ka kn ks :=
  h.imp id (fun ⟨g, off, h1, h2⟩ => ⟨g, off, h1, fun i hi => (hk.cell (p := ⟨g, off + i, none⟩) (World.block_lt_of_cell? _ _ (h2 i hi)) (ho ⟨g, off, none⟩ h1 (Nat.lt_of_le_of_lt (Nat.zero_le _) hi) : ¬ K g)).trans (h2 i hi)⟩)
theorem IntsAt.keep {K : Nat → Prop} {ka : Option Addr} {kn : Nat} {ks : Nat → Int} (h : IntsAt w ka kn ks) (hk : Keeps K w w') (ho : ∀ x, ka = some x → 0 < kn → ¬ K x.block) : IntsAt w' ka kn ks :=
  ⟨h.1, h.2.imp id (fun ⟨g, off, h1, h2⟩ => ⟨g, off, h1, fun i hi => (hk.cell (p := ⟨g, off + i, none⟩) (World.block_lt_of_cell? _ _ (h2 i hi)) (ho ⟨g, off, none⟩ h1 (Nat.lt_of_le_of_lt (Nat.zero_le _) hi) : ¬ K g)).trans (h2 i hi)⟩)⟩
end Go.Proofs.Ythfncgbkigmmcaa
