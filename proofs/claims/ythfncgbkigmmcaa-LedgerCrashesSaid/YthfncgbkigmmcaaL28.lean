/- refused, puts. -/
import Derived.Test.YthfncgbkigmmcaaL27
namespace Go.Proofs.Ythfncgbkigmmcaa
open Go.RowKit

variable {w w' w1 wr : World} {B lp p n : Nat} {d D : DS} {dead : Bool} {c : Nat → Bs}
/-- numbers that came in, so many as may be -/
def IntsB (w : World) (a : Option Addr) (n : Nat) (ks : Nat → Int) : Prop := n = 0 ∨ ∃ g off, a = some ⟨g, off, none⟩ ∧ ∀ i, i < n → w.cell? ⟨g, off + i, none⟩ = some (.int .i64 (ks i))
theorem IntsB.below {ka : Option Addr} {kn : Nat} {ks : Nat → Int} (h : IntsB w ka kn ks) (hb : Below w.heap.size w w') : IntsB w' ka kn ks :=
  h.imp id (fun ⟨g, off, h1, h2⟩ => ⟨g, off, h1, fun i hi => (hb.cell (p := ⟨g, off + i, none⟩) (World.block_lt_of_cell? _ _ (h2 i hi))).trans (h2 i hi)⟩)
theorem intsB_of_row {w : World} {a : Option Addr} {len cap : Nat} {zs : List Int} (h : RowIn .i64 w a len cap zs) : IntsB w a len (fun i => zs.getD i 0) := by
  rcases h with ⟨rfl, rfl, rfl, rfl⟩ | ⟨x, rfl, hs, hlc, hm, hz, hcell, hwf⟩
  · exact .inl rfl
  · obtain ⟨xb, xo, xs⟩ := x
    simp only at hs
    subst hs
    exact .inr ⟨xb, xo, rfl, fun i hi => by
      have := hcell i (by omega)
      rw [addr_add] at this
      exact this⟩
/-- what is not refused -/
def GoodAts (n an : Nat) (fs : Nat → Int) : Prop := 1 ≤ an ∧ an ≤ 40 ∧ (∀ i, i < an → 0 ≤ fs i ∧ fs i < n) ∧ ∀ i k, k < i → i < an → fs i ≠ fs k
set_option maxHeartbeats 1600000 in
theorem refused_any (x1 x2 : Int) (aa : Option Addr) (an ac : Nat) (fs : Nat → Int) (v4 v5 : Value) (n : Nat) (w : World) (ha : IntsB w aa an fs) (_ : n ≤ 4096) :
    Calls Try.prog 29 #[.agg #[.int .i64 x1, .int .i64 x2, .slice aa an ac, v4, v5], .int .i64 n] w fun e w' => ∃ r : Int, e = .returned (.int .i64 r) ∧ (r = 0 → GoodAts n an fs) ∧ Below w.heap.size w w' := by
  obtain ⟨X, hX⟩ : ∃ X, X = Obj.cells #[.int .i64 x1, .int .i64 x2, .slice aa an ac, v4, v5] 52 (0, 0) := ⟨_, rfl⟩
  have HBX : Hid (Below w.heap.size w (w.alloc X)) := (Below.refl _ w).alloc (Nat.le_refl _) X
  have HX := Lib.hid hX
  have HA := Lib.hid ha
  clear ha
  by_cases h1 : an < 1
  · have h1' : (an : Int) < 1 := by omega
    rw [hX] at HBX
    clear hX
    go_enter Try.func29, Try.ntmps29
    go_wp2_with fail
    go_ret
    exact ⟨1, rfl, (fun e => by cases e), HBX.out⟩
  by_cases h2 : 40 < an
  · have h1' : ¬ (an : Int) < 1 := by omega
    have h2' : (40 : Int) < (an : Int) := by omega
    rw [hX] at HBX
    clear hX
    go_enter Try.func29, Try.ntmps29
    go_wp2_with fail
    go_ret
    exact ⟨1, rfl, (fun e => by cases e), HBX.out⟩
  have h1' : ¬ (an : Int) < 1 := by omega
  have h2' : ¬ (40 : Int) < (an : Int) := by omega
  obtain ⟨g, off, hg, hcell⟩ : ∃ g off, aa = some ⟨g, off, none⟩ ∧ ∀ i, i < an → w.cell? ⟨g, off + i, none⟩ = some (.int .i64 (fs i)) := HA.out.elim (fun e => by omega) id
  subst hg
  have HC0 : ∀ i, i < an → (w.alloc X).cell? ⟨g, off + i, none⟩ = some (.int .i64 (fs i)) := fun i hi => (HBX.out.cell (p := ⟨g, off + i, none⟩) (World.block_lt_of_cell? _ _ (hcell i hi))).trans (hcell i hi)
  have HXC0 : (w.alloc X).cell? ⟨w.heap.size, 2, none⟩ = some (.slice (some ⟨g, off, none⟩) an ac) := by
    rw [cell_of_row _ _ _ _ _ _ (by rw [heap_alloc_new, hX])]
    rfl
  have HC : Hid (∀ W, Below (w.alloc X).heap.size (w.alloc X) W → ∀ i, i < an → W.cell? ⟨g, off + i, none⟩ = some (.int .i64 (fs i))) := fun W hW i hi => (hW.cell (p := ⟨g, off + i, none⟩) (World.block_lt_of_cell? _ _ (HC0 i hi))).trans (HC0 i hi)
  have HXC : Hid (∀ W, Below (w.alloc X).heap.size (w.alloc X) W → W.cell? ⟨w.heap.size, 2, none⟩ = some (.slice (some ⟨g, off, none⟩) an ac)) := fun W hW => (hW.cell (p := ⟨w.heap.size, 2, none⟩) (World.block_lt_of_cell? _ _ HXC0)).trans HXC0
  have HZZ : Hid (w.heap.size ≤ (w.alloc X).heap.size) := HBX.out.size
  clear HC0 HXC0
  have H12 := Lib.hid (And.intro h1 h2)
  clear hcell h1 h2
  go_enter Try.func29, Try.ntmps29
  go_wp2_with fail
  rw [← hX]
  clear hX HX
  generalize w.alloc X = W1 at *
  go_loopw [5] (fun i wr => ∃ k : Nat, k ≤ an ∧ i = .int .i64 k ∧ Below W1.heap.size W1 wr ∧ Hid (∀ a b, b < a → a < k → fs a ≠ fs b)) (fun i _ => an - (intOf i).toNat)
  case atStart => exact ⟨0, Nat.zero_le _, rfl, Below.refl _ _, fun a b _ h => by omega⟩
  case round =>
    obtain ⟨k, hk, rfl, hw, HD⟩ := hrel
    obtain ⟨wA, hwA⟩ : ∃ x, x = wr := ⟨_, rfl⟩
    subst hwA
    have HW := Lib.hid hw
    clear hw
    have k0 : (0 : Int) ≤ (k : Int) := by omega
    have hxc := HXC.out _ HW.out
    by_cases hlt : k < an
    · have k1 : (k : Int) < (an : Int) := by omega
      go_wp2_with fail
      go_loopw [6] (fun i w2 => ∃ j : Nat, j ≤ k ∧ i = .int .i64 j ∧ Below W1.heap.size W1 w2 ∧ Hid (∀ b, b < j → fs k ≠ fs b)) (fun i _ => k - (intOf i).toNat)
      case atStart => exact ⟨0, Nat.zero_le _, rfl, HW.out, fun b h => by omega⟩
      case round =>
        obtain ⟨j, hj, rfl, hw, HE⟩ := hrel
        have HWJ := Lib.hid hw
        have hxc2 := HXC.out _ HWJ.out
        clear hw
        have j0 : (0 : Int) ≤ (j : Int) := by omega
        by_cases hjl : j < k
        · have j1 : (j : Int) < (k : Int) := by omega
          have j2 : (j : Int) < (an : Int) := by omega
          have HWD : Hid (Below W1.heap.size W1 wr.drew) := HWJ.out.trans ((Below.refl _ _).drew.mono HWJ.out.size)
          by_cases hf : fs k = fs j
          · have hbe : (fs k == fs j) = true := by simpa using hf
            clear hf
            go_wp2_with fail
            refine wp_region_noPanic ?_
            refine wp_region_ord [0, 1, 2, 3, 4, 5, 6, 7, 8, 9, 10] (fun W => W.cell? ⟨w.heap.size, 2, none⟩ = some (.slice (some ⟨g, off, none⟩) an ac) ∧ W.cell? ⟨g, off + k, none⟩ = some (.int .i64 (fs k)) ∧ W.cell? ⟨g, off + j, none⟩ = some (.int .i64 (fs j))) (by kernel_rfl) (by kernel_rfl) rfl (by kernel_rfl) (fun _ _ _ _ _ h => h) ⟨HXC.out _ HWD.out, HC.out _ HWD.out k hlt, HC.out _ HWD.out j (by omega)⟩ ?_
            repeat (apply held_run rfl (by rfl) (by rfl); (intro w hSw; go_simp; with_reducible rfl); (try simp only [Act.put, List.setIfInBounds_toArray, List.set_cons_zero, List.set_cons_succ]))
            refine held_nil (NoPanic.normal ?_)
            go_wp2_with fail
            go_ret
            exact ⟨1, rfl, (fun e => by cases e), HBX.out.trans (HWD.out.mono HZZ.out)⟩
          · have hbe : (fs k == fs j) = false := by simpa using hf
            have HE2 : Hid (∀ b, b < j + 1 → fs k ≠ fs b) := fun b hb => by
              rcases Nat.lt_or_ge b j with h | h
              · exact HE.out b h
              · rw [show b = j by omega]
                exact hf
            clear hf
            go_wp2_with fail
            refine wp_region_noPanic ?_
            refine wp_region_ord [0, 1, 2, 3, 4, 5, 6, 7, 8, 9, 10] (fun W => W.cell? ⟨w.heap.size, 2, none⟩ = some (.slice (some ⟨g, off, none⟩) an ac) ∧ W.cell? ⟨g, off + k, none⟩ = some (.int .i64 (fs k)) ∧ W.cell? ⟨g, off + j, none⟩ = some (.int .i64 (fs j))) (by kernel_rfl) (by kernel_rfl) rfl (by kernel_rfl) (fun _ _ _ _ _ h => h) ⟨HXC.out _ HWD.out, HC.out _ HWD.out k hlt, HC.out _ HWD.out j (by omega)⟩ ?_
            repeat (apply held_run rfl (by rfl) (by rfl); (intro w hSw; go_simp; with_reducible rfl); (try simp only [Act.put, List.setIfInBounds_toArray, List.set_cons_zero, List.set_cons_succ]))
            refine held_nil (NoPanic.normal ?_)
            go_wp2_with fail
            go_roundw
            case rel => exact ⟨j + 1, by omega, by go_num, HWD.out, HE2.out⟩
            case measure => simp [intOf]; omega
        · obtain rfl : j = k := by omega
          have HD2 : Hid (∀ a b, b < a → a < j + 1 → fs a ≠ fs b) := fun a b hb ha => by
            rcases Nat.lt_or_ge a j with h | h
            · exact HD.out a b hb h
            · rw [show a = j by omega] at hb ⊢
              exact HE.out b hb
          go_wp2_with fail
          go_roundw
          case rel => exact ⟨j + 1, by omega, by go_num, HWJ.out, HD2.out⟩
          case measure => simp [intOf]; omega
    · obtain rfl : k = an := by omega
      go_wp2_with fail
      go_loopw [7] (fun i wr => ∃ j : Nat, j ≤ k ∧ i = .int .i64 j ∧ Below W1.heap.size W1 wr ∧ Hid (∀ b, b < j → 0 ≤ fs b ∧ fs b < n)) (fun i _ => k - (intOf i).toNat)
      case atStart => exact ⟨0, Nat.zero_le _, rfl, HW.out, fun b h => by omega⟩
      case round =>
        obtain ⟨j, hj, rfl, hw, HE⟩ := hrel
        have HWJ := Lib.hid hw
        have hxc2 := HXC.out _ HWJ.out
        clear hw
        have j0 : (0 : Int) ≤ (j : Int) := by omega
        by_cases hjl : j < k
        · have j2 : (j : Int) < (k : Int) := by omega
          have hcj := HC.out _ HWJ.out j (by omega)
          by_cases hf : fs j < 0
          · go_wp2_with fail
            go_ret
            exact ⟨10, rfl, (fun e => by cases e), HBX.out.trans (HWJ.out.mono HZZ.out)⟩
          by_cases hf2 : (n : Int) ≤ fs j
          · go_wp2_with fail
            go_ret
            exact ⟨10, rfl, (fun e => by cases e), HBX.out.trans (HWJ.out.mono HZZ.out)⟩
          have HE2 : Hid (∀ b, b < j + 1 → 0 ≤ fs b ∧ fs b < n) := fun b hb => by
            rcases Nat.lt_or_ge b j with h | h
            · exact HE.out b h
            · rw [show b = j by omega]
              omega
          go_wp2_with fail
          go_roundw
          case rel => exact ⟨j + 1, by omega, by go_num, HWJ.out, HE2.out⟩
          case measure => simp [intOf]; omega
        · obtain rfl : j = k := by omega
          go_wp2_with fail
          go_ret
          exact ⟨0, rfl, (fun _ => ⟨by have := H12.out.1; omega, by have := H12.out.2; omega, HE.out, fun a b hb ha => HD.out a b hb ha⟩), HBX.out.trans (HWJ.out.mono HZZ.out)⟩
end Go.Proofs.Ythfncgbkigmmcaa
