/- The law's block. -/
import Derived.Test.YthfncgbkigmmcaaL18
namespace Go.Proofs.Ythfncgbkigmmcaa
open Go.RowKit

variable {w w' w1 wr : World} {O R O1 R1 : Nat → Prop} {lp p : Nat} {d D : DS} {dead dead1 : Bool}
/-- Byte k of the law's block of a number. -/
def blkI (n : Int) (k : Nat) : Int := wrap64 (n / 2 ^ min (IntKind.u64.wrap (wrap64 (8 * bits BinOp.and IntKind.i64 (k : Int) 3))).toNat 64 + wrap64 ((k : Int) * bits .or .i64 n 1) / 16) % 256
def blkTo (n : Int) : Nat → Bs
  | 0 => List.replicate 512 0
  | k + 1 => (blkTo n k).set k (UInt8.ofNat (blkI n k).toNat)
def blk (n : Int) : Bs := if n = 0 then zeroB else blkTo n 512
theorem blkTo_length (n : Int) : ∀ k, (blkTo n k).length = 512
  | 0 => List.length_replicate
  | k + 1 => by rw [blkTo, List.length_set, blkTo_length n k]
theorem blk_length (n : Int) : (blk n).length = 512 := by
  unfold blk
  split
  · exact zeroB_length
  · exact blkTo_length n 512
theorem blkI_u8 (n : Int) (k : Nat) : Value.int .u8 (blkI n k) = u8 (UInt8.ofNat (blkI n k).toNat) := by
  have h : 0 ≤ blkI n k ∧ blkI n k < 256 := by unfold blkI; omega
  unfold u8
  congr 1
  rw [UInt8.toNat_ofNat']
  omega
set_option maxHeartbeats 800000 in
theorem block_any (n : Int) (w : World) : Calls Try.prog 18 #[.int .i64 n] w fun e w' => e = .returned (.slice (some ⟨w.heap.size, 0, none⟩) 512 512) ∧ Bytes w' (.slice (some ⟨w.heap.size, 0, none⟩) 512 512) (blk n) ∧ Below w.heap.size w w' := by
  obtain ⟨i0, hi, hz0, hz1, hz2⟩ := info_parts info5
  have M1 : Hid (i0.bytes * 512 ≤ 281474976710656) := by show i0.bytes * 512 ≤ _; rw [hz2]; omega
  have M2 : Hid (512 ≤ maxLen) := by show 512 ≤ maxLen; unfold maxLen; omega
  go_enter Try.func18, Try.ntmps18
  go_wp2_with (at_make; refine wpList_make_full _ rfl (.const (.int .i64 512)) (.const (.int .i64 512)) 24 rfl w.heap.size 5 i0 (.int .u8 0) 1 Try.underlying24 hi hz0 hz1 .i64 .i64 _ _ 512 rfl rfl rfl rfl M1.out M2.out (Nat.le_refl _) ?_)
  intro w2 hown hgrow
  have hmc : (madeCells #[Value.int .u8 0] 512).toList = u8s (blkTo n 0) := by
    rw [toList_madeCells_one]
    unfold blkTo u8s
    rw [List.map_replicate]
    rfl
  rw [hmc] at hown
  have hrow : RowAt w2 (.slice (some ⟨w.heap.size, 0, none⟩) 512 512) (u8s (blkTo n 0)) := RowAt.of_owns hown
  have hfz : ∀ i, w2.frozen? ⟨w.heap.size, i, none⟩ = false := fun i => by
    rcases hown.2 with ⟨h, _⟩ | ⟨g', cap', cur, h, _, hg, _⟩
    · cases h
    · cases h; exact frozen_of_row w2 _ _ _ _ hg
  have hbel : Below w.heap.size w w2 := (Below.refl _ _).grown hgrow (Nat.le_refl _) (by simp)
  have HROW := Lib.hid hrow
  have HFZ := Lib.hid hfz
  have HBEL := Lib.hid hbel
  clear hown hgrow hmc hrow hfz hbel
  by_cases hn0 : n = 0
  · subst hn0
    go_wp2_with fail
    refine wp_loop_rounds 1 ?_
    rw [rounds_succ]
    go_wp2_with fail
    go_ret
    have : blk 0 = blkTo 0 0 := rfl
    exact ⟨rfl, this ▸ HROW.out, HBEL.out⟩
  have hne : (n != 0) = true := by simpa using hn0
  have HN0 := Lib.hid hn0
  clear hn0
  go_wp2_with fail
  go_loopw [4] (fun i wr => ∃ k : Nat, k ≤ 512 ∧ i = .int .i64 k ∧ RowAt wr (.slice (some ⟨w.heap.size, 0, none⟩) 512 512) (u8s (blkTo n k)) ∧ (∀ i, wr.frozen? ⟨w.heap.size, i, none⟩ = false) ∧ Below w.heap.size w wr) (fun i _ => 512 - (intOf i).toNat)
  case atStart => exact ⟨0, by omega, rfl, HROW.out, HFZ.out, HBEL.out⟩
  case round =>
    obtain ⟨k, hk, rfl, hc, hf, hb⟩ := hrel
    by_cases hlt : k < 512
    · have hlk : k < (u8s (blkTo n k)).length := by rw [u8s_length, blkTo_length]; exact hlt
      have hcl := RowAt.cell hc hlk
      rw [Nat.zero_add] at hcl
      have hu : ∃ u : Int, (u8s (blkTo n k))[k] = .int .u8 u := ⟨_, List.getElem_map _⟩
      obtain ⟨u, hu⟩ := hu
      rw [hu] at hcl
      have hfu := hf k
      have hst := RowAt.set (u := .int .u8 (blkI n k)) hc hlk
      have hse : (u8s (blkTo n k)).set k (.int .u8 (blkI n k)) = u8s (blkTo n (k + 1)) := by
        rw [blkI_u8, blkTo]
        unfold u8s
        rw [List.map_set]
      rw [hse, Nat.zero_add] at hst
      have HST := Lib.hid hst
      have HF := Lib.hid hf
      have HB := Lib.hid hb
      clear hc hf hb hst hse hu hlk
      have k0 : (0 : Int) ≤ (k : Int) := by omega
      have k1 : (k : Int) < 512 := by omega
      go_wp2_with fail
      go_roundw
      case rel => exact ⟨k + 1, by omega, by go_num, HST.out, fun i => by rw [World.frozen?_setCell]; exact HF.out i, HB.out.setCell (Nat.le_refl _) _⟩
      case measure => simp [intOf]; omega
    · have hke : k = 512 := by omega
      subst hke
      go_wp2_with fail
      go_ret
      have : blk n = blkTo n 512 := if_neg HN0.out
      exact ⟨rfl, this ▸ hc, hb⟩
end Go.Proofs.Ythfncgbkigmmcaa
