/- step, Fuse, On; num, block. -/
import Derived.Test.YthdefaodioapbaaDisk
namespace Go.Proofs.Ythdefaodioapbaa
open Go.RowKit

variable {w w' : World} {O R : Nat → Prop} {p : Nat} {d : DS} {gn gf : Nat} {vb : Value} {vs : List Value}

def DS.step (d : DS) : DS := if 0 < d.left then { d with left := d.left - 1, off := d.left - 1 == 0 } else d

set_option maxHeartbeats 400000 in
theorem step_any (h : DiskAt w O R p d gn gf vb vs) (hl : d.left ≤ 9223372036854775807) : Calls Try.prog 33 #[.pointer (some ⟨p, 0, none⟩)] w fun e w' => e = .returned (.int .i64 0) ∧ DiskAt w' O R p d.step gn gf vb vs ∧ Keeps (fun b => b = p) w w' := by
  have c4 := h.c4
  have c3 := h.c3
  have f4 := h.fr 4
  have f3 := h.fr 3
  have HD := Lib.hid h
  unfold DS.step
  by_cases h0 : 0 < d.left
  · rw [if_pos h0]
    clear h
    generalize hL : d.left = L at *
    have HL := Lib.hid hL
    clear hL
    go_enter Try.func33, Try.ntmps33
    go_wp2_with fail
    go_ret
    refine ⟨rfl, HD.out.turn (((Keeps.refl (fun b => b = p) w).setCell ⟨p, 4, none⟩ _ (.inl rfl)).setCell ⟨p, 3, none⟩ _ (.inl rfl)) _ _ ?_, (((Keeps.refl (fun b => b = p) w).setCell ⟨p, 4, none⟩ _ (.inl rfl)).setCell ⟨p, 3, none⟩ _ (.inl rfl))⟩
    rw [heap_setCell_same _ p 3 _ 63 _ (heap_setCell_same w p 4 _ 63 _ HD.out.cell)]
    rfl
  · rw [if_neg h0]
    have h0' : d.left ≤ 0 := by omega
    clear h h0
    generalize hL : d.left = L at *
    clear hL
    go_enter Try.func33, Try.ntmps33
    go_wp2_with fail
    go_ret
    exact ⟨rfl, HD.out, Keeps.refl _ _⟩

set_option maxHeartbeats 400000 in
theorem fuse_any (h : DiskAt w O R p d gn gf vb vs) (s : Int) (hs : -1 ≤ s) (ho : d.off = false) : Calls Try.prog 20 #[.pointer (some ⟨p, 0, none⟩), .int .i64 s] w fun e w' => e = .returned (.int .i64 0) ∧ DiskAt w' O R p { d with left := s, off := s == 0 } gn gf vb vs ∧ Keeps (fun b => b = p) w w' := by
  have c4 := h.c4
  have c3 := h.c3
  have f4 := h.fr 4
  have f3 := h.fr 3
  have HD := Lib.hid h
  rw [ho] at c3
  clear h
  generalize hL : d.left = L at *
  clear hL
  have hs' : ¬ s < -1 := by omega
  go_enter Try.func20, Try.ntmps20
  go_wp2_with fail
  go_ret
  refine ⟨rfl, HD.out.turn (((Keeps.refl (fun b => b = p) w).setCell ⟨p, 4, none⟩ _ (.inl rfl)).setCell ⟨p, 3, none⟩ _ (.inl rfl)) _ _ ?_, (((Keeps.refl (fun b => b = p) w).setCell ⟨p, 4, none⟩ _ (.inl rfl)).setCell ⟨p, 3, none⟩ _ (.inl rfl))⟩
  rw [heap_setCell_same _ p 3 _ 63 _ (heap_setCell_same w p 4 _ 63 _ HD.out.cell)]
  rfl
set_option maxHeartbeats 400000 in
theorem fuse_bad (p : Nat) (w : World) (s : Int) (hs : s < -1) : Calls Try.prog 20 #[.pointer (some ⟨p, 0, none⟩), .int .i64 s] w fun e w' => e = .returned (.int .i64 1) ∧ w = w' := by
  go_enter Try.func20, Try.ntmps20
  go_wp2_with fail
  go_ret
  exact ⟨rfl, rfl⟩
set_option maxHeartbeats 400000 in
theorem fuse_off (h : DiskAt w O R p d gn gf vb vs) (s : Int) (hs : -1 ≤ s) (ho : d.off = true) : Calls Try.prog 20 #[.pointer (some ⟨p, 0, none⟩), .int .i64 s] w fun e w' => e = .returned (.int .i64 11) ∧ w = w' := by
  have c3 := h.c3
  rw [ho] at c3
  clear h
  have hs' : ¬ s < -1 := by omega
  go_enter Try.func20, Try.ntmps20
  go_wp2_with fail
  go_ret
  exact ⟨rfl, rfl⟩
set_option maxHeartbeats 400000 in
theorem on_any (h : DiskAt w O R p d gn gf vb vs) : Calls Try.prog 21 #[.pointer (some ⟨p, 0, none⟩)] w fun e w' => e = .returned (.bool !d.off) ∧ w = w' := by
  have c3 := h.c3
  clear h
  generalize d.off = o at *
  go_enter Try.func21, Try.ntmps21
  go_wp2_with fail
  go_ret
  exact ⟨rfl, rfl⟩
set_option maxHeartbeats 400000 in
theorem num_any (e : Int) (w : World) : Calls Try.prog 17 #[.int .i64 e] w fun x w' => x = .returned (.int .i64 e) ∧ w = w' := by
  go_enter Try.func17, Try.ntmps17
  go_wp2
  go_ret
  exact ⟨rfl, rfl⟩

theorem info5 : (Try.prog.info? 5).map (fun i => (i.zero, i.size, i.bytes)) = some (some (.int .u8 0), 1, 1) := by kernel_rfl
/-- Byte k of the law's block of a number. -/
def blkI (n : Int) (k : Nat) : Int := wrap64 (n + wrap64 ((k : Int) * bits .or .i64 n 1) / 8) % 256
def blkTo (n : Int) : Nat → Bs
  | 0 => List.replicate 512 0
  | k + 1 => (blkTo n k).set k (UInt8.ofNat (blkI n k).toNat)
def blk (n : Int) : Bs := blkTo n 512
theorem blkTo_length (n : Int) : ∀ k, (blkTo n k).length = 512
  | 0 => List.length_replicate
  | k + 1 => by rw [blkTo, List.length_set, blkTo_length n k]
theorem blk_length (n : Int) : (blk n).length = 512 := blkTo_length n 512
theorem blkI_u8 (n : Int) (k : Nat) : Value.int .u8 (blkI n k) = u8 (UInt8.ofNat (blkI n k).toNat) := by
  have h : 0 ≤ blkI n k ∧ blkI n k < 256 := by unfold blkI; omega
  unfold u8
  congr 1
  rw [UInt8.toNat_ofNat']
  omega
theorem RowAt.set {w : World} {g off n cap k : Nat} {u : Value} {cs : List Value} (h : RowAt w (.slice (some ⟨g, off, none⟩) n cap) cs) (hk : k < cs.length) :
    RowAt (w.setCell ⟨g, off + k, none⟩ u) (.slice (some ⟨g, off, none⟩) n cap) (cs.set k u) := by
  rcases h with ⟨h, _⟩ | ⟨g', off', cap', h, hc, hcell⟩
  · cases h
  · simp only [Value.slice.injEq, Option.some.injEq, Addr.mk.injEq] at h
    obtain ⟨⟨rfl, rfl, _⟩, rfl, rfl⟩ := h
    refine .inr ⟨g, off, cap, by simp, by simpa using hc, fun i v hi => ?_⟩
    by_cases e : i = k
    · subst e
      have hs := hcell i cs[i] (by simp [hk])
      rw [World.cell?_setCell_same' _ _ _ (by rw [hs]; rfl)]
      rw [List.getElem?_set_self hk] at hi
      exact hi
    · rw [World.cell?_setCell_other (h := by intro e'; have := congrArg Addr.off e'; simp at this; omega)]
      rw [List.getElem?_set_ne (Ne.symm e)] at hi
      exact hcell i v hi
theorem RowAt.cell {w : World} {g off n cap k : Nat} {cs : List Value} (h : RowAt w (.slice (some ⟨g, off, none⟩) n cap) cs) (hk : k < cs.length) : w.cell? ⟨g, off + k, none⟩ = some cs[k] := by
  rcases h with ⟨h, _⟩ | ⟨g', off', cap', h, hc, hcell⟩
  · cases h
  · simp only [Value.slice.injEq, Option.some.injEq, Addr.mk.injEq] at h
    obtain ⟨⟨rfl, rfl, _⟩, rfl, rfl⟩ := h
    exact hcell k cs[k] (by simp [hk])

set_option maxHeartbeats 800000 in
theorem block_any (n : Int) (w : World) : Calls Try.prog 14 #[.int .i64 n] w fun e w' => e = .returned (.slice (some ⟨w.heap.size, 0, none⟩) 512 512) ∧ Bytes w' (.slice (some ⟨w.heap.size, 0, none⟩) 512 512) (blk n) ∧ Below w.heap.size w w' := by
  obtain ⟨i0, hi, hz0, hz1, hz2⟩ := info_parts info5
  have M1 : Hid (i0.bytes * 512 ≤ 281474976710656) := by show i0.bytes * 512 ≤ _; rw [hz2]; omega
  have M2 : Hid (512 ≤ maxLen) := by show 512 ≤ maxLen; unfold maxLen; omega
  go_enter Try.func14, Try.ntmps14
  go_wp2_with (at_make; refine wpList_make_full _ rfl (.const (.int .i64 512)) (.const (.int .i64 512)) 29 rfl w.heap.size 5 i0 (.int .u8 0) 1 Try.underlying29 hi hz0 hz1 .i64 .i64 _ _ 512 rfl rfl rfl rfl M1.out M2.out (Nat.le_refl _) ?_)
  intro w2 hown hgrow
  have hmc : (madeCells #[Value.int .u8 0] 512).toList = u8s (blkTo n 0) := by
    rw [toList_madeCells_one]
    unfold blkTo u8s
    rw [List.map_replicate]
    rfl
  rw [hmc] at hown
  have hrow : RowAt w2 (.slice (some ⟨w.heap.size, 0, none⟩) 512 512) (u8s (blkTo n 0)) := RowAt.of_owns hown
  have hfz : ∀ i, w2.frozen? ⟨w.heap.size, i, none⟩ = false := fun i => by
    rcases hown.2 with ⟨h, _⟩ | ⟨g', cap', cur, h, _, hg, _⟩
    · cases h
    · cases h; exact frozen_of_row w2 _ _ _ _ hg
  have hbel : Below w.heap.size w w2 := (Below.refl _ _).grown hgrow (Nat.le_refl _) (by simp)
  have HROW := Lib.hid hrow
  have HFZ := Lib.hid hfz
  have HBEL := Lib.hid hbel
  clear hown hgrow hmc hrow hfz hbel
  go_wp2_with fail
  go_loopw [4] (fun i wr => ∃ k : Nat, k ≤ 512 ∧ i = .int .i64 k ∧ RowAt wr (.slice (some ⟨w.heap.size, 0, none⟩) 512 512) (u8s (blkTo n k)) ∧ (∀ i, wr.frozen? ⟨w.heap.size, i, none⟩ = false) ∧ Below w.heap.size w wr) (fun i _ => 512 - (intOf i).toNat)
  case atStart => exact ⟨0, by omega, rfl, HROW.out, HFZ.out, HBEL.out⟩
  case round =>
    obtain ⟨k, hk, rfl, hc, hf, hb⟩ := hrel
    by_cases hlt : k < 512
    · have hlk : k < (u8s (blkTo n k)).length := by rw [u8s_length, blkTo_length]; exact hlt
      have hcl := RowAt.cell hc hlk
      rw [Nat.zero_add] at hcl
      have hu : ∃ u : Int, (u8s (blkTo n k))[k] = .int .u8 u := ⟨_, List.getElem_map _⟩
      obtain ⟨u, hu⟩ := hu
      rw [hu] at hcl
      have hfu := hf k
      have hst := RowAt.set (u := .int .u8 (blkI n k)) hc hlk
      have hse : (u8s (blkTo n k)).set k (.int .u8 (blkI n k)) = u8s (blkTo n (k + 1)) := by
        rw [blkI_u8, blkTo]
        unfold u8s
        rw [List.map_set]
      rw [hse, Nat.zero_add] at hst
      have HST := Lib.hid hst
      have HF := Lib.hid hf
      have HB := Lib.hid hb
      clear hc hf hb hst hse hu hlk
      have k0 : (0 : Int) ≤ (k : Int) := by omega
      have k1 : (k : Int) < 512 := by omega
      go_wp2_with fail
      go_roundw
      case rel => exact ⟨k + 1, by omega, by go_num, HST.out, fun i => by rw [World.frozen?_setCell]; exact HF.out i, HB.out.setCell (Nat.le_refl _) _⟩
      case measure => simp [intOf]; omega
    · have hke : k = 512 := by omega
      subst hke
      go_wp2_with fail
      go_ret
      exact ⟨rfl, hc, hb⟩
end Go.Proofs.Ythdefaodioapbaa
