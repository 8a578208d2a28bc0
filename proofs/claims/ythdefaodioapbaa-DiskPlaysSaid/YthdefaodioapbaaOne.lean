/- DiskOne. -/
import Derived.Test.YthdefaodioapbaaDisk10
namespace Go.Proofs.Ythdefaodioapbaa
open Go.RowKit

variable {w w' : World} {p B : Nat} {d : DS}

attribute [local irreducible] blk
theorem zeros_u8s' (n : Nat) : (madeCells #[Value.int .u8 0] n).toList = u8s (List.replicate n 0) := by rw [made_u8s]
/-- so many writes to block 2 -/
def oneNow : Nat → Bs
  | 0 => (DS.new 6).now
  | k + 1 => putAt (oneNow k) 2 (blk ((k : Int) + 1))
def oneD (k : Nat) : DS := { DS.new 6 with back := (List.range k).map (fun i : Nat => (2, blk ((i : Int) + 1))), now := oneNow k }
theorem oneD_write (k : Nat) : (oneD k).write 2 (blk ((k : Int) + 1)) = oneD (k + 1) := by
  rw [DS.write_never _ _ _ (by show (-1 : Int) ≤ 0; decide)]
  unfold oneD
  simp only [List.range_succ, List.map_append, List.map_cons, List.map_nil]
  rfl
/-- the last one that is kept -/
def lastK (kb : Nat → Bool) : Nat → Nat
  | 0 => 0
  | k + 1 => if kb k = true then k + 1 else lastK kb k
theorem oneD_len (k : Nat) : (oneD k).back.length = k := by simp [oneD]
theorem one_kept (n : Nat) (kb : Nat → Bool) : ∀ (k : Nat) (h : k ≤ (oneD n).back.length),
    blockAt (layAll (oneD n).fast (selI (oneD n) kb (uptoI (oneD n).back.length k h))) 2 = if lastK kb k = 0 then List.replicate 512 0 else blk (lastK kb k)
  | 0, _ => by
    show blockAt (List.replicate (512 * 6) 0) 2 = List.replicate 512 0
    unfold blockAt
    rw [List.drop_replicate, List.take_replicate, show min 512 (512 * 6 - 512 * 2) = 512 from by decide]
  | k + 1, h => by
    have hk : k < n := by rw [oneD_len] at h; omega
    have hb : (oneD n).back[k]'(Nat.lt_of_succ_le h) = (2, blk ((k : Int) + 1)) := by simp [oneD]
    have hfast : (oneD n).fast.length = 512 * 6 := new_fast 6
    have heach : ∀ y ∈ (oneD n).back, y.1 < 6 ∧ y.2.length = 512 := fun y hy => by
      have hy : y ∈ (List.range n).map (fun i : Nat => ((2 : Nat), blk ((i : Int) + 1))) := hy
      rw [List.mem_map] at hy
      obtain ⟨i, _, he⟩ := hy
      rw [← he]
      exact ⟨by show 2 < 6; omega, blk_length ((i : Int) + 1)⟩
    have hfl : (layAll (oneD n).fast (selI (oneD n) kb (uptoI (oneD n).back.length k (Nat.le_of_succ_le h)))).length = 512 * 6 := layAll_length _ hfast (selI_each (P := fun x => x.1 < 6 ∧ x.2.length = 512) _ _ _ heach)
    unfold uptoI lastK
    by_cases hc : kb k = true
    · rw [selI_yes _ _ _ _ hc, layAll_snoc, if_pos hc, if_neg (by omega)]
      show blockAt (putAt _ ((oneD n).back[k]'(Nat.lt_of_succ_le h)).1 ((oneD n).back[k]'(Nat.lt_of_succ_le h)).2) 2 = _
      rw [hb]
      show blockAt (putAt _ 2 (blk ((k : Int) + 1))) 2 = _
      have e1 := blockAt_put (k := 2) (n := 6) hfl (by omega) (blk_length ((k : Int) + 1))
      rw [e1]
      exact congrArg blk (by omega)
    · have hc' : kb k = false := by simpa using hc
      rw [selI_no _ _ _ _ hc', if_neg hc]
      exact one_kept n kb k _
theorem one_end (n : Nat) (kb : Nat → Bool) : blockAt ((oneD n).crash kb).now 2 = if lastK kb n = 0 then List.replicate 512 0 else blk (lastK kb n) := by
  have := one_kept n kb (oneD n).back.length (Nat.le_refl _)
  have e : lastK kb (oneD n).back.length = lastK kb n := by rw [oneD_len]
  rw [e] at this
  exact this
theorem lastK_le (kb : Nat → Bool) : ∀ k, lastK kb k ≤ k
  | 0 => Nat.le_refl _
  | k + 1 => by unfold lastK; split; exact Nat.le_refl _; have := lastK_le kb k; omega
theorem lastK_stop (kn : Nat) (ks : Nat → Int) (n : Nat) : ∀ k, kn ≤ k → lastK (keepB kn ks) k = lastK (keepB kn ks) kn
  | 0, h => by
    have e : kn = 0 := by omega
    rw [e]
  | k + 1, h => by
    rcases Nat.lt_or_ge k kn with h1 | h1
    · have e : kn = k + 1 := by omega
      rw [e]
    · rw [lastK, if_neg (by simp [keepB]; omega)]
      exact lastK_stop kn ks n k h1

set_option maxHeartbeats 4000000 in
theorem one_in (ka : Option Addr) (kn kcap : Nat) (ks : Nat → Int) (n : Nat) (w : World) (hkeep : IntsAt w ka kn ks) (hka : ∀ x, ka = some x → 0 < kn → x.block < w.heap.size) (hn : n ≤ 40) (hkn : kn ≤ 80) :
    Calls Try.prog 3 #[.slice ka kn kcap, .int .i64 n] w fun e w' => e = .returned (.bool true) ∧ Below w.heap.size w w' := by
  have hn1 : (n : Int) ≤ 40 := by omega
  have hn0 : (0 : Int) ≤ (n : Int) := by omega
  have hk1 : (kn : Int) ≤ 80 := by omega
  have HKEEP := Lib.hid hkeep
  have HKA := Lib.hid hka
  have HNN := Lib.hid hn
  have HKN := Lib.hid hkn
  clear hkeep hka hn hkn
  go_enter Try.func3, Try.ntmps3
  go_wp2_with fail
  refine (alive_any _).mono ?_
  rintro e w0 ⟨rfl, hb0⟩
  have HB0 := Lib.hid hb0
  clear hb0
  go_wp2_with fail
  refine (new_in 6 _ (by omega) (by omega)).mono ?_
  rintro e w1 ⟨p, rfl, hd1, hb1⟩
  have HD1 : Hid (DiskIn w1 w0.heap.size p (oneD 0)) := hd1
  have HB1 : Hid (Below w.heap.size w w1) := HB0.out.trans (hb1.mono HB0.out.size)
  have HZ1 := Lib.hid hb1.size
  have HWB : Hid (w.heap.size ≤ w0.heap.size) := HB0.out.size
  clear hd1 hb1 HB0
  generalize w0.heap.size = B at *
  go_wp2_with fail
  go_loopw [8] (fun i wr => ∃ k : Nat, k ≤ n ∧ i = .int .i64 k ∧ DiskIn wr B p (oneD k) ∧ Below w.heap.size w wr ∧ B ≤ wr.heap.size) (fun i _ => n - (intOf i).toNat)
  case atStart => exact ⟨0, by omega, rfl, HD1.out, HB1.out, HZ1.out⟩
  case round =>
    obtain ⟨k, hk, rfl, hd, hb, hz⟩ := hrel
    have HD := Lib.hid hd
    have HB := Lib.hid hb
    have HZ := Lib.hid hz
    clear hd hb hz
    by_cases hlt : k < n
    · have k0 : (0 : Int) ≤ (k : Int) := by omega
      have k1 : (k : Int) < (n : Int) := by omega
      go_wp2_with fail
      refine (block_any _ _).mono ?_
      rintro e w2 ⟨rfl, hx2, hb2⟩
      have hlt2 : wr.heap.size < w2.heap.size := RowAt.lt hx2 (by intro h; have := congrArg List.length h; rw [u8s_length, blk_length] at this; cases this) _ rfl
      have H3 := Lib.hid (write_in HD.out wr.heap.size 512 (Nat.le_refl _) hb2 hlt2 HZ.out 2 (by show 2 < 6; decide) rfl (by show (-1 : Int) ≤ _; decide) (by rw [oneD_len]; have := HNN.out; omega) _ hx2 (blk_length _))
      rw [oneD_write] at H3
      have HB2 : Hid (Below w.heap.size w w2) := HB.out.trans (hb2.mono HB.out.size)
      have HZ2 : Hid (B ≤ w2.heap.size) := Nat.le_trans HZ.out hb2.size
      clear hx2 hb2 hlt2 HB HZ HD
      go_wp2_with fail
      refine (H3.out).mono ?_
      rintro e w3 ⟨rfl, hd3, hb3⟩
      have HD3 := Lib.hid hd3
      have HB3 : Hid (Below w.heap.size w w3) := HB2.out.trans (hb3.mono HWB.out)
      have HZ3 : Hid (B ≤ w3.heap.size) := Nat.le_trans HZ2.out hb3.size
      clear hd3 hb3 H3
      go_wp2_with fail
      go_roundw
      case rel => exact ⟨k + 1, by omega, by go_num, HD3.out, HB3.out, HZ3.out⟩
      case measure => simp [intOf]; omega
    · obtain rfl : k = n := by omega
      clear HD1 HB1 HZ1
      go_wp2_with fail
      go_loopw [9, 10] (fun l i wq => ∃ j : Nat, (j ≤ k ∧ j ≤ kn) ∧ i = .int .i64 j ∧ l = .int .i64 (lastK (keepB kn ks) j : Int) ∧ wq = wr) (fun _ i _ => k - (intOf i).toNat)
      case atStart => exact ⟨0, ⟨by omega, by omega⟩, rfl, rfl, rfl⟩
      case round =>
        obtain ⟨j, ⟨hj1, hj2⟩, rfl, rfl, rfl⟩ := hrel
        have j0 : (0 : Int) ≤ (j : Int) := by omega
        by_cases hgo : j < k ∧ j < kn
        · obtain ⟨hjk, hjn⟩ := hgo
          have j1 : (j : Int) < (k : Int) := by omega
          have j2 : (j : Int) < (kn : Int) := by omega
          have hcell : ∃ g off, ka = some ⟨g, off, none⟩ ∧ wr.cell? ⟨g, off + j, none⟩ = some (.int .i64 (ks j)) := by
            rcases HKEEP.out.2 with h0 | ⟨g, off, rfl, hc⟩
            · omega
            · exact ⟨g, off, rfl, (HB.out.cell (p := ⟨g, off + j, none⟩) (World.block_lt_of_cell? _ _ (hc j hjn))).trans (hc j hjn)⟩
          obtain ⟨g, off, rfl, hcell⟩ := hcell
          by_cases hpos : 0 < ks j
          · have e : lastK (keepB kn ks) (j + 1) = j + 1 := by rw [lastK, if_pos (by simp [keepB, hjn, hpos])]
            have HE := Lib.hid e
            clear e
            go_wp2_with fail
            go_roundw
            case rel => exact ⟨j + 1, ⟨by omega, by omega⟩, by go_num, by rw [HE.out]; go_num, trivial⟩
            case measure => simp [intOf]; omega
          · have e : lastK (keepB kn ks) (j + 1) = lastK (keepB kn ks) j := by rw [lastK, if_neg (by simp [keepB, hpos])]
            have HE := Lib.hid e
            have hpos' : ks j ≤ 0 := by omega
            clear e hpos
            go_wp2_with fail
            go_roundw
            case rel => exact ⟨j + 1, ⟨by omega, by omega⟩, by go_num, by rw [HE.out], trivial⟩
            case measure => simp [intOf]; omega
        · have e : lastK (keepB kn ks) j = lastK (keepB kn ks) k := by
            rcases Nat.lt_or_ge j k with h1 | h1
            · have h2 : kn ≤ j := by omega
              rw [lastK_stop kn ks 0 k (by omega), lastK_stop kn ks 0 j h2]
            · have h2 : j = k := by omega
              rw [h2]
          have hend : blockAt ((oneD k).crash (keepB kn ks)).now 2 = if lastK (keepB kn ks) j = 0 then List.replicate 512 0 else blk (lastK (keepB kn ks) j) := by rw [e]; exact one_end k _
          have hle : lastK (keepB kn ks) j ≤ 40 := by have := lastK_le (keepB kn ks) j; have := HNN.out; omega
          have HC := Lib.hid (crash_in HD.out HZ.out ka kn kcap ks ⟨HKEEP.out.1, HKEEP.out.2.imp id (fun ⟨g, off, h1, h2⟩ => ⟨g, off, h1, fun i hi => (HB.out.cell (p := ⟨g, off + i, none⟩) (World.block_lt_of_cell? _ _ (h2 i hi))).trans (h2 i hi)⟩)⟩ (fun x hx h0 => Nat.lt_of_lt_of_le (HKA.out x hx h0) HWB.out))
          have HEND := Lib.hid hend
          have HT := Lib.hid (show j = k ∨ (j < k ∧ kn ≤ j) by omega)
          obtain ⟨i0, hi, hz0, hz1, hz2⟩ := info_parts info5
          have HI := Lib.hid (And.intro hi (And.intro hz0 hz1))
          have M1 : Hid (i0.bytes * 512 ≤ 281474976710656) := by show i0.bytes * 512 ≤ _; rw [hz2]; omega
          have M2 : Hid (512 ≤ maxLen) := by show 512 ≤ maxLen; unfold maxLen; omega
          have l0 : (0 : Int) ≤ (lastK (keepB kn ks) j : Int) := by omega
          have l1 : (lastK (keepB kn ks) j : Int) ≤ 40 := by omega
          have HLE := Lib.hid hle
          have HDN : Hid (2 < ((oneD k).crash (keepB kn ks)).n) := by show 2 < 6; omega
          have HDO : Hid (((oneD k).crash (keepB kn ks)).off = false) := rfl
          clear hgo e hend hle HKEEP HKA HD hi hz0 hz1 hz2
          generalize lastK (keepB kn ks) j = L at *
          generalize (oneD k).crash (keepB kn ks) = dc at *
          have HTT := HT.out
          clear HT
          rcases HTT with rfl | ⟨h1, h2⟩
          all_goals
            try have h1' : (j : Int) < (k : Int) := by omega
            try have h2' : (kn : Int) ≤ (j : Int) := by omega
            go_wp2_with fail
            refine (HC.out).mono ?_
            rintro e w2 ⟨⟨v, rfl⟩, hd2, hb2⟩
            have HR := Lib.hid (read_in hd2 2 HDN.out HDO.out)
            rw [HEND.out] at HR
            have HB2 : Hid (Below w.heap.size w w2) := HB.out.trans (hb2.mono HWB.out)
            clear hd2 hb2 HB HC
            go_wp2_with fail
            refine (HR.out).mono ?_
            rintro e w3 ⟨g, cap, rfl, hx3, _, _, _, hb3⟩
            have HX3 := Lib.hid hx3
            have HB3 : Hid (Below w.heap.size w w3) := HB2.out.trans (hb3.mono HB2.out.size)
            clear hx3 hb3 HB2 HR
            go_wp2_with (at_make; refine wpList_make_full _ rfl (.const (.int .i64 512)) (.const (.int .i64 512)) 29 rfl w3.heap.size 5 i0 (.int .u8 0) 1 Try.underlying29 HI.out.1 HI.out.2.1 HI.out.2.2 .i64 .i64 _ _ 512 rfl rfl rfl rfl M1.out M2.out (Nat.le_refl _) ?_)
            intro w4 hown4 hgr4
            have hb4 : Below w3.heap.size w3 w4 := (Below.refl _ _).grown hgr4 (Nat.le_refl _) (by simp)
            rw [zeros_u8s'] at hown4
            have hx4 : Bytes w4 (.slice (some ⟨w3.heap.size, 0, none⟩) 512 512) (List.replicate 512 0) := RowAt.of_owns hown4
            have HX34 : Hid (Bytes w4 (.slice (some ⟨g, 0, none⟩) 512 cap) (if L = 0 then List.replicate 512 0 else blk (L : Int))) := RowAt.below HX3.out hb4 (Nat.le_refl _)
            have HX4 := Lib.hid hx4
            have HB4 : Hid (Below w.heap.size w w4) := HB3.out.trans (hb4.mono HB3.out.size)
            clear hown4 hgr4 hb4 hx4 HX3 HB3
            by_cases hL : L = 0
            · subst hL
              have hc1 := run_string_of w4 29 5 Try.underlying29 Try.underlying5 HX34.out 9 Try.underlying9
              have hc2 := run_string_of w4 29 5 Try.underlying29 Try.underlying5 HX4.out 9 Try.underlying9
              rw [if_pos rfl] at hc1
              generalize List.replicate 512 (0 : UInt8) = zz at *
              go_wp2_with fail
              refine (num_any _ _).mono ?_
              rintro e w5 ⟨rfl, rfl⟩
              go_wp2_with fail
              go_ret
              exact ⟨rfl, HB4.out⟩
            · have l2 : (0 : Int) < (L : Int) := by omega
              rw [if_neg hL] at HX34
              clear hL
              go_wp2_with fail
              refine (block_any _ _).mono ?_
              rintro e w5 ⟨rfl, hx5, hb5⟩
              have hc1 := run_string_of w5 29 5 Try.underlying29 Try.underlying5 (RowAt.below HX34.out hb5 (Nat.le_refl _)) 9 Try.underlying9
              have hc2 := run_string_of w5 29 5 Try.underlying29 Try.underlying5 hx5 9 Try.underlying9
              have HB5 : Hid (Below w.heap.size w w5) := HB4.out.trans (hb5.mono HB4.out.size)
              clear hx5 hb5 HX34 HB4
              generalize w4.heap.size = q at *
              generalize blk (L : Int) = zz at *
              go_wp2_with fail
              refine (num_any _ _).mono ?_
              rintro e w6 ⟨rfl, rfl⟩
              go_wp2_with fail
              go_ret
              exact ⟨rfl, HB5.out⟩

set_option maxHeartbeats 800000 in
theorem one_out (ka : Option Addr) (kn kcap : Nat) (n : Int) (w : World) (h : n < 0 ∨ (0 ≤ n ∧ 40 < n) ∨ (0 ≤ n ∧ n ≤ 40 ∧ (80 : Int) < (kn : Int))) :
    Calls Try.prog 3 #[.slice ka kn kcap, .int .i64 n] w fun e w' => e = .returned (.bool true) ∧ Below w.heap.size w w' := by
  rcases h with h | ⟨h1, h⟩ | ⟨h1, h2, h⟩
  all_goals
    go_enter Try.func3, Try.ntmps3
    go_wp2_with fail
    refine (alive_any _).mono ?_
    rintro e w1 ⟨rfl, hb1⟩
    go_wp2_with fail
    go_ret
    exact ⟨rfl, hb1⟩
theorem ints_of_row {w : World} {a : Option Addr} {len cap : Nat} {zs : List Int} (h : RowIn .i64 w a len cap zs) (hl : len ≤ 1000000000000) : IntsAt w a len (fun i => zs.getD i 0) ∧ ∀ x, a = some x → 0 < len → x.block < w.heap.size := by
  rcases h with ⟨rfl, rfl, rfl, rfl⟩ | ⟨x, rfl, hs, hlc, hm, hz, hcell, hwf⟩
  · exact ⟨⟨hl, .inl rfl⟩, fun x hx => by cases hx⟩
  · obtain ⟨xb, xo, xs⟩ := x
    simp only at hs
    subst hs
    refine ⟨⟨hl, .inr ⟨xb, xo, rfl, fun i hi => ?_⟩⟩, fun x hx h0 => ?_⟩
    · have := hcell i (by omega)
      rw [addr_add] at this
      exact this
    · cases hx
      exact World.block_lt_of_cell? _ _ (hcell 0 (by omega))
theorem one_walk (a0 : Option Addr) (len0 cap0 : Nat) (z0 : List Int) (a1 : Int) (w : World) (w0 : RowIn .i64 w a0 len0 cap0 z0) (_ : (Lit.int .i64 a1).wf = true) :
    Calls Try.prog 3 #[.slice a0 len0 cap0, .int .i64 a1] w fun e w' => e = .returned (.bool true) ∧ Below w.heap.size w w' := by
  by_cases h1 : 0 ≤ a1
  · by_cases h2 : a1 ≤ 40
    · by_cases h3 : len0 ≤ 80
      · obtain ⟨k, rfl⟩ := Int.eq_ofNat_of_zero_le h1
        obtain ⟨hi, hb⟩ := ints_of_row w0 (by omega)
        exact one_in a0 len0 cap0 _ k w hi hb (by omega) h3
      · exact one_out _ _ _ _ w (.inr (.inr ⟨h1, h2, by omega⟩))
    · exact one_out _ _ _ _ w (.inr (.inl ⟨h1, by omega⟩))
  · exact one_out _ _ _ _ w (.inl (by omega))
end Go.Proofs.Ythdefaodioapbaa
