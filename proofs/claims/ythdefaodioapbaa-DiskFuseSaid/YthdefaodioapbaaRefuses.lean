/- DiskRefuses. -/
import Derived.Test.YthdefaodioapbaaDisk8
namespace Go.Proofs.Ythdefaodioapbaa
open Go.RowKit

variable {w w' : World} {O : Nat → Prop} {p B : Nat} {d : DS}

/-- A write that is refused. -/
theorem write_no (h : DiskIn w B p d) (at_ : Int) (a : Option Addr) (len cap : Nat) (ev : Int) (hv : (d.there at_ = ev ∧ (ev != 0) = true) ∨ (d.there at_ = 0 ∧ len ≠ 512 ∧ ev = 1)) :
    Calls Try.prog 13 #[.pointer (some ⟨p, 0, none⟩), .int .i64 at_, .slice a len cap] w fun e w' => e = .returned (.int .i64 ev) ∧ w = w' := by
  obtain ⟨O, ⟨gn, gf, vb, vs, hd⟩, hO⟩ := h
  rcases hv with ⟨rfl, h2⟩ | ⟨h1, h2, rfl⟩
  · exact write_there hd at_ h2 _
  · exact write_len hd at_ h1 a len cap h2
theorem zeros_u8s (n : Nat) : (madeCells #[Value.int .u8 0] n).toList = u8s (List.replicate n 0) := by rw [made_u8s]

/-- The disk that DiskRefuses asks. -/
def refD : DS := { DS.new 6 with back := [(1, blk 9)], now := putAt (DS.new 6).now 1 (blk 9), left := 1 }

set_option maxHeartbeats 4000000 in
theorem refuses_no (at_ : Int) (L : Nat) (w : World) (hL : L ≤ 2000) (ev : Int) (hw : (ev = 10 ∧ at_ < 0) ∨ (ev = 10 ∧ 0 ≤ at_ ∧ 6 ≤ at_) ∨ (ev = 1 ∧ 0 ≤ at_ ∧ at_ < 6 ∧ L ≠ 512)) :
    Calls Try.prog 5 #[.int .i64 at_, .int .i64 L] w fun e w' => e = .returned (.bool true) ∧ Below w.heap.size w w' := by
  obtain ⟨i0, hi, hz0, hz1, hz2⟩ := info_parts info5
  have HV : Hid ((refD.there at_ = ev ∧ (ev != 0) = true) ∨ (refD.there at_ = 0 ∧ L ≠ 512 ∧ ev = 1)) := by
    have hoff : refD.off = false := rfl
    have hn : (refD.n : Int) = 6 := rfl
    show (refD.there at_ = ev ∧ (ev != 0) = true) ∨ (refD.there at_ = 0 ∧ L ≠ 512 ∧ ev = 1)
    unfold DS.there
    rw [hoff, hn, if_neg (by decide)]
    rcases hw with ⟨rfl, h⟩ | ⟨rfl, h1, h⟩ | ⟨rfl, h1, h2, h3⟩
    · exact .inl ⟨by rw [if_pos (.inl h)], by decide⟩
    · exact .inl ⟨by rw [if_pos (.inr h)], by decide⟩
    · exact .inr ⟨by rw [if_neg (by omega)], h3, rfl⟩
  have M1 : Hid (i0.bytes * L ≤ 281474976710656) := by show i0.bytes * L ≤ _; rw [hz2]; omega
  have M2 : Hid (L ≤ maxLen) := by show L ≤ maxLen; unfold maxLen; omega
  have hL1 : (L : Int) ≤ 2000 := by omega
  have hL0 : (0 : Int) ≤ (L : Int) := by omega
  have hv0 : ev ≠ 0 := by omega
  have HI := Lib.hid (And.intro hi (And.intro hz0 hz1))
  have HW := Lib.hid hw
  clear hi hz0 hz1 hz2 hw
  go_enter Try.func5, Try.ntmps5
  go_wp2_with fail
  refine (alive_any _).mono ?_
  rintro e w0 ⟨rfl, hb0⟩
  have HB0 := Lib.hid hb0
  clear hb0
  go_wp2_with fail
  refine (new_in 6 _ (by omega) (by omega)).mono ?_
  rintro e w1 ⟨p, rfl, hd1, hb1⟩
  have HD1 := Lib.hid hd1
  have HB1 : Hid (Below w.heap.size w w1) := HB0.out.trans (hb1.mono HB0.out.size)
  have HZ1 := Lib.hid hb1.size
  have HWB : Hid (w.heap.size ≤ w0.heap.size) := HB0.out.size
  clear hd1 hb1 HB0
  generalize w0.heap.size = B at *
  go_wp2_with fail
  refine (block_any 9 _).mono ?_
  rintro e w2 ⟨rfl, hx2, hb2⟩
  have hlt2 : w1.heap.size < w2.heap.size := RowAt.lt hx2 (by intro h; have := congrArg List.length h; rw [u8s_length, blk_length] at this; cases this) _ rfl
  have H3 := Lib.hid (write_in HD1.out w1.heap.size 512 (Nat.le_refl _) hb2 hlt2 HZ1.out 1 (by decide) rfl (by decide) (by decide) (blk 9) hx2 (blk_length 9))
  have HB2 : Hid (Below w.heap.size w w2) := HB1.out.trans (hb2.mono HB1.out.size)
  have HZ2 : Hid (B ≤ w2.heap.size) := Nat.le_trans HZ1.out hb2.size
  clear hx2 hb2 hlt2 HB1 HZ1 HD1
  rw [DS.write_never _ _ _ (by decide)] at H3
  go_wp2_with fail
  refine (H3.out).mono ?_
  rintro e w3 ⟨rfl, hd3, hb3⟩
  have HB3 : Hid (Below w.heap.size w w3) := HB2.out.trans (hb3.mono HWB.out)
  have HZ3 : Hid (B ≤ w3.heap.size) := Nat.le_trans HZ2.out hb3.size
  have H4 := Lib.hid (fuse_in hd3 HZ3.out 1 (by decide) rfl)
  clear hd3 hb3 H3 HB2 HZ2
  go_wp2_with fail
  refine (H4.out).mono ?_
  rintro e w4 ⟨rfl, hd4, hb4⟩
  have HD4 : Hid (DiskIn w4 B p refD) := hd4
  have HZ4 : Hid (B ≤ w4.heap.size) := Nat.le_trans HZ3.out hb4.size
  have HB4 : Hid (Below w.heap.size w w4) := HB3.out.trans (hb4.mono HWB.out)
  clear hd4 hb4 H4 HB3 HZ3
  go_wp2_with (at_make; refine wpList_make_full _ rfl (.tmp 35) (.tmp 35) 29 rfl w4.heap.size 5 i0 (.int .u8 0) 1 Try.underlying29 HI.out.1 HI.out.2.1 HI.out.2.2 .i64 .i64 _ _ L rfl rfl rfl rfl M1.out M2.out (Nat.le_refl _) ?_)
  intro w5 hown5 hgr5
  have hb5 : Below w4.heap.size w4 w5 := (Below.refl _ _).grown hgr5 (Nat.le_refl _) (by simp)
  have HD5 := Lib.hid (HD4.out.below hb5)
  have HB5 : Hid (Below w.heap.size w w5) := HB4.out.trans (hb5.mono HB4.out.size)
  have HZ5 : Hid (B ≤ w5.heap.size) := Nat.le_trans HZ4.out hb5.size
  clear hown5 hgr5 hb5 HD4 HB4
  go_wp2_with fail
  refine (write_no HD5.out at_ _ L _ ev HV.out).mono ?_
  rintro e w6 ⟨rfl, rfl⟩
  go_wp2_with fail
  refine (num_any _ _).mono ?_
  rintro e w6 ⟨rfl, rfl⟩
  have e6 : blockAt refD.now 1 = blk 9 := blockAt_put (n := 6) (new_now 6) (by omega) (blk_length 9)
  have H6 := Lib.hid (read_in HD5.out 1 (by decide) rfl)
  rw [e6] at H6
  clear e6
  have HWW := HW.out
  clear HW HV
  rcases HWW with ⟨rfl, h⟩ | ⟨rfl, h1, h⟩ | ⟨rfl, h1, h, h3⟩
  all_goals
    try clear h3
    go_wp2_with fail
    refine (H6.out).mono ?_
    rintro e w7 ⟨g, cap, rfl, hx7, _, _, hd7, hb7⟩
    have hcv : ∀ W, Below w7.heap.size w7 W → (convert 29 9 (.slice (some ⟨g, 0, none⟩) 512 cap)).run Try.prog W = .ok (.string ⟨(blk 9).toArray⟩) W := fun W hW => run_string_of W 29 5 Try.underlying29 Try.underlying5 (RowAt.below hx7 hW (Nat.le_refl _)) 9 Try.underlying9
    have HD7 := Lib.hid (fun w' (h : Below w7.heap.size w7 w') => pending_in (hd7.below h))
    have HO7 := Lib.hid (fun w' (h : Below w7.heap.size w7 w') => on_in (hd7.below h))
    have HB7 : Hid (Below w.heap.size w w7) := HB5.out.trans (hb7.mono HB5.out.size)
    have HS0 : Hid (Below w7.heap.size w7 w7.drew) := (Below.refl _ _).drew
    clear hx7 hd7 hb7
    go_wp2_with fail
    refine wp_region_noPanic ?_
    refine wp_region_ordL 26 [17, 26] [0, 2, 1, 3, 4, 5, 6, 7, 8, 9, 10, 11, 12, 13, 14, 15, 16, 17, 18, 19, 20, 21, 22, 23, 24, 25, 26] (fun W => Below w7.heap.size w7 W) (by kernel_rfl) (by kernel_rfl) rfl (by kernel_rfl) (fun _ _ _ _ _ h => h) HS0.out ?_
    repeat (apply heldL_run rfl (by rfl) (by rfl); (intro w hSw; go_simp; with_reducible rfl); (try simp only [Act.put, List.setIfInBounds_toArray, List.set_cons_zero, List.set_cons_succ]))
    refine heldL_step rfl (by rfl) (by rfl) (fun K hK => ?_)
    go_simp
    refine (num_any _ _).mono ?_
    rintro e w8 ⟨rfl, rfl⟩
    refine hK.out _ _ (.inr HS0.out) ?_
    clear hK K
    (try simp only [Act.put, List.setIfInBounds_toArray, List.set_cons_zero, List.set_cons_succ])
    repeat (apply heldL_run rfl (by rfl) (by rfl); (intro w hSw; go_simp; with_reducible rfl); (try simp only [Act.put, List.setIfInBounds_toArray, List.set_cons_zero, List.set_cons_succ]))
    refine heldL_step rfl (by rfl) (by rfl) (fun K hK => ?_)
    go_simp
    refine (HO7.out _ HS0.out).mono ?_
    rintro e w8 ⟨rfl, rfl⟩
    refine hK.out _ _ (.inr HS0.out) ?_
    clear hK K
    (try simp only [Act.put, List.setIfInBounds_toArray, List.set_cons_zero, List.set_cons_succ])
    repeat (apply heldL_run rfl (by rfl) (by rfl); (intro w hSw; go_simp; with_reducible rfl); (try simp only [Act.put, List.setIfInBounds_toArray, List.set_cons_zero, List.set_cons_succ]))
    refine heldL_step rfl (by rfl) (by rfl) (fun K hK => ?_)
    go_simp
    refine (num_any _ _).mono ?_
    rintro e w8 ⟨rfl, rfl⟩
    refine hK.out _ _ (.inr HS0.out) ?_
    clear hK K
    (try simp only [Act.put, List.setIfInBounds_toArray, List.set_cons_zero, List.set_cons_succ])
    repeat (apply heldL_run rfl (by rfl) (by rfl); (intro w hSw; go_simp; with_reducible rfl); (try simp only [Act.put, List.setIfInBounds_toArray, List.set_cons_zero, List.set_cons_succ]))
    refine heldL_step rfl (by rfl) (by rfl) (fun K hK => ?_)
    go_simp
    refine (block_any 9 _).mono ?_
    rintro e w8 ⟨rfl, hx8, hb8⟩
    have HS8 : Hid (Below w7.heap.size w7 w8) := HS0.out.trans hb8
    have hc8 := run_string_of w8 29 5 Try.underlying29 Try.underlying5 hx8 9 Try.underlying9
    clear hx8 hb8
    generalize w7.drew.heap.size = q at *
    refine hK.out _ _ (.inr HS8.out) ?_
    clear hK K
    (try simp only [Act.put, List.setIfInBounds_toArray, List.set_cons_zero, List.set_cons_succ])
    repeat (apply heldL_run rfl (by rfl) (by rfl); (intro w hSw; go_simp; with_reducible rfl); (try simp only [Act.put, List.setIfInBounds_toArray, List.set_cons_zero, List.set_cons_succ]))
    refine heldL_step rfl (by rfl) (by rfl) (fun K hK => ?_)
    go_simp
    refine hK.out _ _ (.inr HS8.out) ?_
    clear hK K
    (try simp only [Act.put, List.setIfInBounds_toArray, List.set_cons_zero, List.set_cons_succ])
    repeat (apply heldL_run rfl (by rfl) (by rfl); (intro w hSw; go_simp; with_reducible rfl); (try simp only [Act.put, List.setIfInBounds_toArray, List.set_cons_zero, List.set_cons_succ]))
    refine heldL_step rfl (by rfl) (by rfl) (fun K hK => ?_)
    go_simp
    refine (HD7.out _ HS8.out).mono ?_
    rintro e w9 ⟨a9, c9, rfl, _, hb9⟩
    have HS9 : Hid (Below w7.heap.size w7 w9) := HS8.out.trans (hb9.mono HS8.out.size)
    clear hb9
    refine hK.out _ _ (.inr HS9.out) ?_
    clear hK K
    (try simp only [Act.put, List.setIfInBounds_toArray, List.set_cons_zero, List.set_cons_succ])
    repeat (apply heldL_run rfl (by rfl) (by rfl); (intro w hSw; go_simp; with_reducible rfl); (try simp only [Act.put, List.setIfInBounds_toArray, List.set_cons_zero, List.set_cons_succ]))
    refine heldL_step rfl (by rfl) (by rfl) (fun K hK => ?_)
    go_simp
    refine hK.out _ _ (.inl rfl) ?_
    clear hK K
    (try simp only [Act.put, List.setIfInBounds_toArray, List.set_cons_zero, List.set_cons_succ])
    refine heldL_nil (NoPanic.normal ?_)
    go_wp2
    go_ret
    exact ⟨rfl, HB7.out.trans (HS9.out.mono HB7.out.size)⟩

set_option maxHeartbeats 2000000 in
theorem refuses_yes (k : Nat) (w : World) (hk : k < 6) :
    Calls Try.prog 5 #[.int .i64 k, .int .i64 512] w fun e w' => e = .returned (.bool true) ∧ Below w.heap.size w w' := by
  obtain ⟨i0, hi, hz0, hz1, hz2⟩ := info_parts info5
  have M1 : Hid (i0.bytes * 512 ≤ 281474976710656) := by show i0.bytes * 512 ≤ _; rw [hz2]; omega
  have M2 : Hid (512 ≤ maxLen) := by show 512 ≤ maxLen; unfold maxLen; omega
  have hk1 : (k : Int) < 6 := by omega
  have hk0 : (0 : Int) ≤ (k : Int) := by omega
  have HI := Lib.hid (And.intro hi (And.intro hz0 hz1))
  have HK := Lib.hid hk
  clear hi hz0 hz1 hz2 hk
  go_enter Try.func5, Try.ntmps5
  go_wp2_with fail
  refine (alive_any _).mono ?_
  rintro e w0 ⟨rfl, hb0⟩
  have HB0 := Lib.hid hb0
  clear hb0
  go_wp2_with fail
  refine (new_in 6 _ (by omega) (by omega)).mono ?_
  rintro e w1 ⟨p, rfl, hd1, hb1⟩
  have HD1 := Lib.hid hd1
  have HB1 : Hid (Below w.heap.size w w1) := HB0.out.trans (hb1.mono HB0.out.size)
  have HZ1 := Lib.hid hb1.size
  have HWB : Hid (w.heap.size ≤ w0.heap.size) := HB0.out.size
  clear hd1 hb1 HB0
  generalize w0.heap.size = B at *
  go_wp2_with fail
  refine (block_any 9 _).mono ?_
  rintro e w2 ⟨rfl, hx2, hb2⟩
  have hlt2 : w1.heap.size < w2.heap.size := RowAt.lt hx2 (by intro h; have := congrArg List.length h; rw [u8s_length, blk_length] at this; cases this) _ rfl
  have H3 := Lib.hid (write_in HD1.out w1.heap.size 512 (Nat.le_refl _) hb2 hlt2 HZ1.out 1 (by decide) rfl (by decide) (by decide) (blk 9) hx2 (blk_length 9))
  have HB2 : Hid (Below w.heap.size w w2) := HB1.out.trans (hb2.mono HB1.out.size)
  have HZ2 : Hid (B ≤ w2.heap.size) := Nat.le_trans HZ1.out hb2.size
  clear hx2 hb2 hlt2 HB1 HZ1 HD1
  rw [DS.write_never _ _ _ (by decide)] at H3
  go_wp2_with fail
  refine (H3.out).mono ?_
  rintro e w3 ⟨rfl, hd3, hb3⟩
  have HB3 : Hid (Below w.heap.size w w3) := HB2.out.trans (hb3.mono HWB.out)
  have HZ3 : Hid (B ≤ w3.heap.size) := Nat.le_trans HZ2.out hb3.size
  have H4 := Lib.hid (fuse_in hd3 HZ3.out 1 (by decide) rfl)
  clear hd3 hb3 H3 HB2 HZ2
  go_wp2_with fail
  refine (H4.out).mono ?_
  rintro e w4 ⟨rfl, hd4, hb4⟩
  have HD4 : Hid (DiskIn w4 B p refD) := hd4
  have HZ4 : Hid (B ≤ w4.heap.size) := Nat.le_trans HZ3.out hb4.size
  have HB4 : Hid (Below w.heap.size w w4) := HB3.out.trans (hb4.mono HWB.out)
  clear hd4 hb4 H4 HB3 HZ3
  go_wp2_with (at_make; refine wpList_make_full _ rfl (.tmp 35) (.tmp 35) 29 rfl w4.heap.size 5 i0 (.int .u8 0) 1 Try.underlying29 HI.out.1 HI.out.2.1 HI.out.2.2 .i64 .i64 _ _ 512 rfl rfl rfl rfl M1.out M2.out (Nat.le_refl _) ?_)
  intro w5 hown5 hgr5
  have hb5 : Below w4.heap.size w4 w5 := (Below.refl _ _).grown hgr5 (Nat.le_refl _) (by simp)
  rw [zeros_u8s] at hown5
  have hx5 : Bytes w5 (.slice (some ⟨w4.heap.size, 0, none⟩) 512 512) (List.replicate 512 0) := RowAt.of_owns hown5
  have hlt5 : w4.heap.size < w5.heap.size := RowAt.lt hx5 (by intro h; have := congrArg List.length h; rw [u8s_length, List.length_replicate] at this; cases this) _ rfl
  have H6 := Lib.hid (write_in HD4.out w4.heap.size 512 (Nat.le_refl _) hb5 hlt5 HZ4.out k HK.out rfl (by decide) (by decide) _ hx5 List.length_replicate)
  have HB5 : Hid (Below w.heap.size w w5) := HB4.out.trans (hb5.mono HB4.out.size)
  clear hown5 hgr5 hb5 hx5 hlt5 HD4 HB4
  go_wp2_with fail
  refine (H6.out).mono ?_
  rintro e w6 ⟨rfl, _, hb6⟩
  have HB6 : Hid (Below w.heap.size w w6) := HB5.out.trans (hb6.mono HWB.out)
  clear hb6
  go_wp2_with fail
  refine (num_any _ _).mono ?_
  rintro e w7 ⟨rfl, rfl⟩
  go_wp2_with fail
  go_ret
  exact ⟨rfl, HB6.out⟩
set_option maxHeartbeats 400000 in
theorem refuses_out (at_ L : Int) (w : World) (h : L < 0 ∨ (0 ≤ L ∧ 2000 < L)) :
    Calls Try.prog 5 #[.int .i64 at_, .int .i64 L] w fun e w' => e = .returned (.bool true) ∧ Below w.heap.size w w' := by
  rcases h with h | ⟨h1, h⟩
  all_goals
    go_enter Try.func5, Try.ntmps5
    go_wp2_with fail
    refine (alive_any _).mono ?_
    rintro e w1 ⟨rfl, hb1⟩
    go_wp2_with fail
    go_ret
    exact ⟨rfl, hb1⟩
theorem refuses_walk (a0 a1 : Int) (_ : (Lit.int .i64 a0).wf = true) (_ : (Lit.int .i64 a1).wf = true) (w : World) :
    Calls Try.prog 5 #[.int .i64 a0, .int .i64 a1] w fun e w' => e = .returned (.bool true) ∧ Below w.heap.size w w' := by
  by_cases h1 : 0 ≤ a1
  · obtain ⟨L, rfl⟩ := Int.eq_ofNat_of_zero_le h1
    by_cases h2 : (L : Int) ≤ 2000
    · by_cases h3 : a0 < 0
      · exact refuses_no a0 L w (by omega) 10 (.inl ⟨rfl, h3⟩)
      · by_cases h4 : 6 ≤ a0
        · exact refuses_no a0 L w (by omega) 10 (.inr (.inl ⟨rfl, by omega, h4⟩))
        · by_cases h5 : L = 512
          · subst h5
            obtain ⟨k, rfl⟩ := Int.eq_ofNat_of_zero_le (show 0 ≤ a0 by omega)
            exact refuses_yes k w (by omega)
          · exact refuses_no a0 L w (by omega) 1 (.inr (.inr ⟨rfl, by omega, by omega, h5⟩))
    · exact refuses_out _ _ w (.inr ⟨h1, by omega⟩)
  · exact refuses_out _ _ w (.inl (by omega))
end Go.Proofs.Ythdefaodioapbaa
