/- DiskFull. -/
import Derived.Test.YthdefaodioapbaaDisk9
namespace Go.Proofs.Ythdefaodioapbaa
open Go.RowKit

variable {w w' : World} {p B g0 k : Nat} {x : Bs}

/-- A disk of one block, k writes held back; beside it a block of bytes. -/
def Held1 (w : World) (B g0 p k : Nat) (x : Bs) : Prop := ∃ O d, IsDisk w O p d ∧ (∀ j, O j → B ≤ j ∧ j < w.heap.size ∧ j ≠ g0) ∧ (g0 < w.heap.size ∧ B ≤ g0 ∧ x.length = 512) ∧ Bytes w (.slice (some ⟨g0, 0, none⟩) 512 512) x ∧ d.n = 1 ∧ d.off = false ∧ d.left = -1 ∧ d.back.length = k
theorem Held1.below (h : Held1 w B g0 p k x) (hb : Below w.heap.size w w') : Held1 w' B g0 p k x := by
  obtain ⟨O, d, h1, h2, ⟨h3, h4, h5⟩, h6, h7⟩ := h
  exact ⟨O, d, h1.below hb, fun j hj => ⟨(h2 j hj).1, Nat.lt_of_lt_of_le (h2 j hj).2.1 hb.size, (h2 j hj).2.2⟩, ⟨Nat.lt_of_lt_of_le h3 hb.size, h4, h5⟩, RowAt.below h6 hb (Nat.le_refl _), h7⟩
theorem held1_write (h : Held1 w B g0 p k x) (hk : k < 65536) : Calls Try.prog 13 #[.pointer (some ⟨p, 0, none⟩), .int .i64 0, .slice (some ⟨g0, 0, none⟩) 512 512] w fun e w' => e = .returned (.int .i64 0) ∧ Held1 w' B g0 p (k + 1) x ∧ Below B w w' := by
  obtain ⟨O, d, ⟨gn, gf, vb, vs, hd⟩, h2, ⟨h3, h4, h5⟩, h6, h7, h8, h9, h10⟩ := h
  have hg : ¬ O g0 := fun h => (h2 g0 h).2.2 rfl
  refine (write_ok hd 0 (by omega) h8 (by omega) (by omega) g0 0 512 x h6 h5 hg h3).mono ?_
  rintro e w' ⟨rfl, hd', hk'⟩
  have hs := hk'.size
  refine ⟨rfl, ⟨_, _, hd', fun j hj => ?_, ⟨by omega, h4, h5⟩, RowAt.keeps h6 hk' (fun j e => by cases e; exact hg), ?_⟩, hk'.below_of (by omega) (fun j hj hO => by have := (h2 j hO).1; omega)⟩
  · rcases hj with hj | ⟨a, b⟩
    · have := h2 j hj; omega
    · omega
  · rw [DS.write_never d 0 x (by omega)]
    exact ⟨h7, h8, h9, by rw [List.length_append, h10]; rfl⟩
theorem held1_full (h : Held1 w B g0 p 65536 x) : Calls Try.prog 13 #[.pointer (some ⟨p, 0, none⟩), .int .i64 0, .slice (some ⟨g0, 0, none⟩) 512 512] w fun e w' => e = .returned (.int .i64 2) ∧ w = w' := by
  obtain ⟨O, d, ⟨gn, gf, vb, vs, hd⟩, h2, ⟨h3, h4, h5⟩, h6, h7, h8, h9, h10⟩ := h
  refine write_full hd 0 ?_ _ _ h10
  unfold DS.there
  rw [h8, h7, if_neg (by decide), if_neg (by decide)]
theorem held1_pend (h : Held1 w B g0 p k x) : Calls Try.prog 18 #[.pointer (some ⟨p, 0, none⟩)] w fun e w' => ∃ a cap, e = .returned (.slice a k cap) ∧ Held1 w' B g0 p k x ∧ Below w.heap.size w w' := by
  have h0 := h
  obtain ⟨O, d, ⟨gn, gf, vb, vs, hd⟩, h2, _, h6, h7, h8, h9, h10⟩ := h
  refine (pending_any hd).mono ?_
  rintro e w' ⟨v, rfl, hr, hb⟩
  rw [h10] at hr
  obtain ⟨a, cap, rfl⟩ := row_len hr
  exact ⟨a, cap, rfl, h0.below hb, hb⟩
theorem held1_flush (h : Held1 w B g0 p k x) : Calls Try.prog 19 #[.pointer (some ⟨p, 0, none⟩)] w fun e w' => e = .returned (.int .i64 0) ∧ Held1 w' B g0 p 0 x ∧ Below B w w' := by
  obtain ⟨O, d, ⟨gn, gf, vb, vs, hd⟩, h2, ⟨h3, h4, h5⟩, h6, h7, h8, h9, h10⟩ := h
  have hg : ¬ O g0 := fun h => (h2 g0 h).2.2 rfl
  refine (flush_ok hd (fun j hj => (h2 j hj).2.1) h8 (by omega)).mono ?_
  rintro e w' ⟨rfl, hd', hk'⟩
  have hs := hk'.size
  refine ⟨rfl, ⟨_, _, hd', fun j hj => ?_, ⟨by omega, h4, h5⟩, RowAt.keeps h6 hk' (fun j e => by cases e; exact hg), ?_⟩, hk'.below_of (by omega) (fun j hj hO => by have := (h2 j hO).1; omega)⟩
  · have := h2 j hj; omega
  · have e : d.flush = { d with fast := layAll d.fast d.back, back := [] } := by
      unfold DS.flush DS.step
      rw [if_neg (by show ¬ 0 < d.left; omega)]
    rw [e]
    exact ⟨h7, h8, h9, rfl⟩

set_option maxHeartbeats 4000000 in
theorem full_in (m : Nat) (w : World) (hm1 : 1 ≤ m) (hm3 : m ≤ 3) : Calls Try.prog 4 #[.int .i64 m] w fun e w' => e = .returned (.bool true) ∧ Below w.heap.size w w' := by
  have hi1 : (1 : Int) ≤ (m : Int) := by omega
  have hi3 : (m : Int) ≤ 3 := by omega
  have HM := Lib.hid (And.intro hm1 hm3)
  obtain ⟨N, hN⟩ : ∃ N, N = 65536 := ⟨_, rfl⟩
  have HN := Lib.hid hN
  clear hN hm1 hm3
  go_enter Try.func4, Try.ntmps4
  go_wp2_with fail
  refine (alive_any _).mono ?_
  rintro e w0 ⟨rfl, hb0⟩
  have HB0 := Lib.hid hb0
  clear hb0
  go_wp2_with fail
  refine (new_in 1 _ (by omega) (by omega)).mono ?_
  rintro e w1 ⟨p, rfl, hd1, hb1⟩
  have HD1 := Lib.hid hd1
  have HB1 : Hid (Below w.heap.size w w1) := HB0.out.trans (hb1.mono HB0.out.size)
  have HZ1 := Lib.hid hb1.size
  have HWB : Hid (w.heap.size ≤ w0.heap.size) := HB0.out.size
  clear hd1 hb1 HB0
  generalize w0.heap.size = B at *
  go_wp2_with fail
  refine (block_any 3 _).mono ?_
  rintro e w2 ⟨rfl, hx2, hb2⟩
  have hlt2 : w1.heap.size < w2.heap.size := RowAt.lt hx2 (by intro h; have := congrArg List.length h; rw [u8s_length, blk_length] at this; cases this) _ rfl
  have H2 : Hid (Held1 w2 B w1.heap.size p 0 (blk 3)) := by
    obtain ⟨O, hd, hO⟩ := HD1.out
    exact ⟨O, _, hd.below hb2, fun j hj => by have := hO j hj; omega, ⟨hlt2, HZ1.out, blk_length 3⟩, hx2, rfl, rfl, rfl, rfl⟩
  have HB2 : Hid (Below w.heap.size w w2) := HB1.out.trans (hb2.mono HB1.out.size)
  clear hx2 hb2 hlt2 HB1 HZ1 HD1
  generalize w1.heap.size = g0 at *
  generalize blk 3 = x at *
  go_wp2_with fail
  go_loopw [7, 8] (fun i _ wr => ∃ k : Nat, k ≤ N ∧ i = .int .i64 k ∧ Held1 wr B g0 p k x ∧ Below w.heap.size w wr) (fun i _ _ => N - (intOf i).toNat)
  case atStart => exact ⟨0, by omega, rfl, H2.out, HB2.out⟩
  case round =>
    obtain ⟨k, hk, rfl, hh, hb⟩ := hrel
    by_cases hlt : k < N
    · have HK := Lib.hid (held1_write hh (by have := HN.out; omega))
      have HB := Lib.hid hb
      have HLT := Lib.hid hlt
      have hd : decide ((k : Int) < 65536) = true := decide_eq_true (by have := HN.out; omega)
      have k0 : (0 : Int) ≤ (k : Int) := by omega
      have k1 : (k : Int) ≤ 100000 := by have := HN.out; omega
      clear hh hb hlt
      go_wp2_with fail
      refine (HK.out).mono ?_
      rintro e w3 ⟨rfl, hh3, hb3⟩
      have H3 := Lib.hid hh3
      have HB3 : Hid (Below w.heap.size w w3) := HB.out.trans (hb3.mono HWB.out)
      clear hh3 hb3
      go_wp2_with fail
      refine (num_any _ _).mono ?_
      rintro e w4 ⟨rfl, rfl⟩
      go_wp2_with fail
      go_roundw
      case rel => exact ⟨k + 1, HLT.out, by go_num, H3.out, HB3.out⟩
      case measure => have := HLT.out; simp [intOf]; omega
    · obtain rfl : k = N := by omega
      have H3 : Hid (Held1 wr B g0 p 65536 x) := HN.out ▸ hh
      have HB3 := Lib.hid hb
      have hd : decide ((k : Int) < 65536) = false := decide_eq_false (by have := HN.out; omega)
      clear hh hb H2
      go_wp2_with fail
      go_loopw [9, 10] (fun i _ wq => ∃ j : Nat, j ≤ m ∧ i = .int .i64 j ∧ Held1 wq B g0 p 65536 x ∧ Below w.heap.size w wq) (fun i _ _ => m - (intOf i).toNat)
      case atStart => exact ⟨0, by omega, rfl, H3.out, HB3.out⟩
      case round =>
        obtain ⟨j, hj, rfl, hh, hb⟩ := hrel
        by_cases hjm : j < m
        · have HK := Lib.hid (held1_full hh)
          have HH := Lib.hid hh
          have HB := Lib.hid hb
          have k0 : (0 : Int) ≤ (j : Int) := by omega
          have k1 : (j : Int) < (m : Int) := by omega
          clear hh hb
          go_wp2_with fail
          refine (HK.out).mono ?_
          rintro e w3 ⟨rfl, rfl⟩
          go_wp2_with fail
          refine (num_any _ _).mono ?_
          rintro e w4 ⟨rfl, rfl⟩
          go_wp2_with fail
          go_roundw
          case rel => exact ⟨j + 1, by omega, by go_num, HH.out, HB.out⟩
          case measure => simp [intOf]; omega
        · obtain rfl : j = m := by omega
          have HP := Lib.hid (held1_pend hh)
          have HB := Lib.hid hb
          clear hh hb H3 HB3
          go_wp2_with fail
          refine (HP.out).mono ?_
          rintro e w3 ⟨a3, c3, rfl, hh3, hb3⟩
          have HF := Lib.hid (held1_flush hh3)
          have HB3 : Hid (Below w.heap.size w w3) := HB.out.trans (hb3.mono HB.out.size)
          clear hh3 hb3 HP HB
          go_wp2_with fail
          refine (HF.out).mono ?_
          rintro e w4 ⟨rfl, hh4, hb4⟩
          have HW := Lib.hid (held1_write hh4 (by decide))
          have HB4 : Hid (Below w.heap.size w w4) := HB3.out.trans (hb4.mono HWB.out)
          clear hh4 hb4 HF HB3
          go_wp2_with fail
          refine (HW.out).mono ?_
          rintro e w5 ⟨rfl, hh5, hb5⟩
          have HP := Lib.hid (held1_pend hh5)
          have HB5 : Hid (Below w.heap.size w w5) := HB4.out.trans (hb5.mono HWB.out)
          clear hh5 hb5 HW HB4
          go_wp2_with fail
          refine (num_any _ _).mono ?_
          rintro e w6 ⟨rfl, rfl⟩
          go_wp2_with fail
          refine (HP.out).mono ?_
          rintro e w6 ⟨a6, c6, rfl, _, hb6⟩
          have HB6 : Hid (Below w.heap.size w w6) := HB5.out.trans (hb6.mono HB5.out.size)
          clear hb6 HP
          go_wp2_with fail
          go_ret
          exact ⟨rfl, HB6.out⟩
set_option maxHeartbeats 400000 in
theorem full_out (m : Int) (w : World) (h : m < 1 ∨ (1 ≤ m ∧ 3 < m)) : Calls Try.prog 4 #[.int .i64 m] w fun e w' => e = .returned (.bool true) ∧ Below w.heap.size w w' := by
  rcases h with h | ⟨h1, h⟩
  all_goals
    go_enter Try.func4, Try.ntmps4
    go_wp2_with fail
    refine (alive_any _).mono ?_
    rintro e w1 ⟨rfl, hb1⟩
    go_wp2_with fail
    go_ret
    exact ⟨rfl, hb1⟩
theorem full_walk (a0 : Int) (_ : (Lit.int .i64 a0).wf = true) (w : World) : Calls Try.prog 4 #[.int .i64 a0] w fun e w' => e = .returned (.bool true) ∧ Below w.heap.size w w' := by
  by_cases h1 : 1 ≤ a0
  · by_cases h2 : a0 ≤ 3
    · obtain ⟨k, rfl⟩ := Int.eq_ofNat_of_zero_le (show 0 ≤ a0 by omega)
      exact full_in k w (by omega) (by omega)
    · exact full_out _ w (.inr ⟨h1, by omega⟩)
  · exact full_out _ w (.inl (by omega))
end Go.Proofs.Ythdefaodioapbaa
