/- LedgerDead. -/
import Derived.Test.YthfncgbkigmmcaaL25
namespace Go.Proofs.Ythfncgbkigmmcaa
open Go.RowKit

variable {w w' w1 wr : World} {B lp p n : Nat} {d D : DS} {dead : Bool} {c : Nat → Bs}
/-- so far: a ledger that may have lost its power -/
def SoFar (w : World) (B lp p n : Nat) : Prop := ∃ D c, LedIn w B lp p D false ∧ Quiet n c D ∧ D.left ≤ 9223372036854775807
set_option maxHeartbeats 1600000 in
theorem dead_law (s : Nat) (w : World) (h2 : s ≤ 100) : Calls Try.prog 4 #[.int .i64 s] w fun e w' => e = .returned (.bool true) ∧ Below w.heap.size w w' := by
  have n0 : (0 : Int) ≤ (s : Int) := by omega
  have n1 : ¬ (100 : Int) < (s : Int) := by omega
  go_enter Try.func4, Try.ntmps4
  go_wp2_with fail
  refine (alive_any _).mono ?_
  rintro e w0 ⟨rfl, hb0⟩
  have HB0 := Lib.hid hb0
  have HFR := Lib.hid (fresh_in 20 w0 (by omega) (by omega))
  clear hb0
  go_wp2_with fail
  refine (HFR.out).mono ?_
  rintro e w1 ⟨p, lp, rfl, ⟨d, hl1, hq1, hv1⟩, hb1⟩
  have HB1 := Lib.hid (HB0.out.trans (hb1.mono HB0.out.size))
  have HS1 := Lib.hid hb1.size
  have HS0 := Lib.hid HB0.out.size
  have HQ1 := Lib.hid hq1
  have HF := Lib.hid (fuse_led hl1 hb1.size s (by omega) hv1.1)
  clear hb1 hl1 hv1 hq1 HFR HB0
  go_wp2_with fail
  refine (HF.out).mono ?_
  rintro e w2 ⟨rfl, hd2, hb2⟩
  have HB2 := Lib.hid (HB1.out.trans (hb2.mono HS0.out))
  have HS2 := Lib.hid (Nat.le_trans HS1.out hb2.size)
  have HSF : Hid (SoFar w2 w0.heap.size lp p (96 + 20)) := by
    obtain ⟨I, q1, q2⟩ := HQ1.out
    exact ⟨_, _, hd2, ⟨I, ⟨q1.hn, q1.fast, q1.back, q1.now, q1.len⟩, q2⟩, by show (s : Int) ≤ _; omega⟩
  clear hd2 hb2 HF HQ1 HB1 HS1
  go_wp2_with fail
  go_loopw [7] (fun i wr => ∃ k : Nat, k ≤ 400 ∧ i = .int .i64 k ∧ SoFar wr w0.heap.size lp p (96 + 20) ∧ w0.heap.size ≤ wr.heap.size ∧ Below w.heap.size w wr) (fun i _ => 400 - (intOf i).toNat)
  case atStart => exact ⟨0, by omega, rfl, HSF.out, HS2.out, HB2.out⟩
  case round =>
    obtain ⟨k, hk, rfl, ⟨D, c, hl, hq, hlf⟩, hs, hb⟩ := hrel
    have k0 : (0 : Int) ≤ (k : Int) := by omega
    by_cases hlt : k < 400
    · have k1 : (k : Int) < 400 := by omega
      have HL := Lib.hid hl
      have HQ := Lib.hid hq
      have HLF := Lib.hid hlf
      have HS := Lib.hid hs
      have HB := Lib.hid hb
      have HWS : Hid (w.heap.size ≤ wr.heap.size) := hb.size
      clear hl hq hlf hs hb
      go_wp2_with fail
      refine (block_any (k : Int) _).mono ?_
      rintro e w3 ⟨rfl, hx3, hb3⟩
      have hc := commit_one_led HL.out hb3 HS.out (HQ.out.room HLF.out (by omega)) wr.heap.size 512 (k % 20) (blk (k : Int)) (Nat.le_refl _) hx3 (blk_length _) (by rw [HQ.out.n]; omega)
      rw [show ((k % 20 : Nat) : Int) = (k : Int) % 20 by omega] at hc
      have HC := Lib.hid hc
      have HB3 := Lib.hid (HB.out.trans (hb3.mono HWS.out))
      have HS3 := Lib.hid (Nat.le_trans HS.out hb3.size)
      have HOK : Hid (PutOk (96 + 20) [(k % 20, blk (k : Int))]) := putOk_one (by omega) (blk_length _)
      have HLL := Lib.hid (comm_left (ps := [(k % 20, blk (k : Int))]) HQ.out HLF.out (by simp))
      have HCD := Lib.hid (comm_done HQ.out (by omega) HOK.out)
      have HNN : Hid ((runL (commOps [(k % 20, blk (k : Int))]) D).1.n = 96 + 20) := (runL_n _ _).trans HQ.out.n
      generalize runL (commOps [(k % 20, blk (k : Int))]) D = Z at *
      generalize putC c [(k % 20, blk (k : Int))] = c2 at *
      clear hx3 hb3 hc
      go_wp2_with fail
      refine (HC.out).mono ?_
      rintro e w4 ⟨⟨hz, rfl, hl4⟩ | ⟨hz, rfl, hl4⟩, hb4⟩
      · have HB4 := Lib.hid (HB3.out.trans (hb4.mono HS0.out))
        have HS4 := Lib.hid (Nat.le_trans HS3.out hb4.size)
        have hq4 : Quiet (96 + 20) c2 Z.1 := by
          rcases HCD.out with ⟨D', e1, _⟩ | ⟨D', e1, e2⟩
          · rw [e1] at hz
            cases hz
          · rw [e1]
            exact e2
        have HQ4 := Lib.hid hq4
        have HFL := Lib.hid (flush_led hl4 HS4.out HLL.out)
        clear hl4 hb4 hq4 HC HCD hz
        go_wp2_with fail
        refine (num_any _ _).mono ?_
        rintro e w5 ⟨rfl, rfl⟩
        go_wp2_with fail
        refine (num_any _ _).mono ?_
        rintro e w5 ⟨rfl, rfl⟩
        go_wp2_with fail
        refine (HFL.out).mono ?_
        rintro e w5 ⟨⟨v5, rfl⟩, hl5, hb5⟩
        have HB5 := Lib.hid (HB4.out.trans (hb5.mono HS0.out))
        have HS5 := Lib.hid (Nat.le_trans HS4.out hb5.size)
        have HSF5 : Hid (SoFar w5 w0.heap.size lp p (96 + 20)) := ⟨_, _, hl5, HQ4.out.fl, fl_left HLL.out⟩
        clear hl5 hb5
        go_wp2_with fail
        go_roundw
        case rel => exact ⟨k + 1, by omega, by go_num, HSF5.out, HS5.out, HB5.out⟩
        case measure => simp [intOf]; omega
      · have HB4 := Lib.hid (HB3.out.trans (hb4.mono HS0.out))
        have HS4 := Lib.hid (Nat.le_trans HS3.out hb4.size)
        have HCR := Lib.hid (crash_led hl4 HS4.out none 0 0 (fun _ => 0) (ints_none _ _) (fun x hx => by cases hx))
        have hn4 : (Z.1.crash (keepB 0 fun _ => 0)).n = 96 + 20 := HNN.out
        generalize Z.1.crash (keepB 0 fun _ => 0) = D4 at *
        clear hl4 hb4 HC HCD hz HLL
        go_wp2_with fail
        refine (num_any _ _).mono ?_
        rintro e w5 ⟨rfl, rfl⟩
        go_wp2_with fail
        refine (HCR.out).mono ?_
        rintro e w5 ⟨⟨v5, rfl⟩, hl5, hb5⟩
        have HB5 := Lib.hid (HB4.out.trans (hb5.mono HS0.out))
        have HS5 := Lib.hid (Nat.le_trans HS4.out hb5.size)
        have HR := Lib.hid (lread_dead hl5 HS5.out 0 (by omega))
        clear hl5 hb5 HCR
        go_wp2_with fail
        refine (HR.out).mono ?_
        rintro e w6 ⟨rfl, hl6, hb6⟩
        have HB6 := Lib.hid (HB5.out.trans (hb6.mono HS0.out))
        have HS6 := Lib.hid (Nat.le_trans HS5.out hb6.size)
        have HL6 := Lib.hid hl6
        clear hl6 hb6 HR
        go_wp2_with fail
        refine (block_any 1 _).mono ?_
        rintro e w7 ⟨rfl, hx7, hb7⟩
        have HC7 := Lib.hid (commit_one_dead HL6.out hb7 HS6.out w6.heap.size 512 0 (blk 1) (Nat.le_refl _) hx7 (blk_length _) (by rw [hn4]; omega))
        have HB7 := Lib.hid (HB6.out.trans (hb7.mono HB6.out.size))
        have HS7 := Lib.hid (Nat.le_trans HS6.out hb7.size)
        clear hx7 hb7
        go_wp2_with fail
        refine (HC7.out).mono ?_
        rintro e w8 ⟨rfl, hl8, hb8⟩
        have HB8 := Lib.hid (HB7.out.trans (hb8.mono HS0.out))
        have HS8 := Lib.hid (Nat.le_trans HS7.out hb8.size)
        have HSY := Lib.hid (sync_dead hl8 HS8.out)
        clear hl8 hb8 HC7
        go_wp2_with fail
        refine (HSY.out).mono ?_
        rintro e w9 ⟨rfl, hl9, hb9⟩
        have HB9 := Lib.hid (HB8.out.trans (hb9.mono HS0.out))
        clear hl9 hb9 HSY
        go_wp2_with fail
        refine (num_any _ _).mono ?_
        rintro e w10 ⟨rfl, rfl⟩
        go_wp2_with fail
        refine (num_any _ _).mono ?_
        rintro e w10 ⟨rfl, rfl⟩
        go_wp2_with fail
        refine (num_any _ _).mono ?_
        rintro e w10 ⟨rfl, rfl⟩
        go_wp2_with fail
        go_ret
        exact ⟨rfl, HB9.out⟩
    · obtain rfl : k = 400 := by omega
      have HB := Lib.hid hb
      clear hl hq hlf hs hb
      go_wp2_with fail
      go_ret
      exact ⟨rfl, HB.out⟩
set_option maxHeartbeats 400000 in
theorem dead_walk (a0 : Int) (_ : (Lit.int .i64 a0).wf = true) (w : World) : Calls Try.prog 4 #[.int .i64 a0] w fun e w' => e = .returned (.bool true) ∧ Below w.heap.size w w' := by
  by_cases h1 : a0 < 0
  · go_enter Try.func4, Try.ntmps4
    go_wp2_with fail
    refine (alive_any _).mono ?_
    rintro e w0 ⟨rfl, hb0⟩
    have HB0 := Lib.hid hb0
    clear hb0
    go_wp2_with fail
    go_ret
    exact ⟨rfl, HB0.out⟩
  · by_cases h2 : 100 < a0
    · go_enter Try.func4, Try.ntmps4
      go_wp2_with fail
      refine (alive_any _).mono ?_
      rintro e w0 ⟨rfl, hb0⟩
      have HB0 := Lib.hid hb0
      clear hb0
      go_wp2_with fail
      go_ret
      exact ⟨rfl, HB0.out⟩
    · obtain ⟨k, rfl⟩ := Int.eq_ofNat_of_zero_le (show 0 ≤ a0 by omega)
      exact dead_law k w (by omega)
end Go.Proofs.Ythfncgbkigmmcaa
