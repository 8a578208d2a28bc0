/- SumCRC: the walk. -/
import Derived.Test.YtgeagbhfpjhonaaLaws1
import Derived.Test.YtgeagbhfpjhonaaLent
namespace Go.Proofs.Ytgeagbhfpjhonaa
open Go.RowKit

theorem refMore_n (crc : Nat) (hc : crc < 4294967296) (v : Value) (b : List UInt8) (w : World) (hv : Bytes w v b) (hb : b.length ≤ 140737488355328) :
    Calls Try.prog 17 #[.int .i64 crc, v] w fun e w' => e = .returned (.int .i64 (Crc.more crc b : Nat)) ∧ w = w' := by
  have := refMore_any crc v b w hv hb
  rw [more_int crc hc] at this
  exact this
set_option maxHeartbeats 400000 in
theorem refCRC_any (v : Value) (b : List UInt8) (w : World) (hv : Bytes w v b) (hb : b.length ≤ 140737488355328) :
    Calls Try.prog 16 #[v] w fun e w' => e = .returned (.int .i64 (Crc.more 0 b : Nat)) ∧ w = w' := by
  obtain ⟨a, cap, hs, _⟩ := RowAt.shape hv
  subst hs
  simp only [u8s_length] at *
  have HM := Lib.hid (refMore_n 0 (by decide) _ b w hv hb)
  clear hv
  generalize Crc.more 0 b = r at *
  go_enter Try.func16, Try.ntmps16
  go_wp2_with fail
  refine HM.out.mono ?_
  rintro e w1 ⟨rfl, rfl⟩
  go_wp2_with fail
  go_ret
  exact ⟨rfl, rfl⟩

set_option maxHeartbeats 400000 in
theorem crc_in (av bv : Option Addr) (ca cb : Nat) (a b : List UInt8) (crc : Int) (w : World) (ha : Bytes w (.slice av a.length ca) a) (hb : Bytes w (.slice bv b.length cb) b)
    (la : (a.length : Int) ≤ 5000) (lb : (b.length : Int) ≤ 5000) :
    Calls Try.prog 3 #[.slice av a.length ca, .slice bv b.length cb, .int .i64 crc] w fun e w' => e = .returned (.bool true) ∧ Below w.heap.size w w' := by
  have HA := Lib.hid ha
  have HB := Lib.hid hb
  clear ha hb
  go_enter Try.func3, Try.ntmps3
  go_wp2_with fail
  refine (alive_any _).mono ?_
  rintro e w1 ⟨rfl, hb1⟩
  have BB1 := Lib.hid hb1
  clear hb1
  go_wp2_with fail
  refine (lent_any _ b _ (RowAt.below HB.out BB1.out (Nat.le_refl _)) (by omega)).mono ?_
  rintro e w2 ⟨g, cap, rfl, hf2, hg2, hb2⟩
  have BB2 : Hid (Below w.heap.size w w2) := BB1.out.trans (hb2.mono BB1.out.size)
  have HF2 := Lib.hid hf2
  have hgl := hf2.lt
  clear hb2 hf2
  have q0 := Lib.hid (crc_lt a)
  have C1 := Lib.hid (fun w h => crc_any (.slice (some ⟨g, 0, none⟩) b.length cap) b w h (by omega))
  have C2 := Lib.hid (fun w h => more_any crc (.slice (some ⟨g, 0, none⟩) b.length cap) b w h (by omega))
  have C3 := Lib.hid (fun w h => crc_any (.slice av a.length ca) a w h (by omega))
  have C4 := Lib.hid (fun w h => more_any' _ q0.out (.slice (some ⟨g, 0, none⟩) b.length cap) b w h (by omega))
  have D1 := Lib.hid (fun w h => refCRC_any (.slice bv b.length cb) b w h (by omega))
  have D2 := Lib.hid (fun w h => refMore_any crc (.slice bv b.length cb) b w h (by omega))
  have D3 := Lib.hid (fun w h => refCRC_any (.slice av a.length ca) a w h (by omega))
  have D4 := Lib.hid (fun w h => refMore_n _ q0.out (.slice bv b.length cb) b w h (by omega))
  have S1 := Lib.hid (fun w h1 h2 => stays_any (.slice (some ⟨g, 0, none⟩) b.length cap) (.slice bv b.length cb) b g cap w h1 h2 (by omega))
  generalize Crc.more 0 a = xa at *
  generalize Crc.more 0 b = xb at *
  generalize Crc.more xa b = xab at *
  generalize Crc.more (crc % 4294967296).toNat b = xc at *
  clear q0
  go_wp2_with fail
  refine (C1.out _ HF2.out.bytes).mono ?_
  rintro e w3 ⟨rfl, hb3⟩
  have BB3 : Hid (Below w.heap.size w w3) := BB2.out.trans (hb3.mono BB2.out.size)
  have HF3 : Hid (LentAt w3 (.slice (some ⟨g, 0, none⟩) b.length cap) b g cap) := HF2.out.below hb3 hgl
  have hgl3 := HF3.out.lt
  clear hb3 HF2 hgl
  go_wp2_with fail
  refine (C2.out _ HF3.out.bytes).mono ?_
  rintro e w4 ⟨rfl, hb4⟩
  have BB4 : Hid (Below w.heap.size w w4) := BB3.out.trans (hb4.mono BB3.out.size)
  have HF4 : Hid (LentAt w4 (.slice (some ⟨g, 0, none⟩) b.length cap) b g cap) := HF3.out.below hb4 hgl3
  have hgl4 := HF4.out.lt
  clear hb4 HF3 hgl3
  go_wp2_with fail
  refine (C3.out _ (RowAt.below HA.out BB4.out (Nat.le_refl _))).mono ?_
  rintro e w5 ⟨rfl, hb5⟩
  have BB5 : Hid (Below w.heap.size w w5) := BB4.out.trans (hb5.mono BB4.out.size)
  have HF5 : Hid (LentAt w5 (.slice (some ⟨g, 0, none⟩) b.length cap) b g cap) := HF4.out.below hb5 hgl4
  have hgl5 := HF5.out.lt
  clear hb5 HF4 hgl4
  go_wp2_with fail
  refine (C4.out _ HF5.out.bytes).mono ?_
  rintro e w6 ⟨rfl, hb6⟩
  have BB6 : Hid (Below w.heap.size w w6) := BB5.out.trans (hb6.mono BB5.out.size)
  have HF6 : Hid (LentAt w6 (.slice (some ⟨g, 0, none⟩) b.length cap) b g cap) := HF5.out.below hb6 hgl5
  clear hb6 HF5 hgl5
  have HB6 := Lib.hid (RowAt.below HB.out BB6.out (Nat.le_refl _))
  have HA6 := Lib.hid (RowAt.below HA.out BB6.out (Nat.le_refl _))
  go_wp2_with fail
  refine (S1.out _ HF6.out HB6.out).mono ?_
  rintro e w7 ⟨rfl, rfl⟩
  go_wp2_with fail
  refine (D1.out _ HB6.out).mono ?_
  rintro e w7 ⟨rfl, rfl⟩
  go_wp2_with fail
  refine (D2.out _ HB6.out).mono ?_
  rintro e w7 ⟨rfl, rfl⟩
  go_wp2_with fail
  refine (D3.out _ HA6.out).mono ?_
  rintro e w7 ⟨rfl, rfl⟩
  go_wp2_with fail
  refine (D4.out _ HB6.out).mono ?_
  rintro e w7 ⟨rfl, rfl⟩
  go_wp2_with fail
  go_ret
  exact ⟨rfl, BB6.out⟩

set_option maxHeartbeats 400000 in
theorem crc_out (av bv : Option Addr) (ca cb la lb : Nat) (crc : Int) (w : World) (h : 5000 < (la : Int) ∨ ((la : Int) ≤ 5000 ∧ 5000 < (lb : Int))) :
    Calls Try.prog 3 #[.slice av la ca, .slice bv lb cb, .int .i64 crc] w fun e w' => e = .returned (.bool true) ∧ Below w.heap.size w w' := by
  rcases h with h | ⟨h1, h⟩
  all_goals
    go_enter Try.func3, Try.ntmps3
    go_wp2_with fail
    refine (alive_any _).mono ?_
    rintro e w1 ⟨rfl, hb1⟩
    go_wp2_with fail
    go_ret
    exact ⟨rfl, hb1⟩

theorem crc_walk (a0 : Option Addr) (len0 cap0 : Nat) (z0 : List Int) (a1 : Option Addr) (len1 cap1 : Nat) (z1 : List Int) (a2 : Int) (w : World)
    (w0 : RowIn .u8 w a0 len0 cap0 z0) (w1 : RowIn .u8 w a1 len1 cap1 z1) (_ : (Lit.int .i64 a2).wf = true) :
    Calls Try.prog 3 #[.slice a0 len0 cap0, .slice a1 len1 cap1, .int .i64 a2] w fun e w' => e = .returned (.bool true) ∧ Below w.heap.size w w' := by
  obtain ⟨a, rfl, _, _, ha⟩ := bytes_of_row w0
  obtain ⟨b, rfl, _, _, hb⟩ := bytes_of_row w1
  by_cases h1 : (a.length : Int) ≤ 5000
  · by_cases h2 : (b.length : Int) ≤ 5000
    · exact crc_in _ _ _ _ a b a2 w ha hb h1 h2
    · exact crc_out _ _ _ _ _ _ _ w (.inr ⟨h1, by omega⟩)
  · exact crc_out _ _ _ _ _ _ _ w (.inl (by omega))
end Go.Proofs.Ytgeagbhfpjhonaa
