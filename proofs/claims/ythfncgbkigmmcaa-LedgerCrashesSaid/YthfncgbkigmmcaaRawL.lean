/- LedgerRaw. -/
import Derived.Test.YthfncgbkigmmcaaL23
namespace Go.Proofs.Ythfncgbkigmmcaa
open Go.RowKit

variable {w w' w1 wr : World} {B lp p n : Nat} {d D : DS} {dead : Bool} {c : Nat → Bs}
theorem opened_not {O R : Nat → Prop} {err : Int} {e : Ending} (h2 : ∀ j, O j → B ≤ j) (hB : B ≤ w.heap.size) (h : Opened w O R p (d, false) err e w') : e = .returned (.tuple #[.pointer none, .int .i64 err]) ∧ DiskIn w' B p d ∧ Below B w w' := by
  rcases h with ⟨q1, _⟩ | ⟨_, q2, O', R', q3, q4⟩
  · cases q1
  · have := DiskIn.of_turned h2 hB q3 q4
    exact ⟨q2, this.1, this.2⟩
theorem open_off_in (h : DiskIn w B p d) (hB : B ≤ w.heap.size) (hr : Room 60 d) (ho : d.off = true) : Calls Try.prog 24 #[.pointer (some ⟨p, 0, none⟩)] w fun e w' => e = .returned (.tuple #[.pointer none, .int .i64 11]) ∧ DiskIn w' B p d ∧ Below B w w' := by
  obtain ⟨O, R, h1, h2⟩ := h
  exact (open_off h1 hr ho).mono fun e w' q => opened_not h2 hB q
theorem open_raw_in (h : DiskIn w B p d) (hB : B ≤ w.heap.size) (hr : Room 60 d) (ho : d.off = false) (hw : rawB d) : Calls Try.prog 24 #[.pointer (some ⟨p, 0, none⟩)] w fun e w' => e = .returned (.tuple #[.pointer none, .int .i64 12]) ∧ DiskIn w' B p d ∧ Below B w w' := by
  have hn2 := h.len.2.2.1
  obtain ⟨O, R, h1, h2⟩ := h
  exact (open_raw h1 hr ho hn2 hw).mono fun e w' q => opened_not h2 hB q
theorem raw_new (n : Nat) : rawB (DS.new n) := by
  by_cases h : n ≤ 96
  · exact .inl h
  · refine .inr ⟨by show 97 ≤ n; omega, .inl ?_⟩
    have : blockAt (DS.new n).now 0 = zeroB := by
      show ((List.replicate (512 * n) (0 : UInt8)).drop (512 * 0)).take 512 = _
      rw [List.drop_replicate, List.take_replicate, show min 512 (512 * n - 512 * 0) = 512 by omega]
      rfl
    rw [this]
    exact zero_not
theorem room_new (n m : Nat) (hm : m ≤ 65535) : Room m (DS.new n) := ⟨by show (-1 : Int) ≤ _; decide, by show 0 + m ≤ _; omega⟩
set_option maxHeartbeats 400000 in
theorem untouched_in (h : DiskIn w B p d) (hb : d.back = []) : Calls Try.prog 32 #[.pointer (some ⟨p, 0, none⟩)] w fun e w' => e = .returned (.bool true) ∧ DiskIn w' B p d ∧ Below w.heap.size w w' := by
  have HP := Lib.hid (pending_in h)
  rw [hb] at HP
  clear h
  go_enter Try.func32, Try.ntmps32
  go_wp2_with fail
  refine (HP.out).mono ?_
  rintro e w2 ⟨a, cap, rfl, h2, hb2⟩
  have H2 := Lib.hid h2
  have HB2 := Lib.hid hb2
  clear h2 hb2
  go_wp2_with fail
  go_ret
  exact ⟨rfl, H2.out, HB2.out⟩
set_option maxHeartbeats 800000 in
theorem raw_in (n : Nat) (off : Bool) (w : World) (h1 : 1 ≤ n) (h2 : n ≤ 150) : Calls Try.prog 8 #[.int .i64 n, .bool off] w fun e w' => e = .returned (.bool true) ∧ Below w.heap.size w w' := by
  have n0 : ¬ (n : Int) < 1 := by omega
  have n1 : ¬ (150 : Int) < (n : Int) := by omega
  go_enter Try.func8, Try.ntmps8
  go_wp2_with fail
  refine (alive_any _).mono ?_
  rintro e w0 ⟨rfl, hb0⟩
  have HB0 := Lib.hid hb0
  have HN := Lib.hid (new_in n w0 h1 (by omega))
  clear hb0
  go_wp2_with fail
  refine (HN.out).mono ?_
  rintro e w1 ⟨p, rfl, hd1, hb1⟩
  have HB1 := Lib.hid (HB0.out.trans (hb1.mono HB0.out.size))
  have HS1 := Lib.hid hb1.size
  have HS0 := Lib.hid HB0.out.size
  have HD1 := Lib.hid hd1
  clear hb1 hd1 HN HB0
  cases off with
  | true =>
    have HF := Lib.hid (fuse_in HD1.out HS1.out 0 (by decide) rfl)
    go_wp2_with fail
    refine (HF.out).mono ?_
    rintro e w2 ⟨rfl, hd2, hb2⟩
    have HO := Lib.hid (open_off_in hd2 (Nat.le_trans HS1.out hb2.size) ⟨by show (0 : Int) ≤ _; decide, by show 0 + 60 ≤ _; omega⟩ rfl)
    have HB2 := Lib.hid (HB1.out.trans (hb2.mono HS0.out))
    clear hd2 hb2 HF
    go_wp2_with fail
    refine (HO.out).mono ?_
    rintro e w3 ⟨rfl, hd3, hb3⟩
    have HU := Lib.hid (untouched_in hd3 rfl)
    have HB3 := Lib.hid (HB2.out.trans (hb3.mono HS0.out))
    clear hd3 hb3 HO
    go_wp2_with fail
    refine (num_any _ _).mono ?_
    rintro e w4 ⟨rfl, rfl⟩
    go_wp2_with fail
    refine (HU.out).mono ?_
    rintro e w5 ⟨rfl, _, hb5⟩
    have HB5 := Lib.hid (HB3.out.trans (hb5.mono HB3.out.size))
    clear hb5
    go_wp2_with fail
    go_ret
    exact ⟨rfl, HB5.out⟩
  | false =>
    have HO := Lib.hid (open_raw_in HD1.out HS1.out (room_new n 60 (by omega)) rfl (raw_new n))
    go_wp2_with fail
    refine (HO.out).mono ?_
    rintro e w3 ⟨rfl, hd3, hb3⟩
    have HU := Lib.hid (untouched_in hd3 rfl)
    have HB3 := Lib.hid (HB1.out.trans (hb3.mono HS0.out))
    clear hd3 hb3 HO
    go_wp2_with fail
    refine (num_any _ _).mono ?_
    rintro e w4 ⟨rfl, rfl⟩
    go_wp2_with fail
    refine (HU.out).mono ?_
    rintro e w5 ⟨rfl, _, hb5⟩
    have HB5 := Lib.hid (HB3.out.trans (hb5.mono HB3.out.size))
    clear hb5
    go_wp2_with fail
    go_ret
    exact ⟨rfl, HB5.out⟩
set_option maxHeartbeats 400000 in
theorem raw_walk (a0 : Int) (off : Bool) (_ : (Lit.int .i64 a0).wf = true) (w : World) : Calls Try.prog 8 #[.int .i64 a0, .bool off] w fun e w' => e = .returned (.bool true) ∧ Below w.heap.size w w' := by
  by_cases h1 : a0 < 1
  · go_enter Try.func8, Try.ntmps8
    go_wp2_with fail
    refine (alive_any _).mono ?_
    rintro e w0 ⟨rfl, hb0⟩
    have HB0 := Lib.hid hb0
    clear hb0
    go_wp2_with fail
    go_ret
    exact ⟨rfl, HB0.out⟩
  · by_cases h2 : 150 < a0
    · go_enter Try.func8, Try.ntmps8
      go_wp2_with fail
      refine (alive_any _).mono ?_
      rintro e w0 ⟨rfl, hb0⟩
      have HB0 := Lib.hid hb0
      clear hb0
      go_wp2_with fail
      go_ret
      exact ⟨rfl, HB0.out⟩
    · obtain ⟨k, rfl⟩ := Int.eq_ofNat_of_zero_le (show 0 ≤ a0 by omega)
      exact raw_in k off w (by omega) (by omega)
end Go.Proofs.Ythfncgbkigmmcaa
