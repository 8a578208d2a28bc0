/- DiskFuse. -/
import Derived.Test.YthdefaodioapbaaOne
import Derived.Test.YthdefaodioapbaaRefuses
namespace Go.Proofs.Ythdefaodioapbaa
open Go.RowKit

variable {w w' : World} {p B : Nat} {d : DS}

/-- A disk of three blocks, its fuse lit: m steps of s are made, k rounds. -/
def Fz (d : DS) (s m k : Nat) : Prop := d.n = 3 ∧ d.left = (s : Int) - (m : Int) ∧ d.off = decide (m = s) ∧ d.back.length ≤ k ∧ m ≤ s ∧ k ≤ m ∧ s ≤ 200
theorem Fz.write {s m k : Nat} (h : Fz d s m k) (hm : m < s) (a : Nat) (x : Bs) : Fz (d.write a x) s (m + 1) (k + 1) := by
  obtain ⟨h1, h2, h3, h4, h5, h6, h7⟩ := h
  have e : d.write a x = { d with back := d.back ++ [(a, x)], now := putAt d.now a x, left := d.left - 1, off := d.left - 1 == 0 } := by
    unfold DS.write DS.step
    rw [if_pos (by show 0 < d.left; omega)]
  rw [e]
  refine ⟨h1, by show d.left - 1 = _; omega, ?_, by show (d.back ++ [(a, x)]).length ≤ _; simp; omega, by omega, by omega, h7⟩
  show (d.left - 1 == 0) = decide (m + 1 = s)
  rw [Bool.eq_iff_iff]
  simp only [beq_iff_eq, decide_eq_true_eq]
  omega
theorem Fz.flush {s m k : Nat} (h : Fz d s m k) (hm : m < s) : Fz d.flush s (m + 1) k := by
  obtain ⟨h1, h2, h3, h4, h5, h6, h7⟩ := h
  have e : d.flush = { d with fast := layAll d.fast d.back, back := [], left := d.left - 1, off := d.left - 1 == 0 } := by
    unfold DS.flush DS.step
    rw [if_pos (by show 0 < d.left; omega)]
  rw [e]
  refine ⟨h1, by show d.left - 1 = _; omega, ?_, Nat.zero_le _, by omega, by omega, h7⟩
  show (d.left - 1 == 0) = decide (m + 1 = s)
  rw [Bool.eq_iff_iff]
  simp only [beq_iff_eq, decide_eq_true_eq]
  omega
theorem read_off (h : DiskIn w B p d) (ho : d.off = true) (at_ : Int) : Calls Try.prog 16 #[.pointer (some ⟨p, 0, none⟩), .int .i64 at_] w fun e w' => e = .returned (.tuple #[.slice none 0 0, .int .i64 11]) ∧ w = w' := by
  obtain ⟨O, ⟨gn, gf, vb, vs, hd⟩, hO⟩ := h
  have e : d.there at_ = 11 := by unfold DS.there; rw [if_pos ho]
  have := read_bad hd at_ (by rw [e]; decide)
  rw [e] at this
  exact this

/-- How the loop's rounds find the disk. -/
def FzI (w : World) (B p s m k : Nat) : Prop := ∃ d, DiskIn w B p d ∧ Fz d s m k
theorem FzI.below {s m k : Nat} (h : FzI w B p s m k) (hb : Below w.heap.size w w') : FzI w' B p s m k := let ⟨d, h1, h2⟩ := h; ⟨d, h1.below hb, h2⟩
theorem fz_on {s m k : Nat} (h : FzI w B p s m k) : Calls Try.prog 21 #[.pointer (some ⟨p, 0, none⟩)] w fun e w' => e = .returned (.bool (decide (m < s))) ∧ w = w' := by
  obtain ⟨d, h1, h2, h3, h4, h5, h6, h7⟩ := h
  refine (on_in h1).mono ?_
  rintro e w' ⟨rfl, rfl⟩
  refine ⟨?_, rfl⟩
  rw [h4]
  have : (!decide (m = s)) = decide (m < s) := by
    rw [Bool.eq_iff_iff]; simp; omega
  rw [this]
theorem fz_read {s m k : Nat} (h : FzI w B p s m k) (hm : m < s) (a : Nat) (ha : a < 3) : Calls Try.prog 16 #[.pointer (some ⟨p, 0, none⟩), .int .i64 a] w fun e w' => (∃ v, e = .returned v) ∧ FzI w' B p s m k ∧ Below w.heap.size w w' := by
  obtain ⟨d, h1, hf⟩ := h
  have hf0 := hf
  obtain ⟨h2, h3, h4, h5, h6, h7⟩ := hf0
  refine (read_in h1 a (by omega) (by rw [h4]; exact decide_eq_false (by omega))).mono ?_
  rintro e w' ⟨g, cap, rfl, _, _, _, hd, hb⟩
  exact ⟨⟨_, rfl⟩, ⟨d, hd, hf⟩, hb⟩
theorem fz_no3 {s m k : Nat} (h : FzI w B p s m k) (hm : m < s) (a : Option Addr) (len cap : Nat) : Calls Try.prog 13 #[.pointer (some ⟨p, 0, none⟩), .int .i64 3, .slice a len cap] w fun e w' => e = .returned (.int .i64 10) ∧ w = w' := by
  obtain ⟨d, h1, h2, h3, h4, h5, h6, h7⟩ := h
  refine write_no h1 3 a len cap 10 (.inl ⟨?_, by decide⟩)
  unfold DS.there
  rw [h4, h2, if_neg (by simp; omega), if_pos (.inr (by decide))]
theorem fz_no9 {s m k : Nat} (h : FzI w B p s m k) (hm : m < s) (a : Option Addr) (cap : Nat) : Calls Try.prog 13 #[.pointer (some ⟨p, 0, none⟩), .int .i64 0, .slice a 9 cap] w fun e w' => e = .returned (.int .i64 1) ∧ w = w' := by
  obtain ⟨d, h1, h2, h3, h4, h5, h6, h7⟩ := h
  refine write_no h1 0 a 9 cap 1 (.inr ⟨?_, by decide, rfl⟩)
  unfold DS.there
  rw [h4, h2, if_neg (by simp; omega), if_neg (by decide)]
theorem fz_write {s m k : Nat} (h : FzI w B p s m k) (hm : m < s) (hB : B ≤ w.heap.size) (n : Int) (w' : World) (hx : Bytes w' (.slice (some ⟨w.heap.size, 0, none⟩) 512 512) (blk n)) (hb : Below w.heap.size w w') (a : Nat) (ha : a < 3) :
    Calls Try.prog 13 #[.pointer (some ⟨p, 0, none⟩), .int .i64 a, .slice (some ⟨w.heap.size, 0, none⟩) 512 512] w' fun e w2 => e = .returned (.int .i64 0) ∧ FzI w2 B p s (m + 1) (k + 1) ∧ Below B w' w2 := by
  obtain ⟨d, h1, hf⟩ := h
  have hf0 := hf
  obtain ⟨h2, h3, h4, h5, h6, h7, h8⟩ := hf0
  have hlt2 : w.heap.size < w'.heap.size := RowAt.lt hx (by intro h; have := congrArg List.length h; rw [u8s_length, blk_length] at this; cases this) _ rfl
  refine (write_in h1 w.heap.size 512 (Nat.le_refl _) hb hlt2 hB a (by omega) (by rw [h4]; exact decide_eq_false (by omega)) (by omega) (by omega) (blk n) hx (blk_length n)).mono ?_
  rintro e w2 ⟨rfl, h9, h10⟩
  exact ⟨rfl, ⟨_, h9, hf.write hm a _⟩, h10⟩
theorem fz_flush {s m k : Nat} (h : FzI w B p s m k) (hm : m < s) (hB : B ≤ w.heap.size) : Calls Try.prog 19 #[.pointer (some ⟨p, 0, none⟩)] w fun e w' => e = .returned (.int .i64 0) ∧ FzI w' B p s (m + 1) k ∧ Below B w w' := by
  obtain ⟨d, h1, hf⟩ := h
  have hf0 := hf
  obtain ⟨h2, h3, h4, h5, h6, h7, h8⟩ := hf0
  refine (flush_in h1 hB (by rw [h4]; exact decide_eq_false (by omega)) (by omega)).mono ?_
  rintro e w2 ⟨rfl, h9, h10⟩
  exact ⟨rfl, ⟨_, h9, hf.flush hm⟩, h10⟩
theorem fz_off {s k : Nat} (h : FzI w B p s s k) : ∃ d, DiskIn w B p d ∧ d.off = true := by
  obtain ⟨d, h1, h2, h3, h4, _⟩ := h
  exact ⟨d, h1, by rw [h4]; exact decide_eq_true rfl⟩

set_option maxHeartbeats 4000000 in
theorem fuse_in' (s : Nat) (w : World) (hs : s ≤ 200) : Calls Try.prog 8 #[.int .i64 s] w fun e w' => e = .returned (.bool true) ∧ Below w.heap.size w w' := by
  have hs1 : (s : Int) ≤ 200 := by omega
  have hs0 : (0 : Int) ≤ (s : Int) := by omega
  have HS := Lib.hid hs
  clear hs
  go_enter Try.func8, Try.ntmps8
  go_wp2_with fail
  refine (alive_any _).mono ?_
  rintro e w0 ⟨rfl, hb0⟩
  have HB0 := Lib.hid hb0
  clear hb0
  go_wp2_with fail
  refine (new_in 3 _ (by omega) (by omega)).mono ?_
  rintro e w1 ⟨p, rfl, hd1, hb1⟩
  have HB1 : Hid (Below w.heap.size w w1) := HB0.out.trans (hb1.mono HB0.out.size)
  have HZ1 := Lib.hid hb1.size
  have HWB : Hid (w.heap.size ≤ w0.heap.size) := HB0.out.size
  have HF := Lib.hid (fuse_in hd1 hb1.size s (by omega) rfl)
  clear hd1 hb1 HB0
  generalize w0.heap.size = B at *
  go_wp2_with fail
  refine (HF.out).mono ?_
  rintro e w2 ⟨rfl, hd2, hb2⟩
  have H2 : Hid (FzI w2 B p s 0 0) := ⟨_, hd2, rfl, by show (s : Int) = _; simp, by
    show ((s : Int) == 0) = decide (0 = s)
    rw [Bool.eq_iff_iff]
    simp only [beq_iff_eq, decide_eq_true_eq]
    omega, Nat.le_refl _, Nat.zero_le _, Nat.le_refl _, HS.out⟩
  have HB2 : Hid (Below w.heap.size w w2) := HB1.out.trans (hb2.mono HWB.out)
  have HZ2 : Hid (B ≤ w2.heap.size) := Nat.le_trans HZ1.out hb2.size
  clear hd2 hb2 HF HB1 HZ1
  go_wp2_with fail
  go_loopw [7, 8, 9] (fun a i _ wr => ∃ m k : Nat, a = .int .i64 m ∧ i = .int .i64 k ∧ k ≤ 200 ∧ FzI wr B p s m k ∧ Below w.heap.size w wr ∧ B ≤ wr.heap.size) (fun _ i _ _ => 300 - (intOf i).toNat)
  case atStart => exact ⟨0, 0, rfl, rfl, by omega, H2.out, HB2.out, HZ2.out⟩
  case round =>
    obtain ⟨m, k, rfl, rfl, hk, hh, hb, hz⟩ := hrel
    have hms : m ≤ s ∧ k ≤ m := by obtain ⟨d, _, _, _, _, _, h5, h6, _⟩ := hh; exact ⟨h5, h6⟩
    have HO := Lib.hid (fz_on hh)
    have HH := Lib.hid hh
    have HB := Lib.hid hb
    have HZ := Lib.hid hz
    have k0 : (0 : Int) ≤ (k : Int) := by omega
    have k1 : (k : Int) < 300 := by omega
    have m0 : (0 : Int) ≤ (m : Int) := by omega
    have m1 : (m : Int) ≤ 200 := by omega
    clear hh hb hz H2 HB2 HZ2
    by_cases hm : m < s
    · have HR := Lib.hid (fz_read HH.out hm (k % 3) (by omega))
      rw [decide_eq_true hm] at HO
      go_wp2_with fail
      refine (HO.out).mono ?_
      rintro e w3 ⟨rfl, rfl⟩
      have e3 : ((k % 3 : Nat) : Int) = (k : Int) % 3 := by omega
      have HM := Lib.hid hm
      have HMS := Lib.hid hms
      have HK := Lib.hid hk
      rw [e3] at HR
      clear hm hms hk
      have q0 : (0 : Int) ≤ (k : Int) % 3 := by omega
      have q1 : (k : Int) % 3 < 3 := by omega
      go_wp2_with fail
      refine (HR.out).mono ?_
      rintro e w4 ⟨⟨v, rfl⟩, hh4, hb4⟩
      have H4 := Lib.hid hh4
      have HB4 : Hid (Below w.heap.size w w4) := HB.out.trans (hb4.mono HB.out.size)
      have HZ4 : Hid (B ≤ w4.heap.size) := Nat.le_trans HZ.out hb4.size
      clear hh4 hb4 HR HB HZ HH HO
      go_wp2_with fail
      refine (block_any 1 _).mono ?_
      rintro e w5 ⟨rfl, _, hb5⟩
      have H5 := Lib.hid (H4.out.below hb5)
      have HB5 : Hid (Below w.heap.size w w5) := HB4.out.trans (hb5.mono HB4.out.size)
      have HZ5 : Hid (B ≤ w5.heap.size) := Nat.le_trans HZ4.out hb5.size
      clear hb5 H4 HB4 HZ4
      go_wp2_with fail
      refine (fz_no3 H5.out HM.out _ _ _).mono ?_
      rintro e w6 ⟨rfl, rfl⟩
      go_wp2_with fail
      refine (block_any 1 _).mono ?_
      rintro e w6 ⟨rfl, _, hb6⟩
      have H6 := Lib.hid (H5.out.below hb6)
      have HB6 : Hid (Below w.heap.size w w6) := HB5.out.trans (hb6.mono HB5.out.size)
      have HZ6 : Hid (B ≤ w6.heap.size) := Nat.le_trans HZ5.out hb6.size
      clear hb6 H5 HB5 HZ5
      go_wp2_with fail
      refine (fz_no9 H6.out HM.out _ _).mono ?_
      rintro e w7 ⟨rfl, rfl⟩
      go_wp2_with fail
      refine (block_any _ _).mono ?_
      rintro e w7 ⟨rfl, hx7, hb7⟩
      have HW := Lib.hid (fz_write H6.out HM.out HZ6.out _ w7 hx7 hb7 (k % 3) (by omega))
      rw [e3] at HW
      have HB7 : Hid (Below w.heap.size w w7) := HB6.out.trans (hb7.mono HB6.out.size)
      have HZ7 : Hid (B ≤ w7.heap.size) := Nat.le_trans HZ6.out hb7.size
      clear hx7 hb7 H6 HB6 HZ6
      go_wp2_with fail
      refine (HW.out).mono ?_
      rintro e w8 ⟨rfl, hh8, hb8⟩
      have H8 := Lib.hid hh8
      have HB8 : Hid (Below w.heap.size w w8) := HB7.out.trans (hb8.mono HWB.out)
      have HZ8 : Hid (B ≤ w8.heap.size) := Nat.le_trans HZ7.out hb8.size
      clear hh8 hb8 HB7 HZ7 HW e3
      go_wp2_with fail
      refine (num_any _ _).mono ?_
      rintro e w9 ⟨rfl, rfl⟩
      by_cases h4 : (k : Int) % 4 = 3
      · by_cases hm2 : m + 1 < s
        · have HF := Lib.hid (fz_flush H8.out hm2 HZ8.out)
          have HM2 := Lib.hid hm2
          clear hm2 H8
          go_wp2_with fail
          refine (HF.out).mono ?_
          rintro e wA ⟨rfl, hhA, hbA⟩
          have HA := Lib.hid hhA
          have HBA : Hid (Below w.heap.size w wA) := HB8.out.trans (hbA.mono HWB.out)
          have HZA : Hid (B ≤ wA.heap.size) := Nat.le_trans HZ8.out hbA.size
          clear hhA hbA HF
          go_wp2_with fail
          refine (num_any _ _).mono ?_
          rintro e wC ⟨rfl, rfl⟩
          go_wp2_with fail
          go_roundw
          case rel => exact ⟨m + 1 + 1, k + 1, by go_num, by go_num, by have := HM2.out; have := HMS.out; have := HS.out; omega, HA.out, HBA.out, HZA.out⟩
          case measure => simp [intOf]; omega
        · have hms1 : m + 1 = s := by have := HM.out; omega
          have hh8 := H8.out
          rw [hms1] at hh8
          obtain ⟨d8, hd8, ho8⟩ := fz_off hh8
          clear hh8 hms1 hm2
          have HF := Lib.hid (flush_off_in hd8 ho8)
          clear hd8 ho8
          go_wp2_with fail
          refine (HF.out).mono ?_
          rintro e wA ⟨rfl, _, hbA⟩
          have HA := Lib.hid (H8.out.below hbA)
          have HBA : Hid (Below w.heap.size w wA) := HB8.out.trans (hbA.mono HB8.out.size)
          have HZA : Hid (B ≤ wA.heap.size) := Nat.le_trans HZ8.out hbA.size
          clear hbA HF H8
          go_wp2_with fail
          refine (num_any _ _).mono ?_
          rintro e wC ⟨rfl, rfl⟩
          go_wp2_with fail
          go_roundw
          case rel => exact ⟨m + 1, k + 1, by go_num, by go_num, by have := HM.out; have := HMS.out; have := HS.out; omega, HA.out, HBA.out, HZA.out⟩
          case measure => simp [intOf]; omega
      · have h5 : (k : Int) % 4 = 0 ∨ (k : Int) % 4 = 1 ∨ (k : Int) % 4 = 2 := by omega
        clear h4
        rcases h5 with h4 | h4 | h4
        all_goals
          go_wp2_with fail
          go_roundw
          case rel => exact ⟨m + 1, k + 1, by go_num, by go_num, by have := HM.out; have := HMS.out; have := HS.out; omega, H8.out, HB8.out, HZ8.out⟩
          case measure => simp [intOf]; omega
    · obtain rfl : m = s := by omega
      obtain ⟨d, hd, ho⟩ := fz_off HH.out
      have HF := Lib.hid (flush_off_in hd ho)
      have HOF := Lib.hid ho
      rw [decide_eq_false hm] at HO
      clear hd ho HH hm hms
      go_wp2_with fail
      refine (HO.out).mono ?_
      rintro e w3 ⟨rfl, rfl⟩
      go_wp2_with fail
      refine (HF.out).mono ?_
      rintro e w4 ⟨rfl, hd4, hb4⟩
      have HD4 := Lib.hid hd4
      have HB4 : Hid (Below w.heap.size w w4) := HB.out.trans (hb4.mono HB.out.size)
      have HZ4 : Hid (B ≤ w4.heap.size) := Nat.le_trans HZ.out hb4.size
      clear hd4 hb4 HF HB HZ HO
      go_wp2_with fail
      refine (read_off HD4.out HOF.out 0).mono ?_
      rintro e w5 ⟨rfl, rfl⟩
      have HC := Lib.hid (crash_in HD4.out HZ4.out none 0 0 (fun _ => 0) ⟨by omega, .inl rfl⟩ (fun x hx => by cases hx))
      go_wp2_with fail
      refine (HC.out).mono ?_
      rintro e w6 ⟨⟨v, rfl⟩, hd6, hb6⟩
      have HB6 : Hid (Below w.heap.size w w6) := HB4.out.trans (hb6.mono HWB.out)
      have HZ6 : Hid (B ≤ w6.heap.size) := Nat.le_trans HZ4.out hb6.size
      have HF := Lib.hid (flush_in hd6 HZ6.out rfl (by show (-1 : Int) ≤ _; decide))
      have HE : Hid ((d.crash (keepB 0 fun _ => 0)).flush = { (d.crash (keepB 0 fun _ => 0)) with fast := layAll (d.crash (keepB 0 fun _ => 0)).fast [] }) := by
        show _ = _
        unfold DS.flush DS.step
        rw [if_neg (by show ¬ (0 : Int) < -1; decide)]
        rfl
      clear hd6 hb6 HC HB4 HZ4 HD4 HOF
      go_wp2_with fail
      refine (HF.out).mono ?_
      rintro e w7 ⟨rfl, hd7, hb7⟩
      rw [HE.out] at hd7
      have HB7 : Hid (Below w.heap.size w w7) := HB6.out.trans (hb7.mono HWB.out)
      have HON := Lib.hid (on_in hd7)
      have HPE := Lib.hid (pending_in hd7)
      clear hd7 hb7 HF HE HB6
      go_wp2_with fail
      refine (num_any _ _).mono ?_
      rintro e w8 ⟨rfl, rfl⟩
      go_wp2_with fail
      refine (num_any _ _).mono ?_
      rintro e w8 ⟨rfl, rfl⟩
      go_wp2_with fail
      refine (num_any _ _).mono ?_
      rintro e w8 ⟨rfl, rfl⟩
      go_wp2_with fail
      refine (num_any _ _).mono ?_
      rintro e w8 ⟨rfl, rfl⟩
      go_wp2_with fail
      refine (HON.out).mono ?_
      rintro e w8 ⟨rfl, rfl⟩
      have hoff : (d.crash (keepB 0 fun _ => 0)).off = false := rfl
      try simp only [hoff, Bool.not_false]
      go_wp2_with fail
      refine (HPE.out).mono ?_
      rintro e w8 ⟨a8, c8, rfl, _, hb8⟩
      have HB8 : Hid (Below w.heap.size w w8) := HB7.out.trans (hb8.mono HB7.out.size)
      have hbk : (d.crash (keepB 0 fun _ => 0)).back.length = 0 := rfl
      try simp only [hbk]
      clear hb8
      go_wp2_with fail
      go_ret
      exact ⟨rfl, HB8.out⟩

set_option maxHeartbeats 400000 in
theorem fuseL_out (s : Int) (w : World) (h : s < 0 ∨ (0 ≤ s ∧ 200 < s)) : Calls Try.prog 8 #[.int .i64 s] w fun e w' => e = .returned (.bool true) ∧ Below w.heap.size w w' := by
  rcases h with h | ⟨h1, h⟩
  all_goals
    go_enter Try.func8, Try.ntmps8
    go_wp2_with fail
    refine (alive_any _).mono ?_
    rintro e w1 ⟨rfl, hb1⟩
    go_wp2_with fail
    go_ret
    exact ⟨rfl, hb1⟩
theorem fuseL_walk (a0 : Int) (_ : (Lit.int .i64 a0).wf = true) (w : World) : Calls Try.prog 8 #[.int .i64 a0] w fun e w' => e = .returned (.bool true) ∧ Below w.heap.size w w' := by
  by_cases h1 : 0 ≤ a0
  · by_cases h2 : a0 ≤ 200
    · obtain ⟨k, rfl⟩ := Int.eq_ofNat_of_zero_le h1
      exact fuse_in' k w (by omega)
    · exact fuseL_out _ w (.inr ⟨h1, by omega⟩)
  · exact fuseL_out _ w (.inl (by omega))
end Go.Proofs.Ythdefaodioapbaa
