/- LedgerFormat. -/
import Derived.Test.YthfncgbkigmmcaaRawL
namespace Go.Proofs.Ythfncgbkigmmcaa
open Go.RowKit

variable {w w' w1 wr : World} {O R O1 R1 : Nat → Prop} {B lp p n : Nat} {d D : DS} {dead : Bool} {c : Nat → Bs}
set_option maxRecDepth 10000 in
set_option maxHeartbeats 1600000 in
theorem format_small (h : DiskO w O R p d) (hn : d.n ≤ 96) (hr : Room 60 d) (ho : d.off = false) :
    Calls Try.prog 26 #[.pointer (some ⟨p, 0, none⟩)] w fun e w' => Opened w O R p (d, false) 1 e w' := by
  have hmf : ∀ (fn : Fn) (first cap : Array Value) (w : World), (Instr.makeFunc fn first cap).run Try.prog w = .ok (.func fn first cap) w := fun _ _ _ _ => rfl
  have HD := Lib.hid h
  have A0 : Hid (At0 w O R p d.n 60 d (startO w O) R (startW w p)) := ⟨start_led h, Turned.refl _ _ _, rfl, hr⟩
  have n1 : (d.n : Int) ≤ 96 := by omega
  have hsz := start_size w p
  have HSZ := Lib.hid hsz
  clear h hr hsz
  go_enter_defers Try.func26, Try.ntmps26
  go_wp2_with fail
  obtain ⟨W1, hW1⟩ : ∃ W1, W1 = startW w p := ⟨_, rfl⟩
  rw [← hW1] at A0 HSZ
  unfold startW at hW1
  rw [← hW1]
  clear hW1
  have HON := Lib.hid (on_led A0.out.1)
  rw [ho] at HON
  have HBL := Lib.hid (blocks_led A0.out.1)
  refine (HON.out).mono ?_
  rintro e w1 ⟨rfl, rfl⟩
  go_wp2_with fail
  refine (HBL.out).mono ?_
  rintro e w1 ⟨rfl, rfl⟩
  go_wp2_with fail
  exact door_bad shutF HD.out A0.out.1 A0.out.2.1 1 rfl rfl rfl rfl
theorem format_small_in (h : DiskIn w B p d) (hB : B ≤ w.heap.size) (hr : Room 60 d) (ho : d.off = false) (hn : d.n ≤ 96) : Calls Try.prog 26 #[.pointer (some ⟨p, 0, none⟩)] w fun e w' => e = .returned (.tuple #[.pointer none, .int .i64 1]) ∧ DiskIn w' B p d ∧ Below B w w' := by
  obtain ⟨O, R, h1, h2⟩ := h
  exact (format_small h1 hn hr ho).mono fun e w' q => opened_not h2 hB q
theorem range_quiet (h : QL w B lp p n c) (k : Int) (hn : 0 < n) (hk : k < 0 ∨ (0 ≤ k ∧ (n : Int) - 96 ≤ k)) : Calls Try.prog 17 #[.pointer (some ⟨lp, 0, none⟩), .int .i64 k] w fun e w' => e = .returned (.tuple #[.slice none 0 0, .int .i64 10]) ∧ Below w.heap.size w w' := by
  obtain ⟨d, h1, h2, h3⟩ := h
  have hn2 := h1.n2
  obtain ⟨O, R, h1, _⟩ := h1
  have hdn := h2.n
  exact lRead_range h1 h3.1 k hn2 (by omega) (by rw [hdn]; exact hk)
set_option maxHeartbeats 1600000 in
theorem format_law (n : Nat) (w : World) (h1 : 1 ≤ n) (h2 : n ≤ 200) : Calls Try.prog 5 #[.int .i64 n] w fun e w' => e = .returned (.bool true) ∧ Below w.heap.size w w' := by
  have n0 : ¬ (n : Int) < 1 := by omega
  have n1 : ¬ (200 : Int) < (n : Int) := by omega
  go_enter Try.func5, Try.ntmps5
  go_wp2_with fail
  refine (alive_any _).mono ?_
  rintro e w0 ⟨rfl, hb0⟩
  have HB0 := Lib.hid hb0
  have HN := Lib.hid (new_in n w0 h1 (by omega))
  clear hb0
  go_wp2_with fail
  refine (HN.out).mono ?_
  rintro e w1 ⟨p, rfl, hd1, hb1⟩
  have HB1 := Lib.hid (HB0.out.trans (hb1.mono HB0.out.size))
  have HS1 := Lib.hid hb1.size
  have HS0 := Lib.hid HB0.out.size
  have HO := Lib.hid (open_raw_in hd1 hb1.size (room_new n 60 (by omega)) rfl (raw_new n))
  clear hb1 hd1 HN HB0
  go_wp2_with fail
  refine (HO.out).mono ?_
  rintro e w2 ⟨rfl, hd2, hb2⟩
  have HB2 := Lib.hid (HB1.out.trans (hb2.mono HS0.out))
  have HS2 := Lib.hid (Nat.le_trans HS1.out hb2.size)
  have HP := Lib.hid (pending_in hd2)
  clear hd2 hb2 HB1 HO
  go_wp2_with fail
  refine (num_any _ _).mono ?_
  rintro e w3 ⟨rfl, rfl⟩
  go_wp2_with fail
  refine (HP.out).mono ?_
  rintro e w4 ⟨a, cap, rfl, hd4, hb4⟩
  have HB4 := Lib.hid (HB2.out.trans (hb4.mono HB2.out.size))
  have HD4 := Lib.hid hd4
  have HS4 := Lib.hid (Nat.le_trans HS2.out hb4.size)
  have h0 : (DS.new n).back.length = 0 := rfl
  rw [h0]
  clear hd4 hb4 HB2 HP h0 HS2
  by_cases hs : n ≤ 96
  · have hs1 : (n : Int) ≤ 96 := by omega
    have HF := Lib.hid (format_small_in HD4.out HS4.out (room_new n 60 (by omega)) rfl hs)
    go_wp2_with fail
    refine (HF.out).mono ?_
    rintro e w5 ⟨rfl, _, hb5⟩
    have HB5 := Lib.hid (HB4.out.trans (hb5.mono HS0.out))
    clear hb5
    go_wp2_with fail
    refine (num_any _ _).mono ?_
    rintro e w6 ⟨rfl, rfl⟩
    go_wp2_with fail
    go_ret
    exact ⟨rfl, HB5.out⟩
  · have hs1 : ¬ (n : Int) ≤ 96 := by omega
    have HF := Lib.hid (format_in HD4.out HS4.out (rest_new n) (live_new n) (by omega))
    go_wp2_with fail
    refine (HF.out).mono ?_
    rintro e w5 ⟨lp, rfl, hq5, hb5⟩
    have HB5 := Lib.hid (HB4.out.trans (hb5.mono HS0.out))
    have HQ5 := Lib.hid hq5
    have HBL := Lib.hid (lblocks_quiet hq5)
    clear hb5 hq5 HF HB4 HD4 HS4
    go_wp2_with fail
    refine (num_any _ _).mono ?_
    rintro e w6 ⟨rfl, rfl⟩
    go_wp2_with fail
    refine (HBL.out).mono ?_
    rintro e w6 ⟨rfl, rfl⟩
    go_wp2_with fail
    have HS6 : Hid (w.heap.size ≤ w6.heap.size) := HB5.out.size
    go_loopw [8] (fun i wr => ∃ k : Nat, k + 96 ≤ n ∧ i = .int .i64 k ∧ QL wr w0.heap.size lp p n (fun _ => zeroB) ∧ Below w.heap.size w wr) (fun i _ => n - (intOf i).toNat)
    case atStart => exact ⟨0, by omega, rfl, HQ5.out, HB5.out⟩
    case round =>
      obtain ⟨k, hk, rfl, hq, hb⟩ := hrel
      have k0 : (0 : Int) ≤ (k : Int) := by omega
      have HBL := Lib.hid (lblocks_quiet hq)
      have HQ := Lib.hid hq
      have HB := Lib.hid hb
      clear hb hq
      by_cases hlt : k + 96 < n
      · have k1 : (k : Int) < (n : Int) - 96 := by omega
        have HRD := Lib.hid (read_quiet HQ.out k hlt)
        go_wp2_with fail
        refine (HBL.out).mono ?_
        rintro e w7 ⟨rfl, rfl⟩
        go_wp2_with fail
        refine (HRD.out).mono ?_
        rintro e w7 ⟨g, cap7, rfl, hx7, _, hb7⟩
        have hcv : ∀ W, Below w7.heap.size w7 W → (convert 24 9 (.slice (some ⟨g, 0, none⟩) 512 cap7)).run Try.prog W = .ok (.string ⟨zeroB.toArray⟩) W := fun W hW => run_string_of W 24 5 Try.underlying24 Try.underlying5 (RowAt.below hx7 hW (Nat.le_refl _)) 9 Try.underlying9
        have HB7 := Lib.hid (HB.out.trans (hb7.mono HB.out.size))
        have HQ7 := Lib.hid (HQ.out.below hb7)
        have HS0 : Hid (Below w7.heap.size w7 w7.drew) := (Below.refl _ _).drew
        clear hx7 hb7 HRD
        go_wp2_with fail
        refine wp_region_noPanic ?_
        refine wp_region_ordL 9 [7, 9] [0, 1, 2, 3, 4, 5, 6, 7, 8, 9] (fun W => Below w7.heap.size w7 W) (by kernel_rfl) (by kernel_rfl) rfl (by kernel_rfl) (fun _ _ _ _ _ h => h) HS0.out ?_
        repeat (apply heldL_run rfl (by rfl) (by rfl); (intro w hSw; go_simp; with_reducible rfl); (try simp only [Act.put, List.setIfInBounds_toArray, List.set_cons_zero, List.set_cons_succ]))
        refine heldL_step rfl (by rfl) (by rfl) (fun K hK => ?_)
        go_simp
        refine (num_any _ _).mono ?_
        rintro e w8 ⟨rfl, rfl⟩
        refine hK.out _ _ (.inr HS0.out) ?_
        clear hK K
        (try simp only [Act.put, List.setIfInBounds_toArray, List.set_cons_zero, List.set_cons_succ])
        repeat (apply heldL_run rfl (by rfl) (by rfl); (intro w hSw; go_simp; with_reducible rfl); (try simp only [Act.put, List.setIfInBounds_toArray, List.set_cons_zero, List.set_cons_succ]))
        refine heldL_step rfl (by rfl) (by rfl) (fun K hK => ?_)
        go_simp
        refine (block_any 0 _).mono ?_
        rintro e w8 ⟨rfl, hx8, hb8⟩
        have HS8 : Hid (Below w7.heap.size w7 w8) := HS0.out.trans hb8
        have hc8 := run_string_of w8 24 5 Try.underlying24 Try.underlying5 hx8 9 Try.underlying9
        rw [show blk 0 = zeroB from if_pos rfl] at hc8
        clear hx8 hb8
        generalize w7.drew.heap.size = q at *
        refine hK.out _ _ (.inr HS8.out) ?_
        clear hK K
        (try simp only [Act.put, List.setIfInBounds_toArray, List.set_cons_zero, List.set_cons_succ])
        repeat (apply heldL_run rfl (by rfl) (by rfl); (intro w hSw; go_simp; with_reducible rfl); (try simp only [Act.put, List.setIfInBounds_toArray, List.set_cons_zero, List.set_cons_succ]))
        refine heldL_step rfl (by rfl) (by rfl) (fun K hK => ?_)
        go_simp
        refine hK.out _ _ (.inr HS8.out) ?_
        clear hK K
        (try simp only [Act.put, List.setIfInBounds_toArray, List.set_cons_zero, List.set_cons_succ])
        repeat (apply heldL_run rfl (by rfl) (by rfl); (intro w hSw; go_simp; with_reducible rfl); (try simp only [Act.put, List.setIfInBounds_toArray, List.set_cons_zero, List.set_cons_succ]))
        refine heldL_step rfl (by rfl) (by rfl) (fun K hK => ?_)
        go_simp
        refine hK.out _ _ (.inl rfl) ?_
        clear hK K
        (try simp only [Act.put, List.setIfInBounds_toArray, List.set_cons_zero, List.set_cons_succ])
        refine heldL_nil (NoPanic.normal ?_)
        have HB8 := Lib.hid (HB7.out.trans (HS8.out.mono HB7.out.size))
        have HQ8 := Lib.hid (HQ7.out.below HS8.out)
        go_wp2_with fail
        go_roundw
        case rel => exact ⟨k + 1, by omega, by go_num, HQ8.out, HB8.out⟩
        case measure => simp [intOf]; omega
      · have k1 : ¬ (k : Int) < (n : Int) - 96 := by omega
        have HR1 := Lib.hid (range_quiet HQ.out ((n : Int) - 96) (by omega) (.inr ⟨by omega, Int.le_refl _⟩))
        go_wp2_with fail
        refine (HBL.out).mono ?_
        rintro e w7 ⟨rfl, rfl⟩
        go_wp2_with fail
        refine (HBL.out).mono ?_
        rintro e w7 ⟨rfl, rfl⟩
        go_wp2_with fail
        refine (HR1.out).mono ?_
        rintro e w8 ⟨rfl, hb8⟩
        have HR2 := Lib.hid (range_quiet (HQ.out.below hb8) (-1) (by omega) (.inl (by decide)))
        have HB8 := Lib.hid (HB.out.trans (hb8.mono HB.out.size))
        clear hb8
        go_wp2_with fail
        refine (HR2.out).mono ?_
        rintro e w9 ⟨rfl, hb9⟩
        have HB9 := Lib.hid (HB8.out.trans (hb9.mono HB8.out.size))
        clear hb9
        go_wp2_with fail
        refine (num_any _ _).mono ?_
        rintro e w10 ⟨rfl, rfl⟩
        go_wp2_with fail
        refine (num_any _ _).mono ?_
        rintro e w10 ⟨rfl, rfl⟩
        go_wp2_with fail
        go_ret
        exact ⟨rfl, HB9.out⟩
set_option maxHeartbeats 400000 in
theorem format_walk (a0 : Int) (_ : (Lit.int .i64 a0).wf = true) (w : World) : Calls Try.prog 5 #[.int .i64 a0] w fun e w' => e = .returned (.bool true) ∧ Below w.heap.size w w' := by
  by_cases h1 : a0 < 1
  · go_enter Try.func5, Try.ntmps5
    go_wp2_with fail
    refine (alive_any _).mono ?_
    rintro e w0 ⟨rfl, hb0⟩
    have HB0 := Lib.hid hb0
    clear hb0
    go_wp2_with fail
    go_ret
    exact ⟨rfl, HB0.out⟩
  · by_cases h2 : 200 < a0
    · go_enter Try.func5, Try.ntmps5
      go_wp2_with fail
      refine (alive_any _).mono ?_
      rintro e w0 ⟨rfl, hb0⟩
      have HB0 := Lib.hid hb0
      clear hb0
      go_wp2_with fail
      go_ret
      exact ⟨rfl, HB0.out⟩
    · obtain ⟨k, rfl⟩ := Int.eq_ofNat_of_zero_le (show 0 ≤ a0 by omega)
      exact format_law k w (by omega) (by omega)
end Go.Proofs.Ythfncgbkigmmcaa
