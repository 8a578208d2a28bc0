/- PathBytes. -/
import Derived.Test.YtpnbmfibooglgaaDoorAlive
import Derived.Test.YtpnbmfibooglgaaDoorMem
namespace Go.Proofs.YtpnbmfibooglgaaDoor
open Go.RowKit

set_option maxRecDepth 100000 in
theorem one_valid : ∀ x, x < 256 → validB [UInt8.ofNat x] = (okc x && decide (x ≠ 46)) := by decide +kernel
set_option maxRecDepth 100000 in
theorem two_valid : ∀ x, x < 256 → validB [97, UInt8.ofNat x] = okc x := by decide +kernel
set_option maxHeartbeats 2000000 in
theorem bytes_in (c : Int) (w : World) (_ : (Lit.int .i64 c).wf = true) : Calls Tryd.prog 4 #[.int .i64 c] w fun e w' => e = .returned (.bool true) ∧ Below w.heap.size w w' := by
  obtain ⟨x, hx, hxl⟩ : ∃ x : Nat, IntKind.u8.wrap c = (x : Int) ∧ x < 256 := by
    have := IntKind.wrap_u8 c
    refine ⟨(IntKind.u8.wrap c).toNat, ?_, ?_⟩ <;> omega
  have HO := Lib.hid (one_valid x hxl)
  have HT := Lib.hid (two_valid x hxl)
  have hv1 : ∀ w, Calls Tryd.prog 11 #[.string ⟨#[UInt8.ofNat x]⟩] w fun e w' => e = .returned (.bool (validB [UInt8.ofNat x])) ∧ Below w.heap.size w w' := fun w => valid_any ⟨#[UInt8.ofNat x]⟩ w (by show 1 ≤ _; omega)
  have hv2 : ∀ w, Calls Tryd.prog 11 #[.string (⟨#[97]⟩ ++ ⟨#[UInt8.ofNat x]⟩)] w fun e w' => e = .returned (.bool (validB [97, UInt8.ofNat x])) ∧ Below w.heap.size w w' := fun w => valid_any ⟨#[97, UInt8.ofNat x]⟩ w (by show 2 ≤ _; omega)
  have hcv : ∀ w1 : World, (convert 25 9 (.slice (some ⟨w1.heap.size, 0, none⟩) 1 1)).run Tryd.prog (w1.alloc (.cells #[.int .u8 x] 5)) = .ok (.string ⟨#[UInt8.ofNat x]⟩) (w1.alloc (.cells #[.int .u8 x] 5)) := fun w1 => by
    refine run_string_of (bs := [UInt8.ofNat x]) _ 25 5 Tryd.underlying25 Tryd.underlying5 ?_ 9 Tryd.underlying9
    have := row_new w1 #[.int .u8 x] 5 (0, 0) 1 (Nat.le_refl _)
    show RowAt _ _ (u8s [UInt8.ofNat x])
    have e : u8s [UInt8.ofNat x] = [.int .u8 x] := by
      show [Value.int .u8 ((UInt8.ofNat x).toNat : Int)] = _
      rw [UInt8.toNat_ofNat_of_lt' (by omega)]
    rw [e]
    exact this
  have HCV := Lib.hid hcv
  clear hcv
  go_enter Tryd.func4, Tryd.ntmps4
  go_wp2_with fail
  refine (alive_any w).mono ?_
  rintro e w1 ⟨rfl, hb1⟩
  have HB1 := Lib.hid hb1
  clear hb1
  have hc1 := HCV.out w1
  by_cases g44 : x ≤ 44
  · skip
    have t0 : ¬ (97 : Int) ≤ (x : Int) := by omega
    have t1 : (x : Int) ≤ 122 := by omega
    have t2 : ¬ (48 : Int) ≤ (x : Int) := by omega
    have t3 : (x : Int) ≤ 57 := by omega
    have q46 : ((x : Int) == 46) = false := by simp; omega
    have q95 : ((x : Int) == 95) = false := by simp; omega
    have q45 : ((x : Int) == 45) = false := by simp; omega
    rw [HO.out, show (okc _ && decide (_ ≠ 46)) = false by simp [okc]; omega] at hv1
    rw [HT.out, show okc _ = false by simp [okc]; omega] at hv2
    have HV1 := Lib.hid hv1
    have HV2 := Lib.hid hv2
    clear hv1 hv2
    go_wp2_with fail
    refine (HV1.out _).mono ?_
    rintro e w2 ⟨rfl, hb2⟩
    have HB2 : Hid (Below w.heap.size w w2) := (HB1.out.alloc HB1.out.size _).trans (hb2.mono (by have := HB1.out.size; simp; omega))
    have hc2 := HCV.out w2
    clear hb2
    go_wp2_with fail
    refine (HV2.out _).mono ?_
    rintro e w3 ⟨rfl, hb3⟩
    have HB3 : Hid (Below w.heap.size w w3) := (HB2.out.alloc HB2.out.size _).trans (hb3.mono (by have := HB2.out.size; simp; omega))
    clear hb3
    go_wp2_with fail
    go_ret
    refine ⟨?_, HB3.out⟩
    first | rfl | (show Ending.returned (.bool _) = _; simp; done) | (show Ending.returned (.bool _) = _; simp; omega)
  · skip
    by_cases g45 : x ≤ 45
    · skip
      have t0 : ¬ (97 : Int) ≤ (x : Int) := by omega
      have t1 : (x : Int) ≤ 122 := by omega
      have t2 : ¬ (48 : Int) ≤ (x : Int) := by omega
      have t3 : (x : Int) ≤ 57 := by omega
      have q46 : ((x : Int) == 46) = false := by simp; omega
      have q95 : ((x : Int) == 95) = false := by simp; omega
      have q45 : ((x : Int) == 45) = true := by simp; omega
      rw [HO.out, show (okc _ && decide (_ ≠ 46)) = true by simp [okc]; omega] at hv1
      rw [HT.out, show okc _ = true by simp [okc]; omega] at hv2
      have HV1 := Lib.hid hv1
      have HV2 := Lib.hid hv2
      clear hv1 hv2
      go_wp2_with fail
      refine (HV1.out _).mono ?_
      rintro e w2 ⟨rfl, hb2⟩
      have HB2 : Hid (Below w.heap.size w w2) := (HB1.out.alloc HB1.out.size _).trans (hb2.mono (by have := HB1.out.size; simp; omega))
      have hc2 := HCV.out w2
      clear hb2
      go_wp2_with fail
      refine (HV2.out _).mono ?_
      rintro e w3 ⟨rfl, hb3⟩
      have HB3 : Hid (Below w.heap.size w w3) := (HB2.out.alloc HB2.out.size _).trans (hb3.mono (by have := HB2.out.size; simp; omega))
      clear hb3
      go_wp2_with fail
      go_ret
      refine ⟨?_, HB3.out⟩
      first | rfl | (show Ending.returned (.bool _) = _; simp; done) | (show Ending.returned (.bool _) = _; simp; omega)
    · skip
      by_cases g46 : x ≤ 46
      · skip
        have t0 : ¬ (97 : Int) ≤ (x : Int) := by omega
        have t1 : (x : Int) ≤ 122 := by omega
        have t2 : ¬ (48 : Int) ≤ (x : Int) := by omega
        have t3 : (x : Int) ≤ 57 := by omega
        have q46 : ((x : Int) == 46) = true := by simp; omega
        have q95 : ((x : Int) == 95) = false := by simp; omega
        have q45 : ((x : Int) == 45) = false := by simp; omega
        rw [HO.out, show (okc _ && decide (_ ≠ 46)) = false by simp [okc]; omega] at hv1
        rw [HT.out, show okc _ = true by simp [okc]; omega] at hv2
        have HV1 := Lib.hid hv1
        have HV2 := Lib.hid hv2
        clear hv1 hv2
        go_wp2_with fail
        refine (HV1.out _).mono ?_
        rintro e w2 ⟨rfl, hb2⟩
        have HB2 : Hid (Below w.heap.size w w2) := (HB1.out.alloc HB1.out.size _).trans (hb2.mono (by have := HB1.out.size; simp; omega))
        have hc2 := HCV.out w2
        clear hb2
        go_wp2_with fail
        refine (HV2.out _).mono ?_
        rintro e w3 ⟨rfl, hb3⟩
        have HB3 : Hid (Below w.heap.size w w3) := (HB2.out.alloc HB2.out.size _).trans (hb3.mono (by have := HB2.out.size; simp; omega))
        clear hb3
        go_wp2_with fail
        go_ret
        refine ⟨?_, HB3.out⟩
        first | rfl | (show Ending.returned (.bool _) = _; simp; done) | (show Ending.returned (.bool _) = _; simp; omega)
      · skip
        by_cases g47 : x ≤ 47
        · skip
          have t0 : ¬ (97 : Int) ≤ (x : Int) := by omega
          have t1 : (x : Int) ≤ 122 := by omega
          have t2 : ¬ (48 : Int) ≤ (x : Int) := by omega
          have t3 : (x : Int) ≤ 57 := by omega
          have q46 : ((x : Int) == 46) = false := by simp; omega
          have q95 : ((x : Int) == 95) = false := by simp; omega
          have q45 : ((x : Int) == 45) = false := by simp; omega
          rw [HO.out, show (okc _ && decide (_ ≠ 46)) = false by simp [okc]; omega] at hv1
          rw [HT.out, show okc _ = false by simp [okc]; omega] at hv2
          have HV1 := Lib.hid hv1
          have HV2 := Lib.hid hv2
          clear hv1 hv2
          go_wp2_with fail
          refine (HV1.out _).mono ?_
          rintro e w2 ⟨rfl, hb2⟩
          have HB2 : Hid (Below w.heap.size w w2) := (HB1.out.alloc HB1.out.size _).trans (hb2.mono (by have := HB1.out.size; simp; omega))
          have hc2 := HCV.out w2
          clear hb2
          go_wp2_with fail
          refine (HV2.out _).mono ?_
          rintro e w3 ⟨rfl, hb3⟩
          have HB3 : Hid (Below w.heap.size w w3) := (HB2.out.alloc HB2.out.size _).trans (hb3.mono (by have := HB2.out.size; simp; omega))
          clear hb3
          go_wp2_with fail
          go_ret
          refine ⟨?_, HB3.out⟩
          first | rfl | (show Ending.returned (.bool _) = _; simp; done) | (show Ending.returned (.bool _) = _; simp; omega)
        · skip
          by_cases g57 : x ≤ 57
          · skip
            have t0 : ¬ (97 : Int) ≤ (x : Int) := by omega
            have t1 : (x : Int) ≤ 122 := by omega
            have t2 : (48 : Int) ≤ (x : Int) := by omega
            have t3 : (x : Int) ≤ 57 := by omega
            have q46 : ((x : Int) == 46) = false := by simp; omega
            have q95 : ((x : Int) == 95) = false := by simp; omega
            have q45 : ((x : Int) == 45) = false := by simp; omega
            rw [HO.out, show (okc _ && decide (_ ≠ 46)) = true by simp [okc]; omega] at hv1
            rw [HT.out, show okc _ = true by simp [okc]; omega] at hv2
            have HV1 := Lib.hid hv1
            have HV2 := Lib.hid hv2
            clear hv1 hv2
            go_wp2_with fail
            refine (HV1.out _).mono ?_
            rintro e w2 ⟨rfl, hb2⟩
            have HB2 : Hid (Below w.heap.size w w2) := (HB1.out.alloc HB1.out.size _).trans (hb2.mono (by have := HB1.out.size; simp; omega))
            have hc2 := HCV.out w2
            clear hb2
            go_wp2_with fail
            refine (HV2.out _).mono ?_
            rintro e w3 ⟨rfl, hb3⟩
            have HB3 : Hid (Below w.heap.size w w3) := (HB2.out.alloc HB2.out.size _).trans (hb3.mono (by have := HB2.out.size; simp; omega))
            clear hb3
            go_wp2_with fail
            go_ret
            refine ⟨?_, HB3.out⟩
            first | rfl | (show Ending.returned (.bool _) = _; simp; done) | (show Ending.returned (.bool _) = _; simp; omega)
          · skip
            by_cases g94 : x ≤ 94
            · skip
              have t0 : ¬ (97 : Int) ≤ (x : Int) := by omega
              have t1 : (x : Int) ≤ 122 := by omega
              have t2 : (48 : Int) ≤ (x : Int) := by omega
              have t3 : ¬ (x : Int) ≤ 57 := by omega
              have q46 : ((x : Int) == 46) = false := by simp; omega
              have q95 : ((x : Int) == 95) = false := by simp; omega
              have q45 : ((x : Int) == 45) = false := by simp; omega
              rw [HO.out, show (okc _ && decide (_ ≠ 46)) = false by simp [okc]; omega] at hv1
              rw [HT.out, show okc _ = false by simp [okc]; omega] at hv2
              have HV1 := Lib.hid hv1
              have HV2 := Lib.hid hv2
              clear hv1 hv2
              go_wp2_with fail
              refine (HV1.out _).mono ?_
              rintro e w2 ⟨rfl, hb2⟩
              have HB2 : Hid (Below w.heap.size w w2) := (HB1.out.alloc HB1.out.size _).trans (hb2.mono (by have := HB1.out.size; simp; omega))
              have hc2 := HCV.out w2
              clear hb2
              go_wp2_with fail
              refine (HV2.out _).mono ?_
              rintro e w3 ⟨rfl, hb3⟩
              have HB3 : Hid (Below w.heap.size w w3) := (HB2.out.alloc HB2.out.size _).trans (hb3.mono (by have := HB2.out.size; simp; omega))
              clear hb3
              go_wp2_with fail
              go_ret
              refine ⟨?_, HB3.out⟩
              first | rfl | (show Ending.returned (.bool _) = _; simp; done) | (show Ending.returned (.bool _) = _; simp; omega)
            · skip
              by_cases g95 : x ≤ 95
              · skip
                have t0 : ¬ (97 : Int) ≤ (x : Int) := by omega
                have t1 : (x : Int) ≤ 122 := by omega
                have t2 : (48 : Int) ≤ (x : Int) := by omega
                have t3 : ¬ (x : Int) ≤ 57 := by omega
                have q46 : ((x : Int) == 46) = false := by simp; omega
                have q95 : ((x : Int) == 95) = true := by simp; omega
                have q45 : ((x : Int) == 45) = false := by simp; omega
                rw [HO.out, show (okc _ && decide (_ ≠ 46)) = true by simp [okc]; omega] at hv1
                rw [HT.out, show okc _ = true by simp [okc]; omega] at hv2
                have HV1 := Lib.hid hv1
                have HV2 := Lib.hid hv2
                clear hv1 hv2
                go_wp2_with fail
                refine (HV1.out _).mono ?_
                rintro e w2 ⟨rfl, hb2⟩
                have HB2 : Hid (Below w.heap.size w w2) := (HB1.out.alloc HB1.out.size _).trans (hb2.mono (by have := HB1.out.size; simp; omega))
                have hc2 := HCV.out w2
                clear hb2
                go_wp2_with fail
                refine (HV2.out _).mono ?_
                rintro e w3 ⟨rfl, hb3⟩
                have HB3 : Hid (Below w.heap.size w w3) := (HB2.out.alloc HB2.out.size _).trans (hb3.mono (by have := HB2.out.size; simp; omega))
                clear hb3
                go_wp2_with fail
                go_ret
                refine ⟨?_, HB3.out⟩
                first | rfl | (show Ending.returned (.bool _) = _; simp; done) | (show Ending.returned (.bool _) = _; simp; omega)
              · skip
                by_cases g96 : x ≤ 96
                · skip
                  have t0 : ¬ (97 : Int) ≤ (x : Int) := by omega
                  have t1 : (x : Int) ≤ 122 := by omega
                  have t2 : (48 : Int) ≤ (x : Int) := by omega
                  have t3 : ¬ (x : Int) ≤ 57 := by omega
                  have q46 : ((x : Int) == 46) = false := by simp; omega
                  have q95 : ((x : Int) == 95) = false := by simp; omega
                  have q45 : ((x : Int) == 45) = false := by simp; omega
                  rw [HO.out, show (okc _ && decide (_ ≠ 46)) = false by simp [okc]; omega] at hv1
                  rw [HT.out, show okc _ = false by simp [okc]; omega] at hv2
                  have HV1 := Lib.hid hv1
                  have HV2 := Lib.hid hv2
                  clear hv1 hv2
                  go_wp2_with fail
                  refine (HV1.out _).mono ?_
                  rintro e w2 ⟨rfl, hb2⟩
                  have HB2 : Hid (Below w.heap.size w w2) := (HB1.out.alloc HB1.out.size _).trans (hb2.mono (by have := HB1.out.size; simp; omega))
                  have hc2 := HCV.out w2
                  clear hb2
                  go_wp2_with fail
                  refine (HV2.out _).mono ?_
                  rintro e w3 ⟨rfl, hb3⟩
                  have HB3 : Hid (Below w.heap.size w w3) := (HB2.out.alloc HB2.out.size _).trans (hb3.mono (by have := HB2.out.size; simp; omega))
                  clear hb3
                  go_wp2_with fail
                  go_ret
                  refine ⟨?_, HB3.out⟩
                  first | rfl | (show Ending.returned (.bool _) = _; simp; done) | (show Ending.returned (.bool _) = _; simp; omega)
                · skip
                  by_cases g122 : x ≤ 122
                  · skip
                    have t0 : (97 : Int) ≤ (x : Int) := by omega
                    have t1 : (x : Int) ≤ 122 := by omega
                    have t2 : (48 : Int) ≤ (x : Int) := by omega
                    have t3 : ¬ (x : Int) ≤ 57 := by omega
                    have q46 : ((x : Int) == 46) = false := by simp; omega
                    have q95 : ((x : Int) == 95) = false := by simp; omega
                    have q45 : ((x : Int) == 45) = false := by simp; omega
                    rw [HO.out, show (okc _ && decide (_ ≠ 46)) = true by simp [okc]; omega] at hv1
                    rw [HT.out, show okc _ = true by simp [okc]; omega] at hv2
                    have HV1 := Lib.hid hv1
                    have HV2 := Lib.hid hv2
                    clear hv1 hv2
                    go_wp2_with fail
                    refine (HV1.out _).mono ?_
                    rintro e w2 ⟨rfl, hb2⟩
                    have HB2 : Hid (Below w.heap.size w w2) := (HB1.out.alloc HB1.out.size _).trans (hb2.mono (by have := HB1.out.size; simp; omega))
                    have hc2 := HCV.out w2
                    clear hb2
                    go_wp2_with fail
                    refine (HV2.out _).mono ?_
                    rintro e w3 ⟨rfl, hb3⟩
                    have HB3 : Hid (Below w.heap.size w w3) := (HB2.out.alloc HB2.out.size _).trans (hb3.mono (by have := HB2.out.size; simp; omega))
                    clear hb3
                    go_wp2_with fail
                    go_ret
                    refine ⟨?_, HB3.out⟩
                    first | rfl | (show Ending.returned (.bool _) = _; simp; done) | (show Ending.returned (.bool _) = _; simp; omega)
                  · skip
                    have t0 : (97 : Int) ≤ (x : Int) := by omega
                    have t1 : ¬ (x : Int) ≤ 122 := by omega
                    have t2 : (48 : Int) ≤ (x : Int) := by omega
                    have t3 : ¬ (x : Int) ≤ 57 := by omega
                    have q46 : ((x : Int) == 46) = false := by simp; omega
                    have q95 : ((x : Int) == 95) = false := by simp; omega
                    have q45 : ((x : Int) == 45) = false := by simp; omega
                    rw [HO.out, show (okc _ && decide (_ ≠ 46)) = false by simp [okc]; omega] at hv1
                    rw [HT.out, show okc _ = false by simp [okc]; omega] at hv2
                    have HV1 := Lib.hid hv1
                    have HV2 := Lib.hid hv2
                    clear hv1 hv2
                    go_wp2_with fail
                    refine (HV1.out _).mono ?_
                    rintro e w2 ⟨rfl, hb2⟩
                    have HB2 : Hid (Below w.heap.size w w2) := (HB1.out.alloc HB1.out.size _).trans (hb2.mono (by have := HB1.out.size; simp; omega))
                    have hc2 := HCV.out w2
                    clear hb2
                    go_wp2_with fail
                    refine (HV2.out _).mono ?_
                    rintro e w3 ⟨rfl, hb3⟩
                    have HB3 : Hid (Below w.heap.size w w3) := (HB2.out.alloc HB2.out.size _).trans (hb3.mono (by have := HB2.out.size; simp; omega))
                    clear hb3
                    go_wp2_with fail
                    go_ret
                    refine ⟨?_, HB3.out⟩
                    first | rfl | (show Ending.returned (.bool _) = _; simp; done) | (show Ending.returned (.bool _) = _; simp; omega)
end Go.Proofs.YtpnbmfibooglgaaDoor
