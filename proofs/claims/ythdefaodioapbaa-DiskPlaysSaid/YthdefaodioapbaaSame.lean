/- same: two disks of six blocks, block by block. -/
import Derived.Test.YthdefaodioapbaaDisk10
namespace Go.Proofs.Ythdefaodioapbaa
open Go.RowKit

variable {w w' : World} {p p' B B' : Nat} {d d' : DS}

set_option maxHeartbeats 2000000 in
theorem same_yes (h : DiskIn w B p d) (h' : DiskIn w B' p' d') (hn : d.n = 6) (hn' : d'.n = 6) (ho : d.off = false) (ho' : d'.off = false) (he : ∀ k, k < 6 → blockAt d.now k = blockAt d'.now k) :
    Calls Try.prog 24 #[.pointer (some ⟨p, 0, none⟩), .pointer (some ⟨p', 0, none⟩)] w fun e w' => e = .returned (.bool true) ∧ Below w.heap.size w w' := by
  have H0 := Lib.hid h
  have H0' := Lib.hid h'
  have HE := Lib.hid (And.intro hn (And.intro hn' (And.intro ho (And.intro ho' he))))
  clear h h' hn hn' ho ho' he
  go_enter Try.func24, Try.ntmps24
  go_wp2_with fail
  go_loopw [5, 6, 7, 8, 9] (fun i _ _ _ _ wr => ∃ k : Nat, k ≤ 6 ∧ i = .int .i64 k ∧ DiskIn wr B p d ∧ DiskIn wr B' p' d' ∧ Below w.heap.size w wr) (fun i _ _ _ _ _ => 6 - (intOf i).toNat)
  case atStart => exact ⟨0, by omega, rfl, H0.out, H0'.out, Below.refl _ _⟩
  case round =>
    obtain ⟨k, hk, rfl, h1, h2, hb⟩ := hrel
    by_cases hlt : k < 6
    · have HR := Lib.hid (read_in h1 k (by have := HE.out.1; omega) HE.out.2.2.1)
      have H2 := Lib.hid h2
      have HB := Lib.hid hb
      have k0 : (0 : Int) ≤ (k : Int) := by omega
      have k1 : (k : Int) < 6 := by omega
      have HLT := Lib.hid hlt
      clear h1 h2 hb H0 H0' hlt
      go_wp2_with fail
      refine (HR.out).mono ?_
      rintro e w2 ⟨g, c, rfl, hx2, _, _, hd2, hb2⟩
      have HD2 := Lib.hid hd2
      have HR' := Lib.hid (read_in (H2.out.below hb2) k (by have := HE.out.2.1; have := HLT.out; omega) HE.out.2.2.2.1)
      have HX2 := Lib.hid hx2
      have HB2 : Hid (Below w.heap.size w w2) := HB.out.trans (hb2.mono HB.out.size)
      clear hx2 hd2 hb2 HR H2 HB
      go_wp2_with fail
      refine (HR'.out).mono ?_
      rintro e w3 ⟨g', c', rfl, hx3, _, _, hd3, hb3⟩
      have HD3 := Lib.hid (HD2.out.below hb3)
      have HD3' := Lib.hid hd3
      have hc1 := run_string_of w3 29 5 Try.underlying29 Try.underlying5 (RowAt.below HX2.out hb3 (Nat.le_refl _)) 9 Try.underlying9
      have hc2 := run_string_of w3 29 5 Try.underlying29 Try.underlying5 hx3 9 Try.underlying9
      rw [HE.out.2.2.2.2 k HLT.out] at hc1
      have hl : (blockAt d.now k).length = 512 := by
        exact blockAt_length HD2.out.len.1 (by have := HE.out.1; have := HLT.out; omega)
      have hl' : (blockAt d'.now k).length = 512 := by
        exact blockAt_length HD3'.out.len.1 (by have := HE.out.2.1; have := HLT.out; omega)
      have HB3 : Hid (Below w.heap.size w w3) := HB2.out.trans (hb3.mono HB2.out.size)
      clear hx3 hd3 hb3 HR' HX2 HB2 HD2 hl hl'
      generalize blockAt d'.now k = zz at *
      go_wp2_with fail
      refine (num_any _ _).mono ?_
      rintro e w4 ⟨rfl, rfl⟩
      go_wp2_with fail
      refine (num_any _ _).mono ?_
      rintro e w4 ⟨rfl, rfl⟩
      go_wp2_with fail
      go_roundw
      case rel => exact ⟨k + 1, by omega, by go_num, HD3.out, HD3'.out, HB3.out⟩
      case measure => simp [intOf]; omega
    · obtain rfl : k = 6 := by omega
      go_wp2_with fail
      go_ret
      exact ⟨rfl, hb⟩
end Go.Proofs.Ythdefaodioapbaa
