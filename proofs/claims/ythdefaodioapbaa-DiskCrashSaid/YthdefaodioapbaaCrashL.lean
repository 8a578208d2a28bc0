/- DiskCrash. -/
import Derived.Test.YthdefaodioapbaaCall3
import Derived.Test.YthdefaodioapbaaOpsD
import Derived.Test.YthdefaodioapbaaOne
namespace Go.Proofs.Ythdefaodioapbaa
open Go.RowKit

variable {w w' : World} {p q : Nat} {d : DS}
attribute [local irreducible] zA blk

/-- A disk, and the document's, alike. -/
def Pr (w wr : World) (p q : Nat) : Prop := ∃ d : DS, d.Good ∧ DisksX wr w.heap.size (fun _ => False) [(false, p, d), (true, q, d)] ∧ Below w.heap.size w wr

set_option maxHeartbeats 4000000 in
set_option maxRecDepth 100000 in
theorem crash_law (oa : Option Addr) (on oc : Nat) (ops : List OpD) (ka : Option Addr) (kn kc : Nat) (ks : Nat → Int) (w : World) (ho : OpsD w (.slice oa on oc) ops)
    (hk : IntsAt w ka kn ks) (hka : ∀ x, ka = some x → 0 < kn → x.block < w.heap.size) (hcap : ka = none → kc = 0) (hon : on ≤ 100) (hkn : kn ≤ 200) :
    Calls Try.prog 7 #[.slice oa on oc, .slice ka kn kc] w fun e w' => e = .returned (.bool true) ∧ Below w.heap.size w w' := by
  have HOD := Lib.hid ho
  obtain ⟨rfl, _, hO⟩ := ho.get
  have HO := Lib.hid hO
  have HK := Lib.hid hk
  have HKA := Lib.hid hka
  have HCAP := Lib.hid hcap
  have n1 : (ops.length : Int) ≤ 100 := by omega
  have n2 : (kn : Int) ≤ 200 := by omega
  clear ho hO hk hka hcap
  go_enter Try.func7, Try.ntmps7
  go_wp2_with fail
  refine (alive_any _).mono ?_
  rintro e w0 ⟨rfl, hb0⟩
  have HB0 := Lib.hid hb0
  have HOD0 := Lib.hid (HOD.out.below hb0)
  clear hb0
  go_wp2_with fail
  refine (long_any _ ops _ HOD0.out).mono ?_
  rintro e w1 ⟨⟨much, rfl, _⟩, rfl⟩
  cases much with
  | true =>
    go_wp2_with fail
    go_ret
    exact ⟨rfl, HB0.out⟩
  | false =>
    go_wp2_with fail
    refine (pair_any (w := w0) (B := w.heap.size) (l := []) 8 (by omega) (by omega) (DisksX.nil w0 _) HB0.out.size).mono ?_
    rintro e w2 ⟨p, q, rfl, hd, hb2⟩
    have HP : Hid (Pr w w2 p q) := ⟨_, DS.new_good 8, hd, HB0.out.trans (hb2.mono HB0.out.size)⟩
    clear hd hb2
    go_wp2_with fail
    go_loopw [10] (fun i wr => ∃ k : Nat, k ≤ ops.length ∧ i = .int .i64 k ∧ Pr w wr p q) (fun i _ => ops.length - (intOf i).toNat)
    case atStart => exact ⟨0, Nat.zero_le _, rfl, HP.out⟩
    case round =>
      obtain ⟨k, hk, rfl, hP⟩ := hrel
      have HP := Lib.hid hP
      clear hP
      have k0 : (0 : Int) ≤ (k : Int) := by omega
      by_cases hlt : k < ops.length
      · have k1 : (k : Int) < (ops.length : Int) := by omega
        obtain ⟨g, off, rfl, hok⟩ := HO.out k hlt
        obtain ⟨d, hg, hd, hb⟩ := HP.out
        obtain ⟨c0, c1, c2, _⟩ := hok.below hb
        have HC1 := Lib.hid (fun a b => call1 hd hb.size hg a b none 0 0)
        have HC2 := Lib.hid (fun a b => call2 hd hb.size hg a b none 0 0)
        have HG := Lib.hid hg
        have HB := Lib.hid hb
        clear hok hd hg hb
        generalize ops[k] = o at *
        by_cases hkind : o.kind = 2
        · rw [hkind] at c0
          clear hkind
          go_wp2_with fail
          refine (HC2.out 0 0).mono ?_
          rintro e w3 ⟨rfl, h3, hb3⟩
          have HP3 : Hid (Pr w w3 p q) := ⟨_, DS.fl_good HG.out, h3, HB.out.trans hb3⟩
          clear h3 hb3
          go_wp2_with fail
          go_roundw
          case rel => exact ⟨k + 1, by omega, by go_num, HP3.out⟩
          case measure => simp [intOf]; omega
        · have hk2 : (o.kind == 2) = false := by simpa using hkind
          go_wp2_with fail
          refine (HC1.out _ _).mono ?_
          rintro e w3 ⟨rfl, h3, hb3⟩
          have HP3 : Hid (Pr w w3 p q) := ⟨_, DS.wr_good HG.out _ _, h3, HB.out.trans hb3⟩
          clear h3 hb3
          go_wp2_with fail
          go_roundw
          case rel => exact ⟨k + 1, by omega, by go_num, HP3.out⟩
          case measure => simp [intOf]; omega
      · obtain rfl : k = ops.length := by omega
        obtain ⟨d, hg, hd, hb⟩ := HP.out
        have HC4 := Lib.hid (call4 hd hb.size 0 0 ka kn kc ks (HK.out.below hb) HKA.out HCAP.out)
        have HG := Lib.hid hg
        have HB := Lib.hid hb
        clear hd hg hb
        go_wp2_with fail
        refine (HC4.out).mono ?_
        rintro e w3 ⟨rfl, h3, hb3⟩
        have HP3 : Hid (Pr w w3 p q) := ⟨_, DS.crash_good _ _, h3, HB.out.trans hb3⟩
        clear h3 hb3 HC4
        go_wp2_with fail
        go_loopw [12, 13] (fun ok i wq => ∃ j : Nat, j ≤ 8 ∧ i = .int .i64 j ∧ ok = .bool true ∧ Pr w wq p q) (fun _ i _ => 8 - (intOf i).toNat)
        case atStart => exact ⟨0, by omega, rfl, rfl, HP3.out⟩
        case round =>
          obtain ⟨j, hj, rfl, rfl, hP⟩ := hrel
          have j0 : (0 : Int) ≤ (j : Int) := by omega
          obtain ⟨d2, hg2, hd2, hb2⟩ := hP
          have HD2 := Lib.hid hd2
          have HG2 := Lib.hid hg2
          have HB2 := Lib.hid hb2
          clear hd2 hg2 hb2
          by_cases hlt : j < 8
          · have j1 : (j : Int) < 8 := by omega
            go_wp2_with fail
            refine (call0 HD2.out HB2.out.size HG2.out j 0 none 0 0).mono ?_
            rintro e w4 ⟨rfl, hb4⟩
            have HP4 : Hid (Pr w w4 p q) := ⟨_, HG2.out, HD2.out.below hb4, HB2.out.trans (hb4.mono HB2.out.size)⟩
            clear hb4
            go_wp2_with fail
            go_roundw
            case rel => exact ⟨j + 1, by omega, by go_num, rfl, HP4.out⟩
            case measure => simp [intOf]; omega
          · obtain rfl : j = 8 := by omega
            go_wp2_with fail
            refine (alike_any HD2.out HB2.out.size).mono ?_
            rintro e w4 ⟨rfl, hb4⟩
            go_wp2_with fail
            go_ret
            exact ⟨rfl, HB2.out.trans (hb4.mono HB2.out.size)⟩

set_option maxHeartbeats 800000 in
theorem crash_out (oa : Option Addr) (on oc : Nat) (ops : List OpD) (ka : Option Addr) (kn kc : Nat) (w : World) (ho : OpsD w (.slice oa on oc) ops) (h : 100 < on ∨ (on ≤ 100 ∧ 200 < kn)) :
    Calls Try.prog 7 #[.slice oa on oc, .slice ka kn kc] w fun e w' => e = .returned (.bool true) ∧ Below w.heap.size w w' := by
  have HOD := Lib.hid ho
  obtain ⟨rfl, _, _⟩ := ho.get
  have HH := Lib.hid h
  clear ho h
  go_enter Try.func7, Try.ntmps7
  go_wp2_with fail
  refine (alive_any _).mono ?_
  rintro e w0 ⟨rfl, hb0⟩
  have HB0 := Lib.hid hb0
  have HOD0 := Lib.hid (HOD.out.below hb0)
  clear hb0
  go_wp2_with fail
  refine (long_any _ ops _ HOD0.out).mono ?_
  rintro e w1 ⟨⟨much, rfl, _⟩, rfl⟩
  have hh := HH.out
  rcases hh with h | ⟨h0, h⟩
  · have n1 : (100 : Int) < (ops.length : Int) := by omega
    cases much
    all_goals
      go_wp2_with fail
      go_ret
      exact ⟨rfl, HB0.out⟩
  · have n1 : (ops.length : Int) ≤ 100 := by omega
    have n2 : (200 : Int) < (kn : Int) := by omega
    cases much
    all_goals
      go_wp2_with fail
      go_ret
      exact ⟨rfl, HB0.out⟩
theorem crash_walk (oa : Option Addr) (on oc : Nat) (ops : List OpD) (a1 : Option Addr) (len1 cap1 : Nat) (z1 : List Int) (w : World) (ho : OpsD w (.slice oa on oc) ops) (w1 : RowIn .i64 w a1 len1 cap1 z1) :
    Calls Try.prog 7 #[.slice oa on oc, .slice a1 len1 cap1] w fun e w' => e = .returned (.bool true) ∧ Below w.heap.size w w' := by
  by_cases h1 : on ≤ 100
  · by_cases h2 : len1 ≤ 200
    · obtain ⟨hi, hb⟩ := ints_of_row w1 (by omega)
      refine crash_law oa on oc ops a1 len1 cap1 _ w ho hi hb (fun e => ?_) h1 h2
      rcases w1 with ⟨_, _, h, _⟩ | ⟨x, h, _⟩
      · exact h
      · rw [e] at h; cases h
    · exact crash_out _ _ _ ops _ _ _ w ho (.inr ⟨h1, by omega⟩)
  · exact crash_out _ _ _ ops _ _ _ w ho (.inl (by omega))
end Go.Proofs.Ythdefaodioapbaa
