/- Parent, Base, Temp of a small number; alive. -/
import Derived.Test.YtpnbmfibooglgaaDoorValid
namespace Go.Proofs.YtpnbmfibooglgaaDoor
open Go.RowKit

/-- where the last slash stands, if there is one -/
def slash (s : ByteArray) : Int := Lib.lastIndexByte s 47
theorem slash_or (s : ByteArray) : slash s = -1 ∨ ∃ k : Nat, k < s.size ∧ slash s = k := by
  rcases Lib.lastIndexByte_spec s 47 with ⟨h, _⟩ | ⟨k, h1, h2, _⟩
  · exact .inl h
  · exact .inr ⟨k, h1, h2⟩
def parentS (s : ByteArray) : ByteArray := if validB s.data.toList = true then s.extract 0 (slash s).toNat else ⟨#[]⟩
def baseS (s : ByteArray) : ByteArray := if validB s.data.toList = true then s.extract (slash s + 1).toNat s.size else ⟨#[]⟩

set_option maxHeartbeats 400000 in
theorem parent_any (s : ByteArray) (w : World) (hs : s.size ≤ 1000000) : Calls Tryd.prog 19 #[.string s] w fun e w' => e = .returned (.string (parentS s)) ∧ Below w.heap.size w w' := by
  have HV := Lib.hid (valid_any s w hs)
  unfold parentS
  generalize validB s.data.toList = b at *
  have HL := Lib.hid (fun w => Tryd.strings_LastIndexByte s 47 (by omega) w)
  have HS := Lib.hid (slash_or s)
  change Hid (∀ w, Calls Tryd.prog 31 #[.string s, .int .u8 47] w fun e w' => e = .returned (.int .i64 (slash s)) ∧ w' = w) at HL
  generalize slash s = x at *
  go_enter Tryd.func19, Tryd.ntmps19
  go_wp2_with fail
  refine (HV.out).mono ?_
  rintro e w1 ⟨rfl, hb⟩
  have HB := Lib.hid hb
  clear hb
  cases b with
  | false =>
    go_wp2_with fail
    go_ret
    exact ⟨rfl, HB.out⟩
  | true =>
    go_wp2_with fail
    refine (HL.out w1).mono ?_
    rintro e w2 ⟨rfl, rfl⟩
    have hs' := HS.out
    rcases hs' with rfl | ⟨k, hk, rfl⟩
    · have HE : Hid (s.extract 0 0 = ByteArray.empty) := by show _ = _; simp
      go_wp2_with fail
      go_ret
      exact ⟨congrArg (fun x => Ending.returned (.string x)) HE.out, HB.out⟩
    · have k0 : (0 : Int) ≤ (k : Int) := by omega
      have k1 : (k : Int) ≤ (s.size : Int) := by omega
      go_wp2_with fail
      go_ret
      exact ⟨rfl, HB.out⟩
set_option maxHeartbeats 400000 in
theorem base_any (s : ByteArray) (w : World) (hs : s.size ≤ 1000000) : Calls Tryd.prog 20 #[.string s] w fun e w' => e = .returned (.string (baseS s)) ∧ Below w.heap.size w w' := by
  have HV := Lib.hid (valid_any s w hs)
  unfold baseS
  generalize validB s.data.toList = b at *
  have HL := Lib.hid (fun w => Tryd.strings_LastIndexByte s 47 (by omega) w)
  have HS := Lib.hid (slash_or s)
  change Hid (∀ w, Calls Tryd.prog 31 #[.string s, .int .u8 47] w fun e w' => e = .returned (.int .i64 (slash s)) ∧ w' = w) at HL
  generalize slash s = x at *
  go_enter Tryd.func20, Tryd.ntmps20
  go_wp2_with fail
  refine (HV.out).mono ?_
  rintro e w1 ⟨rfl, hb⟩
  have HB := Lib.hid hb
  clear hb
  cases b with
  | false =>
    go_wp2_with fail
    go_ret
    exact ⟨rfl, HB.out⟩
  | true =>
    go_wp2_with fail
    refine (HL.out w1).mono ?_
    rintro e w2 ⟨rfl, rfl⟩
    have hs' := HS.out
    rcases hs' with rfl | ⟨k, hk, rfl⟩
    · go_wp2_with fail
      go_ret
      exact ⟨rfl, HB.out⟩
    · have k0 : (0 : Int) ≤ (k : Int) + 1 := by omega
      have k1 : (k : Int) + 1 ≤ (s.size : Int) := by omega
      go_wp2_with fail
      go_ret
      exact ⟨rfl, HB.out⟩
theorem temp_small (k : Nat) (hk : k < 100) (w : World) : Calls Tryd.prog 14 #[.int .i64 k] w fun e w' => e = .returned (.string (⟨#[46, 116, 115, 45]⟩ ++ ⟨(Lib.decDigits k).toArray⟩)) ∧ w' = w := by
  have HL := Lib.hid (fun w => Tryd.strconv_Itoa_small k hk w)
  have k0 : (0 : Int) ≤ (k : Int) := by omega
  have k1 : (k : Int) ≤ 9999 := by omega
  have hd : (Lib.decDigits k).length ≤ 1000 := by
    have : (Lib.decDigits k).length ≤ 2 := by
      rw [Lib.decDigits]
      split
      · simp
      · rw [Lib.decDigits, dif_pos (by omega)]
        simp
    omega
  have hz : (⟨(Lib.decDigits k).toArray⟩ : ByteArray).size ≤ 1000 := by
    show (Lib.decDigits k).toArray.size ≤ 1000
    simpa using hd
  generalize (⟨(Lib.decDigits k).toArray⟩ : ByteArray) = t at *
  go_enter Tryd.func14, Tryd.ntmps14
  go_wp2_with fail
  refine (HL.out w).mono ?_
  rintro e w1 ⟨rfl, rfl⟩
  go_wp2_with fail
  go_ret
  exact ⟨rfl, rfl⟩
theorem alive_any (w : World) : Calls Tryd.prog 10 #[] w fun e w' => e = .returned (.bool true) ∧ Below w.heap.size w w' := by
  have HV := Lib.hid (fun w => valid_any ⟨#[97, 47, 98]⟩ w (by decide))
  have e1 : validB [97, 47, 98] = true := by decide
  change Hid (∀ w, Calls Tryd.prog 11 #[.string ⟨#[97, 47, 98]⟩] w fun e w' => e = .returned (.bool (validB [97, 47, 98])) ∧ Below w.heap.size w w') at HV
  rw [e1] at HV
  have HP := Lib.hid (fun w => parent_any ⟨#[97, 47, 98, 99]⟩ w (by decide))
  have e2 : parentS ⟨#[97, 47, 98, 99]⟩ = ⟨#[97]⟩ := by decide
  rw [e2] at HP
  have HT := Lib.hid (fun w => temp_small 12 (by decide) w)
  have e3 : (⟨#[46, 116, 115, 45]⟩ ++ ⟨(Lib.decDigits 12).toArray⟩ : ByteArray) = ⟨#[46, 116, 115, 45, 49, 50]⟩ := by
    rw [Lib.decDigits, dif_neg (by decide), Lib.decDigits, dif_pos (by decide)]
    decide
  rw [e3] at HT
  clear e1 e2 e3
  go_enter Tryd.func10, Tryd.ntmps10
  go_wp2_with fail
  refine (HV.out w).mono ?_
  rintro e w1 ⟨rfl, hb1⟩
  have HB1 := Lib.hid hb1
  clear hb1
  go_wp2_with fail
  refine (HP.out w1).mono ?_
  rintro e w2 ⟨rfl, hb2⟩
  have HB2 : Hid (Below w.heap.size w w2) := HB1.out.trans (hb2.mono HB1.out.size)
  clear hb2
  go_wp2_with fail
  refine (HT.out w2).mono ?_
  rintro e w3 ⟨rfl, rfl⟩
  go_wp2_with fail
  go_ret
  exact ⟨rfl, HB2.out⟩
end Go.Proofs.YtpnbmfibooglgaaDoor
