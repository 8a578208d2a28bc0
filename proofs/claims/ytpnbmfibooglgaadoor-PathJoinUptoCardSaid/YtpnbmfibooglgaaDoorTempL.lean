/- the document's Decimal. -/
import Derived.Test.YtpnbmfibooglgaaDoorPartsL
namespace Go.Proofs.YtpnbmfibooglgaaDoor
open Go.RowKit

def digs : ByteArray := ⟨#[48, 49, 50, 51, 52, 53, 54, 55, 56, 57]⟩
theorem dig_at : ∀ d, d < 10 → digs.extract d (d + 1) = ⟨#[UInt8.ofNat (48 + d)]⟩ := by decide
theorem dec_add (l : Bs) (c : UInt8) : (⟨l.toArray⟩ : ByteArray) ++ ⟨#[c]⟩ = ⟨(l ++ [c]).toArray⟩ := by
  apply ByteArray.ext
  simp [ByteArray.data_append]
theorem dec_short (k : Nat) (hk : k < 10000) : (Lib.decDigits k).length ≤ 4 := by
  rw [Lib.decDigits]
  split
  · simp
  · rw [Lib.decDigits]
    split
    · simp
    · rw [Lib.decDigits]
      split
      · simp
      · rw [Lib.decDigits, dif_pos (by omega)]
        simp
set_option maxHeartbeats 800000 in
theorem decimal_any (n : Nat) : n < 100000 → ∀ w, Calls Tryd.prog 29 #[.int .i64 n] w fun e w' => e = .returned (.string ⟨(Lib.decDigits n).toArray⟩) ∧ w' = w := by
  induction n using Nat.strongRecOn with
  | ind n ih =>
    intro hn w
    have HD : Hid (digs.extract (n % 10) (n % 10 + 1) = ⟨#[UInt8.ofNat (48 + n % 10)]⟩) := dig_at _ (by omega)
    have m1 : (n : Int).tmod 10 = ((n % 10 : Nat) : Int) := by rw [Int.tmod_eq_emod_of_nonneg (by omega)]; omega
    have m2 : (n : Int).tdiv 10 = ((n / 10 : Nat) : Int) := by rw [Int.tdiv_eq_ediv_of_nonneg (by omega)]; omega
    have k0 : (0 : Int) ≤ (n : Int) := by omega
    have k1 : n % 10 < 10 := by omega
    by_cases h : n < 10
    · have n1 : ¬ (9 : Int) < (n : Int) := by omega
      have HR : Hid (Lib.decDigits n = [UInt8.ofNat (48 + n % 10)]) := by
        show _ = _
        rw [Lib.decDigits, dif_pos h, Nat.mod_eq_of_lt h]
      clear ih
      go_enter Tryd.func29, Tryd.ntmps29
      go_wp2_with fail
      go_ret
      exact ⟨congrArg (fun x => Ending.returned (.string x)) (HD.out.trans (by rw [HR.out])), rfl⟩
    · have n1 : (9 : Int) < (n : Int) := by omega
      have HR : Hid (Lib.decDigits n = Lib.decDigits (n / 10) ++ [UInt8.ofNat (48 + n % 10)]) := by
        show _ = _
        rw [Lib.decDigits, dif_neg h]
      have HI := Lib.hid (ih (n / 10) (by omega) (by omega))
      have hz : (⟨(Lib.decDigits (n / 10)).toArray⟩ : ByteArray).size ≤ 1000 := by
        show (Lib.decDigits (n / 10)).toArray.size ≤ 1000
        have := dec_short (n / 10) (by omega)
        simp; omega
      have HA : Hid (∀ x, x = digs.extract (n % 10) (n % 10 + 1) → (⟨(Lib.decDigits (n / 10)).toArray⟩ : ByteArray) ++ x = ⟨(Lib.decDigits n).toArray⟩) := fun x hx => by
        rw [hx, HD.out, HR.out, dec_add]
      have hx : (digs.extract (n % 10) (n % 10 + 1)).size ≤ 1000 := by
        rw [HD.out]
        show 1 ≤ 1000
        omega
      change (ByteArray.mk #[48, 49, 50, 51, 52, 53, 54, 55, 56, 57] |>.extract (n % 10) (n % 10 + 1)).size ≤ 1000 at hx
      generalize (⟨(Lib.decDigits (n / 10)).toArray⟩ : ByteArray) = t at *
      clear ih HD HR
      go_enter Tryd.func29, Tryd.ntmps29
      go_wp2_with fail
      refine (HI.out w).mono ?_
      rintro e w1 ⟨rfl, rfl⟩
      go_wp2_with fail
      go_ret
      exact ⟨congrArg (fun x => Ending.returned (.string x)) (HA.out _ rfl), rfl⟩
end Go.Proofs.YtpnbmfibooglgaaDoor
