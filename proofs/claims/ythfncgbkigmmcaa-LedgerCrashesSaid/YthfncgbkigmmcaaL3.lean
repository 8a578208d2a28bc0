/- put, get: numbers in bytes. -/
import Derived.Test.YthfncgbkigmmcaaL2
namespace Go.Proofs.Ythfncgbkigmmcaa
open Go.RowKit

theorem ofInt_i64 (a : Nat) (ha : a < 9223372036854775808) : (BitVec.ofInt 64 (a : Int)).toNat = a := by
  rw [BitVec.ofInt_natCast, BitVec.toNat_ofNat]; exact Nat.mod_eq_of_lt (by omega)
theorem i64_or_nat (a b : Nat) (ha : a < 9223372036854775808) (hb : b < 9223372036854775808) : bits .or .i64 (a : Int) (b : Int) = ((a ||| b : Nat) : Int) := by
  have hx : a ||| b < 2 ^ 63 := Nat.or_lt_two_pow (by omega) (by omega)
  show IntKind.i64.wrap ((BitVec.ofInt 64 (a : Int) ||| BitVec.ofInt 64 (b : Int)).toNat : Int) = _
  rw [BitVec.toNat_or, ofInt_i64 a ha, ofInt_i64 b hb]
  exact IntWalk.i64_in _ (by omega)
theorem or_mul (a b i m : Nat) (hm : m = 2 ^ i) (h : a < m) : a ||| (b * m) = b * m + a := by
  subst hm
  rw [Nat.or_comm, ← Nat.shiftLeft_eq, Nat.shiftLeft_add_eq_or_of_lt h]
theorem i64_or_mul (a b i m : Nat) (hm : m = 2 ^ i) (h : a < m) (h1 : m ≤ 16777216) (h2 : b < 256) : bits .or .i64 (a : Int) ((b : Int) * (m : Int)) = ((a + m * b : Nat) : Int) := by
  have hbm : b * m ≤ 255 * 16777216 := Nat.mul_le_mul (by omega) h1
  rw [show ((b : Int) * (m : Int)) = ((b * m : Nat) : Int) by simp, i64_or_nat a (b * m) (by omega) (by omega), or_mul a b i m hm h, Nat.mul_comm, Nat.add_comm]
theorem i64_or_zero (a : Nat) (h : a < 256) : bits .or .i64 0 (a : Int) = (a : Int) := by
  have := i64_or_nat 0 a (by omega) (by omega)
  simpa using this

set_option maxHeartbeats 800000 in
theorem get2_any (g off len cap : Nat) (x y : UInt8) (at_ : Nat) (w : World) (ha : at_ + 2 ≤ len) (hl : len ≤ 1000000) (hx : w.cell? ⟨g, off + at_, none⟩ = some (.int .u8 x.toNat)) (hy : w.cell? ⟨g, off + (at_ + 1), none⟩ = some (.int .u8 y.toNat)) :
    Calls Try.prog 55 #[.slice (some ⟨g, off, none⟩) len cap, .int .i64 at_, .int .i64 2] w fun e w' => e = .returned (.int .i64 ((x.toNat + 256 * y.toNat : Nat) : Int)) ∧ w' = w := by
  have a0 : (0 : Int) ≤ (at_ : Int) := by omega
  have a1 : (at_ : Int) < (len : Int) := by omega
  have a2 : (at_ : Int) + 1 < (len : Int) := by omega
  have hxl : x.toNat < 256 := x.toNat_lt
  have hyl : y.toNat < 256 := y.toNat_lt
  generalize x.toNat = x at *
  generalize y.toNat = y at *
  have o0 := i64_or_zero x hxl
  have o1 := i64_or_mul x y 8 256 (by decide) hxl (by decide) hyl
  change bits .or .i64 (x : Int) ((y : Int) * 256) = _ at o1
  obtain ⟨V, hV⟩ : ∃ V, ((x + 256 * y : Nat) : Int) = V := ⟨_, rfl⟩
  rw [hV] at o1
  rw [hV]
  clear hV
  go_enter Try.func55, Try.ntmps55
  go_wp2_with fail
  refine wp_loop_rounds 3 ?_
  rw [rounds_succ]
  go_wp2_with fail
  rw [rounds_succ]
  go_wp2_with fail
  rw [rounds_succ]
  go_wp2_with fail
  go_ret
  exact ⟨rfl, rfl⟩
set_option maxHeartbeats 800000 in
theorem get4_any (g off len cap : Nat) (x y z u : UInt8) (at_ : Nat) (w : World) (ha : at_ + 4 ≤ len) (hl : len ≤ 1000000) (hx : w.cell? ⟨g, off + at_, none⟩ = some (.int .u8 x.toNat)) (hy : w.cell? ⟨g, off + (at_ + 1), none⟩ = some (.int .u8 y.toNat))
    (hz : w.cell? ⟨g, off + (at_ + 2), none⟩ = some (.int .u8 z.toNat)) (hu : w.cell? ⟨g, off + (at_ + 3), none⟩ = some (.int .u8 u.toNat)) :
    Calls Try.prog 55 #[.slice (some ⟨g, off, none⟩) len cap, .int .i64 at_, .int .i64 4] w fun e w' => e = .returned (.int .i64 ((x.toNat + 256 * y.toNat + 65536 * z.toNat + 16777216 * u.toNat : Nat) : Int)) ∧ w' = w := by
  have a0 : (0 : Int) ≤ (at_ : Int) := by omega
  have a1 : (at_ : Int) < (len : Int) := by omega
  have a2 : (at_ : Int) + 1 < (len : Int) := by omega
  have a3 : (at_ : Int) + 2 < (len : Int) := by omega
  have a4 : (at_ : Int) + 3 < (len : Int) := by omega
  have hxl : x.toNat < 256 := x.toNat_lt
  have hyl : y.toNat < 256 := y.toNat_lt
  have hzl : z.toNat < 256 := z.toNat_lt
  have hul : u.toNat < 256 := u.toNat_lt
  generalize x.toNat = x at *
  generalize y.toNat = y at *
  generalize z.toNat = z at *
  generalize u.toNat = u at *
  have o0 := i64_or_zero x hxl
  have o1 := i64_or_mul x y 8 256 (by decide) hxl (by decide) hyl
  have o2 := i64_or_mul (x + 256 * y) z 16 65536 (by decide) (by omega) (by decide) hzl
  have o3 := i64_or_mul (x + 256 * y + 65536 * z) u 24 16777216 (by decide) (by omega) (by decide) hul
  change bits .or .i64 (x : Int) ((y : Int) * 256) = _ at o1
  change bits .or .i64 ((x + 256 * y : Nat) : Int) ((z : Int) * 65536) = _ at o2
  change bits .or .i64 ((x + 256 * y + 65536 * z : Nat) : Int) ((u : Int) * 16777216) = _ at o3
  obtain ⟨V, hV⟩ : ∃ V, ((x + 256 * y + 65536 * z + 16777216 * u : Nat) : Int) = V := ⟨_, rfl⟩
  obtain ⟨V2, hV2⟩ : ∃ V, ((x + 256 * y + 65536 * z : Nat) : Int) = V := ⟨_, rfl⟩
  obtain ⟨V1, hV1⟩ : ∃ V, ((x + 256 * y : Nat) : Int) = V := ⟨_, rfl⟩
  rw [hV, hV2] at o3
  rw [hV2, hV1] at o2
  rw [hV1] at o1
  rw [hV]
  have b1 : 0 ≤ V1 ∧ V1 < 65536 := by omega
  have b2 : 0 ≤ V2 ∧ V2 < 16777216 := by omega
  clear hV hV1 hV2
  go_enter Try.func55, Try.ntmps55
  go_wp2_with fail
  refine wp_loop_rounds 5 ?_
  rw [rounds_succ]
  go_wp2_with fail
  rw [rounds_succ]
  go_wp2_with fail
  rw [rounds_succ]
  go_wp2_with fail
  rw [rounds_succ]
  go_wp2_with fail
  rw [rounds_succ]
  go_wp2_with fail
  go_ret
  exact ⟨rfl, rfl⟩
end Go.Proofs.Ythfncgbkigmmcaa
