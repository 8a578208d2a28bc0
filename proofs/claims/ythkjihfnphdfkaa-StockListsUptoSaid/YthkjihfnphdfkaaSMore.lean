/- CRC: the walks. -/
import Derived.Test.YthkjihfnphdfkaaRows
import Derived.Test.YthkjihfnphdfkaaMem
import Derived.Deep.QuietTactic
import Derived.BigQuiet
import Derived.Handy
namespace Go.Proofs.Ythkjihfnphdfkaa.Sha
open Go.RowKit

def rot (x n : Nat) : Nat := (x / 2 ^ n) ||| (x * 2 ^ (32 - n) % 4294967296)
theorem rot_spell (x n : Nat) (hx : x < 4294967296) : bits .or .u32 ((x : Int) / 2 ^ n) ((x : Int) * 2 ^ (32 - n) % 4294967296) = ((rot x n : Nat) : Int) := by
  have h := u32_or_nat (x / 2 ^ n) (x * 2 ^ (32 - n) % 4294967296) (Nat.lt_of_le_of_lt (Nat.div_le_self _ _) hx) (Nat.mod_lt _ (by decide))
  unfold rot
  rw [← h]
  congr 1
theorem rot_lt (x n : Nat) (hx : x < 4294967296) : rot x n < 4294967296 := Nat.or_lt_two_pow (n := 32) (Nat.lt_of_le_of_lt (Nat.div_le_self _ _) hx) (Nat.mod_lt _ (by decide))

set_option maxHeartbeats 400000 in
theorem turn_any (x : Nat) (n : Nat) (w : World) (hx : x < 4294967296) (hn : 1 ≤ n) (hn' : n ≤ 31) :
    Calls Try.prog 37 #[.int .u32 x, .int .i64 n] w fun e w' => e = .returned (.int .u32 (rot x n)) ∧ ∃ k, w' = w.drewN k := by
  have hs := Lib.hid (rot_spell x n hx)
  go_enter Try.func37, Try.ntmps37
  go_wp2_with fail
  go_quiet (fail)
  go_wp2
  go_ret
  exact ⟨by rw [← hs.out]; rfl, _, rfl⟩
set_option maxHeartbeats 400000 in
theorem right_any (x : Nat) (n : Nat) (w : World) (hx : x < 4294967296) (hn : 1 ≤ n) (hn' : n ≤ 31) :
    Calls Try.prog 36 #[.int .u32 x, .int .u64 n] w fun e w' => e = .returned (.int .u32 (rot x n)) ∧ w = w' := by
  have hs := Lib.hid (rot_spell x n hx)
  go_enter Try.func36, Try.ntmps36
  go_wp2_with fail
  go_ret
  exact ⟨by rw [← hs.out]; rfl, rfl⟩

theorem byte_at {w : World} {b off : Nat} {bs : List UInt8} (h : ∀ i u, (u8s bs)[i]? = some u → w.cell? ⟨b, off + i, none⟩ = some u) (k : Nat) (hk : k < bs.length) : w.cell? ⟨b, off + k, none⟩ = some (.int .u8 (bs[k].toNat : Int)) :=
  h k (u8 bs[k]) (by rw [u8s_getElem?]; simp [hk])

end Go.Proofs.Ythkjihfnphdfkaa.Sha
