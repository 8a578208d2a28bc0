/- CRC-32 by bits and by halves of a byte are one; parts; a byte turned turns it. No condition but that bytes are bytes. -/
import Derived.KernelRfl
namespace Go.Proofs.Ythfncgbkigmmcaa.Crc

def poly : Nat := 3988292384
/-- one bit. -/
def bit1 (c : Nat) : Nat := (c / 2) ^^^ (if c % 2 = 1 then poly else 0)
def bits (k c : Nat) : Nat := match k with | 0 => c | k + 1 => bits k (bit1 c)
/-- the table of half a byte. -/
def tabl : List Nat := [0, 498536548, 997073096, 651767980, 1994146192, 1802195444, 1303535960, 1342533948, 3988292384, 4027552580, 3604390888, 3412177804, 2607071920, 2262029012, 2685067896, 3183342108]
def tab (i : Nat) : Nat := tabl.getD i 0
/-- half a byte. -/
def nib (c : Nat) : Nat := tab (c % 16) ^^^ (c / 16)

theorem bit1_xor (a b : Nat) : bit1 (a ^^^ b) = bit1 a ^^^ bit1 b := by
  unfold bit1
  rw [Nat.xor_div_two]
  have h : (a ^^^ b) % 2 = (a % 2 + b % 2) % 2 := by
    have h1 := Nat.xor_mod_two_eq_one (a := a) (b := b)
    omega
  have e : (if (a ^^^ b) % 2 = 1 then poly else 0) = (if a % 2 = 1 then poly else 0) ^^^ (if b % 2 = 1 then poly else 0) := by
    rcases Nat.mod_two_eq_zero_or_one a with ha | ha <;> rcases Nat.mod_two_eq_zero_or_one b with hb | hb <;> simp [h, ha, hb]
  rw [e]
  ac_rfl
theorem bits_xor (k a b : Nat) : bits k (a ^^^ b) = bits k a ^^^ bits k b := by
  induction k generalizing a b with
  | zero => rfl
  | succ k ih => simp only [bits, bit1_xor, ih]
theorem bit1_two (m : Nat) : bit1 (2 * m) = m := by
  unfold bit1
  rw [if_neg (by omega), Nat.xor_zero]
  omega
theorem bits4_high (k : Nat) : bits 4 (16 * k) = k := by
  simp only [bits]
  rw [show 16 * k = 2 * (2 * (2 * (2 * k))) by omega]
  simp only [bit1_two]
theorem bits4_low : ∀ r, r < 16 → bits 4 r = tab r := by decide +kernel
theorem split4 (c : Nat) : c = (16 * (c / 16)) ^^^ (c % 16) := by
  apply Nat.eq_of_testBit_eq
  intro i
  rw [Nat.testBit_xor, show (16 : Nat) = 2 ^ 4 by rfl, Nat.testBit_two_pow_mul, Nat.testBit_mod_two_pow, Nat.testBit_div_two_pow]
  by_cases h : i < 4
  · have : ¬ 4 ≤ i := by omega
    simp [h, this]
  · have : 4 ≤ i := by omega
    simp only [h, this, decide_true, decide_false, Bool.true_and, Bool.false_and, Bool.xor_false]
    congr 1; omega
theorem nib_eq (c : Nat) : nib c = bits 4 c := by
  conv => rhs; rw [split4 c]
  rw [bits_xor, bits4_high, bits4_low _ (Nat.mod_lt _ (by decide)), Nat.xor_comm]
  rfl
theorem bits_add (j k c : Nat) : bits (j + k) c = bits k (bits j c) := by
  induction j generalizing c with
  | zero => simp [bits]
  | succ j ih => rw [Nat.succ_add]; simp only [bits, ih]
theorem nib2 (c : Nat) : nib (nib c) = bits 8 c := by rw [nib_eq, nib_eq, ← bits_add]

/-- a byte. -/
def byte (c : Nat) (x : UInt8) : Nat := bits 8 (c ^^^ x.toNat)
def run (c : Nat) (b : List UInt8) : Nat := b.foldl byte c
/-- 'More': crc is below 2^32. -/
def more (crc : Nat) (b : List UInt8) : Nat := run (crc ^^^ 4294967295) b ^^^ 4294967295

theorem run_append (c : Nat) (a b : List UInt8) : run c (a ++ b) = run (run c a) b := List.foldl_append
theorem run_snoc (c : Nat) (a : List UInt8) (x : UInt8) : run c (a ++ [x]) = byte (run c a) x := by rw [run_append]; rfl
theorem more_append (crc : Nat) (a b : List UInt8) : more (more crc a) b = more crc (a ++ b) := by
  unfold more
  rw [Nat.xor_assoc, Nat.xor_self, Nat.xor_zero, run_append]

theorem bit1_lt {c : Nat} (h : c < 4294967296) : bit1 c < 4294967296 := by
  unfold bit1
  refine Nat.xor_lt_two_pow (n := 32) (by omega) ?_
  split <;> decide
theorem bits_lt {c : Nat} (h : c < 4294967296) : ∀ k, bits k c < 4294967296 := by
  intro k
  induction k generalizing c with
  | zero => exact h
  | succ k ih => exact ih (bit1_lt h)
theorem byte_lt {c : Nat} (h : c < 4294967296) (x : UInt8) : byte c x < 4294967296 := by
  unfold byte
  refine bits_lt (Nat.xor_lt_two_pow (n := 32) h ?_) 8
  have := x.toNat_lt
  omega
theorem run_lt {c : Nat} (h : c < 4294967296) (b : List UInt8) : run c b < 4294967296 := by
  induction b generalizing c with
  | nil => exact h
  | cons x b ih => exact ih (byte_lt h x)
theorem xor_lt {a b : Nat} (ha : a < 4294967296) (hb : b < 4294967296) : a ^^^ b < 4294967296 := Nat.xor_lt_two_pow (n := 32) ha hb
theorem more_lt {c : Nat} (h : c < 4294967296) (b : List UInt8) : more c b < 4294967296 := xor_lt (run_lt (xor_lt h (by decide)) b) (by decide)

theorem top_of (c : Nat) (h : c < 4294967296) : (bit1 c).testBit 31 = decide (c % 2 = 1) := by
  unfold bit1
  rw [Nat.testBit_xor]
  have h1 : (c / 2).testBit 31 = false := Nat.testBit_lt_two_pow (by omega)
  rw [h1, Bool.false_xor]
  split
  · rename_i e; simp only [e, decide_true]; decide +kernel
  · rename_i e; simp [e]
theorem xor_right_cancel {a b c : Nat} (h : a ^^^ c = b ^^^ c) : a = b := by
  have := congrArg (· ^^^ c) h
  simpa [Nat.xor_assoc] using this
theorem bit1_inj {a b : Nat} (ha : a < 4294967296) (hb : b < 4294967296) (h : bit1 a = bit1 b) : a = b := by
  have t : decide (a % 2 = 1) = decide (b % 2 = 1) := by rw [← top_of a ha, ← top_of b hb, h]
  have t' : a % 2 = b % 2 := by
    have := decide_eq_decide.1 t
    omega
  unfold bit1 at h
  rw [t'] at h
  have := xor_right_cancel h
  omega
theorem bits_inj {a b : Nat} (ha : a < 4294967296) (hb : b < 4294967296) : ∀ k, bits k a = bits k b → a = b := by
  intro k
  induction k generalizing a b with
  | zero => exact id
  | succ k ih => intro h; exact bit1_inj ha hb (ih (bit1_lt ha) (bit1_lt hb) h)
theorem run_inj {c d : Nat} (hc : c < 4294967296) (hd : d < 4294967296) (b : List UInt8) (h : run c b = run d b) : c = d := by
  induction b generalizing c d with
  | nil => exact h
  | cons x b ih =>
    have := ih (byte_lt hc x) (byte_lt hd x) h
    unfold byte at this
    have hx : x.toNat < 4294967296 := by have := x.toNat_lt; omega
    exact xor_right_cancel (bits_inj (xor_lt hc hx) (xor_lt hd hx) 8 this)
/-- A byte turned turns the sum. -/
theorem more_turned (crc : Nat) (h : crc < 4294967296) (a b : List UInt8) (x y : UInt8) (hne : x ≠ y) : more crc (a ++ x :: b) ≠ more crc (a ++ y :: b) := by
  intro e
  unfold more at e
  have e := xor_right_cancel e
  rw [run_append, run_append] at e
  have hc := run_lt (xor_lt h (show 4294967295 < 4294967296 by decide)) a
  have e := run_inj (byte_lt hc x) (byte_lt hc y) b e
  unfold byte at e
  have hx : x.toNat < 4294967296 := by have := x.toNat_lt; omega
  have hy : y.toNat < 4294967296 := by have := y.toNat_lt; omega
  have e := bits_inj (xor_lt hc hx) (xor_lt hc hy) 8 e
  rw [Nat.xor_comm _ x.toNat, Nat.xor_comm _ y.toNat] at e
  exact hne (UInt8.toNat_inj.1 (xor_right_cancel e))

end Go.Proofs.Ythfncgbkigmmcaa.Crc
