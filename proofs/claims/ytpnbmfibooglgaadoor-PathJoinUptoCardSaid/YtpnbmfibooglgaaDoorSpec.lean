/- Paths, as lists of bytes. -/
import Derived.WalkKit
namespace Go.Proofs.YtpnbmfibooglgaaDoor

abbrev Bs := List UInt8
/-- may a name hold it? -/
def okc (k : Nat) : Bool := decide ((97 ≤ k ∧ k ≤ 122) ∨ (48 ≤ k ∧ k ≤ 57) ∨ k = 46 ∨ k = 95 ∨ k = 45)
def dots (l : Bs) : Bool := l == [] || l == [46] || l == [46, 46]
/-- What Valid does: so many names, the last one so far, the rest. -/
def vloop (n : Nat) (l : Bs) : Bs → Bool
  | [] => !dots l && decide (n ≤ 6)
  | c :: r => if c = 47 then (if dots l = true then false else vloop (n + 1) [] r) else if okc c.toNat = true then (if l.length + 1 ≤ 14 then vloop n (l ++ [c]) r else false) else false
def validB (s : Bs) : Bool := vloop 1 [] s
theorem vloop_bad {n : Nat} {l r : Bs} {c : UInt8} (h : c.toNat ≠ 47) (ho : okc c.toNat = false) : vloop n l (c :: r) = false := by
  have : c ≠ 47 := fun e => h (by rw [e]; rfl)
  simp [vloop, this, ho]
theorem vloop_long {n : Nat} {l r : Bs} {c : UInt8} (h : c.toNat ≠ 47) (ho : 14 < l.length + 1) : vloop n l (c :: r) = false := by
  have : c ≠ 47 := fun e => h (by rw [e]; rfl)
  simp only [vloop, if_neg this]
  split
  · rw [if_neg (by omega)]
  · rfl
theorem vloop_ok {n : Nat} {l r : Bs} {c : UInt8} (h : c.toNat ≠ 47) (ho : okc c.toNat = true) (hl : l.length + 1 ≤ 14) : vloop n l (c :: r) = vloop n (l ++ [c]) r := by
  have : c ≠ 47 := fun e => h (by rw [e]; rfl)
  simp only [vloop, if_neg this, ho, if_true, if_pos hl]
theorem vloop_slash {n : Nat} {l r : Bs} {c : UInt8} (h : c.toNat = 47) (hl : dots l = false) : vloop n l (c :: r) = vloop (n + 1) [] r := by
  have : c = 47 := UInt8.toNat_inj.1 h
  simp [vloop, this, hl]
theorem vloop_dots {n : Nat} {l r : Bs} {c : UInt8} (h : c.toNat = 47) (hl : dots l = true) : vloop n l (c :: r) = false := by
  have : c = 47 := UInt8.toNat_inj.1 h
  simp [vloop, this, hl]
end Go.Proofs.YtpnbmfibooglgaaDoor
