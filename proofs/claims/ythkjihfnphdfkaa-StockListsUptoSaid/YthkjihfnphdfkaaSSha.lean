/- SHA-256, plain. -/
import Derived.Test.YthkjihfnphdfkaaSNew
import Derived.Test.YthkjihfnphdfkaaSTake1
namespace Go.Proofs.Ythkjihfnphdfkaa.Sha
open Go.RowKit

theorem u32_bits (op : BinOp) (a b : Int) : U32 (bits op .u32 a b) := by
  unfold bits
  simp only [IntKind.wrap_u32]
  exact u32_mod _
theorem u32_beW (a b c d : Int) : U32 (beW a b c d) := u32_bits _ _ _
theorem u32_wordI (a b c d : Int) : U32 (wordI a b c d) := u32_mod _

/-- The schedule of a piece, word by word. -/
def sched (b : List UInt8) : Nat → List Int
  | 0 => List.replicate 64 0
  | i + 1 => (sched b i).set i (if i < 16 then beW ((b.getD (4 * i) 0).toNat) ((b.getD (4 * i + 1) 0).toNat) ((b.getD (4 * i + 2) 0).toNat) ((b.getD (4 * i + 3) 0).toNat)
      else wordI ((sched b i).getD (i - 16) 0) ((sched b i).getD (i - 15) 0) ((sched b i).getD (i - 7) 0) ((sched b i).getD (i - 2) 0))
theorem sched_length (b : List UInt8) : ∀ i, (sched b i).length = 64
  | 0 => by simp [sched]
  | i + 1 => by rw [sched, List.length_set, sched_length b i]
theorem sched_u32 (b : List UInt8) : ∀ i, ∀ x ∈ sched b i, U32 x
  | 0, x, hx => by
    rw [sched] at hx
    rw [List.eq_of_mem_replicate hx]
    exact ⟨by decide, by decide⟩
  | i + 1, x, hx => by
    rw [sched] at hx
    rcases List.mem_or_eq_of_mem_set hx with h | rfl
    · exact sched_u32 b i x h
    · split
      · exact u32_beW _ _ _ _
      · exact u32_wordI _ _ _ _
theorem sched_first (b : List UInt8) (i : Nat) (h : 4 * i + 3 < b.length) (h16 : i < 16) :
    sched b (i + 1) = (sched b i).set i (beW (b[4 * i].toNat) (b[4 * i + 1].toNat) (b[4 * i + 2].toNat) (b[4 * i + 3].toNat)) := by
  rw [sched, if_pos h16]
  congr 2 <;> simp [List.getD, show 4 * i < b.length by omega, show 4 * i + 1 < b.length by omega, show 4 * i + 2 < b.length by omega, show 4 * i + 3 < b.length by omega]
theorem sched_next (b : List UInt8) (i : Nat) (h : i < (sched b i).length) (h16 : 16 ≤ i) :
    sched b (i + 1) = (sched b i).set i (wordI (sched b i)[i - 16] (sched b i)[i - 15] (sched b i)[i - 7] (sched b i)[i - 2]) := by
  rw [sched, if_neg (by omega)]
  congr 2 <;> simp [List.getD, show i - 16 < (sched b i).length by omega, show i - 15 < (sched b i).length by omega, show i - 7 < (sched b i).length by omega, show i - 2 < (sched b i).length by omega]

/-- A piece of 64 bytes is taken. -/
def St.take (s : St) (b : List UInt8) : St := s.add (St.run keyL (sched b 64) s 64)
/-- So many pieces of m are taken. -/
def St.pieces (s : St) (m : List UInt8) : Nat → St
  | 0 => s
  | k + 1 => (St.pieces s m k).take ((m.drop (64 * k)).take 64)
theorem St.take_ok (s : St) (b : List UInt8) : (s.take b).ok := St.add_ok _ _
theorem St.pieces_ok {s : St} (h : s.ok) (m : List UInt8) : ∀ k, (s.pieces m k).ok
  | 0 => h
  | _ + 1 => St.take_ok _ _
theorem St.pieces_append (s : St) (m b : List UInt8) : ∀ k, 64 * k ≤ m.length → s.pieces (m ++ b) k = s.pieces m k
  | 0, _ => rfl
  | k + 1, h => by
    rw [St.pieces, St.pieces, St.pieces_append s m b k (by omega), List.drop_append_of_le_length (by omega), List.take_append_of_le_length (by simp; omega)]
theorem St.pieces_add (s : St) (m : List UInt8) (j : Nat) : ∀ k, (s.pieces m j).pieces (m.drop (64 * j)) k = s.pieces m (j + k)
  | 0 => rfl
  | k + 1 => by
    rw [St.pieces, St.pieces_add s m j k, List.drop_drop, ← Nat.mul_add]
    rfl
end Go.Proofs.Ythkjihfnphdfkaa.Sha
