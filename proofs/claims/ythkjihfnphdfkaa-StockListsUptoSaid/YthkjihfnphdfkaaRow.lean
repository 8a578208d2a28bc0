/- What the shell of a law tells of a slice of bytes, in our words. No condition. -/
import Derived.Test.YthkjihfnphdfkaaMem
import Derived.WideShapes
import Derived.OpenShut
namespace Go.Proofs.Ythkjihfnphdfkaa
open Go.RowKit

theorem okWide_spot {P : Program} {w : World} {r : Reach} {base : Nat} {t e : TypeId} {a : Addr} {len cap : Nat} (ht : P.underlying t = some (.slice e)) (h : Value.okWide P w r base t (.slice (some a) len cap)) : a.spot = none := by
  simp only [Value.okWide, ht, Cell.okWide, Cell.ok] at h
  exact h.2.2.2.1

theorem addr_eta (x : Addr) (h : x.spot = none) : x = ⟨x.block, x.off, none⟩ := by cases x; simp_all
theorem addr_add (b o i : Nat) : (⟨b, o, none⟩ : Addr).add i = ⟨b, o + i, none⟩ := by unfold Addr.add; split <;> simp_all

/-- What the shell tells of a slice. -/
def RowIn (k : IntKind) (w : World) (a : Option Addr) (len cap : Nat) (zs : List Int) : Prop :=
  (a = none ∧ len = 0 ∧ cap = 0 ∧ zs = []) ∨
  ∃ x, a = some x ∧ x.spot = none ∧ len ≤ cap ∧ cap ≤ maxLen ∧ zs.length = cap ∧ (∀ i, i < zs.length → w.cell? (x.add i) = some (.int k (zs.getD i 0))) ∧ ∀ n ∈ zs, (Lit.int k n).wf = true

theorem u8_of_wf (n : Int) (h : (Lit.int .u8 n).wf = true) : u8 (UInt8.ofNat n.toNat) = .int .u8 n := by
  have h2 := bounds_u8 h
  unfold u8
  congr 1
  rw [UInt8.toNat_ofNat']
  omega

theorem bytes_of_rowZ {w : World} {a : Option Addr} {len cap : Nat} {zs : List Int} (h : RowIn .u8 w a len cap zs) : Bytes w (.slice a len cap) ((zs.take len).map (fun n => UInt8.ofNat n.toNat)) := by
  rcases h with ⟨rfl, rfl, rfl, rfl⟩ | ⟨x, rfl, hs, hl, hm, hz, hcell, hwf⟩
  · exact .inl ⟨rfl, rfl⟩
  · obtain ⟨xb, xo, xs⟩ := x
    simp only at hs
    subst hs
    refine .inr ⟨xb, xo, cap, ?_, ?_, ?_⟩
    · simp; omega
    · simp; omega
    · intro i u hi
      simp only [u8s, List.map_map, List.getElem?_map, Option.map_eq_some_iff] at hi
      obtain ⟨n, hn, rfl⟩ := hi
      rw [List.getElem?_take] at hn
      split at hn
      · have hlt := (List.getElem?_eq_some_iff.1 hn).1
        have h1 := hcell i hlt
        rw [addr_add, List.getD_eq_getElem?_getD, hn] at h1
        rw [h1]
        simp only [Function.comp, Option.getD_some]
        rw [u8_of_wf n (hwf n (List.mem_of_getElem? hn))]
      · cases hn
theorem bytes_of_row {w : World} {a : Option Addr} {len cap : Nat} {zs : List Int} (h : RowIn .u8 w a len cap zs) :
    ∃ b : List UInt8, b.length = len ∧ len ≤ cap ∧ cap ≤ maxLen ∧ Bytes w (.slice a len cap) b := by
  have hB := bytes_of_rowZ h
  rcases h with ⟨rfl, rfl, rfl, rfl⟩ | ⟨x, rfl, hs, hl, hm, hz, hcell, hwf⟩
  · exact ⟨[], rfl, Nat.zero_le _, Nat.zero_le _, .inl ⟨rfl, rfl⟩⟩
  · exact ⟨_, by simp; omega, hl, hm, hB⟩
end Go.Proofs.Ythkjihfnphdfkaa
