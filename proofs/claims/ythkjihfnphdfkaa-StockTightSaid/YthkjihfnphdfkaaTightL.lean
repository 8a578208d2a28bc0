/- StockTight: the contents, one by one. -/
import Derived.Test.YthkjihfnphdfkaaCheck
namespace Go.Proofs.Ythkjihfnphdfkaa

/-- the i-th content of n bytes. -/
def cont (n i : Nat) : Bs := ((List.replicate n 0).set 0 (UInt8.ofNat i)).set 1 (UInt8.ofNat (i / 256))
def conts (n k : Nat) : List Bs := (List.range k).map (cont n)

theorem cont_length (n i : Nat) : (cont n i).length = n := by simp [cont]
theorem conts_succ (n k : Nat) : conts n (k + 1) = conts n k ++ [cont n k] := by simp [conts, List.range_succ]
theorem conts_length (n k : Nat) : (conts n k).length = k := by simp [conts]
theorem total_conts (n : Nat) : ∀ k, total (conts n k) = k * n
  | 0 => by simp [conts, total]
  | k + 1 => by
    have ih := total_conts n k
    rw [conts_succ]
    simp only [total, List.map_append, List.sum_append, List.map_cons, List.map_nil, List.sum_cons, List.sum_nil, cont_length] at *
    rw [ih, Nat.succ_mul]
    omega
theorem cont_inj {n i j : Nat} (hn : 1 ≤ n) (hi : i < 65536) (hj : j < 65536) (h1 : n = 1 → i < 256 ∧ j < 256) (h : cont n i = cont n j) : i = j := by
  have e0 : (cont n i)[0]? = (cont n j)[0]? := by rw [h]
  have e1 : (cont n i)[1]? = (cont n j)[1]? := by rw [h]
  have r0 : ∀ i, (cont n i)[0]? = some (UInt8.ofNat i) := fun i => by
    unfold cont
    rw [List.getElem?_set_ne (by omega), List.getElem?_set_self (by simp; omega)]
  rw [r0, r0] at e0
  have e0 : UInt8.ofNat i = UInt8.ofNat j := by simpa using e0
  have e0 := congrArg UInt8.toNat e0
  simp only [UInt8.toNat_ofNat'] at e0
  by_cases hn1 : n = 1
  · have := h1 hn1
    omega
  · have r1 : ∀ i, (cont n i)[1]? = some (UInt8.ofNat (i / 256)) := fun i => by
      unfold cont
      rw [List.getElem?_set_self (by simp; omega)]
    rw [r1, r1] at e1
    have e1 : UInt8.ofNat (i / 256) = UInt8.ofNat (j / 256) := by simpa using e1
    have e1 := congrArg UInt8.toNat e1
    simp only [UInt8.toNat_ofNat'] at e1
    omega
theorem cont_new {n k : Nat} (hn : 1 ≤ n) (hk : k < 65536) (h1 : n = 1 → k < 256) : cont n k ∉ conts n k := by
  intro h
  obtain ⟨i, hi, he⟩ := List.mem_map.1 h
  have hi : i < k := List.mem_range.1 hi
  have := cont_inj hn (by omega) hk (fun e => ⟨by have := h1 e; omega, h1 e⟩) he
  omega
theorem u8s_cont (n i : Nat) : u8s (cont n i) = ((List.replicate n (Value.int .u8 0)).set 0 (.int .u8 ((i : Int) % 256))).set 1 (.int .u8 ((i : Int) / 256 % 256)) := by
  unfold cont u8s
  rw [List.map_set, List.map_set, List.map_replicate]
  have e1 : u8 (UInt8.ofNat i) = .int .u8 ((i : Int) % 256) := by unfold u8; rw [UInt8.toNat_ofNat']; simp
  have e2 : u8 (UInt8.ofNat (i / 256)) = .int .u8 ((i : Int) / 256 % 256) := by unfold u8; rw [UInt8.toNat_ofNat']; simp
  rw [e1, e2]
  rfl
end Go.Proofs.Ythkjihfnphdfkaa
