/- put. -/
import Derived.Test.YthfncgbkigmmcaaL3
namespace Go.Proofs.Ythfncgbkigmmcaa
open Go.RowKit

def byteAt (n i : Nat) : UInt8 := UInt8.ofNat (n / 256 ^ i)
def set2 (b : Bs) (i n : Nat) : Bs := (b.set i (byteAt n 0)).set (i + 1) (byteAt n 1)
def set4 (b : Bs) (i n : Nat) : Bs := (((b.set i (byteAt n 0)).set (i + 1) (byteAt n 1)).set (i + 2) (byteAt n 2)).set (i + 3) (byteAt n 3)
theorem set2_length (b : Bs) (i n : Nat) : (set2 b i n).length = b.length := by simp [set2]
theorem set4_length (b : Bs) (i n : Nat) : (set4 b i n).length = b.length := by simp [set4]
theorem byte_u8 (n i m : Nat) (h : m = 256 ^ i) : Value.int .u8 (((n : Int) / (m : Int)) % 256) = u8 (byteAt n i) := by
  subst h
  unfold u8 byteAt
  congr 1
/-- a byte of a row of bytes is laid -/
theorem bytes_set {w : World} {g off len cap k : Nat} {x : UInt8} {bs : Bs} (h : Bytes w (.slice (some ⟨g, off, none⟩) len cap) bs) (hk : k < bs.length) : Bytes (w.setCell ⟨g, off + k, none⟩ (u8 x)) (.slice (some ⟨g, off, none⟩) len cap) (bs.set k x) := by
  have := RowAt.set (u := u8 x) h (by rw [u8s_length]; exact hk)
  unfold Bytes
  rw [show u8s (bs.set k x) = (u8s bs).set k (u8 x) by unfold u8s; rw [List.map_set]]
  exact this
theorem bytes_cell {w : World} {g off len cap k : Nat} {bs : Bs} (h : Bytes w (.slice (some ⟨g, off, none⟩) len cap) bs) (hk : k < bs.length) : w.cell? ⟨g, off + k, none⟩ = some (.int .u8 bs[k].toNat) := by
  have := RowAt.cell h (by rw [u8s_length]; exact hk)
  rw [this]
  simp [u8s, u8]
set_option maxHeartbeats 800000 in
theorem put2_any (g cap : Nat) (bs : Bs) (at_ n : Nat) (w : World) (ha : at_ + 2 ≤ 512) (hb : bs.length = 512) (hr : Bytes w (.slice (some ⟨g, 0, none⟩) 512 cap) bs) (hf : ∀ i, w.frozen? ⟨g, i, none⟩ = false) (_ : n < 4294967296) :
    Calls Try.prog 52 #[.slice (some ⟨g, 0, none⟩) 512 cap, .int .i64 at_, .int .i64 n, .int .i64 2] w fun e w' => e = .returned (.tuple #[]) ∧ Bytes w' (.slice (some ⟨g, 0, none⟩) 512 cap) (set2 bs at_ n) ∧ (∀ i, w'.frozen? ⟨g, i, none⟩ = false) ∧ Keeps (fun b => b = g) w w' := by
  have a0 : (0 : Int) ≤ (at_ : Int) := by omega
  have a1 : (at_ : Int) < 512 := by omega
  have a2 : (at_ : Int) + 1 < 512 := by omega
  have c0 := bytes_cell hr (k := at_) (by omega)
  have c1 := bytes_cell hr (k := at_ + 1) (by omega)
  rw [Nat.zero_add] at c0 c1
  have c1' : ∀ u, (w.setCell ⟨g, at_, none⟩ u).cell? ⟨g, at_ + 1, none⟩ = some (.int .u8 bs[at_ + 1].toNat) := fun u => by
    rw [World.cell?_setCell_other (h := by intro e; have := congrArg Addr.off e; simp at this)]
    exact c1
  have f0 := hf at_
  have f1 : ∀ u, (w.setCell ⟨g, at_, none⟩ u).frozen? ⟨g, at_ + 1, none⟩ = false := fun u => by rw [World.frozen?_setCell]; exact hf _
  have h1 := bytes_set (x := byteAt n 0) hr (k := at_) (by omega)
  have h2 := bytes_set (x := byteAt n 1) h1 (k := at_ + 1) (by rw [List.length_set]; omega)
  rw [← byte_u8 n 0 1 rfl, ← byte_u8 n 1 256 rfl, Nat.zero_add, Nat.zero_add] at h2
  have HR : Hid (Bytes ((w.setCell ⟨g, at_, none⟩ (.int .u8 (((n : Int) / (1 : Nat)) % 256))).setCell ⟨g, at_ + 1, none⟩ (.int .u8 (((n : Int) / (256 : Nat)) % 256))) (.slice (some ⟨g, 0, none⟩) 512 cap) (set2 bs at_ n)) := h2
  rw [show ((n : Int) / (1 : Nat)) = (n : Int) by simp] at HR
  have HF := Lib.hid hf
  have HK : Hid (∀ u v, Keeps (fun b => b = g) w ((w.setCell ⟨g, at_, none⟩ u).setCell ⟨g, at_ + 1, none⟩ v)) := fun u v => ((Keeps.refl (fun b => b = g) w).setCell ⟨g, at_, none⟩ u (.inl rfl)).setCell ⟨g, at_ + 1, none⟩ v (.inl rfl)
  clear h1 h2 hf hr c1
  go_enter Try.func52, Try.ntmps52
  go_wp2_with fail
  refine wp_loop_rounds 3 ?_
  rw [rounds_succ]
  go_wp2_with fail
  rw [rounds_succ]
  go_wp2_with fail
  rw [rounds_succ]
  go_wp2_with fail
  go_end0
  exact ⟨rfl, HR.out, fun i => by rw [World.frozen?_setCell, World.frozen?_setCell]; exact HF.out i, HK.out _ _⟩
set_option maxHeartbeats 1600000 in
theorem put4_any (g cap : Nat) (bs : Bs) (at_ n : Nat) (w : World) (ha : at_ + 4 ≤ 512) (hb : bs.length = 512) (hr : Bytes w (.slice (some ⟨g, 0, none⟩) 512 cap) bs) (hf : ∀ i, w.frozen? ⟨g, i, none⟩ = false) (_ : n < 4294967296) :
    Calls Try.prog 52 #[.slice (some ⟨g, 0, none⟩) 512 cap, .int .i64 at_, .int .i64 n, .int .i64 4] w fun e w' => e = .returned (.tuple #[]) ∧ Bytes w' (.slice (some ⟨g, 0, none⟩) 512 cap) (set4 bs at_ n) ∧ (∀ i, w'.frozen? ⟨g, i, none⟩ = false) ∧ Keeps (fun b => b = g) w w' := by
  have a0 : (0 : Int) ≤ (at_ : Int) := by omega
  have a1 : (at_ : Int) < 512 := by omega
  have a2 : (at_ : Int) + 1 < 512 := by omega
  have a3 : (at_ : Int) + 2 < 512 := by omega
  have a4 : (at_ : Int) + 3 < 512 := by omega
  have c0 := bytes_cell hr (k := at_) (by omega)
  have c1 := bytes_cell hr (k := at_ + 1) (by omega)
  have c2 := bytes_cell hr (k := at_ + 2) (by omega)
  have c3 := bytes_cell hr (k := at_ + 3) (by omega)
  rw [Nat.zero_add] at c0 c1 c2 c3
  have oth : ∀ (w : World) (i j : Nat) (u : Value), i ≠ j → (w.setCell ⟨g, i, none⟩ u).cell? ⟨g, j, none⟩ = w.cell? ⟨g, j, none⟩ := fun w i j u hij => by
    rw [World.cell?_setCell_other (h := by intro e; have := congrArg Addr.off e; simp at this; omega)]
  have c1' : ∀ u, (w.setCell ⟨g, at_, none⟩ u).cell? ⟨g, at_ + 1, none⟩ = some (.int .u8 bs[at_ + 1].toNat) := fun u => by
    rw [oth _ _ _ _ (by omega)]; exact c1
  have c2' : ∀ u v, ((w.setCell ⟨g, at_, none⟩ u).setCell ⟨g, at_ + 1, none⟩ v).cell? ⟨g, at_ + 2, none⟩ = some (.int .u8 bs[at_ + 2].toNat) := fun u v => by
    rw [oth _ _ _ _ (by omega), oth _ _ _ _ (by omega)]; exact c2
  have c3' : ∀ u v x, (((w.setCell ⟨g, at_, none⟩ u).setCell ⟨g, at_ + 1, none⟩ v).setCell ⟨g, at_ + 2, none⟩ x).cell? ⟨g, at_ + 3, none⟩ = some (.int .u8 bs[at_ + 3].toNat) := fun u v x => by
    rw [oth _ _ _ _ (by omega), oth _ _ _ _ (by omega), oth _ _ _ _ (by omega)]; exact c3
  have f0 := hf at_
  have f1 : ∀ u, (w.setCell ⟨g, at_, none⟩ u).frozen? ⟨g, at_ + 1, none⟩ = false := fun u => by rw [World.frozen?_setCell]; exact hf _
  have f2 : ∀ u v, ((w.setCell ⟨g, at_, none⟩ u).setCell ⟨g, at_ + 1, none⟩ v).frozen? ⟨g, at_ + 2, none⟩ = false := fun u v => by rw [World.frozen?_setCell, World.frozen?_setCell]; exact hf _
  have f3 : ∀ u v x, (((w.setCell ⟨g, at_, none⟩ u).setCell ⟨g, at_ + 1, none⟩ v).setCell ⟨g, at_ + 2, none⟩ x).frozen? ⟨g, at_ + 3, none⟩ = false := fun u v x => by rw [World.frozen?_setCell, World.frozen?_setCell, World.frozen?_setCell]; exact hf _
  have h1 := bytes_set (x := byteAt n 0) hr (k := at_) (by omega)
  have h2 := bytes_set (x := byteAt n 1) h1 (k := at_ + 1) (by simp only [List.length_set]; omega)
  have h3 := bytes_set (x := byteAt n 2) h2 (k := at_ + 2) (by simp only [List.length_set]; omega)
  have h4 := bytes_set (x := byteAt n 3) h3 (k := at_ + 3) (by simp only [List.length_set]; omega)
  rw [← byte_u8 n 0 1 rfl, ← byte_u8 n 1 256 rfl, ← byte_u8 n 2 65536 rfl, ← byte_u8 n 3 16777216 rfl, Nat.zero_add, Nat.zero_add, Nat.zero_add, Nat.zero_add] at h4
  have HR : Hid (Bytes ((((w.setCell ⟨g, at_, none⟩ (.int .u8 (((n : Int) / (1 : Nat)) % 256))).setCell ⟨g, at_ + 1, none⟩ (.int .u8 (((n : Int) / (256 : Nat)) % 256))).setCell ⟨g, at_ + 2, none⟩ (.int .u8 (((n : Int) / (65536 : Nat)) % 256))).setCell ⟨g, at_ + 3, none⟩ (.int .u8 (((n : Int) / (16777216 : Nat)) % 256))) (.slice (some ⟨g, 0, none⟩) 512 cap) (set4 bs at_ n)) := h4
  rw [show ((n : Int) / (1 : Nat)) = (n : Int) by simp, show ((256 : Nat) : Int) = 256 from rfl, show ((65536 : Nat) : Int) = 65536 from rfl, show ((16777216 : Nat) : Int) = 16777216 from rfl, show (n : Int) / 16777216 % 256 = (n : Int) / 16777216 by omega] at HR
  have HF := Lib.hid hf
  have HK : Hid (∀ u v x y, Keeps (fun b => b = g) w ((((w.setCell ⟨g, at_, none⟩ u).setCell ⟨g, at_ + 1, none⟩ v).setCell ⟨g, at_ + 2, none⟩ x).setCell ⟨g, at_ + 3, none⟩ y)) := fun u v x y => ((((Keeps.refl (fun b => b = g) w).setCell ⟨g, at_, none⟩ u (.inl rfl)).setCell ⟨g, at_ + 1, none⟩ v (.inl rfl)).setCell ⟨g, at_ + 2, none⟩ x (.inl rfl)).setCell ⟨g, at_ + 3, none⟩ y (.inl rfl)
  clear h1 h2 h3 h4 hf hr c1 c2 c3 oth
  go_enter Try.func52, Try.ntmps52
  go_wp2_with fail
  refine wp_loop_rounds 5 ?_
  rw [rounds_succ]
  go_wp2_with fail
  rw [rounds_succ]
  go_wp2_with fail
  rw [rounds_succ]
  go_wp2_with fail
  rw [rounds_succ]
  go_wp2_with fail
  rw [rounds_succ]
  go_wp2_with fail
  go_end0
  exact ⟨rfl, HR.out, fun i => by rw [World.frozen?_setCell, World.frozen?_setCell, World.frozen?_setCell, World.frozen?_setCell]; exact HF.out i, HK.out _ _ _ _⟩
end Go.Proofs.Ythfncgbkigmmcaa
