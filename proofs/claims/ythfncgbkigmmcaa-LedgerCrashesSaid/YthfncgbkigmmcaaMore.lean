/- CRC: the walks. -/
import Derived.Test.YthfncgbkigmmcaaRows
import Derived.Test.YthfncgbkigmmcaaMem
import Derived.Test.YthfncgbkigmmcaaCrc
import Derived.Deep.QuietTactic
import Derived.BigQuiet
import Derived.Handy
namespace Go.Proofs.Ythfncgbkigmmcaa
open Go.RowKit

theorem u32_and15 (c : Nat) (hc : c < 4294967296) : bits .and .u32 (c : Int) 15 = ((c % 16 : Nat) : Int) := by
  have := u32_and_nat c 15 hc (by decide)
  rw [nat_mask4] at this
  exact this
theorem tab_lt : ∀ r, r < 16 → Crc.tab r < 4294967296 := by decide +kernel

set_option maxHeartbeats 400000 in
theorem half_any (c : Nat) (w : World) (hc : c < 4294967296) :
    Calls Try.prog 57 #[.int .u32 c] w fun e w' => e = .returned (.int .u32 (Crc.tab (c % 16) : Nat)) ∧ Below w.heap.size w w' := by
  have hb := u32_and15 c hc
  have hr : c % 16 < 16 := Nat.mod_lt _ (by decide)
  generalize c % 16 = r at *
  have ht : ∀ r, r < 16 → ([Value.int IntKind.u32 0, Value.int IntKind.u32 498536548, Value.int IntKind.u32 997073096, Value.int IntKind.u32 651767980, Value.int IntKind.u32 1994146192, Value.int IntKind.u32 1802195444, Value.int IntKind.u32 1303535960, Value.int IntKind.u32 1342533948, Value.int IntKind.u32 3988292384, Value.int IntKind.u32 4027552580, Value.int IntKind.u32 3604390888, Value.int IntKind.u32 3412177804, Value.int IntKind.u32 2607071920, Value.int IntKind.u32 2262029012, Value.int IntKind.u32 2685067896, Value.int IntKind.u32 3183342108] : List Value)[r]? = some (.int .u32 (Crc.tab r : Nat)) := by
    intro r hr
    match r, hr with
    | 0, _ | 1, _ | 2, _ | 3, _ | 4, _ | 5, _ | 6, _ | 7, _ | 8, _ | 9, _ | 10, _ | 11, _ | 12, _ | 13, _ | 14, _ | 15, _ => rfl
    | n + 16, h => exact absurd h (by omega)
  have HT := Lib.hid (ht r hr)
  clear ht
  have h0 : (0 : Int) ≤ (r : Int) := by omega
  have h1 : (r : Int) < 16 := by omega
  go_enter Try.func57, Try.ntmps57
  go_wp2_with fail
  go_ret
  exact ⟨congrArg Ending.returned (List.getElem?_eq_some_iff.1 HT.out).2, (Below.refl _ _).alloc (Nat.le_refl _) _⟩

theorem u32_xor (a b : Nat) (ha : a < 4294967296) (hb : b < 4294967296) : bits .xor .u32 (a : Int) (b : Int) = ((a ^^^ b : Nat) : Int) := u32_xor_nat a b ha hb

/-- a byte's two halves. -/
theorem nib_spell (c : Nat) (hc : c < 4294967296) : bits .xor .u32 ((Crc.tab (c % 16) : Nat) : Int) ((c : Int) / 16) = ((Crc.nib c : Nat) : Int) := by
  have h := u32_xor_nat (Crc.tab (c % 16)) (c / 16) (tab_lt _ (Nat.mod_lt _ (by decide))) (by omega)
  unfold Crc.nib
  rw [← h]
  congr 1
theorem nib_lt {c : Nat} (h : c < 4294967296) : Crc.nib c < 4294967296 := by rw [Crc.nib_eq]; exact Crc.bits_lt h 4

theorem u32_not (c : Nat) (hc : c < 4294967296) : bits .xor .u32 IntKind.u32.max (c : Int) = ((c ^^^ 4294967295 : Nat) : Int) := by
  have h := u32_xor_nat 4294967295 c (by decide) hc
  have e : IntKind.u32.max = 4294967295 := by decide
  rw [e, Nat.xor_comm c]
  exact h

theorem byte_at {w : World} {b off : Nat} {bs : List UInt8} (h : ∀ i u, (u8s bs)[i]? = some u → w.cell? ⟨b, off + i, none⟩ = some u) (k : Nat) (hk : k < bs.length) : w.cell? ⟨b, off + k, none⟩ = some (.int .u8 (bs[k].toNat : Int)) :=
  h k (u8 bs[k]) (by rw [u8s_getElem?]; simp [hk])

set_option maxHeartbeats 800000 in
theorem more_any (crc : Int) (v : Value) (b : List UInt8) (w : World) (hv : Bytes w v b) (hb : b.length ≤ 140737488355328) :
    Calls Try.prog 56 #[.int .i64 crc, v] w fun e w' => e = .returned (.int .i64 (Crc.more (crc % 4294967296).toNat b : Nat)) ∧ Below w.heap.size w w' := by
  have hc0 : (crc % 4294967296).toNat < 4294967296 := by omega
  have hx := u32_not (crc % 4294967296).toNat hc0
  rw [show (((crc % 4294967296).toNat : Nat) : Int) = crc % 4294967296 by omega] at hx
  unfold Crc.more
  have hX := Crc.xor_lt hc0 (show 4294967295 < 4294967296 by decide)
  generalize (crc % 4294967296).toNat ^^^ 4294967295 = X at hx hX
  clear hc0
  rcases hv with ⟨rfl, hbs⟩ | ⟨blk, off, cap, rfl, hc, hcell⟩
  · have hbs : b = [] := by simpa [u8s] using hbs
    subst hbs
    have hn := u32_not X hX
    have e : Crc.run X [] = X := rfl
    rw [e]
    have hn' := Crc.xor_lt hX (show 4294967295 < 4294967296 by decide)
    generalize X ^^^ 4294967295 = Y at *
    go_enter Try.func56, Try.ntmps56
    go_wp2_with fail
    refine wp_loop_rounds 1 ?_
    rw [rounds_succ]
    go_wp2_with fail
    go_ret
    exact ⟨rfl, Below.refl _ _⟩
  · simp only [u8s_length] at *
    have HC := Lib.hid hcell
    clear hcell
    go_enter Try.func56, Try.ntmps56
    go_wp2_with fail
    go_loopw [5, 13] (fun c i wr => ∃ k : Nat, k ≤ b.length ∧ i = .int .i64 k ∧ c = .int .u32 (Crc.run X (b.take k) : Nat) ∧ Below w.heap.size w wr) (fun _ i _ => b.length - (intOf i).toNat)
    case atStart => exact ⟨0, Nat.zero_le _, rfl, rfl, Below.refl _ _⟩
    case round =>
      obtain ⟨k, hk, rfl, rfl, hbel⟩ := hrel
      have hr := Crc.run_lt hX (b.take k)
      by_cases hlt : k < b.length
      · have hcl := cell_later hbel (byte_at HC.out k hlt)
        have hsn : Crc.run X (b.take (k + 1)) = Crc.byte (Crc.run X (b.take k)) b[k] := by rw [List.take_succ_eq_append_getElem hlt, Crc.run_snoc]
        have hxl : b[k].toNat < 256 := b[k].toNat_lt
        generalize b[k] = x at *
        have HSN := Lib.hid hsn
        clear hsn
        generalize Crc.run X (b.take k) = c at *
        have e1 := u32_xor c x.toNat hr (by omega)
        have hy := Crc.xor_lt hr (show x.toNat < 4294967296 by omega)
        have HY : Hid (Crc.byte c x = Crc.nib (Crc.nib (c ^^^ x.toNat))) := by show _ = _; unfold Crc.byte; rw [Crc.nib2]
        generalize c ^^^ x.toNat = y at *
        have e2 := nib_spell y hy
        have hz := nib_lt hy
        have H1 := half_any y
        generalize Crc.nib y = z at *
        have e3 := nib_spell z hz
        have H2 := half_any z
        have T1 := Lib.hid H1
        have T2 := Lib.hid H2
        clear H1 H2
        generalize Crc.nib z = u at *
        generalize Crc.tab (y % 16) = ty at *
        generalize Crc.tab (z % 16) = tz at *
        go_wp2_with fail
        refine (T1.out _ hy).mono ?_
        rintro e w2 ⟨rfl, hb2⟩
        go_wp2_with fail
        refine (T2.out _ hz).mono ?_
        rintro e w3 ⟨rfl, hb3⟩
        go_wp2_with fail
        go_roundw
        case rel => exact ⟨k + 1, by omega, by go_num, by rw [HSN.out, HY.out], (hbel.trans (hb2.mono hbel.size)).trans (hb3.mono (Nat.le_trans hbel.size hb2.size))⟩
        case measure => simp [intOf]; omega
      · have hke : k = b.length := by omega
        subst hke
        rw [List.take_length] at *
        generalize hcc : Crc.run X b = c at *
        have hn := u32_not c hr
        have hn' := Crc.xor_lt hr (show 4294967295 < 4294967296 by decide)
        have HCC := Lib.hid hcc
        clear hcc
        generalize hyy : c ^^^ 4294967295 = Y at *
        have HYY := Lib.hid hyy
        clear hyy
        go_wp2_with fail
        go_ret
        exact ⟨by rw [HCC.out, HYY.out]; rfl, hbel⟩

set_option maxHeartbeats 400000 in
theorem crc_any (v : Value) (b : List UInt8) (w : World) (hv : Bytes w v b) (hb : b.length ≤ 140737488355328) :
    Calls Try.prog 53 #[v] w fun e w' => e = .returned (.int .i64 (Crc.more 0 b : Nat)) ∧ Below w.heap.size w w' := by
  obtain ⟨a, cap, hs, _⟩ := RowAt.shape hv
  subst hs
  simp only [u8s_length] at *
  have hm := more_any 0 _ b w hv hb
  rw [show ((0 : Int) % 4294967296).toNat = 0 by decide] at hm
  have HM := Lib.hid hm
  clear hm hv
  generalize Crc.more 0 b = r at *
  go_enter Try.func53, Try.ntmps53
  go_wp2_with fail
  refine HM.out.mono ?_
  rintro e w1 ⟨rfl, hb1⟩
  go_wp2_with fail
  go_ret
  exact ⟨rfl, hb1⟩

end Go.Proofs.Ythfncgbkigmmcaa
