/- CRC: the walks. -/
import Derived.Test.YtgeagbhfpjhonaaRows
import Derived.Test.YtgeagbhfpjhonaaMem
import Derived.Test.YtgeagbhfpjhonaaCrc
import Derived.Deep.QuietTactic
import Derived.BigQuiet
import Derived.Handy
namespace Go.Proofs.Ytgeagbhfpjhonaa
open Go.RowKit

theorem u32_and15 (c : Nat) (hc : c < 4294967296) : bits .and .u32 (c : Int) 15 = ((c % 16 : Nat) : Int) := by
  have := u32_and_nat c 15 hc (by decide)
  rw [nat_mask4] at this
  exact this
theorem tab_lt : ∀ r, r < 16 → Crc.tab r < 4294967296 := by decide +kernel

set_option maxHeartbeats 400000 in
theorem half_any (c : Nat) (w : World) (hc : c < 4294967296) :
    Calls Try.prog 24 #[.int .u32 c] w fun e w' => e = .returned (.int .u32 (Crc.tab (c % 16) : Nat)) ∧ Below w.heap.size w w' := by
  have hb := u32_and15 c hc
  have hr : c % 16 < 16 := Nat.mod_lt _ (by decide)
  generalize c % 16 = r at *
  have ht : ∀ r, r < 16 → ([Value.int IntKind.u32 0, Value.int IntKind.u32 498536548, Value.int IntKind.u32 997073096, Value.int IntKind.u32 651767980, Value.int IntKind.u32 1994146192, Value.int IntKind.u32 1802195444, Value.int IntKind.u32 1303535960, Value.int IntKind.u32 1342533948, Value.int IntKind.u32 3988292384, Value.int IntKind.u32 4027552580, Value.int IntKind.u32 3604390888, Value.int IntKind.u32 3412177804, Value.int IntKind.u32 2607071920, Value.int IntKind.u32 2262029012, Value.int IntKind.u32 2685067896, Value.int IntKind.u32 3183342108] : List Value)[r]? = some (.int .u32 (Crc.tab r : Nat)) := by
    intro r hr
    match r, hr with
    | 0, _ | 1, _ | 2, _ | 3, _ | 4, _ | 5, _ | 6, _ | 7, _ | 8, _ | 9, _ | 10, _ | 11, _ | 12, _ | 13, _ | 14, _ | 15, _ => rfl
    | n + 16, h => exact absurd h (by omega)
  have HT := Lib.hid (ht r hr)
  clear ht
  have h0 : (0 : Int) ≤ (r : Int) := by omega
  have h1 : (r : Int) < 16 := by omega
  go_enter Try.func24, Try.ntmps24
  go_wp2_with fail
  go_ret
  exact ⟨congrArg Ending.returned (List.getElem?_eq_some_iff.1 HT.out).2, (Below.refl _ _).alloc (Nat.le_refl _) _⟩

/-- x turned right by n. -/
def rot (x n : Nat) : Nat := (x / 2 ^ n) ||| (x * 2 ^ (32 - n) % 4294967296)
theorem rot_spell (x n : Nat) (hx : x < 4294967296) : bits .or .u32 ((x : Int) / 2 ^ n) ((x : Int) * 2 ^ (32 - n) % 4294967296) = ((rot x n : Nat) : Int) := by
  have h := u32_or_nat (x / 2 ^ n) (x * 2 ^ (32 - n) % 4294967296) (Nat.lt_of_le_of_lt (Nat.div_le_self _ _) hx) (Nat.mod_lt _ (by decide))
  unfold rot
  rw [← h]
  congr 1
theorem rot_lt (x n : Nat) (hx : x < 4294967296) : rot x n < 4294967296 := Nat.or_lt_two_pow (n := 32) (Nat.lt_of_le_of_lt (Nat.div_le_self _ _) hx) (Nat.mod_lt _ (by decide))

set_option maxHeartbeats 400000 in
theorem turn_any (x : Nat) (n : Nat) (w : World) (hx : x < 4294967296) (hn : 1 ≤ n) (hn' : n ≤ 31) :
    Calls Try.prog 29 #[.int .u32 x, .int .i64 n] w fun e w' => e = .returned (.int .u32 (rot x n)) ∧ ∃ k, w' = w.drewN k := by
  have hs := Lib.hid (rot_spell x n hx)
  go_enter Try.func29, Try.ntmps29
  go_wp2_with fail
  go_quiet (fail)
  go_wp2
  go_ret
  exact ⟨by rw [← hs.out]; rfl, _, rfl⟩
set_option maxHeartbeats 400000 in
theorem right_any (x : Nat) (n : Nat) (w : World) (hx : x < 4294967296) (hn : 1 ≤ n) (hn' : n ≤ 31) :
    Calls Try.prog 28 #[.int .u32 x, .int .u64 n] w fun e w' => e = .returned (.int .u32 (rot x n)) ∧ w = w' := by
  have hs := Lib.hid (rot_spell x n hx)
  go_enter Try.func28, Try.ntmps28
  go_wp2_with fail
  go_ret
  exact ⟨by rw [← hs.out]; rfl, rfl⟩

theorem u32_xor (a b : Nat) (ha : a < 4294967296) (hb : b < 4294967296) : bits .xor .u32 (a : Int) (b : Int) = ((a ^^^ b : Nat) : Int) := u32_xor_nat a b ha hb

/-- a byte's two halves. -/
theorem nib_spell (c : Nat) (hc : c < 4294967296) : bits .xor .u32 ((Crc.tab (c % 16) : Nat) : Int) ((c : Int) / 16) = ((Crc.nib c : Nat) : Int) := by
  have h := u32_xor_nat (Crc.tab (c % 16)) (c / 16) (tab_lt _ (Nat.mod_lt _ (by decide))) (by omega)
  unfold Crc.nib
  rw [← h]
  congr 1
theorem nib_lt {c : Nat} (h : c < 4294967296) : Crc.nib c < 4294967296 := by rw [Crc.nib_eq]; exact Crc.bits_lt h 4

theorem u32_not (c : Nat) (hc : c < 4294967296) : bits .xor .u32 IntKind.u32.max (c : Int) = ((c ^^^ 4294967295 : Nat) : Int) := by
  have h := u32_xor_nat 4294967295 c (by decide) hc
  have e : IntKind.u32.max = 4294967295 := by decide
  rw [e, Nat.xor_comm c]
  exact h

theorem byte_at {w : World} {b off : Nat} {bs : List UInt8} (h : ∀ i u, (u8s bs)[i]? = some u → w.cell? ⟨b, off + i, none⟩ = some u) (k : Nat) (hk : k < bs.length) : w.cell? ⟨b, off + k, none⟩ = some (.int .u8 (bs[k].toNat : Int)) :=
  h k (u8 bs[k]) (by rw [u8s_getElem?]; simp [hk])

set_option maxHeartbeats 800000 in
theorem more_any (crc : Int) (v : Value) (b : List UInt8) (w : World) (hv : Bytes w v b) (hb : b.length ≤ 140737488355328) :
    Calls Try.prog 14 #[.int .i64 crc, v] w fun e w' => e = .returned (.int .i64 (Crc.more (crc % 4294967296).toNat b : Nat)) ∧ Below w.heap.size w w' := by
  have hc0 : (crc % 4294967296).toNat < 4294967296 := by omega
  have hx := u32_not (crc % 4294967296).toNat hc0
  rw [show (((crc % 4294967296).toNat : Nat) : Int) = crc % 4294967296 by omega] at hx
  unfold Crc.more
  have hX := Crc.xor_lt hc0 (show 4294967295 < 4294967296 by decide)
  generalize (crc % 4294967296).toNat ^^^ 4294967295 = X at hx hX
  clear hc0
  rcases hv with ⟨rfl, hbs⟩ | ⟨blk, off, cap, rfl, hc, hcell⟩
  · have hbs : b = [] := by simpa [u8s] using hbs
    subst hbs
    have hn := u32_not X hX
    have e : Crc.run X [] = X := rfl
    rw [e]
    have hn' := Crc.xor_lt hX (show 4294967295 < 4294967296 by decide)
    generalize X ^^^ 4294967295 = Y at *
    go_enter Try.func14, Try.ntmps14
    go_wp2_with fail
    refine wp_loop_rounds 1 ?_
    rw [rounds_succ]
    go_wp2_with fail
    go_ret
    exact ⟨rfl, Below.refl _ _⟩
  · simp only [u8s_length] at *
    have HC := Lib.hid hcell
    clear hcell
    go_enter Try.func14, Try.ntmps14
    go_wp2_with fail
    go_loopw [5, 13] (fun c i wr => ∃ k : Nat, k ≤ b.length ∧ i = .int .i64 k ∧ c = .int .u32 (Crc.run X (b.take k) : Nat) ∧ Below w.heap.size w wr) (fun _ i _ => b.length - (intOf i).toNat)
    case atStart => exact ⟨0, Nat.zero_le _, rfl, rfl, Below.refl _ _⟩
    case round =>
      obtain ⟨k, hk, rfl, rfl, hbel⟩ := hrel
      have hr := Crc.run_lt hX (b.take k)
      by_cases hlt : k < b.length
      · have hcl := cell_later hbel (byte_at HC.out k hlt)
        have hsn : Crc.run X (b.take (k + 1)) = Crc.byte (Crc.run X (b.take k)) b[k] := by rw [List.take_succ_eq_append_getElem hlt, Crc.run_snoc]
        have hxl : b[k].toNat < 256 := b[k].toNat_lt
        generalize b[k] = x at *
        have HSN := Lib.hid hsn
        clear hsn
        generalize Crc.run X (b.take k) = c at *
        have e1 := u32_xor c x.toNat hr (by omega)
        have hy := Crc.xor_lt hr (show x.toNat < 4294967296 by omega)
        have HY : Hid (Crc.byte c x = Crc.nib (Crc.nib (c ^^^ x.toNat))) := by show _ = _; unfold Crc.byte; rw [Crc.nib2]
        generalize c ^^^ x.toNat = y at *
        have e2 := nib_spell y hy
        have hz := nib_lt hy
        have H1 := half_any y
        generalize Crc.nib y = z at *
        have e3 := nib_spell z hz
        have H2 := half_any z
        have T1 := Lib.hid H1
        have T2 := Lib.hid H2
        clear H1 H2
        generalize Crc.nib z = u at *
        generalize Crc.tab (y % 16) = ty at *
        generalize Crc.tab (z % 16) = tz at *
        go_wp2_with fail
        refine (T1.out _ hy).mono ?_
        rintro e w2 ⟨rfl, hb2⟩
        go_wp2_with fail
        refine (T2.out _ hz).mono ?_
        rintro e w3 ⟨rfl, hb3⟩
        go_wp2_with fail
        go_roundw
        case rel => exact ⟨k + 1, by omega, by go_num, by rw [HSN.out, HY.out], (hbel.trans (hb2.mono hbel.size)).trans (hb3.mono (Nat.le_trans hbel.size hb2.size))⟩
        case measure => simp [intOf]; omega
      · have hke : k = b.length := by omega
        subst hke
        rw [List.take_length] at *
        generalize hcc : Crc.run X b = c at *
        have hn := u32_not c hr
        have hn' := Crc.xor_lt hr (show 4294967295 < 4294967296 by decide)
        have HCC := Lib.hid hcc
        clear hcc
        generalize hyy : c ^^^ 4294967295 = Y at *
        have HYY := Lib.hid hyy
        clear hyy
        go_wp2_with fail
        go_ret
        exact ⟨by rw [HCC.out, HYY.out]; rfl, hbel⟩

set_option maxHeartbeats 400000 in
theorem crc_any (v : Value) (b : List UInt8) (w : World) (hv : Bytes w v b) (hb : b.length ≤ 140737488355328) :
    Calls Try.prog 13 #[v] w fun e w' => e = .returned (.int .i64 (Crc.more 0 b : Nat)) ∧ Below w.heap.size w w' := by
  obtain ⟨a, cap, hs, _⟩ := RowAt.shape hv
  subst hs
  simp only [u8s_length] at *
  have hm := more_any 0 _ b w hv hb
  rw [show ((0 : Int) % 4294967296).toNat = 0 by decide] at hm
  have HM := Lib.hid hm
  clear hm hv
  generalize Crc.more 0 b = r at *
  go_enter Try.func13, Try.ntmps13
  go_wp2_with fail
  refine HM.out.mono ?_
  rintro e w1 ⟨rfl, hb1⟩
  go_wp2_with fail
  go_ret
  exact ⟨rfl, hb1⟩

theorem u32_notR (c : Nat) (hc : c < 4294967296) : bits .xor .u32 (c : Int) 4294967295 = ((c ^^^ 4294967295 : Nat) : Int) := u32_xor_nat c 4294967295 hc (by decide)

/-- one bit, as the document's own answer has it. -/
theorem bit1_odd (c : Nat) (hc : c < 4294967296) (h : c % 2 = 1) : bits .xor .u32 ((c : Int) / 2) 3988292384 = ((Crc.bit1 c : Nat) : Int) := by
  have e := u32_xor_nat (c / 2) 3988292384 (by omega) (by decide)
  unfold Crc.bit1
  rw [if_pos h, show Crc.poly = 3988292384 from rfl, ← e]
  congr 1
theorem bit1_even (c : Nat) (h : ¬ c % 2 = 1) : (c : Int) / 2 = ((Crc.bit1 c : Nat) : Int) := by
  unfold Crc.bit1
  rw [if_neg h, Nat.xor_zero]
  omega
theorem u32_and1 (c : Nat) (hc : c < 4294967296) : bits .and .u32 (c : Int) 1 = ((c % 2 : Nat) : Int) := by
  have := u32_and_nat c 1 hc (by decide)
  rw [nat_mask1] at this
  exact this
theorem bits_snoc (k c : Nat) : Crc.bits (k + 1) c = Crc.bit1 (Crc.bits k c) := by
  rw [Crc.bits_add]; rfl

set_option maxHeartbeats 800000 in
theorem refMore_any (crc : Int) (v : Value) (b : List UInt8) (w : World) (hv : Bytes w v b) (hb : b.length ≤ 140737488355328) :
    Calls Try.prog 17 #[.int .i64 crc, v] w fun e w' => e = .returned (.int .i64 (Crc.more (crc % 4294967296).toNat b : Nat)) ∧ w = w' := by
  have hc0 : (crc % 4294967296).toNat < 4294967296 := by omega
  have hx := u32_notR (crc % 4294967296).toNat hc0
  rw [show (((crc % 4294967296).toNat : Nat) : Int) = crc % 4294967296 by omega] at hx
  unfold Crc.more
  have hX := Crc.xor_lt hc0 (show 4294967295 < 4294967296 by decide)
  generalize (crc % 4294967296).toNat ^^^ 4294967295 = X at hx hX
  clear hc0
  rcases hv with ⟨rfl, hbs⟩ | ⟨blk, off, cap, rfl, hc, hcell⟩
  · have hbs : b = [] := by simpa [u8s] using hbs
    subst hbs
    have hn := u32_notR X hX
    have e : Crc.run X [] = X := rfl
    rw [e]
    have hn' := Crc.xor_lt hX (show 4294967295 < 4294967296 by decide)
    generalize X ^^^ 4294967295 = Y at *
    go_enter Try.func17, Try.ntmps17
    go_wp2_with fail
    refine wp_loop_rounds 1 ?_
    rw [rounds_succ]
    go_wp2_with fail
    go_ret
    exact ⟨rfl, rfl⟩
  · simp only [u8s_length] at *
    have HC := Lib.hid hcell
    clear hcell
    go_enter Try.func17, Try.ntmps17
    go_wp2_with fail
    go_loop [5, 6] (fun c i => ∃ k : Nat, k ≤ b.length ∧ i = .int .i64 k ∧ c = .int .u32 (Crc.run X (b.take k) : Nat)) (fun _ i => b.length - (intOf i).toNat)
    case atStart => exact ⟨0, Nat.zero_le _, rfl, rfl⟩
    case round =>
      obtain ⟨k, hk, rfl, rfl⟩ := hrel
      have hr := Crc.run_lt hX (b.take k)
      by_cases hlt : k < b.length
      · have hcl := byte_at HC.out k hlt
        have hsn : Crc.run X (b.take (k + 1)) = Crc.byte (Crc.run X (b.take k)) b[k] := by rw [List.take_succ_eq_append_getElem hlt, Crc.run_snoc]
        have hxl : b[k].toNat < 256 := b[k].toNat_lt
        generalize b[k] = x at *
        have HSN := Lib.hid hsn
        clear hsn
        generalize Crc.run X (b.take k) = c at *
        have e1 := u32_xor c x.toNat hr (by omega)
        have hy := Crc.xor_lt hr (show x.toNat < 4294967296 by omega)
        have HY : Hid (Crc.byte c x = Crc.bits 8 (c ^^^ x.toNat)) := by show _ = _; rfl
        generalize c ^^^ x.toNat = y at *
        go_wp2_with fail
        go_loop [5, 7] (fun c j => ∃ m : Nat, m ≤ 8 ∧ j = .int .i64 m ∧ c = .int .u32 (Crc.bits m y : Nat)) (fun _ j => 8 - (intOf j).toNat)
        case atStart => exact ⟨0, by omega, rfl, rfl⟩
        case round =>
          obtain ⟨m, hm, rfl, rfl⟩ := hrel
          have hz := Crc.bits_lt hy m
          have HB := Lib.hid (bits_snoc m y)
          by_cases hm8 : m < 8
          · generalize Crc.bits m y = z at *
            have ea := u32_and1 z hz
            have hz1 := Crc.bit1_lt hz
            by_cases ho : z % 2 = 1
            · have eo := bit1_odd z hz ho
              rw [ho] at ea
              have HO := Lib.hid ho
              clear ho
              generalize Crc.bit1 z = u at *
              go_wp2_with fail
              go_round
              case rel => exact ⟨m + 1, by omega, by go_num, by rw [HB.out]⟩
              case measure => simp [intOf]; omega
            · have ee := bit1_even z ho
              have ho : z % 2 = 0 := by omega
              rw [ho] at ea
              have HO := Lib.hid ho
              clear ho
              generalize Crc.bit1 z = u at *
              go_wp2_with fail
              go_round
              case rel => exact ⟨m + 1, by omega, by go_num, by rw [HB.out]⟩
              case measure => simp [intOf]; omega
          · have hme : m = 8 := by omega
            subst hme
            go_wp2_with fail
            go_round
            case rel => exact ⟨k + 1, by omega, by go_num, by rw [HSN.out, HY.out]⟩
            case measure => simp [intOf]; omega
      · have hke : k = b.length := by omega
        subst hke
        rw [List.take_length] at *
        generalize hcc : Crc.run X b = c at *
        have hn := u32_notR c hr
        have hn' := Crc.xor_lt hr (show 4294967295 < 4294967296 by decide)
        have HCC := Lib.hid hcc
        clear hcc
        generalize hyy : c ^^^ 4294967295 = Y at *
        have HYY := Lib.hid hyy
        clear hyy
        go_wp2_with fail
        go_ret
        exact ⟨by rw [HCC.out, HYY.out]; rfl, rfl⟩
end Go.Proofs.Ytgeagbhfpjhonaa
