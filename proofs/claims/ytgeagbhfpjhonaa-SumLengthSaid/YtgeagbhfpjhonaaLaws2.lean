/- SumTurned, SumCRC: the walks. -/
import Derived.Test.YtgeagbhfpjhonaaLaws1
namespace Go.Proofs.Ytgeagbhfpjhonaa
open Go.RowKit

theorem by_byte (y : Int) : ((y % 256).toNat : Int) = y % 256 := by omega
theorem u8_xor_spell (x : UInt8) (y : Int) : bits .xor .u8 (x.toNat : Int) (y % 256) = ((x ^^^ UInt8.ofNat (y % 256).toNat).toNat : Int) := by
  have h1 : x.toNat < 256 := x.toNat_lt
  have h2 : (y % 256).toNat < 256 := by omega
  have h := u8_xor_nat x.toNat (y % 256).toNat h1 h2
  rw [by_byte] at h
  rw [h, UInt8.toNat_xor, UInt8.toNat_ofNat']
  congr 2
  omega
theorem xor_ne (x z : UInt8) (h : z ≠ 0) : x ≠ x ^^^ z := by
  intro e
  apply h
  have : x ^^^ (x ^^^ z) = x ^^^ x := by rw [← e]
  rw [← UInt8.xor_assoc, UInt8.xor_self, UInt8.zero_xor] at this
  exact this

theorem RowAt.set {w : World} {g off n cap k : Nat} {u : Value} {cs : List Value} (h : RowAt w (.slice (some ⟨g, off, none⟩) n cap) cs) (hk : k < cs.length) :
    RowAt (w.setCell ⟨g, off + k, none⟩ u) (.slice (some ⟨g, off, none⟩) n cap) (cs.set k u) := by
  rcases h with ⟨h, _⟩ | ⟨g', off', cap', h, hc, hcell⟩
  · cases h
  · simp only [Value.slice.injEq, Option.some.injEq, Addr.mk.injEq] at h
    obtain ⟨⟨rfl, rfl, _⟩, rfl, rfl⟩ := h
    refine .inr ⟨g, off, cap, by simp, by simpa using hc, fun i v hi => ?_⟩
    by_cases e : i = k
    · subst e
      have hs := hcell i cs[i] (by simp [hk])
      rw [World.cell?_setCell_same' _ _ _ (by rw [hs]; rfl)]
      rw [List.getElem?_set_self hk] at hi
      exact hi
    · rw [World.cell?_setCell_other (h := by intro e'; have := congrArg Addr.off e'; simp at this; omega)]
      rw [List.getElem?_set_ne (Ne.symm e)] at hi
      exact hcell i v hi

theorem i64_and255 (n : Int) : bits .and .i64 n 255 = n % 256 := by
  have h255 : (BitVec.ofInt 64 255).toNat = 2 ^ 8 - 1 := by decide
  have key : (BitVec.ofInt 64 n &&& BitVec.ofInt 64 255).toNat = (n % ((2 ^ 64 : Nat) : Int)).toNat % 2 ^ 8 := by
    rw [BitVec.toNat_and, BitVec.toNat_ofInt, h255, Nat.and_two_pow_sub_one_eq_mod]
  show IntKind.i64.wrap ((BitVec.ofInt 64 n &&& BitVec.ofInt 64 255).toNat : Nat) = n % 256
  rw [key, IntKind.wrap_i64]
  omega
set_option maxHeartbeats 400000 in
theorem turned_in (av : Option Addr) (ca : Nat) (a : List UInt8) (k : Nat) (y : Int) (w : World) (ha : Bytes w (.slice av a.length ca) a)
    (la : (a.length : Int) ≤ 5000) (hk : k < a.length) (hy : y % 256 ≠ 0) (hy2 : (bits .and .i64 y 255 == 0) = false) :
    Calls Try.prog 6 #[.slice av a.length ca, .int .i64 k, .int .i64 y] w fun e w' => e = .returned (.bool true) ∧ Below w.heap.size w w' := by
  obtain ⟨i0, hi, hz0, hz1, hz2⟩ := info_parts info5
  have b1 : 0 + (u8s a).length ≤ maxLen := by simp only [u8s_length]; unfold maxLen; omega
  have b2 : (0 + (u8s a).length) * 1 ≤ 140737488355328 := by simp only [u8s_length]; omega
  have B1 := Lib.hid b1
  have B2 := Lib.hid b2
  have HA := Lib.hid ha
  clear b1 b2 ha
  have k0 : (0 : Int) ≤ (k : Int) := by omega
  have k1 : (k : Int) < (a.length : Int) := by omega
  go_enter Try.func6, Try.ntmps6
  go_wp2_with fail
  refine (alive_any _).mono ?_
  rintro e w1 ⟨rfl, hb1⟩
  have BB1 := Lib.hid hb1
  clear hb1
  go_wp2_with (at_builtin; refine wpList_append_row rfl (.const (.slice none 0 0)) (.tmp 29) 22 rfl w1.heap.size 5 i0 (.int .u8 0) 1 Try.underlying22 hi hz0 hz1 hz2 rfl (.slice none 0 0) 0 [] rfl (World.ownsRow_nil _ _ _ _) _ (u8s a) rfl (RowAt.below HA.out BB1.out (Nat.le_refl _)) (u8s_one a) B1.out B2.out (Nat.le_refl _) ?_)
  intro v2 w2 hown2 hgrow2 hnil2
  have BB2 : Hid (Below w.heap.size w w2) := BB1.out.grown hgrow2 BB1.out.size (by simp [Value.ownBlock])
  replace hown2 : w2.ownsRow w1.heap.size 5 1 v2 a.length (u8s a) := by simpa using hown2
  rcases owns_shape hown2 with ⟨_, h0⟩ | ⟨g, cap, rfl, hle, hm, hbg, hlt⟩
  · omega
  have hrow : RowAt w2 (.slice (some ⟨g, 0, none⟩) a.length cap) (u8s a) := RowAt.of_owns hown2
  have hfr : w2.frozen? ⟨g, k, none⟩ = false := by
    rcases hown2.2 with ⟨h, _⟩ | ⟨g', cap', cur, h, _, hg, _⟩
    · cases h
    · cases h; exact frozen_of_row w2 _ _ _ _ hg
  have hst := RowAt.set (u := u8 (a[k] ^^^ UInt8.ofNat (y % 256).toNat)) hrow (by simpa using hk)
  have hcl : w2.cell? ⟨g, k, none⟩ = some (.int .u8 (a[k].toNat : Int)) := by
    rcases hrow with ⟨h, _⟩ | ⟨g', off', cap', h, _, hcell⟩
    · cases h
    · simp only [Value.slice.injEq, Option.some.injEq, Addr.mk.injEq] at h
      obtain ⟨⟨rfl, rfl, _⟩, _, rfl⟩ := h
      have := hcell k (u8 a[k]) (by rw [u8s_getElem?]; simp [hk])
      simpa [u8] using this
  have hset : (u8s a).set k (u8 (a[k] ^^^ UInt8.ofNat (y % 256).toNat)) = u8s (a.take k ++ (a[k] ^^^ UInt8.ofNat (y % 256).toNat) :: a.drop (k + 1)) := by
    unfold u8s
    rw [← List.map_set, List.set_eq_take_append_cons_drop, if_pos hk]
  rw [hset] at hst
  have hne : Crc.more 0 a ≠ Crc.more 0 (a.take k ++ (a[k] ^^^ UInt8.ofNat (y % 256).toNat) :: a.drop (k + 1)) := by
    have e : a = a.take k ++ a[k] :: a.drop (k + 1) := by rw [← List.drop_eq_getElem_cons hk, List.take_append_drop]
    conv => lhs; rw [e]
    refine Crc.more_turned 0 (by decide) _ _ _ _ (xor_ne _ _ ?_)
    intro e0
    have := congrArg UInt8.toNat e0
    rw [UInt8.toNat_ofNat'] at this
    apply hy
    simp at this
    omega
  have hxs := u8_xor_spell a[k] y
  have hul : u8 (a[k] ^^^ UInt8.ofNat (y % 256).toNat) = .int .u8 ((a[k] ^^^ UInt8.ofNat (y % 256).toNat).toNat : Int) := rfl
  rw [hul] at hst
  have hlen : (a.take k ++ (a[k] ^^^ UInt8.ofNat (y % 256).toNat) :: a.drop (k + 1)).length = a.length := by simp; omega
  generalize a.take k ++ (a[k] ^^^ UInt8.ofNat (y % 256).toNat) :: a.drop (k + 1) = a2 at *
  generalize a[k] ^^^ UInt8.ofNat (y % 256).toNat = xz at *
  generalize a[k] = xk at *
  have C1 := Lib.hid (fun w h => crc_any (.slice av a.length ca) a w h (by omega))
  have C2 := Lib.hid (fun w h => crc_any (.slice (some ⟨g, 0, none⟩) a.length cap) a2 w h (by omega))
  generalize Crc.more 0 a = c1 at *
  generalize Crc.more 0 a2 = c2 at *
  have hne2 : ((c1 : Int) != (c2 : Int)) = true := by simp only [bne_iff_ne, ne_eq]; omega
  have HST := Lib.hid hst
  have HO := Lib.hid hown2
  have hBS : Below w.heap.size w (w2.setCell ⟨g, k, none⟩ (.int .u8 (xz.toNat : Int))) := BB2.out.setCell (p := ⟨g, k, none⟩) (Nat.le_trans BB1.out.size hbg) _
  have HBS := Lib.hid hBS
  clear hst hown2 hrow hset hul hBS hgrow2 hnil2 hlen hne hy
  rw [Nat.zero_add] at HST
  go_wp2_with fail
  refine (C1.out _ (RowAt.below HA.out HBS.out (Nat.le_refl _))).mono ?_
  rintro e w3 ⟨rfl, hb3⟩
  have HST3 := Lib.hid (RowAt.below HST.out hb3 (Nat.le_refl _))
  have BB3 := Lib.hid (HBS.out.trans (hb3.mono HBS.out.size))
  clear hb3
  go_wp2_with fail
  refine (C2.out _ HST3.out).mono ?_
  rintro e w4 ⟨rfl, hb4⟩
  go_wp2_with fail
  go_ret
  exact ⟨rfl, BB3.out.trans (hb4.mono BB3.out.size)⟩

set_option maxHeartbeats 400000 in
theorem turned_out (av : Option Addr) (la ca : Nat) (k y : Int) (w : World) (h : 5000 < (la : Int) ∨ ((la : Int) ≤ 5000 ∧ k < 0) ∨ ((la : Int) ≤ 5000 ∧ 0 ≤ k ∧ (la : Int) ≤ k) ∨ ((la : Int) ≤ 5000 ∧ 0 ≤ k ∧ k < (la : Int) ∧ (bits .and .i64 y 255 == 0) = true)) :
    Calls Try.prog 6 #[.slice av la ca, .int .i64 k, .int .i64 y] w fun e w' => e = .returned (.bool true) ∧ Below w.heap.size w w' := by
  rcases h with h | ⟨h1, h⟩ | ⟨h1, h2, h⟩ | ⟨h1, h2, h3, h⟩
  all_goals
    go_enter Try.func6, Try.ntmps6
    go_wp2_with fail
    refine (alive_any _).mono ?_
    rintro e w1 ⟨rfl, hb1⟩
    go_wp2_with fail
    go_ret
    exact ⟨rfl, hb1⟩

theorem turned_walk (a0 : Option Addr) (len0 cap0 : Nat) (z0 : List Int) (a1 a2 : Int) (w : World) (w0 : RowIn .u8 w a0 len0 cap0 z0) (_ : (Lit.int .i64 a1).wf = true) (_ : (Lit.int .i64 a2).wf = true) :
    Calls Try.prog 6 #[.slice a0 len0 cap0, .int .i64 a1, .int .i64 a2] w fun e w' => e = .returned (.bool true) ∧ Below w.heap.size w w' := by
  obtain ⟨a, rfl, _, _, ha⟩ := bytes_of_row w0
  by_cases h1 : (a.length : Int) ≤ 5000
  · by_cases h2 : 0 ≤ a1
    · by_cases h3 : a1 < (a.length : Int)
      · cases h4 : (bits .and .i64 a2 255 == 0) with
        | true => exact turned_out _ _ _ _ _ w (.inr (.inr (.inr ⟨h1, h2, h3, h4⟩)))
        | false =>
          obtain ⟨k, rfl⟩ := Int.eq_ofNat_of_zero_le h2
          refine turned_in _ _ a k a2 w ha h1 (by omega) ?_ h4
          have := i64_and255 a2
          rw [this] at h4
          simpa using h4
      · exact turned_out _ _ _ _ _ w (.inr (.inr (.inl ⟨h1, h2, by omega⟩)))
    · exact turned_out _ _ _ _ _ w (.inr (.inl ⟨h1, by omega⟩))
  · exact turned_out _ _ _ _ _ w (.inl (by omega))
end Go.Proofs.Ytgeagbhfpjhonaa
