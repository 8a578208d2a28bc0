/- SumJoin, SumTurned, SumCRC: the walks. -/
import Derived.Test.YtgeagbhfpjhonaaAlive
import Derived.Test.YtgeagbhfpjhonaaRow
namespace Go.Proofs.Ytgeagbhfpjhonaa
open Go.RowKit

theorem crc_lt (b : List UInt8) : Crc.more 0 b < 4294967296 := Crc.more_lt (by decide) b
theorem more_int (c : Nat) (h : c < 4294967296) : (((c : Nat) : Int) % 4294967296).toNat = c := by omega
theorem more_any' (crc : Nat) (hc : crc < 4294967296) (v : Value) (b : List UInt8) (w : World) (hv : Bytes w v b) (hb : b.length ≤ 140737488355328) :
    Calls Try.prog 14 #[.int .i64 crc, v] w fun e w' => e = .returned (.int .i64 (Crc.more crc b : Nat)) ∧ Below w.heap.size w w' := by
  have := more_any crc v b w hv hb
  rw [more_int crc hc] at this
  exact this

set_option maxHeartbeats 400000 in
theorem join_in (av bv cv : Option Addr) (ca cb cc : Nat) (a b c : List UInt8) (w : World) (ha : Bytes w (.slice av a.length ca) a) (hb : Bytes w (.slice bv b.length cb) b) (hc : Bytes w (.slice cv c.length cc) c)
    (la : (a.length : Int) ≤ 5000) (lb : (b.length : Int) ≤ 5000) (lc : (c.length : Int) ≤ 5000) :
    Calls Try.prog 7 #[.slice av a.length ca, .slice bv b.length cb, .slice cv c.length cc] w fun e w' => e = .returned (.bool true) ∧ Below w.heap.size w w' := by
  obtain ⟨i0, hi, hz0, hz1, hz2⟩ := info_parts info5
  have b1 : 0 + (u8s b).length ≤ maxLen := by simp only [u8s_length]; unfold maxLen; omega
  have b2 : (0 + (u8s b).length) * 1 ≤ 140737488355328 := by simp only [u8s_length]; omega
  have b3 : b.length + (u8s c).length ≤ maxLen := by simp only [u8s_length]; unfold maxLen; omega
  have b4 : (b.length + (u8s c).length) * 1 ≤ 140737488355328 := by simp only [u8s_length]; omega
  have B1 := Lib.hid b1
  have B2 := Lib.hid b2
  have B3 := Lib.hid b3
  have B4 := Lib.hid b4
  have HA := Lib.hid ha
  have HB := Lib.hid hb
  have HC := Lib.hid hc
  clear b1 b2 b3 b4 ha hb hc
  go_enter Try.func7, Try.ntmps7
  go_wp2_with fail
  refine (alive_any _).mono ?_
  rintro e w1 ⟨rfl, hb1⟩
  have BB1 := Lib.hid hb1
  clear hb1
  go_wp2_with (at_builtin; refine wpList_append_row rfl (.const (.slice none 0 0)) (.tmp 28) 22 rfl w1.heap.size 5 i0 (.int .u8 0) 1 Try.underlying22 hi hz0 hz1 hz2 rfl (.slice none 0 0) 0 [] rfl (World.ownsRow_nil _ _ _ _) _ (u8s b) rfl (RowAt.below HB.out BB1.out (Nat.le_refl _)) (u8s_one b) B1.out B2.out (Nat.le_refl _) ?_)
  intro v2 w2 hown2 hgrow2 hnil2
  have BB2 : Hid (Below w1.heap.size w1 w2) := (Below.refl _ _).grown hgrow2 (Nat.le_refl _) (by simp [Value.ownBlock])
  have HO2 : Hid (w2.ownsRow w1.heap.size 5 1 v2 b.length (u8s b)) := by show w2.ownsRow _ _ _ _ _ _; simpa using hown2
  have hs2 : w1.heap.size ≤ w2.heap.size := BB2.out.size
  have hl2 : ∀ k, v2.ownBlock = some k → w1.heap.size ≤ k := by
    intro k hk
    rcases owns_shape hown2 with ⟨h', _⟩ | ⟨g, cap, h', _, _, hg, _⟩
    · rw [h'] at hk; cases hk
    · rw [h'] at hk; simp [Value.ownBlock] at hk; omega
  have HL2 := Lib.hid hl2
  clear hown2 hgrow2 hnil2 hl2
  go_wp2_with (at_builtin; refine wpList_append_row rfl (.tmp 29) (.tmp 30) 22 rfl w1.heap.size 5 i0 (.int .u8 0) 1 Try.underlying22 hi hz0 hz1 hz2 rfl v2 b.length (u8s b) rfl HO2.out _ (u8s c) rfl (RowAt.below HC.out (BB1.out.trans (BB2.out.mono BB1.out.size)) (Nat.le_refl _)) (u8s_one c) B3.out B4.out hs2 ?_)
  intro v3 w3 hown3 hgrow3 hnil3
  have BB3 : Hid (Below w1.heap.size w1 w3) := BB2.out.grown hgrow3 hs2 HL2.out
  have HBC : Hid (Bytes w3 v3 (b ++ c)) := by
    show RowAt _ _ _
    rw [u8s_append]
    exact RowAt.of_owns hown3
  clear hown3 hgrow3 hnil3
  have BB : Hid (Below w.heap.size w w3) := BB1.out.trans (BB3.out.mono BB1.out.size)
  have HX1 : Hid (Crc.more (Crc.more (Crc.more 0 a) b) c = Crc.more (Crc.more 0 a) (b ++ c)) := by show _ = _; rw [Crc.more_append]
  have q0 := Lib.hid (crc_lt a)
  have q1 := Lib.hid (Crc.more_lt (crc_lt a) b)
  have C1 := Lib.hid (fun w h => crc_any (.slice av a.length ca) a w h (by omega))
  generalize Crc.more 0 a = x at *
  have C2 := Lib.hid (fun w h => more_any' x q0.out (.slice bv b.length cb) b w h (by omega))
  generalize hy : Crc.more x b = y at *
  have C3 := Lib.hid (fun w h => more_any' y q1.out (.slice cv c.length cc) c w h (by omega))
  have C4 := Lib.hid (fun w h => more_any' x q0.out v3 (b ++ c) w h (by rw [List.length_append]; omega))
  rw [HX1.out] at C3
  generalize Crc.more x (b ++ c) = z at *
  clear hy HX1
  go_wp2_with fail
  refine (C1.out _ (RowAt.below HA.out BB.out (Nat.le_refl _))).mono ?_
  rintro e w4 ⟨rfl, hb4⟩
  have BB4 : Hid (Below w.heap.size w w4) := BB.out.trans (hb4.mono BB.out.size)
  have HBC4 : Hid (Bytes w4 v3 (b ++ c)) := RowAt.below HBC.out hb4 (Nat.le_refl _)
  clear hb4
  go_wp2_with fail
  refine (C2.out _ (RowAt.below HB.out BB4.out (Nat.le_refl _))).mono ?_
  rintro e w5 ⟨rfl, hb5⟩
  have BB5 : Hid (Below w.heap.size w w5) := BB4.out.trans (hb5.mono BB4.out.size)
  have HBC5 : Hid (Bytes w5 v3 (b ++ c)) := RowAt.below HBC4.out hb5 (Nat.le_refl _)
  clear hb5
  go_wp2_with fail
  refine (C3.out _ (RowAt.below HC.out BB5.out (Nat.le_refl _))).mono ?_
  rintro e w6 ⟨rfl, hb6⟩
  have BB6 : Hid (Below w.heap.size w w6) := BB5.out.trans (hb6.mono BB5.out.size)
  have HBC6 : Hid (Bytes w6 v3 (b ++ c)) := RowAt.below HBC5.out hb6 (Nat.le_refl _)
  clear hb6
  go_wp2_with fail
  refine (C1.out _ (RowAt.below HA.out BB6.out (Nat.le_refl _))).mono ?_
  rintro e w7 ⟨rfl, hb7⟩
  have BB7 : Hid (Below w.heap.size w w7) := BB6.out.trans (hb7.mono BB6.out.size)
  have HBC7 : Hid (Bytes w7 v3 (b ++ c)) := RowAt.below HBC6.out hb7 (Nat.le_refl _)
  clear hb7
  go_wp2_with fail
  refine (C4.out _ HBC7.out).mono ?_
  rintro e w8 ⟨rfl, hb8⟩
  go_wp2_with fail
  go_ret
  exact ⟨rfl, BB7.out.trans (hb8.mono BB7.out.size)⟩

set_option maxHeartbeats 400000 in
theorem join_out (av bv cv : Option Addr) (ca cb cc la lb lc : Nat) (w : World) (h : 5000 < (la : Int) ∨ ((la : Int) ≤ 5000 ∧ 5000 < (lb : Int)) ∨ ((la : Int) ≤ 5000 ∧ (lb : Int) ≤ 5000 ∧ 5000 < (lc : Int))) :
    Calls Try.prog 7 #[.slice av la ca, .slice bv lb cb, .slice cv lc cc] w fun e w' => e = .returned (.bool true) ∧ Below w.heap.size w w' := by
  rcases h with h | ⟨h1, h⟩ | ⟨h1, h2, h⟩
  all_goals
    go_enter Try.func7, Try.ntmps7
    go_wp2_with fail
    refine (alive_any _).mono ?_
    rintro e w1 ⟨rfl, hb1⟩
    go_wp2_with fail
    go_ret
    exact ⟨rfl, hb1⟩

theorem join_walk (a0 : Option Addr) (len0 cap0 : Nat) (z0 : List Int) (a1 : Option Addr) (len1 cap1 : Nat) (z1 : List Int) (a2 : Option Addr) (len2 cap2 : Nat) (z2 : List Int) (w : World)
    (w0 : RowIn .u8 w a0 len0 cap0 z0) (w1 : RowIn .u8 w a1 len1 cap1 z1) (w2 : RowIn .u8 w a2 len2 cap2 z2) :
    Calls Try.prog 7 #[.slice a0 len0 cap0, .slice a1 len1 cap1, .slice a2 len2 cap2] w fun e w' => e = .returned (.bool true) ∧ Below w.heap.size w w' := by
  obtain ⟨a, rfl, _, _, ha⟩ := bytes_of_row w0
  obtain ⟨b, rfl, _, _, hb⟩ := bytes_of_row w1
  obtain ⟨c, rfl, _, _, hc⟩ := bytes_of_row w2
  by_cases h1 : (a.length : Int) ≤ 5000
  · by_cases h2 : (b.length : Int) ≤ 5000
    · by_cases h3 : (c.length : Int) ≤ 5000
      · exact join_in _ _ _ _ _ _ a b c w ha hb hc h1 h2 h3
      · exact join_out _ _ _ _ _ _ _ _ _ w (.inr (.inr ⟨h1, h2, by omega⟩))
    · exact join_out _ _ _ _ _ _ _ _ _ w (.inr (.inl ⟨h1, by omega⟩))
  · exact join_out _ _ _ _ _ _ _ _ _ w (.inl (by omega))
end Go.Proofs.Ytgeagbhfpjhonaa
