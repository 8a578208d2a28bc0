/- SumSplit: the walk. -/
import Derived.Test.YtgeagbhfpjhonaaLaws1
import Derived.Deep.RegionHeld3
namespace Go.Proofs.Ytgeagbhfpjhonaa
open Go.RowKit

theorem more_0 (v : Value) (b : List UInt8) (w : World) (hv : Bytes w v b) (hb : b.length ≤ 140737488355328) :
    Calls Try.prog 14 #[.int .i64 0, v] w fun e w' => e = .returned (.int .i64 (Crc.more 0 b : Nat)) ∧ Below w.heap.size w w' := more_any' 0 (by decide) v b w hv hb
theorem Bytes.below {w w' : World} {v : Value} {b : List UInt8} (h : Bytes w v b) (hb : Below w.heap.size w w') : Bytes w' v b := RowAt.below h hb (Nat.le_refl _)
theorem bytes_take {w : World} {blk off cap : Nat} {b : List UInt8} (h : Bytes w (.slice (some ⟨blk, off, none⟩) b.length cap) b) (k : Nat) (hk : k ≤ b.length) (hc : b.length ≤ cap) : Bytes w (.slice (some ⟨blk, off, none⟩) k cap) (b.take k) := by
  rcases h with ⟨h, _⟩ | ⟨g', off', cap', h, _, hcell⟩
  · cases h
  · simp only [Value.slice.injEq, Option.some.injEq, Addr.mk.injEq] at h
    obtain ⟨⟨rfl, rfl, _⟩, _, rfl⟩ := h
    refine .inr ⟨blk, off, cap, by simp; omega, by simp; omega, fun i u hi => hcell i u ?_⟩
    rw [u8s_getElem?, List.getElem?_take] at hi
    rw [u8s_getElem?]
    split at hi
    · exact hi
    · cases hi
theorem bytes_drop {w : World} {blk off cap : Nat} {b : List UInt8} (h : Bytes w (.slice (some ⟨blk, off, none⟩) b.length cap) b) (k : Nat) (hk : k ≤ b.length) (hc : b.length ≤ cap) : Bytes w (.slice (some ⟨blk, off + k, none⟩) (b.length - k) (cap - k)) (b.drop k) := by
  rcases h with ⟨h, _⟩ | ⟨g', off', cap', h, _, hcell⟩
  · cases h
  · simp only [Value.slice.injEq, Option.some.injEq, Addr.mk.injEq] at h
    obtain ⟨⟨rfl, rfl, _⟩, _, rfl⟩ := h
    refine .inr ⟨blk, off + k, cap - k, by simp, by simp; omega, fun i u hi => ?_⟩
    rw [u8s_getElem?, List.getElem?_drop] at hi
    have := hcell (k + i) u (by rw [u8s_getElem?]; exact hi)
    rw [← Nat.add_assoc] at this
    exact this
theorem bytes_none {w : World} {blk off cap : Nat} : Bytes w (.slice (some ⟨blk, off, none⟩) 0 cap) [] :=
  .inr ⟨blk, off, cap, rfl, Nat.zero_le _, fun i u hi => by simp [u8s] at hi⟩

set_option maxHeartbeats 800000 in
theorem split_some (blk off cap k : Nat) (b : List UInt8) (w : World) (hb : Bytes w (.slice (some ⟨blk, off, none⟩) b.length cap) b) (hc : b.length ≤ cap)
    (lb : (b.length : Int) ≤ 5000) (hk : k ≤ b.length) (hkc : k < cap) :
    Calls Try.prog 5 #[.slice (some ⟨blk, off, none⟩) b.length cap, .int .i64 k] w fun e w' => e = .returned (.bool true) ∧ Below w.heap.size w w' := by
  have HT := Lib.hid (bytes_take hb k hk hc)
  have HD := Lib.hid (bytes_drop hb k hk hc)
  have HB := Lib.hid hb
  have k0 : (0 : Int) ≤ (k : Int) := by omega
  have k1 : (k : Int) ≤ (b.length : Int) := by omega
  have k2 : (k : Int) ≤ (cap : Int) := by omega
  clear hb
  have q0 := Lib.hid (crc_lt (b.take k))
  have HX : Hid (Crc.more (Crc.more 0 (b.take k)) (b.drop k) = Crc.more 0 b) := by show _ = _; rw [Crc.more_append, List.take_append_drop]
  have C1 := Lib.hid (fun w h => crc_any (.slice (some ⟨blk, off, none⟩) k cap) (b.take k) w h (by simp; omega))
  have C2 := Lib.hid (fun w h => more_any' _ q0.out (.slice (some ⟨blk, off + k, none⟩) (b.length - k) (cap - k)) (b.drop k) w h (by simp; omega))
  rw [HX.out] at C2
  have C3 := Lib.hid (fun w h => crc_any (.slice (some ⟨blk, off, none⟩) b.length cap) b w h (by omega))
  have C4 := Lib.hid (fun w h => more_0 (.slice (some ⟨blk, off, none⟩) b.length cap) b w h (by omega))
  clear HX q0
  generalize Crc.more 0 (b.take k) = x at *
  generalize Crc.more 0 b = y at *
  go_enter Try.func5, Try.ntmps5
  go_wp2_with fail
  refine (alive_any _).mono ?_
  rintro e w1 ⟨rfl, hb1⟩
  have BB := Lib.hid hb1
  clear hb1
  go_wp2_with fail
  go_region_held3 (fun W => Below w.heap.size w W) (first | exact BB.out | exact BB.out.drew) (first
    | (go_at_call_of 13 (Value.slice (some ⟨blk, off, none⟩) k cap); (with_reducible refine (C1.out _ (Bytes.below HT.out ?_)).mono ?_); (first | exact BB.out | exact BB.out.drew); rintro e w' ⟨rfl, hb⟩; have hb2 : Below w.heap.size w w' := (by first | exact BB.out.trans (hb.mono BB.out.size) | exact BB.out.drew.trans (hb.mono BB.out.size)); replace BB := Lib.hid hb2; clear hb hb2)
    | (go_at_call_of 13 (Value.slice (some ⟨blk, off, none⟩) b.length cap); (with_reducible refine (C3.out _ (Bytes.below HB.out ?_)).mono ?_); (first | exact BB.out | exact BB.out.drew); rintro e w' ⟨rfl, hb⟩; have hb2 : Below w.heap.size w w' := (by first | exact BB.out.trans (hb.mono BB.out.size) | exact BB.out.drew.trans (hb.mono BB.out.size)); replace BB := Lib.hid hb2; clear hb hb2)
    | (go_at_call_of 14 (Value.int IntKind.i64 (x : Int)); (with_reducible refine (C2.out _ (Bytes.below HD.out ?_)).mono ?_); (first | exact BB.out | exact BB.out.drew); rintro e w' ⟨rfl, hb⟩; have hb2 : Below w.heap.size w w' := (by first | exact BB.out.trans (hb.mono BB.out.size) | exact BB.out.drew.trans (hb.mono BB.out.size)); replace BB := Lib.hid hb2; clear hb hb2)
    | (go_at_call 14; (with_reducible refine (C4.out _ (Bytes.below HB.out ?_)).mono ?_); (first | exact BB.out | exact BB.out.drew); rintro e w' ⟨rfl, hb⟩; have hb2 : Below w.heap.size w w' := (by first | exact BB.out.trans (hb.mono BB.out.size) | exact BB.out.drew.trans (hb.mono BB.out.size)); replace BB := Lib.hid hb2; clear hb hb2))
  go_wp2
  go_ret
  exact ⟨rfl, BB.out⟩

theorem more_nil (crc : Nat) : Crc.more crc [] = crc := by
  unfold Crc.more Crc.run
  rw [List.foldl_nil, Nat.xor_assoc, Nat.xor_self, Nat.xor_zero]

set_option maxHeartbeats 800000 in
theorem split_full (blk off : Nat) (b : List UInt8) (w : World) (hb : Bytes w (.slice (some ⟨blk, off, none⟩) b.length b.length) b) (lb : (b.length : Int) ≤ 5000) :
    Calls Try.prog 5 #[.slice (some ⟨blk, off, none⟩) b.length b.length, .int .i64 b.length] w fun e w' => e = .returned (.bool true) ∧ Below w.heap.size w w' := by
  have HB := Lib.hid hb
  have HE : Hid (Bytes w (.slice (some ⟨blk, off, none⟩) 0 0) []) := bytes_none
  clear hb
  have q0 := Lib.hid (crc_lt b)
  have HN := more_nil (Crc.more 0 b)
  have C3 := Lib.hid (fun w h => crc_any (.slice (some ⟨blk, off, none⟩) b.length b.length) b w h (by omega))
  have C4 := Lib.hid (fun w h => more_0 (.slice (some ⟨blk, off, none⟩) b.length b.length) b w h (by omega))
  have C2 := Lib.hid (fun w h => more_any' _ q0.out (.slice (some ⟨blk, off, none⟩) 0 0) [] w h (by decide))
  rw [HN] at C2
  clear HN q0
  generalize Crc.more 0 b = y at *
  go_enter Try.func5, Try.ntmps5
  go_wp2_with fail
  refine (alive_any _).mono ?_
  rintro e w1 ⟨rfl, hb1⟩
  have BB := Lib.hid hb1
  clear hb1
  go_wp2_with fail
  go_region_held3 (fun W => Below w.heap.size w W) (first | exact BB.out | exact BB.out.drew) (first
    | (go_at_call 13; (with_reducible refine (C3.out _ (Bytes.below HB.out ?_)).mono ?_); (first | exact BB.out | exact BB.out.drew); rintro e w' ⟨rfl, hb⟩; have hb2 : Below w.heap.size w w' := (by first | exact BB.out.trans (hb.mono BB.out.size) | exact BB.out.drew.trans (hb.mono BB.out.size)); replace BB := Lib.hid hb2; clear hb hb2)
    | (go_at_call_of 14 (Value.int IntKind.i64 (y : Int)); (with_reducible refine (C2.out _ (Bytes.below HE.out ?_)).mono ?_); (first | exact BB.out | exact BB.out.drew); rintro e w' ⟨rfl, hb⟩; have hb2 : Below w.heap.size w w' := (by first | exact BB.out.trans (hb.mono BB.out.size) | exact BB.out.drew.trans (hb.mono BB.out.size)); replace BB := Lib.hid hb2; clear hb hb2)
    | (go_at_call 14; (with_reducible refine (C4.out _ (Bytes.below HB.out ?_)).mono ?_); (first | exact BB.out | exact BB.out.drew); rintro e w' ⟨rfl, hb⟩; have hb2 : Below w.heap.size w w' := (by first | exact BB.out.trans (hb.mono BB.out.size) | exact BB.out.drew.trans (hb.mono BB.out.size)); replace BB := Lib.hid hb2; clear hb hb2))
  go_wp2
  go_ret
  exact ⟨rfl, BB.out⟩

set_option maxHeartbeats 800000 in
theorem split_nil (b : List UInt8) (w : World) (h0 : b = []) :
    Calls Try.prog 5 #[.slice none 0 0, .int .i64 0] w fun e w' => e = .returned (.bool true) ∧ Below w.heap.size w w' := by
  have HB : Hid (Bytes w (.slice none 0 0) b) := by subst h0; exact .inl ⟨rfl, rfl⟩
  have HE : Hid (Bytes w (.slice none 0 0) []) := .inl ⟨rfl, rfl⟩
  have hl : b.length = 0 := by rw [h0]; rfl
  clear h0
  have q0 := Lib.hid (crc_lt b)
  have HN := more_nil (Crc.more 0 b)
  have C3 := Lib.hid (fun w h => crc_any (.slice none 0 0) b w h (by omega))
  have C4 := Lib.hid (fun w h => more_0 (.slice none 0 0) b w h (by omega))
  have C2 := Lib.hid (fun w h => more_any' _ q0.out (.slice none 0 0) [] w h (by decide))
  rw [HN] at C2
  clear HN q0
  generalize Crc.more 0 b = y at *
  clear hl
  go_enter Try.func5, Try.ntmps5
  go_wp2_with fail
  refine (alive_any _).mono ?_
  rintro e w1 ⟨rfl, hb1⟩
  have BB := Lib.hid hb1
  clear hb1
  go_wp2_with fail
  go_region_held3 (fun W => Below w.heap.size w W) (first | exact BB.out | exact BB.out.drew) (first
    | (go_at_call 13; (with_reducible refine (C3.out _ (Bytes.below HB.out ?_)).mono ?_); (first | exact BB.out | exact BB.out.drew); rintro e w' ⟨rfl, hb⟩; have hb2 : Below w.heap.size w w' := (by first | exact BB.out.trans (hb.mono BB.out.size) | exact BB.out.drew.trans (hb.mono BB.out.size)); replace BB := Lib.hid hb2; clear hb hb2)
    | (go_at_call_of 14 (Value.int IntKind.i64 (y : Int)); (with_reducible refine (C2.out _ (Bytes.below HE.out ?_)).mono ?_); (first | exact BB.out | exact BB.out.drew); rintro e w' ⟨rfl, hb⟩; have hb2 : Below w.heap.size w w' := (by first | exact BB.out.trans (hb.mono BB.out.size) | exact BB.out.drew.trans (hb.mono BB.out.size)); replace BB := Lib.hid hb2; clear hb hb2)
    | (go_at_call 14; (with_reducible refine (C4.out _ (Bytes.below HB.out ?_)).mono ?_); (first | exact BB.out | exact BB.out.drew); rintro e w' ⟨rfl, hb⟩; have hb2 : Below w.heap.size w w' := (by first | exact BB.out.trans (hb.mono BB.out.size) | exact BB.out.drew.trans (hb.mono BB.out.size)); replace BB := Lib.hid hb2; clear hb hb2))
  go_wp2
  go_ret
  exact ⟨rfl, BB.out⟩


set_option maxHeartbeats 400000 in
theorem split_out (av : Option Addr) (la ca : Nat) (k : Int) (w : World) (h : 5000 < (la : Int) ∨ ((la : Int) ≤ 5000 ∧ k < 0) ∨ ((la : Int) ≤ 5000 ∧ 0 ≤ k ∧ (la : Int) < k)) :
    Calls Try.prog 5 #[.slice av la ca, .int .i64 k] w fun e w' => e = .returned (.bool true) ∧ Below w.heap.size w w' := by
  rcases h with h | ⟨h1, h⟩ | ⟨h1, h2, h⟩
  all_goals
    go_enter Try.func5, Try.ntmps5
    go_wp2_with fail
    refine (alive_any _).mono ?_
    rintro e w1 ⟨rfl, hb1⟩
    go_wp2_with fail
    go_ret
    exact ⟨rfl, hb1⟩

theorem split_walk (a0 : Option Addr) (len0 cap0 : Nat) (z0 : List Int) (a1 : Int) (w : World) (w0 : RowIn .u8 w a0 len0 cap0 z0) (_ : (Lit.int .i64 a1).wf = true) :
    Calls Try.prog 5 #[.slice a0 len0 cap0, .int .i64 a1] w fun e w' => e = .returned (.bool true) ∧ Below w.heap.size w w' := by
  obtain ⟨b, rfl, hc, _, hb⟩ := bytes_of_row w0
  by_cases h1 : (b.length : Int) ≤ 5000
  · by_cases h2 : 0 ≤ a1
    · by_cases h3 : a1 ≤ (b.length : Int)
      · obtain ⟨k, rfl⟩ := Int.eq_ofNat_of_zero_le h2
        have hb0 := hb
        rcases hb with ⟨h, hn⟩ | ⟨blk, off, cap, h, hcc, _⟩
        · have hn : b = [] := by simpa [u8s] using hn
          subst hn
          cases h
          have : k = 0 := by simp at h3; omega
          subst this
          exact split_nil [] w rfl
        · simp only [Value.slice.injEq, u8s_length] at h
          obtain ⟨rfl, _, rfl⟩ := h
          by_cases hk : k < cap0
          · exact split_some blk off cap0 k b w hb0 hc h1 (by omega) hk
          · have e1 : b.length = cap0 := by omega
            have e2 : k = b.length := by omega
            subst e1 e2
            exact split_full blk off b w hb0 h1
      · exact split_out _ _ _ _ w (.inr (.inr ⟨h1, h2, by omega⟩))
    · exact split_out _ _ _ _ w (.inr (.inl ⟨h1, by omega⟩))
  · exact split_out _ _ _ _ w (.inl (by omega))
end Go.Proofs.Ytgeagbhfpjhonaa
