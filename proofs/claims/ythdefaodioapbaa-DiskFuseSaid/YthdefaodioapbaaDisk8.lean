/- A disk as a law holds it; alive. -/
import Derived.Test.YthdefaodioapbaaDisk7
namespace Go.Proofs.Ythdefaodioapbaa
open Go.RowKit

variable {w w' : World} {O : Nat → Prop} {p B : Nat} {d : DS}

/-- Blocks beyond B make a disk. -/
def DiskIn (w : World) (B p : Nat) (d : DS) : Prop := ∃ O, IsDisk w O p d ∧ ∀ j, O j → B ≤ j ∧ j < w.heap.size
theorem DiskIn.below (h : DiskIn w B p d) (hb : Below w.heap.size w w') : DiskIn w' B p d := let ⟨O, h1, h2⟩ := h; ⟨O, h1.below hb, fun j hj => ⟨(h2 j hj).1, Nat.lt_of_lt_of_le (h2 j hj).2 hb.size⟩⟩
theorem DiskIn.drew (h : DiskIn w B p d) : DiskIn w.drew B p d := h.below (Below.refl _ _).drew
theorem IsDisk.each (h : IsDisk w O p d) : ∀ x ∈ d.back, x.1 < d.n ∧ x.2.length = 512 := by obtain ⟨_, _, _, _, h⟩ := h; exact h.each
theorem IsDisk.small (h : IsDisk w O p d) : d.back.length ≤ 65536 := by obtain ⟨_, _, _, _, h⟩ := h; exact h.small
theorem IsDisk.nlen (h : IsDisk w O p d) : d.now.length = 512 * d.n := by obtain ⟨_, _, _, _, h⟩ := h; exact h.nlen
theorem IsDisk.flen (h : IsDisk w O p d) : d.fast.length = 512 * d.n := by obtain ⟨_, _, _, _, h⟩ := h; exact h.flen
theorem IsDisk.n2 (h : IsDisk w O p d) : d.n ≤ 4096 := by obtain ⟨_, _, _, _, h⟩ := h; exact h.n2

theorem new_in (n : Nat) (w : World) (h1 : 1 ≤ n) (h2 : n ≤ 4096) : Calls Try.prog 12 #[.int .i64 n] w fun e w' => ∃ p, e = .returned (.tuple #[.pointer (some ⟨p, 0, none⟩), .int .i64 0]) ∧ DiskIn w' w.heap.size p (DS.new n) ∧ Below w.heap.size w w' :=
  (new_any n w h1 h2).mono fun _ _ ⟨p, e, h, hb⟩ => ⟨p, e, ⟨_, h, fun _ hj => hj⟩, hb⟩
/-- a block is made, then written -/
theorem write_in (h : DiskIn w B p d) (g0 cap : Nat) (hg : w.heap.size ≤ g0) (hb : Below w.heap.size w w') (hgl : g0 < w'.heap.size) (hB : B ≤ w.heap.size) (k : Nat) (hk : k < d.n) (ho : d.off = false) (hll : d.left ≤ 1000000000000) (hn : d.back.length < 65536) (x : Bs) (hx : Bytes w' (.slice (some ⟨g0, 0, none⟩) 512 cap) x) (hxl : x.length = 512) :
    Calls Try.prog 13 #[.pointer (some ⟨p, 0, none⟩), .int .i64 k, .slice (some ⟨g0, 0, none⟩) 512 cap] w' fun e w2 => e = .returned (.int .i64 0) ∧ DiskIn w2 B p (d.write k x) ∧ Below B w' w2 := by
  obtain ⟨O, hd, hO⟩ := h
  obtain ⟨gn, gf, vb, vs, hd⟩ := hd.below hb
  refine (write_ok hd k hk ho hll hn g0 0 cap x hx hxl (fun h => by have := (hO _ h).2; omega) hgl).mono ?_
  rintro e w2 ⟨rfl, h1, h2⟩
  refine ⟨rfl, ⟨_, h1, fun j hj => ?_⟩, h2.below_of (Nat.le_trans hB hb.size) (fun k hk hO' => by have := (hO k hO').1; omega)⟩
  have := hb.size
  have := h2.size
  rcases hj with hj | ⟨h3, h4⟩
  · have := hO j hj
    omega
  · omega
theorem read_in (h : DiskIn w B p d) (k : Nat) (hk : k < d.n) (ho : d.off = false) :
    Calls Try.prog 16 #[.pointer (some ⟨p, 0, none⟩), .int .i64 k] w fun e w' => ∃ g cap, e = .returned (.tuple #[.slice (some ⟨g, 0, none⟩) 512 cap, .int .i64 0]) ∧ Bytes w' (.slice (some ⟨g, 0, none⟩) 512 cap) (blockAt d.now k) ∧ w.heap.size ≤ g ∧ g < w'.heap.size ∧ DiskIn w' B p d ∧ Below w.heap.size w w' := by
  have h0 := h
  obtain ⟨O, ⟨gn, gf, vb, vs, hd⟩, hO⟩ := h
  refine (read_ok hd k hk ho).mono ?_
  rintro e w' ⟨g, cap, rfl, h1, h2, h3, _, _, hb⟩
  exact ⟨g, cap, rfl, h1, h2, h3, h0.below hb, hb⟩
theorem blocks_in (h : DiskIn w B p d) : Calls Try.prog 30 #[.pointer (some ⟨p, 0, none⟩)] w fun e w' => e = .returned (.int .i64 d.n) ∧ w = w' := by
  obtain ⟨O, ⟨gn, gf, vb, vs, hd⟩, hO⟩ := h
  exact blocks_any hd
theorem on_in (h : DiskIn w B p d) : Calls Try.prog 21 #[.pointer (some ⟨p, 0, none⟩)] w fun e w' => e = .returned (.bool !d.off) ∧ w = w' := by
  obtain ⟨O, ⟨gn, gf, vb, vs, hd⟩, hO⟩ := h
  exact on_any hd
theorem pending_in (h : DiskIn w B p d) : Calls Try.prog 18 #[.pointer (some ⟨p, 0, none⟩)] w fun e w' => ∃ a cap, e = .returned (.slice a d.back.length cap) ∧ DiskIn w' B p d ∧ Below w.heap.size w w' := by
  have h0 := h
  obtain ⟨O, ⟨gn, gf, vb, vs, hd⟩, hO⟩ := h
  refine (pending_any hd).mono ?_
  rintro e w' ⟨v, rfl, hr, hb⟩
  obtain ⟨a, cap, rfl⟩ := row_len hr
  exact ⟨a, cap, rfl, h0.below hb, hb⟩
theorem fuse_in (h : DiskIn w B p d) (hB : B ≤ w.heap.size) (s : Int) (hs : -1 ≤ s) (ho : d.off = false) : Calls Try.prog 20 #[.pointer (some ⟨p, 0, none⟩), .int .i64 s] w fun e w' => e = .returned (.int .i64 0) ∧ DiskIn w' B p { d with left := s, off := s == 0 } ∧ Below B w w' := by
  obtain ⟨O, ⟨gn, gf, vb, vs, hd⟩, hO⟩ := h
  have hp := (hO p hd.ownP).1
  refine (fuse_any hd s hs ho).mono ?_
  rintro e w' ⟨rfl, h1, h2⟩
  exact ⟨rfl, ⟨O, ⟨gn, gf, vb, vs, h1⟩, fun j hj => ⟨(hO j hj).1, Nat.lt_of_lt_of_le (hO j hj).2 h2.size⟩⟩, h2.below_of hB (fun k hk hO' => by omega)⟩

theorem blockAt_put {l b : Bs} {k n : Nat} (hl : l.length = 512 * n) (hk : k < n) (hb : b.length = 512) : blockAt (putAt l k b) k = b := by
  have h1 : (List.take (512 * k) l).length = 512 * k := by rw [List.length_take]; omega
  unfold blockAt putAt splice
  rw [List.drop_append_of_le_length (by omega), List.drop_of_length_le (by omega), List.nil_append, List.take_append_of_le_length (by omega), List.take_of_length_le (by omega)]
theorem new_now (n : Nat) : (DS.new n).now.length = 512 * n := List.length_replicate
theorem new_fast (n : Nat) : (DS.new n).fast.length = 512 * n := List.length_replicate
theorem DS.write_never (d : DS) (k : Nat) (x : Bs) (h : d.left ≤ 0) : d.write k x = { d with back := d.back ++ [(k, x)], now := putAt d.now k x } := by
  unfold DS.write DS.step
  rw [if_neg (by simp; omega)]

theorem alive_any (w : World) : Calls Try.prog 11 #[] w fun e w' => e = .returned (.bool true) ∧ Below w.heap.size w w' := by
  have H0 := Lib.hid (new_in 2 w (by omega) (by omega))
  go_enter Try.func11, Try.ntmps11
  go_wp2_with fail
  refine (H0.out).mono ?_
  rintro e w1 ⟨p, rfl, hd1, hb1⟩
  have HD1 := Lib.hid hd1
  have HB1 := Lib.hid hb1
  clear hd1 hb1 H0
  go_wp2_with fail
  refine (num_any _ _).mono ?_
  rintro e w2 ⟨rfl, rfl⟩
  go_wp2_with fail
  refine (block_any 7 _).mono ?_
  rintro e w2 ⟨rfl, hx2, hb2⟩
  have H3 := Lib.hid (fun hgl => write_in HD1.out w1.heap.size 512 (Nat.le_refl _) hb2 hgl HB1.out.size 1 (by decide) rfl (by decide) (by decide) (blk 7) hx2 (blk_length 7))
  have hlt2 : w1.heap.size < w2.heap.size := RowAt.lt hx2 (by intro h; have := congrArg List.length h; rw [u8s_length, blk_length] at this; cases this) _ rfl
  have HL2 := Lib.hid hlt2
  have HB2 := Lib.hid hb2
  clear hx2 hb2 hlt2
  rw [DS.write_never _ _ _ (by decide)] at H3
  go_wp2_with fail
  refine (H3.out HL2.out).mono ?_
  rintro e w3 ⟨rfl, hd3, hb3⟩
  have H4 := Lib.hid (read_in hd3 1 (by decide) rfl)
  have HB3 := Lib.hid hb3
  clear hd3 hb3 H3
  go_wp2_with fail
  refine (H4.out).mono ?_
  rintro e w4 ⟨g, cap, rfl, hx4, hg1, hg2, hd4, hb4⟩
  have e4 : blockAt (putAt (DS.new 2).now 1 (blk 7)) 1 = blk 7 := blockAt_put (n := 2) (new_now 2) (by omega) (blk_length 7)
  have e5 : DS.n { DS.new 2 with back := (DS.new 2).back ++ [(1, blk 7)], now := putAt (DS.new 2).now 1 (blk 7) } = 2 := rfl
  replace hx4 : Bytes w4 (.slice (some ⟨g, 0, none⟩) 512 cap) (blockAt (putAt (DS.new 2).now 1 (blk 7)) 1) := hx4
  rw [e4] at hx4
  have H5 := Lib.hid (fun w' (h : Below w4.heap.size w4 w') => blocks_in (hd4.below h))
  rw [e5] at H5
  have HX4 := Lib.hid hx4
  have HB4 : Hid (Below w.heap.size w w4) := by
    have h1 := HB1.out.size
    exact HB1.out.trans ((HB2.out.mono h1).trans (HB3.out.trans (hb4.mono (by have := HB2.out.size; have := HB3.out.size; omega))))
  have HG := Lib.hid hg2
  clear hx4 hd4 hb4 H4 e4 e5 HB1 HB2 HB3 HL2 HD1 hg1 hg2
  go_wp2_with fail
  have u29 := Try.underlying29
  have hcv : ∀ W, Below w4.heap.size w4 W → (convert 29 9 (.slice (some ⟨g, 0, none⟩) 512 cap)).run Try.prog W = .ok (.string ⟨(blk 7).toArray⟩) W := fun W hW => run_string_of W 29 5 Try.underlying29 Try.underlying5 (RowAt.below HX4.out hW (Nat.le_refl _)) 9 Try.underlying9
  have HS0 : Hid (Below w4.heap.size w4 w4.drew) := (Below.refl _ _).drew
  clear u29
  refine wp_region_noPanic ?_
  refine wp_region_ordL 20 [12, 20] [0, 1, 2, 3, 4, 5, 6, 7, 8, 9, 10, 11, 12, 13, 14, 15, 16, 17, 18, 19, 20] (fun W => Below w4.heap.size w4 W) (by kernel_rfl) (by kernel_rfl) rfl (by kernel_rfl) (fun _ _ _ _ _ h => h) HS0.out ?_
  repeat (apply heldL_run rfl (by rfl) (by rfl); (intro w hSw; go_simp; with_reducible rfl); (try simp only [Act.put, List.setIfInBounds_toArray, List.set_cons_zero, List.set_cons_succ]))
  refine heldL_step rfl (by rfl) (by rfl) (fun K hK => ?_)
  go_simp
  refine (num_any _ _).mono ?_
  rintro e w5 ⟨rfl, rfl⟩
  refine hK.out _ _ (.inr HS0.out) ?_
  clear hK K
  (try simp only [Act.put, List.setIfInBounds_toArray, List.set_cons_zero, List.set_cons_succ])
  repeat (apply heldL_run rfl (by rfl) (by rfl); (intro w hSw; go_simp; with_reducible rfl); (try simp only [Act.put, List.setIfInBounds_toArray, List.set_cons_zero, List.set_cons_succ]))
  refine heldL_step rfl (by rfl) (by rfl) (fun K hK => ?_)
  go_simp
  refine (num_any _ _).mono ?_
  rintro e w5 ⟨rfl, rfl⟩
  refine hK.out _ _ (.inr HS0.out) ?_
  clear hK K
  (try simp only [Act.put, List.setIfInBounds_toArray, List.set_cons_zero, List.set_cons_succ])
  repeat (apply heldL_run rfl (by rfl) (by rfl); (intro w hSw; go_simp; with_reducible rfl); (try simp only [Act.put, List.setIfInBounds_toArray, List.set_cons_zero, List.set_cons_succ]))
  refine heldL_step rfl (by rfl) (by rfl) (fun K hK => ?_)
  go_simp
  refine (block_any 7 _).mono ?_
  rintro e w5 ⟨rfl, hx5, hb5⟩
  have HS5 : Hid (Below w4.heap.size w4 w5) := HS0.out.trans hb5
  have hc5 := run_string_of w5 29 5 Try.underlying29 Try.underlying5 hx5 9 Try.underlying9
  clear hx5 hb5
  generalize w4.drew.heap.size = q at *
  refine hK.out _ _ (.inr HS5.out) ?_
  clear hK K
  (try simp only [Act.put, List.setIfInBounds_toArray, List.set_cons_zero, List.set_cons_succ])
  repeat (apply heldL_run rfl (by rfl) (by rfl); (intro w hSw; go_simp; with_reducible rfl); (try simp only [Act.put, List.setIfInBounds_toArray, List.set_cons_zero, List.set_cons_succ]))
  refine heldL_step rfl (by rfl) (by rfl) (fun K hK => ?_)
  go_simp
  refine hK.out _ _ (.inr HS5.out) ?_
  clear hK K
  (try simp only [Act.put, List.setIfInBounds_toArray, List.set_cons_zero, List.set_cons_succ])
  repeat (apply heldL_run rfl (by rfl) (by rfl); (intro w hSw; go_simp; with_reducible rfl); (try simp only [Act.put, List.setIfInBounds_toArray, List.set_cons_zero, List.set_cons_succ]))
  refine heldL_step rfl (by rfl) (by rfl) (fun K hK => ?_)
  go_simp
  refine (H5.out _ HS5.out).mono ?_
  rintro e w6 ⟨rfl, rfl⟩
  refine hK.out _ _ (.inr HS5.out) ?_
  clear hK K
  (try simp only [Act.put, List.setIfInBounds_toArray, List.set_cons_zero, List.set_cons_succ])
  repeat (apply heldL_run rfl (by rfl) (by rfl); (intro w hSw; go_simp; with_reducible rfl); (try simp only [Act.put, List.setIfInBounds_toArray, List.set_cons_zero, List.set_cons_succ]))
  refine heldL_step rfl (by rfl) (by rfl) (fun K hK => ?_)
  go_simp
  refine hK.out _ _ (.inl rfl) ?_
  clear hK K
  (try simp only [Act.put, List.setIfInBounds_toArray, List.set_cons_zero, List.set_cons_succ])
  refine heldL_nil (NoPanic.normal ?_)
  go_wp2
  go_ret
  exact ⟨rfl, HB4.out.trans (HS5.out.mono HB4.out.size)⟩
end Go.Proofs.Ythdefaodioapbaa
