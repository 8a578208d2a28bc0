/- Write: it is done. -/
import Derived.Test.YthfncgbkigmmcaaDisk4
namespace Go.Proofs.Ythfncgbkigmmcaa
open Go.RowKit

variable {w w' : World} {O R : Nat → Prop} {p : Nat} {d : DS} {gn gf : Nat} {vb : Value} {vs : List Value}

set_option maxHeartbeats 2000000 in
theorem write_ok (h : DiskAt w O R p d gn gf vb vs) (k : Nat) (hk : k < d.n) (ho : d.off = false) (hll : d.left ≤ 9223372036854775807) (hn : d.back.length < 65536) (g0 off cap : Nat) (x : Bs) (hx : Bytes w (.slice (some ⟨g0, off, none⟩) 512 cap) x) (hxl : x.length = 512) (hg0 : ¬ O g0) (hg1 : g0 < w.heap.size) :
    Calls Try.prog 74 #[.pointer (some ⟨p, 0, none⟩), .int .i64 k, .slice (some ⟨g0, off, none⟩) 512 cap] w fun e w' => e = .returned (.int .i64 0) ∧ IsDisk w' (fun j => O j ∨ NewIn w w' j) (fun j => R j ∨ NewIn w w' j) p (d.write k x) ∧ Keeps O w w' := by
  obtain ⟨i0, hi, hz0, hz1, hz2⟩ := info_parts info5
  obtain ⟨i1, hj, hy0, hy1, hy2⟩ := info_parts infoH
  have HT := Lib.hid (there_any h k)
  have hth : d.there k = 0 := by unfold DS.there; rw [ho, if_neg (by decide), if_neg (by omega)]
  rw [hth] at HT
  have c2 := h.c2
  have f2 := h.fr 2
  obtain ⟨a2, cap2, hv⟩ := row_len h.row
  have HROW := Lib.hid h.row
  have HX := Lib.hid hx
  have HD := Lib.hid h
  have HV := Lib.hid hv
  have HLX : Hid ((d.back.length : Int) < 65536) := by show (d.back.length : Int) < 65536; omega
  have hL0 : (0 : Int) ≤ (d.back.length : Int) := by omega
  have HXC : Hid (∀ j u, (u8s x)[j]? = some u → w.cell? ((⟨g0, off, none⟩ : Addr).add j) = some u) := fun j u hj => by
    rw [addr_add]
    rcases hx with ⟨hh, _⟩ | ⟨b, o, c, hh, _, hcell⟩
    · cases hh
    · simp only [Value.slice.injEq, Option.some.injEq, Addr.mk.injEq] at hh
      obtain ⟨⟨rfl, rfl, _⟩, _, rfl⟩ := hh
      exact hcell j u hj
  rw [hv] at c2
  clear h hth hv hx
  generalize hBL : d.back.length = bl at *
  have HN := Lib.hid hn
  have HBL := Lib.hid hBL
  have HI := Lib.hid (And.intro hi (And.intro hz0 (And.intro hz1 hz2)))
  have HJ := Lib.hid (And.intro hj (And.intro hy0 (And.intro hy1 hy2)))
  clear hi hz0 hz1 hz2 hj hy0 hy1 hy2
  have HK := Lib.hid hk
  have HO := Lib.hid ho
  have HLL := Lib.hid hll
  have HXL := Lib.hid hxl
  have HG0 := Lib.hid hg0
  have HG1 := Lib.hid hg1
  clear hn hBL hk ho hll hxl hg0 hg1
  have hge : decide ((65536 : Int) ≤ (bl : Int)) = false := decide_eq_false (by have := HLX.out; omega)
  go_enter Try.func74, Try.ntmps74
  go_wp2_with fail
  refine HT.out.mono ?_
  rintro e w1 ⟨rfl, rfl⟩
  go_wp2_with fail
  refine wp_region_noPanic ?_
  refine wp_region_ordL 19 [] [0,1,2,3,4,5,6,9,10,11,12,13,7,8,14,15,16,17,18,19] (fun W => W.cell? ⟨p, 2, none⟩ = some (.slice a2 bl cap2)) (by kernel_rfl) (by kernel_rfl) rfl (by kernel_rfl) (fun _ _ _ _ _ h => h) c2 ?_
  repeat (apply heldL_run rfl (by rfl) (by rfl); (intro w hSw; go_simp; with_reducible rfl); (try simp only [Act.put, List.setIfInBounds_toArray, List.set_cons_zero, List.set_cons_succ]))
  -- the bytes' own copy
  refine heldL_step rfl (by rfl) (by rfl) (fun K hK => ?_)
  refine op_append (.const (.slice none 0 0)) (.tmp 31) 24 rfl w.heap.size 5 i0 (.int .u8 0) 1 1 Try.underlying24 HI.out.1 HI.out.2.1 HI.out.2.2.1 HI.out.2.2.2 rfl (by decide) (.slice none 0 0) 0 [] rfl (World.ownsRow_nil _ _ _ _) ⟨g0, off, none⟩ 512 cap (u8s x) rfl (by rw [u8s_length, HXL.out]) HXC.out (u8s_one x) (by decide) (by decide) (Nat.le_refl _) ?_
  intro v1 w1 hown1 hgr1 _
  have k1 : Below w.heap.size w w1 := (Below.refl _ w).drew.grown hgr1 (Nat.le_refl _) (fun k e => by cases e)
  rcases owns_shape hown1 with ⟨_, h0⟩ | ⟨g1, cap1, rfl, hle, hm, hbg, hlt⟩
  · omega
  have HOW1 := Lib.hid hown1
  have HK1 := Lib.hid k1
  have HG := Lib.hid (And.intro hbg hlt)
  have HS1 : Hid (w1.cell? ⟨p, 2, none⟩ = some (.slice a2 bl cap2)) := (World.cell?_of_block (w := w) (k1.block p HD.out.lt)).trans c2
  clear hown1 hgr1 k1 hle hm hbg hlt
  refine hK.out _ _ (.inr HS1.out) ?_
  clear hK K
  (try simp only [Act.put, List.setIfInBounds_toArray, List.set_cons_zero, List.set_cons_succ])
  repeat (apply heldL_run rfl (by rfl) (by rfl); (intro w hSw; go_simp; with_reducible rfl); (try simp only [Act.put, List.setIfInBounds_toArray, List.set_cons_zero, List.set_cons_succ]))
  -- the row of one
  refine heldL_step rfl (by rfl) (by rfl) (fun K hK => ?_)
  go_simp
  have hb2 : Below w.heap.size w (w1.alloc (.cells #[.int .i64 (k : Int), .slice (some ⟨g1, 0, none⟩) 512 cap1, .int .i64 (bl : Int)] 90)) := HK1.out.alloc HK1.out.size _
  have hnew := heap_alloc_new w1 (.cells #[.int .i64 (k : Int), .slice (some ⟨g1, 0, none⟩) 512 cap1, .int .i64 (bl : Int)] 90)
  have hk12 : Below w1.heap.size w1 (w1.alloc (.cells #[.int .i64 (k : Int), .slice (some ⟨g1, 0, none⟩) 512 cap1, .int .i64 (bl : Int)] 90)) := (Below.refl _ _).alloc (Nat.le_refl _) _
  have hsz2 : (w1.alloc (.cells #[.int .i64 (k : Int), .slice (some ⟨g1, 0, none⟩) 512 cap1, .int .i64 (bl : Int)] 90)).heap.size = w1.heap.size + 1 := by simp
  generalize (w1.alloc (.cells #[.int .i64 (k : Int), .slice (some ⟨g1, 0, none⟩) 512 cap1, .int .i64 (bl : Int)] 90)) = w2 at *
  have HB2 := Lib.hid hb2
  have HNEW := Lib.hid hnew
  have HSZ2 := Lib.hid hsz2
  have HV1 : Hid (Bytes w2 (.slice (some ⟨g1, 0, none⟩) 512 cap1) x) := by
    have := RowAt.of_owns HOW1.out
    exact RowAt.below (by simpa using this) hk12 (Nat.le_refl _)
  have HS2 : Hid (w2.cell? ⟨p, 2, none⟩ = some (.slice a2 bl cap2)) := (World.cell?_of_block (w := w) (hb2.block p HD.out.lt)).trans c2
  have HROW2 : Hid (w2.ownsRow 0 90 3 (.slice a2 bl cap2) bl (heldC 0 d.back vs)) := by
    have := HROW.out
    rw [HV.out] at this
    exact owns_kept this (fun j _ hj => hb2.block j hj)
  clear hb2 hnew hk12 hsz2 HS1 HOW1
  refine hK.out _ _ (.inr HS2.out) ?_
  clear hK K
  -- it goes to those that are held back
  refine heldL_step rfl (by rfl) (by rfl) (fun K hK => ?_)
  refine op_append (.tmp 29) (.tmp 40) 81 rfl 0 90 i1 (.agg #[.int .i64 0, .slice none 0 0, .int .i64 0]) 3 40 Try.underlying81 HJ.out.1 HJ.out.2.1 HJ.out.2.2.1 HJ.out.2.2.2 rfl (by decide) (.slice a2 bl cap2) bl _ rfl HROW2.out ⟨w1.heap.size, 0, none⟩ 1 1 [.int .i64 (k : Int), .slice (some ⟨g1, 0, none⟩) 512 cap1, .int .i64 (bl : Int)] rfl rfl (fun j u hj => by
    rw [addr_add, cell_of_row w2 w1.heap.size _ _ _ _ HNEW.out, Nat.zero_add]
    simpa using hj) (by simp [Value.oneCell']) (by have := HN.out; unfold maxLen; omega) (by have := HN.out; omega) (Nat.zero_le _) ?_
  intro v2 w3 hown3 hgr3 hob
  obtain ⟨a3, cap3, hv2⟩ := row_len hown3
  subst hv2
  have hbp : (Value.slice a2 bl cap2).ownBlock ≠ some p := HV.out ▸ HD.out.bp
  have hp2 : p < w2.heap.size := Nat.lt_of_lt_of_le HD.out.lt HB2.out.size
  have hcp : w3.heap[p]? = w.heap[p]? := (hgr3.block p hp2 (fun e => hbp e.symm)).trans (HB2.out.block p HD.out.lt)
  have s3 : w3.cell? ⟨p, 2, none⟩ = some (.slice a2 bl cap2) := (World.cell?_of_block (w := w) hcp).trans c2
  have f3 : w3.frozen? ⟨p, 2, none⟩ = false := (World.frozen?_of_block (w := w) hcp).trans f2
  have HOWN3 := Lib.hid hown3
  have HGR3 := Lib.hid hgr3
  have HOB := Lib.hid hob
  have HCP := Lib.hid hcp
  clear hown3 hgr3 hob hbp hp2 hcp
  refine hK.out _ _ (.inr s3) ?_
  clear hK K
  (try simp only [Act.put, List.setIfInBounds_toArray, List.set_cons_zero, List.set_cons_succ])
  repeat (apply heldL_run rfl (by rfl) (by rfl); (intro w hSw; go_simp; with_reducible rfl); (try simp only [Act.put, List.setIfInBounds_toArray, List.set_cons_zero, List.set_cons_succ]))
  refine heldL_step rfl (by rfl) (by rfl) (fun K hK => ?_)
  go_simp
  refine hK.out _ _ (.inl rfl) ?_
  clear hK K
  refine heldL_nil (NoPanic.normal ?_)
  -- the disk with one write more
  have hk23 : Keeps (fun b => b = p ∨ vb.ownBlock = some b) w (w3.setCell ⟨p, 2, none⟩ (.slice a3 (bl + 1) cap3)) := by
    refine Keeps.setCell ?_ _ _ (.inl (.inl rfl))
    refine ((Keeps.of_below HB2.out).grown HGR3.out fun j e => ?_)
    rw [← HV.out] at e
    exact .inl (.inr e)
  have hcell := heap_setCell_same w3 p 2 _ 83 (.slice a3 (bl + 1) cap3) (HCP.out.trans HD.out.cell)
  have hbb : ∀ j, (Value.slice a3 (bl + 1) cap3).ownBlock = some j → vb.ownBlock = some j ∨ (w.heap.size ≤ j ∧ j < (w3.setCell ⟨p, 2, none⟩ (.slice a3 (bl + 1) cap3)).heap.size) := fun j e => by
    rcases HOB.out with h | h
    · left; rw [HV.out, ← h]; exact e
    · right
      rw [h] at e
      cases e
      have := HB2.out.size
      have h3 := (row_block HOWN3.out h).1
      refine ⟨this, ?_⟩
      simpa using h3
  have hbpp : (Value.slice a3 (bl + 1) cap3).ownBlock ≠ some p := fun e => by
    obtain ⟨_, cs, h1⟩ := row_block HOWN3.out e
    rw [HCP.out, HD.out.cell] at h1
    simp at h1
  have hdm := HD.out.more hk23 k x HK.out HXL.out (by rw [HBL.out]; exact HN.out) (.slice (some ⟨g1, 0, none⟩) 512 cap1) (.slice a3 (bl + 1) cap3) hcell (by
    rw [HBL.out]
    exact owns_kept HOWN3.out (fun j e hj => Below.heap_setCell _ _ _ _ (fun e' => hbpp (by rw [e, e'])))) (RowAt.keeps HV1.out (Keeps.setCell (Keeps.of_grown (S := fun b => b = p ∨ vb.ownBlock = some b) HGR3.out (fun j e => .inr (by rw [HV.out]; exact e))) _ _ (.inl (.inl rfl))) (fun j e => by
      obtain rfl : g1 = j := by simpa [Value.ownBlock] using e
      rintro (h | h)
      · have := HD.out.lt; have := HG.out.1; omega
      · have := (row_block HD.out.row h).1; have := HG.out.1; omega)) (by
      intro j e
      obtain rfl : g1 = j := by simpa [Value.ownBlock] using e
      have h1 := HG.out
      have h2 := HGR3.out.size
      have h3 := HSZ2.out
      refine ⟨h1.1, by simp; omega, fun e => ?_⟩
      rcases HOB.out with h | h
      · have h4 : vb.ownBlock = some g1 := by rw [HV.out, ← h]; exact e
        have := (row_block HD.out.row h4).1
        omega
      · rw [h] at e
        simp at e
        omega) hbb
  have hx4 : Bytes (w3.setCell ⟨p, 2, none⟩ (.slice a3 (bl + 1) cap3)) (.slice (some ⟨g0, off, none⟩) 512 cap) x := RowAt.keeps HX.out hk23 (fun j e => by
    obtain rfl : g0 = j := by simpa [Value.ownBlock] using e
    rintro (h | h)
    · exact HG0.out (h ▸ HD.out.ownP)
    · exact HG0.out (HD.out.ownB _ h))
  generalize (w3.setCell ⟨p, 2, none⟩ (.slice a3 (bl + 1) cap3)) = w4 at *
  have c0 := hdm.c0
  have HDM := Lib.hid hdm
  have HK4 := Lib.hid hk23
  have HX4 : Hid (∀ j u, (u8s x)[j]? = some u → w4.cell? ((⟨g0, off, none⟩ : Addr).add j) = some u) := fun j u hj => by
    rw [addr_add]
    rcases hx4 with ⟨hh, _⟩ | ⟨b, o, c, hh, _, hcell⟩
    · cases hh
    · simp only [Value.slice.injEq, Option.some.injEq, Addr.mk.injEq] at hh
      obtain ⟨⟨rfl, rfl, _⟩, _, rfl⟩ := hh
      exact hcell j u hj
  have HP := Lib.hid (fun w => part_any gn d.n k w HK.out HD.out.n2)
  have HFIT : Hid (512 * k + (u8s x).length ≤ (u8s d.now).toArray.size) := by
    show 512 * k + (u8s x).length ≤ (u8s d.now).toArray.size
    have h1 := HD.out.nlen
    have h2 := HK.out
    rw [u8s_length, HXL.out, List.size_toArray, u8s_length]
    omega
  have HLN : Hid ((u8s x).length = Nat.min 512 512) := by show _ = _; rw [u8s_length, HXL.out]; rfl
  have hi5 : (Try.prog.info? 5).map (·.size) = some 1 := by rw [HI.out.1]; simp [HI.out.2.2.1]
  have HI5 := Lib.hid hi5
  clear hdm hk23 hx4 hcell hbb hbpp s3 f3 hi5 c2 f2 HT HROW HV HNEW HSZ2 HV1 HS2 HROW2 HOWN3 HGR3 HOB HCP
  generalize hN : d.n = n at *
  have HNN := Lib.hid hN
  clear hN
  go_wp2_with fail
  refine (HP.out _).mono ?_
  rintro e w5 ⟨rfl, rfl⟩
  go_wp2_with (with_reducible refine wpList_copy_own rfl (.tmp 49) (.tmp 50) 24 24 rfl 5 Try.underlying24 HI5.out gn (512 * k) 512 512 ⟨g0, off, none⟩ 512 cap rfl rfl (u8s d.now).toArray 5 HDM.out.now (u8s x) HLN.out HX4.out HFIT.out (u8s_one x) ?_)
  have hr5 : (w4.setRow gn (List.take (512 * k) (u8s d.now) ++ (u8s x ++ List.drop (512 * k + (u8s x).length) (u8s d.now))).toArray).heap[gn]? = some (.cells (u8s (putAt d.now k x)).toArray 5 (0, 0)) := by
    rw [setRow_heap w4 gn _ _ 5 _ HDM.out.now, putAt, ← u8s_splice]
    rfl
  have hk5 : Keeps (fun b => b = gn) w4 (w4.setRow gn (List.take (512 * k) (u8s d.now) ++ (u8s x ++ List.drop (512 * k + (u8s x).length) (u8s d.now))).toArray) := keeps_setRow (S := fun b => b = gn) (Keeps.refl _ _) rfl _
  rw [u8s_length] at hr5 hk5
  generalize (w4.setRow gn (List.take (512 * k) (u8s d.now) ++ (u8s x ++ List.drop (512 * k + x.length) (u8s d.now))).toArray) = w5 at *
  have hd5 := HDM.out.setNow hk5 (putAt d.now k x) (putAt_length (by rw [← HNN.out]; exact HD.out.nlen) HK.out HXL.out) hr5
  have HS := step_any hd5 HLL.out
  have HK5 := Lib.hid hk5
  have HSZ5 := Lib.hid hk5.size
  clear hr5 hk5 hd5 c0
  refine HS.mono ?_
  rintro e w6 ⟨rfl, hd6, hk6⟩
  go_wp2_with fail
  go_ret
  have hk06 : Keeps O w w6 := by
    refine ((HK4.out.mono (T := O) (fun b _ hb => ?_)).trans (HK5.out.mono (T := O) (fun b _ hb => ?_)) (fun b hb => .inl hb)).trans (hk6.mono (T := O) (fun b _ hb => ?_)) (fun b hb => .inl hb)
    · exact hb.elim (fun e => e ▸ HD.out.ownP) (fun e => HD.out.ownB _ e)
    · exact hb ▸ HD.out.ownN
    · exact hb ▸ HD.out.ownP
  have hd7 := hd6.mono (O' := fun j => O j ∨ NewIn w w6 j) (R' := fun j => R j ∨ NewIn w w6 j) (fun j hj => hj.imp id fun ⟨a, b⟩ => ⟨a, Nat.lt_of_lt_of_le b (Nat.le_trans HSZ5.out hk6.size)⟩) (fun j hj => hj.imp id fun ⟨a, b⟩ => ⟨a, Nat.lt_of_lt_of_le b (Nat.le_trans HSZ5.out hk6.size)⟩)
  unfold DS.write
  rw [HNN.out]
  exact ⟨rfl, ⟨gn, gf, _, _, hd7⟩, hk06⟩
end Go.Proofs.Ythfncgbkigmmcaa
