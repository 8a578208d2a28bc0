/- The document's disk: a write that is taken. -/
import Derived.Test.YthdefaodioapbaaRef3
namespace Go.Proofs.Ythdefaodioapbaa
open Go.RowKit

variable {w w' : World} {O : Nat → Prop} {p : Nat} {d : DS} {fv hv : Value}
attribute [local irreducible] zA zW

theorem RefAt.more (h : RefAt w O p d fv hv) (kp : Keeps (fun b => b = p ∨ hv.ownBlock = some b) w w') (k : Nat) (x : Bs) (hk : k < d.n) (hx : x.length = 512) (hn : d.back.length < 65536) (hv' : Value)
    (hc : w'.heap[p]? = some (.cells #[fv, hv', .int .i64 d.left, .bool d.off] 83 (0, 0))) (hrow : w'.ownsRow 0 85 513 hv' (d.back.length + 1) (heldR d.back ++ (.int .i64 (k : Int) :: u8s x))) (hb : InB hv' (fun j => O j ∨ NewIn w w' j)) :
    RefAt w' (fun j => O j ∨ NewIn w w' j) p { d with back := d.back ++ [(k, x)], now := putAt d.now k x } fv hv' where
  cell := hc
  fast := owns_kept h.fast (fun b hb hl => kp.block b hl (fun e => e.elim (fun e => h.fp (by rw [hb, e])) (fun e => h.fb b hb e)))
  held := by
    rw [heldR_append]
    simp only [heldR, List.append_nil, List.length_append, List.length_singleton]
    exact hrow
  flen := h.flen
  n1 := h.n1
  n2 := h.n2
  each := fun y hy => by
    rcases List.mem_append.1 hy with h1 | h1
    · exact h.each y h1
    · rw [List.mem_singleton] at h1
      subst h1
      exact ⟨hk, hx⟩
  small := by simp; omega
  ownP := .inl h.ownP
  ownF := h.ownF.mono fun _ => .inl
  ownB := hb

/-- the write that is put together -/
def partW (k : Int) (x : Bs) (i : Nat) : Array Value := (.int .i64 k :: u8s (x.take i ++ List.replicate (512 - i) 0)).toArray
theorem partW_0 (k : Int) (x : Bs) : partW k x 0 = zW k := by rw [zW_eq]; rfl
theorem partW_512 (k : Int) (x : Bs) (h : x.length = 512) : partW k x 512 = (.int .i64 k :: u8s x).toArray := by
  unfold partW
  rw [List.take_of_length_le (by omega), Nat.sub_self, List.replicate_zero, List.append_nil]
theorem partW_size (k : Int) (x : Bs) (i : Nat) (h : x.length = 512) (hi : i ≤ 512) : (partW k x i).size = 513 := by
  unfold partW
  rw [List.size_toArray, List.length_cons, u8s_length, List.length_append, List.length_take, List.length_replicate]
  omega
theorem partW_next (k : Int) (x : Bs) (i : Nat) (h : x.length = 512) (hi : i < 512) (hx : i < x.length) : (partW k x i).setIfInBounds (i + 1) (u8 x[i]) = partW k x (i + 1) := by
  have hlt : (x.take i).length = i := by rw [List.length_take]; omega
  unfold partW
  rw [List.setIfInBounds_toArray, List.set_cons_succ]
  congr 2
  have e : 512 - i = (512 - (i + 1)) + 1 := by omega
  rw [e, List.replicate_succ, List.take_succ_eq_append_getElem hx]
  unfold u8s
  rw [List.map_append, List.set_append_right _ _ (by rw [List.length_map, hlt]; exact Nat.le_refl _), List.length_map, hlt, Nat.sub_self, List.map_cons, List.set_cons_zero]
  simp only [List.map_append, List.map_cons, List.append_assoc, List.singleton_append]
theorem partW_one (k : Int) (x : Bs) (i : Nat) : (partW k x i).all (·.oneCell') = true := all_oneCell_toArray (fun v hv => by
    rcases List.mem_cons.1 hv with rfl | h
    · rfl
    · exact u8s_one _ v h)
attribute [local irreducible] partW

set_option maxHeartbeats 2000000 in
set_option maxRecDepth 100000 in
theorem rWrite_ok (h : RefAt w O p d fv hv) (k : Nat) (hk : k < d.n) (ho : d.off = false) (hi : d.Inv) (hn : d.back.length < 65536) (g0 off cap : Nat) (x : Bs) (hx : Bytes w (.slice (some ⟨g0, off, none⟩) 512 cap) x) (hxl : x.length = 512) :
    Calls Try.prog 37 #[.pointer (some ⟨p, 0, none⟩), .int .i64 k, .slice (some ⟨g0, off, none⟩) 512 cap] w fun e w' => e = .returned (.int .i64 0) ∧ ∃ O', IsRef w' O' p (d.write k x) ∧ (∀ j, O' j → O j ∨ NewIn w w' j) ∧ Keeps O w w' := by
  have c3 := h.c3
  rw [ho] at c3
  have c0 := h.c0
  have c1 := h.c1
  have hn2 := h.n2
  obtain ⟨gf, capf, curf, hfv, hgf, _, _, _⟩ := h.fastRow
  obtain ⟨ah, ch, hhv⟩ := row_len h.held
  rw [hfv] at c0
  rw [hhv] at c1
  have a0 : (0 : Int) ≤ (k : Int) := by omega
  have a1 : (k : Int) < (d.n : Int) := by omega
  have HD := Lib.hid h
  have HFV := Lib.hid hfv
  have HHV := Lib.hid hhv
  have HX := Lib.hid hx
  have HXL := Lib.hid hxl
  have HN := Lib.hid hn
  have HI := Lib.hid (And.intro ho hi)
  have HKN := Lib.hid hk
  have hge : decide ((65536 : Int) ≤ (d.back.length : Int)) = false := decide_eq_false (by omega)
  have hL0 : (0 : Int) ≤ (d.back.length : Int) := by omega
  have C1 : Hid (d.back.length + 1 ≤ maxLen) := by show _ ≤ _; unfold maxLen; omega
  have C2 : Hid ((d.back.length + 1) * 520 ≤ 140737488355328) := by show _ ≤ _; omega
  obtain ⟨i1, hj, hy0, hy1, hy2⟩ := info_parts infoW
  have HJ := Lib.hid (And.intro hj (And.intro hy0 (And.intro hy1 hy2)))
  clear h hfv hgf hhv hx hxl hi ho hn hk hj hy0 hy1 hy2
  generalize hBL : d.back.length = bl at *
  have HBL := Lib.hid hBL
  clear hBL
  obtain ⟨W0, hW0⟩ : ∃ W0, W0 = w.alloc (.cells (zW 0) 85) := ⟨_, rfl⟩
  have hh0 : W0.heap[w.heap.size]? = some (.cells (zW 0) 85 (0, 0)) := by rw [hW0]; exact heap_alloc_new w _
  have hb0 : Below w.heap.size w W0 := by rw [hW0]; exact (Below.refl _ _).alloc (Nat.le_refl _) _
  have HW0 := Lib.hid hW0
  have HH0 := Lib.hid hh0
  have HB0 := Lib.hid hb0
  have HS0 : Hid ((zW 0).size = (zW (k : Int)).size) := by show (zW 0).size = _; rw [zW_size, zW_size]
  clear hW0 hh0 hb0
  obtain ⟨g7, hg7⟩ : ∃ g7, g7 = w.heap.size := ⟨_, rfl⟩
  have HG7 := Lib.hid hg7
  clear hg7
  go_enter Try.func37, Try.ntmps37
  go_wp2_with (first | (refine wpList_build_to rfl 85 _ rfl (zW k) (by first | exact builtW _ | kernel_rfl) ?_) | (refine wpList_alloc_row rfl 85 rfl (.agg (zW 0)) infoWzz ?_; change wpList _ _ _ _ _ (w.alloc (.cells (zW 0) 85)); rw [← HW0.out, ← HG7.out]) | (refine wpList_store_row_to rfl 85 _ _ rfl g7 (zW k) rfl rfl 85 (zW 0) (HG7.out ▸ HH0.out) (sizeWz _) HS0.out (zW_one _) ?_; intro w1 hg1 hgr1; have HG1 := Lib.hid hg1; have HGR1 := Lib.hid hgr1; clear hg1 hgr1))
  have hb1 : Below w.heap.size w w1 := HB0.out.grown HGR1.out HB0.out.size (fun j e => by cases e; rw [HG7.out]; exact Nat.le_refl _)
  have HB1 := Lib.hid hb1
  have HG1' : Hid (w1.heap[g7]? = some (.cells (partW k x 0) 85 (0, 0))) := by show _ = _; rw [partW_0]; exact HG1.out
  clear hb1 HG1 c0
  go_loopw [8] (fun i wr => ∃ j : Nat, j ≤ 512 ∧ i = .int .i64 j ∧ wr.heap[g7]? = some (.cells (partW k x j) 85 (0, 0)) ∧ Below w.heap.size w wr) (fun i _ => 512 - (intOf i).toNat)
  case atStart => exact ⟨0, by omega, rfl, HG1'.out, HB1.out⟩
  case round =>
    obtain ⟨j, hj, rfl, hg, hb⟩ := hrel
    have j0 : (0 : Int) ≤ (j : Int) := by omega
    by_cases hlt : j < 512
    · have j1 : (j : Int) < 512 := by omega
      have hjx : j < x.length := by rw [HXL.out]; exact hlt
      have hxc := RowAt.cell (RowAt.below HX.out hb (Nat.le_refl _)) (k := j) (by rw [u8s_length]; exact hjx)
      have hu : (u8s x)[j]'(by rw [u8s_length]; exact hjx) = u8 x[j] := List.getElem_map _
      rw [hu] at hxc
      unfold u8 at hxc
      have hold : ∃ u, (partW k x j)[j + 1]? = some u := ⟨_, Array.getElem?_eq_getElem (by rw [partW_size k x j HXL.out (by omega)]; omega)⟩
      obtain ⟨u, hold⟩ := hold
      have hcw : wr.cell? ⟨g7, j + 1, none⟩ = some u := cell_at hg hold
      have hfw := frozen_of_row wr g7 (j + 1) _ _ hg
      have hset := heap_setCell_same wr g7 (j + 1) _ 85 (u8 x[j]) hg
      rw [partW_next k x j HXL.out hlt hjx] at hset
      unfold u8 at hset
      have hcw' : wr.cell? ⟨g7, 1 + j, none⟩ = some u := by rw [Nat.add_comm]; exact hcw
      have hfw' : wr.frozen? ⟨g7, 1 + j, none⟩ = false := by rw [Nat.add_comm]; exact hfw
      have HST : Hid ((wr.setCell ⟨g7, 1 + j, none⟩ (.int .u8 (x[j].toNat : Int))).heap[g7]? = some (.cells (partW k x (j + 1)) 85 (0, 0))) := by
        show _ = _
        rw [Nat.add_comm 1 j]
        exact hset
      have HB := Lib.hid hb
      clear hg hb hu hold hset hcw hfw
      generalize (x[j].toNat : Int) = xv at *
      go_wp2_with fail
      go_roundw
      case rel => exact ⟨j + 1, by omega, by go_num, HST.out, HB.out.setCell (by rw [HG7.out]; exact Nat.le_refl _) _⟩
      case measure => simp [intOf]; omega
    · obtain rfl : j = 512 := by omega
      rw [partW_512 k x HXL.out] at hg
      have hd1 := HD.out.keep (Keeps.of_below (S := fun _ => False) hb) (fun _ _ => id)
      have c1w := hd1.c1
      rw [HHV.out] at c1w
      have hp1 := hd1.lt
      have HR1 := Lib.hid (World.rangeAt_of_block hg 0 513)
      have HXS : Hid ((Value.int .i64 (k : Int) :: u8s x).toArray.size = 513) := by show _ = _; rw [List.size_toArray, List.length_cons, u8s_length, HXL.out]
      have HR1' : Hid (wr.rangeAt g7 0 (.int .i64 (k : Int) :: u8s x)) := by
        show wr.rangeAt g7 0 _
        intro i v hv
        rw [cell_of_row wr g7 (0 + i) _ _ _ hg, Nat.zero_add]
        simpa using hv
      have HSW : Hid ((Try.prog.info? 85).map (·.size) = some (Value.int .i64 (k : Int) :: u8s x).length) := by show _ = _; rw [List.length_cons, u8s_length, HXL.out]; exact sizeW
      have HD1 := Lib.hid hd1
      have HB := Lib.hid hb
      have HONE : Hid (∀ u ∈ (Value.int .i64 (k : Int) :: u8s x), u.oneCell' = true) := fun u hu => by
        rcases List.mem_cons.1 hu with rfl | h
        · rfl
        · exact u8s_one x u h
      have HGP : Hid (g7 ≠ p) := by show g7 ≠ p; have := HD.out.lt; rw [HG7.out]; omega
      clear hg hd1 hb c1 c3 HR1
      go_wp2_with fail
      refine wp_region_noPanic ?_
      refine wp_region_ordL 10 [] [0, 1, 2, 3, 4, 5, 6, 7, 8, 9, 10] (fun W => W.cell? ⟨p, 1, none⟩ = some (.slice ah bl ch) ∧ W.rangeAt g7 0 (.int .i64 (k : Int) :: u8s x)) (by kernel_rfl) (by kernel_rfl) rfl (by kernel_rfl) (fun _ _ _ _ _ h => h) ⟨c1w, HR1'.out⟩ ?_
      repeat (apply heldL_run rfl (by rfl) (by rfl); (intro w hSw; go_simp; with_reducible rfl); (try simp only [Act.put, List.setIfInBounds_toArray, List.set_cons_zero, List.set_cons_succ]))
      refine heldL_take rfl (by rfl) (yieldsIf_load_mid (by rfl) 85 (.tmp 7) rfl g7 0 rfl (Value.int .i64 (k : Int) :: u8s x) _ (fun w hS => hS.2) Try.underlying85 rfl HSW.out) ?_
      (try simp only [Act.put, List.setIfInBounds_toArray, List.set_cons_zero, List.set_cons_succ])
      refine heldL_step rfl (by rfl) (by rfl) (fun K hK => ?_)
      refine op_build_one 81 85 (.tmp 51) rfl (Value.int .i64 (k : Int) :: u8s x).toArray rfl (.agg (zW 0)) 513 Try.underlying81 infoWz HXS.out.symm (by decide) (by decide) ?_
      have hnew := heap_alloc_new wr.drew (.cells (Value.int .i64 (k : Int) :: u8s x).toArray 85)
      have hb2 : Below wr.heap.size wr (wr.drew.alloc (.cells (Value.int .i64 (k : Int) :: u8s x).toArray 85)) := (Below.refl _ wr).drew.alloc (Nat.le_refl _) _
      generalize hW2 : wr.drew.alloc (.cells (Value.int .i64 (k : Int) :: u8s x).toArray 85) = W2 at *
      have hd2 := HD1.out.keep (Keeps.of_below (S := fun _ => False) hb2) (fun _ _ => id)
      have c2w := hd2.c1
      rw [HHV.out] at c2w
      have hr2 : W2.rangeAt g7 0 (Value.int .i64 (k : Int) :: u8s x) := fun i v hv => by
        have := HR1'.out i v hv
        exact (hb2.cell (p := ⟨g7, 0 + i, none⟩) (World.block_lt_of_cell? _ _ this)).trans this
      have hrow2 := hd2.held
      rw [HBL.out] at hrow2
      have HNEW : Hid (W2.heap[wr.heap.size]? = some (.cells (Value.int .i64 (k : Int) :: u8s x).toArray 85 (0, 0))) := hnew
      have HB2 : Hid (Below w.heap.size w W2) := HB.out.trans (hb2.mono HB.out.size)
      have HD2 := Lib.hid hd2
      have HROW2 := Lib.hid hrow2
      clear hW2 hnew hb2 hd2 hrow2
      refine hK.out _ _ (.inr ⟨c2w, hr2⟩) ?_
      clear hK K
      (try simp only [Act.put, List.setIfInBounds_toArray, List.set_cons_zero, List.set_cons_succ])
      refine heldL_step rfl (by rfl) (by rfl) (fun K hK => ?_)
      refine op_append (.tmp 50) (.tmp 52) 81 rfl 0 85 i1 (.agg (zW 0)) 513 520 Try.underlying81 HJ.out.1 HJ.out.2.1 HJ.out.2.2.1 HJ.out.2.2.2 (zW_size 0) (by decide) (.slice ah bl ch) bl _ rfl (HHV.out ▸ HROW2.out) ⟨wr.heap.size, 0, none⟩ 1 1 (Value.int .i64 (k : Int) :: u8s x) rfl (by have := HXS.out; rw [List.size_toArray] at this; omega) (fun j u hj => by
        rw [addr_add, cell_of_row W2 wr.heap.size _ _ _ _ HNEW.out, Nat.zero_add]
        simpa using hj) HONE.out C1.out C2.out (Nat.zero_le _) ?_
      intro v2 w3 hown3 hgr3 hob
      obtain ⟨a3, cap3, hv2⟩ := row_len hown3
      subst hv2
      have hcp : w3.heap[p]? = W2.heap[p]? := hgr3.block p HD2.out.lt (fun e => HD2.out.bp (by rw [HHV.out]; exact e.symm))
      have s3 : w3.cell? ⟨p, 1, none⟩ = some (.slice ah bl ch) := (World.cell?_of_block (w := W2) hcp).trans c2w
      have f3 : w3.frozen? ⟨p, 1, none⟩ = false := (World.frozen?_of_block (w := W2) hcp).trans (HD2.out.fr 1)
      have hg73 : (Value.slice ah bl ch).ownBlock ≠ some g7 := fun e => by
        have h1 := (row_block HD.out.held (by rw [HHV.out]; exact e)).1
        rw [HG7.out] at h1
        omega
      have hr3 : w3.rangeAt g7 0 (Value.int .i64 (k : Int) :: u8s x) := fun i v hv => by
        have := hr2 i v hv
        exact (World.cell?_of_block (w := W2) (hgr3.block g7 (World.block_lt_of_cell? _ _ this) (fun e => hg73 e.symm))).trans this
      have HOWN3 := Lib.hid hown3
      have HGR3 := Lib.hid hgr3
      have HOB := Lib.hid hob
      have HCP := Lib.hid hcp
      clear hown3 hgr3 hob hcp hg73 hr2 c2w
      refine hK.out _ _ (.inr ⟨s3, hr3⟩) ?_
      clear hK K
      (try simp only [Act.put, List.setIfInBounds_toArray, List.set_cons_zero, List.set_cons_succ])
      repeat (apply heldL_run rfl (by rfl) (by rfl); (intro w hSw; go_simp; with_reducible rfl); (try simp only [Act.put, List.setIfInBounds_toArray, List.set_cons_zero, List.set_cons_succ]))
      refine heldL_step rfl (by rfl) (by rfl) (fun K hK => ?_)
      go_simp
      refine hK.out _ _ (.inl rfl) ?_
      clear hK K
      (try simp only [Act.put, List.setIfInBounds_toArray, List.set_cons_zero, List.set_cons_succ])
      refine heldL_nil (NoPanic.normal ?_)
      have hk24 : Keeps (fun b => b = p ∨ hv.ownBlock = some b) W2 (w3.setCell ⟨p, 1, none⟩ (.slice a3 (bl + 1) cap3)) := by
        refine Keeps.setCell ?_ _ _ (.inl (.inl rfl))
        exact Keeps.of_grown HGR3.out (fun j e => .inr (by rw [HHV.out]; exact e))
      have hcell4 := heap_setCell_same w3 p 1 _ 83 (.slice a3 (bl + 1) cap3) (HCP.out.trans HD2.out.cell)
      have hbp3 : (Value.slice a3 (bl + 1) cap3).ownBlock ≠ some p := fun e => by
        obtain ⟨_, cs, h1⟩ := row_block HOWN3.out e
        rw [HCP.out, HD2.out.cell] at h1
        simp at h1
      have hrow4 : (w3.setCell ⟨p, 1, none⟩ (.slice a3 (bl + 1) cap3)).ownsRow 0 85 513 (.slice a3 (bl + 1) cap3) (bl + 1) (heldR d.back ++ (.int .i64 (k : Int) :: u8s x)) := owns_kept HOWN3.out (fun j e hj => Below.heap_setCell _ _ _ _ (fun e' => hbp3 (by rw [e, e'])))
      have hin4 : InB (.slice a3 (bl + 1) cap3) (fun j => O j ∨ NewIn W2 (w3.setCell ⟨p, 1, none⟩ (.slice a3 (bl + 1) cap3)) j) := fun j e => by
        rcases HOB.out with h | h
        · exact .inl (HD2.out.ownB j (by rw [HHV.out, ← h]; exact e))
        · right
          have h2 := (row_block HOWN3.out e).1
          rw [h] at e
          cases e
          exact ⟨Nat.le_refl _, by simpa using h2⟩
      generalize (w3.setCell ⟨p, 1, none⟩ (.slice a3 (bl + 1) cap3)) = w4 at *
      have hd4 := HD2.out.more hk24 k x HKN.out HXL.out (by rw [HBL.out]; exact HN.out) (.slice a3 (bl + 1) cap3) hcell4 (by rw [HBL.out]; exact hrow4) hin4
      have HST := Lib.hid (rstep_any hd4 HI.out.1 HI.out.2)
      have HK4 : Hid (Keeps O w w4) := (Keeps.of_below HB2.out).trans' (hk24.mono (fun b _ e => e.elim (fun e => by rw [e]; exact HD.out.ownP) (fun e => HD.out.ownB b e)))
      have HZ2 : Hid (w.heap.size ≤ W2.heap.size) := HB2.out.size
      clear hk24 hcell4 hbp3 hrow4 hin4 hd4
      go_wp2_with fail
      refine (HST.out).mono ?_
      rintro e w5 ⟨⟨v, rfl⟩, hd5, hk5⟩
      have HD5 := Lib.hid hd5
      have HK5 := Lib.hid hk5
      clear hd5 hk5 HST
      go_wp2_with fail
      go_ret
      refine ⟨rfl, _, ⟨_, _, HD5.out⟩, fun j hj => hj.imp id (fun e => ⟨Nat.le_trans HZ2.out e.1, Nat.lt_of_lt_of_le e.2 HK5.out.size⟩), HK4.out.trans' (HK5.out.mono (fun b _ e => by rw [e]; exact HD.out.ownP))⟩
end Go.Proofs.Ythdefaodioapbaa
