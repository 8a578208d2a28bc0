/- The document's disk: Twin. -/
import Derived.Test.YthdefaodioapbaaPair
namespace Go.Proofs.Ythdefaodioapbaa
open Go.RowKit

variable {w w' : World} {B : Nat} {X : Nat → Prop} {O : Nat → Prop} {l : List (Bool × Nat × DS)} {p : Nat} {d : DS} {fv hv : Value}
attribute [local irreducible] zA zW

theorem heldR_src {g c n : Nat} {e : TypeId} {size : Nat} {xs : List Value} (h : w.ownsRow 0 e size (.slice (some ⟨g, 0, none⟩) n c) n xs) : ∀ j u, xs[j]? = some u → w.cell? ((⟨g, 0, none⟩ : Addr).add j) = some u := fun j u hj => by
  rcases h.2 with ⟨h1, _⟩ | ⟨g', cap', cur, h1, _, hg, hn, hm, hs, ht⟩
  · cases h1
  · cases h1
    rw [addr_add, Nat.zero_add, cell_of_row w g j _ _ _ hg]
    rw [← ht, List.getElem?_take] at hj
    split at hj
    · simpa using hj
    · cases hj

set_option maxHeartbeats 2000000 in
set_option maxRecDepth 100000 in
theorem rTwin_any (h : RefAt w O p d fv hv) : Calls Try.prog 29 #[.pointer (some ⟨p, 0, none⟩)] w fun e w' => ∃ q, e = .returned (.pointer (some ⟨q, 0, none⟩)) ∧ IsRef w' (NewIn w w') q d ∧ Below w.heap.size w w' := by
  have c2 := h.c2
  have c3 := h.c3
  have HD := Lib.hid h
  obtain ⟨i1, hj, hy0, hy1, hy2⟩ := info_parts infoW
  have HJ := Lib.hid (And.intro hj (And.intro hy0 (And.intro hy1 hy2)))
  obtain ⟨i2, hk, hx0, hx1, hx2⟩ := info_parts infoAz
  have HI := Lib.hid (And.intro hk (And.intro hx0 (And.intro hx1 hx2)))
  have hn2 := h.n2
  have hsm := h.small
  have C1 : Hid (0 + d.n ≤ maxLen) := by show _ ≤ _; unfold maxLen; omega
  have C2 : Hid ((0 + d.n) * 512 ≤ 140737488355328) := by show _ ≤ _; omega
  have C3 : Hid (0 + d.back.length ≤ maxLen) := by show _ ≤ _; unfold maxLen; omega
  have C4 : Hid ((0 + d.back.length) * 520 ≤ 140737488355328) := by show _ ≤ _; omega
  have HFL : Hid ((u8s d.fast).length = d.n * 512) := by show _ = _; rw [u8s_length, h.flen, Nat.mul_comm]
  have HHL : Hid ((heldR d.back).length = d.back.length * 513) := by show _ = _; rw [heldR_length _ (fun x hx => (h.each x hx).2), Nat.mul_comm]
  obtain ⟨gf, capf, curf, hfv, _, _, _, _⟩ := h.fastRow
  have HFV := Lib.hid hfv
  have hsh := owns_shape h.held
  clear h hj hy0 hy1 hy2 hk hx0 hx1 hx2 hn2 hsm hfv
  go_enter Try.func29, Try.ntmps29
  go_wp2_with fail
  refine wp_region_noPanic ?_
  refine wp_region_ordL 10 [10] [0, 1, 2, 3, 4, 5, 6, 7, 8, 9, 10] (fun W => W.cell? ⟨p, 2, none⟩ = some (.int .i64 d.left) ∧ W.cell? ⟨p, 3, none⟩ = some (.bool d.off)) (by kernel_rfl) (by kernel_rfl) rfl (by kernel_rfl) (fun _ _ _ _ _ h => h) ⟨c2, c3⟩ ?_
  repeat (apply heldL_run rfl (by rfl) (by rfl); (intro w hSw; go_simp; with_reducible rfl); (try simp only [Act.put, List.setIfInBounds_toArray, List.set_cons_zero, List.set_cons_succ]))
  refine heldL_step rfl (by rfl) (by rfl) (fun K hK => ?_)
  go_simp
  obtain ⟨W1, hW1⟩ : ∃ W1, W1 = (w.alloc (.cells #[.slice none 0 0, .slice none 0 0, .int .i64 d.left, .bool d.off] 83)).drew := ⟨_, rfl⟩
  have hq1 : W1.heap[w.heap.size]? = some (.cells #[.slice none 0 0, .slice none 0 0, .int .i64 d.left, .bool d.off] 83 (0, 0)) := by rw [hW1]; exact heap_alloc_new w _
  have hb1 : Below w.heap.size w W1 := by rw [hW1]; exact ((Below.refl _ _).alloc (Nat.le_refl _) _).drew
  have s2 : W1.cell? ⟨p, 2, none⟩ = some (.int .i64 d.left) := (hb1.cell (p := ⟨p, 2, none⟩) HD.out.lt).trans c2
  have s3 : W1.cell? ⟨p, 3, none⟩ = some (.bool d.off) := (hb1.cell (p := ⟨p, 3, none⟩) HD.out.lt).trans c3
  rw [← hW1]
  have HQ1 := Lib.hid hq1
  have HB1 := Lib.hid hb1
  clear hW1 hq1 hb1 c2 c3
  refine hK.out _ _ (.inr ⟨s2, s3⟩) ?_
  clear hK K
  (try simp only [Act.put, List.setIfInBounds_toArray, List.set_cons_zero, List.set_cons_succ])
  repeat (apply heldL_run rfl (by rfl) (by rfl); (intro w hSw; go_simp; with_reducible rfl); (try simp only [Act.put, List.setIfInBounds_toArray, List.set_cons_zero, List.set_cons_succ]))
  refine heldL_step rfl (by rfl) (by rfl) (fun K hK => ?_)
  go_simp
  refine hK.out _ _ (.inl rfl) ?_
  clear hK K
  (try simp only [Act.put, List.setIfInBounds_toArray, List.set_cons_zero, List.set_cons_succ])
  refine heldL_nil (NoPanic.normal ?_)
  clear s2 s3
  have h1 := HD.out.keep (Keeps.of_below (S := fun _ => False) HB1.out) (fun _ _ => id)
  have c0 := h1.c0
  rw [HFV.out] at c0
  have hf1 := h1.fast
  rw [HFV.out] at hf1
  have HSRC := Lib.hid (heldR_src hf1)
  have HQL : Hid (w.heap.size < W1.heap.size) := (Array.getElem?_eq_some_iff.1 HQ1.out).1
  clear h1 hf1
  obtain ⟨q, hq⟩ : ∃ q, q = w.heap.size := ⟨_, rfl⟩
  rw [← hq] at HQ1 HQL ⊢
  have HQE := Lib.hid hq
  clear hq
  go_wp2_with (at_builtin; refine wpList_append_own _ rfl (.const (.slice none 0 0)) (.tmp 18) 80 rfl W1.heap.size 75 i2 (.agg zA) 512 512 Try.underlying80 HI.out.1 HI.out.2.1 HI.out.2.2.1 HI.out.2.2.2 zA_size (by decide) (.slice none 0 0) 0 [] rfl (World.ownsRow_nil _ _ _ _) ⟨gf, 0, none⟩ d.n capf (u8s d.fast) rfl HFL.out HSRC.out (u8s_one _) C1.out C2.out (Nat.le_refl _) ?_)
  intro v2 W2 hown2 hgr2 _
  obtain ⟨a2, cap2, hv2⟩ := row_len hown2
  subst hv2
  have hb2 : Below W1.heap.size W1 W2 := (Below.refl _ _).grown hgr2 (Nat.le_refl _) (fun j e => by cases e)
  have hq2 := (hb2.block q HQL.out).trans HQ1.out
  have k2 : W2.cell? ⟨q, 0, none⟩ = some (.slice none 0 0) := by rw [cell_of_row W2 q 0 _ _ _ hq2]; rfl
  have f2 : W2.frozen? ⟨q, 0, none⟩ = false := frozen_of_row W2 q 0 _ _ hq2
  have hset := heap_setCell_same W2 q 0 _ 83 (.slice a2 d.n cap2) hq2
  have hb23 : Below w.heap.size w (W2.setCell ⟨q, 0, none⟩ (.slice a2 d.n cap2)) := (HB1.out.trans (hb2.mono HB1.out.size)).setCell (by rw [← HQE.out]; exact Nat.le_refl _) _
  have hne2 : (Value.slice a2 d.n cap2).ownBlock ≠ some q := fun e => by have := (hown2.lt q e).1; have := HQL.out; omega
  have hown3 := owns_kept hown2 (w' := W2.setCell ⟨q, 0, none⟩ (.slice a2 d.n cap2)) (fun j e _ => Below.heap_setCell _ _ _ _ (fun e' => hne2 (by rw [e, e'])))
  have HSET := Lib.hid hset
  have HB23 := Lib.hid hb23
  have HOWN3 := Lib.hid hown3
  have HNE2 := Lib.hid hne2
  have HZ2 : Hid (W1.heap.size ≤ W2.heap.size) := hb2.size
  clear hown2 hgr2 hb2 hq2 hset hb23 hne2 hown3 c0 HSRC
  go_upto_region 3 with (fail)
  generalize hW3 : W2.setCell ⟨q, 0, none⟩ (.slice a2 d.n cap2) = W3 at *
  have h3 := HD.out.keep (Keeps.of_below (S := fun _ => False) HB23.out) (fun _ _ => id)
  have c1 := h3.c1
  have hh3 := h3.held
  have HQ3 : Hid (W3.heap[q]? = some (.cells #[.slice a2 d.n cap2, .slice none 0 0, .int .i64 d.left, .bool d.off] 83 (0, 0))) := HSET.out
  have HZ3 : Hid (W2.heap.size ≤ W3.heap.size) := by show _ ≤ _; rw [← hW3]; simp
  have HH3 := Lib.hid hh3
  clear hW3 h3 hh3 HSET
  rcases hsh with ⟨hv0, h0⟩ | ⟨gh, ch, hv0, _, _, _, _⟩
  · have hbk : d.back = [] := List.eq_nil_of_length_eq_zero h0
    rw [hv0] at c1
    have q1 : W3.cell? ⟨q, 1, none⟩ = some (.slice none 0 0) := by rw [cell_of_row W3 q 1 _ _ _ HQ3.out]; rfl
    have fq1 : W3.frozen? ⟨q, 1, none⟩ = false := frozen_of_row W3 q 1 _ _ HQ3.out
    have HBK := Lib.hid hbk
    clear hv0 h0 hbk
    go_wp2_with (at_builtin; refine wpList_append_own_none rfl (.const (.slice none 0 0)) (.tmp 26) 81 rfl W3.heap.size 85 i1 513 Try.underlying81 HJ.out.1 (.slice none 0 0) 0 [] rfl (World.ownsRow_nil _ _ _ _) rfl ?_)
    go_ret
    have hset5 := heap_setCell_same W3 q 1 _ 83 (.slice none 0 0) HQ3.out
    have hk5 : Keeps (fun b => b = q) W3 (W3.setCell ⟨q, 1, none⟩ (.slice none 0 0)) := (Keeps.refl _ _).setCell _ _ (.inl rfl)
    have hb5 : Below w.heap.size w (W3.setCell ⟨q, 1, none⟩ (.slice none 0 0)) := HB23.out.setCell (by rw [← HQE.out]; exact Nat.le_refl _) _
    refine ⟨q, rfl, ⟨.slice a2 d.n cap2, .slice none 0 0, ?_⟩, hb5⟩
    exact { cell := hset5
            fast := by
              have := owns_kept HOWN3.out (w' := W3.setCell ⟨q, 1, none⟩ (.slice none 0 0)) (fun j e hl => hk5.block j hl (fun e' => HNE2.out (by rw [e, e'])))
              exact ⟨this.1, this.2.imp id fun ⟨g, cap, cur, h4, _, h5⟩ => ⟨g, cap, cur, h4, Nat.zero_le _, h5⟩⟩
            held := by rw [HBK.out]; exact World.ownsRow_nil _ _ _ _
            flen := HD.out.flen
            n1 := HD.out.n1
            n2 := HD.out.n2
            each := HD.out.each
            small := HD.out.small
            ownP := ⟨by rw [HQE.out]; exact Nat.le_refl _, Nat.lt_of_lt_of_le (Nat.lt_of_lt_of_le HQL.out (Nat.le_trans HZ2.out HZ3.out)) hk5.size⟩
            ownF := fun j e => ⟨Nat.le_trans (Nat.le_trans (by rw [HQE.out]; exact Nat.le_refl _) (Nat.le_of_lt HQL.out)) (HOWN3.out.lt j e).1, Nat.lt_of_lt_of_le (HOWN3.out.lt j e).2 hk5.size⟩
            ownB := InB.nil _ }
  · rw [hv0] at c1
    have hh := HH3.out
    rw [hv0] at hh
    have HSRC := Lib.hid (heldR_src hh)
    clear hh hv0
    go_wp2_with (at_builtin; refine wpList_append_own _ rfl (.const (.slice none 0 0)) (.tmp 26) 81 rfl W3.heap.size 85 i1 (.agg (zW 0)) 513 520 Try.underlying81 HJ.out.1 HJ.out.2.1 HJ.out.2.2.1 HJ.out.2.2.2 (zW_size 0) (by decide) (.slice none 0 0) 0 [] rfl (World.ownsRow_nil _ _ _ _) ⟨gh, 0, none⟩ d.back.length ch (heldR d.back) rfl HHL.out HSRC.out (heldR_one _) C3.out C4.out (Nat.le_refl _) ?_)
    intro v4 W4 hown4 hgr4 _
    obtain ⟨a4, cap4, hv4⟩ := row_len hown4
    subst hv4
    have hb4 : Below W3.heap.size W3 W4 := (Below.refl _ _).grown hgr4 (Nat.le_refl _) (fun j e => by cases e)
    have hq3 : q < W3.heap.size := (Array.getElem?_eq_some_iff.1 HQ3.out).1
    have hq4 := (hb4.block q hq3).trans HQ3.out
    have q1 : W4.cell? ⟨q, 1, none⟩ = some (.slice none 0 0) := by rw [cell_of_row W4 q 1 _ _ _ hq4]; rfl
    have fq1 : W4.frozen? ⟨q, 1, none⟩ = false := frozen_of_row W4 q 1 _ _ hq4
    have HOWN4 := Lib.hid hown4
    have HB4 := Lib.hid hb4
    have HQ4 := Lib.hid hq4
    have HQ3L := Lib.hid hq3
    clear hown4 hgr4 hb4 hq3 hq4 c1
    go_wp2_with fail
    go_ret
    have hset5 := heap_setCell_same W4 q 1 _ 83 (.slice a4 d.back.length cap4) HQ4.out
    have hk5 : Keeps (fun b => b = q) W4 (W4.setCell ⟨q, 1, none⟩ (.slice a4 d.back.length cap4)) := (Keeps.refl _ _).setCell _ _ (.inl rfl)
    have hb5 : Below w.heap.size w (W4.setCell ⟨q, 1, none⟩ (.slice a4 d.back.length cap4)) := (HB23.out.trans (HB4.out.mono HB23.out.size)).setCell (by rw [← HQE.out]; exact Nat.le_refl _) _
    have hne4 : (Value.slice a4 d.back.length cap4).ownBlock ≠ some q := fun e => by have := (HOWN4.out.lt q e).1; have := HQ3L.out; omega
    refine ⟨q, rfl, ⟨.slice a2 d.n cap2, .slice a4 d.back.length cap4, ?_⟩, hb5⟩
    exact { cell := hset5
            fast := by
              have := owns_kept (owns_below HOWN3.out HB4.out) (w' := W4.setCell ⟨q, 1, none⟩ (.slice a4 d.back.length cap4)) (fun j e hl => hk5.block j hl (fun e' => HNE2.out (by rw [e, e'])))
              exact ⟨this.1, this.2.imp id fun ⟨g, cap, cur, h4, _, h5⟩ => ⟨g, cap, cur, h4, Nat.zero_le _, h5⟩⟩
            held := by
              have := owns_kept HOWN4.out (w' := W4.setCell ⟨q, 1, none⟩ (.slice a4 d.back.length cap4)) (fun j e hl => hk5.block j hl (fun e' => hne4 (by rw [e, e'])))
              exact ⟨this.1, this.2.imp id fun ⟨g, cap, cur, h4, _, h5⟩ => ⟨g, cap, cur, h4, Nat.zero_le _, h5⟩⟩
            flen := HD.out.flen
            n1 := HD.out.n1
            n2 := HD.out.n2
            each := HD.out.each
            small := HD.out.small
            ownP := ⟨by rw [HQE.out]; exact Nat.le_refl _, Nat.lt_of_lt_of_le (Nat.lt_of_lt_of_le HQ3L.out HB4.out.size) hk5.size⟩
            ownF := fun j e => ⟨Nat.le_trans (Nat.le_trans (by rw [HQE.out]; exact Nat.le_refl _) (Nat.le_of_lt HQL.out)) (HOWN3.out.lt j e).1, Nat.lt_of_lt_of_le (Nat.lt_of_lt_of_le (HOWN3.out.lt j e).2 HB4.out.size) hk5.size⟩
            ownB := fun j e => ⟨Nat.le_trans HB23.out.size (HOWN4.out.lt j e).1, Nat.lt_of_lt_of_le (HOWN4.out.lt j e).2 hk5.size⟩ }
end Go.Proofs.Ythdefaodioapbaa
