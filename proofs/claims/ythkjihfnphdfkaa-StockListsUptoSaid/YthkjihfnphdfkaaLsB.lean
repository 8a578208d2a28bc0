/- Lent, of a list: the walk. -/
import Derived.Test.YthkjihfnphdfkaaLsA
namespace Go.Proofs.Ythkjihfnphdfkaa
open Go.RowKit

/-- What Lent hands out. -/
def LentL (w : World) (B g cap : Nat) (bss : List Bs) : Prop :=
  bss.length + 1 ≤ cap ∧ B ≤ g ∧ (∀ j (h : j < bss.length), ∃ e c, w.cell? ⟨g, j, none⟩ = some (.slice (some ⟨e, 0, none⟩) bss[j].length c) ∧ LentAt w (.slice (some ⟨e, 0, none⟩) bss[j].length c) bss[j] e c ∧ B ≤ e) ∧
  ∃ s, w.cell? ⟨g, bss.length, none⟩ = some (.slice (some ⟨s, 0, none⟩) 1 1) ∧ w.cell? ⟨s, 0, none⟩ = some (.int .u8 113) ∧ B ≤ s
theorem LentL.below {w w' : World} {B g cap : Nat} {bss : List Bs} (h : LentL w B g cap bss) (hb : Below w.heap.size w w') : LentL w' B g cap bss := by
  obtain ⟨h1, h2, h3, s, h4, h5, h6⟩ := h
  have key : ∀ (a : Addr) u, w.cell? a = some u → w'.cell? a = some u := fun a u hc => (World.cell?_of_block (w := w) (hb.block a.block (World.block_lt_of_cell? _ _ hc))).trans hc
  refine ⟨h1, h2, fun j hj => ?_, s, key _ _ h4, key _ _ h5, h6⟩
  obtain ⟨e, c, h7, h8, h9⟩ := h3 j hj
  exact ⟨e, c, key _ _ h7, h8.kept (hb.block e h8.lt), h9⟩

/-- The list that comes in. -/
theorem RowsW.at_ {w : World} {v : Value} {bss : List Bs} (h : RowsW w v bss) (j : Nat) (hj : j < bss.length) : ∃ b off cap, v = .slice (some ⟨b, off, none⟩) bss.length cap ∧ bss.length ≤ cap ∧ ∃ u, w.cell? ⟨b, off + j, none⟩ = some u ∧ BytesW w u bss[j] ∧ bss[j].length ≤ 140737488351232 := by
  rcases h with ⟨rfl, rfl⟩ | ⟨b, off, cap, rfl, h1, _, h3⟩
  · simp at hj
  · exact ⟨b, off, cap, rfl, h1, h3 j hj⟩

theorem lent_end {w wr w2 : World} {bss : List Bs} {oa : Option Addr} {oc g cp : Nat} {vals : List Value} (hb : Below w.heap.size w wr) (hown : wr.ownsRow w.heap.size 28 1 (.slice oa bss.length oc) bss.length vals)
    (hat : ∀ j (h : j < bss.length), ∃ e c, vals[j]? = some (.slice (some ⟨e, 0, none⟩) bss[j].length c) ∧ LentAt wr (.slice (some ⟨e, 0, none⟩) bss[j].length c) bss[j] e c ∧ w.heap.size ≤ e ∧ (Value.slice oa bss.length oc).ownBlock ≠ some e)
    (hown2 : w2.ownsRow w.heap.size 28 1 (.slice (some ⟨g, 0, none⟩) (bss.length + 1) cp) (bss.length + 1) (vals ++ [.slice (some ⟨wr.heap.size, 0, none⟩) 1 1]))
    (hgr : ((wr.alloc (.cells #[.int .u8 113] 5 (0, 0))).alloc (.cells #[.slice (some ⟨wr.heap.size, 0, none⟩) 1 1] 28 (0, 0))).grownBy w2 (Value.slice oa bss.length oc).ownBlock) (hle : bss.length + 1 ≤ cp) :
    ∃ g' cap', Ending.returned (.slice (some ⟨g, 0, none⟩) bss.length cp) = .returned (.slice (some ⟨g', 0, none⟩) bss.length cap') ∧ LentL w2 w.heap.size g' cap' bss ∧ Below w.heap.size w w2 := by
  have hvl : vals.length = bss.length := by have := hown.1; omega
  have hvb : ∀ k, (Value.slice oa bss.length oc).ownBlock = some k → w.heap.size ≤ k ∧ k < wr.heap.size := fun k hk => hown.lt k hk
  have hsz := hb.size
  have hb2 : Below w.heap.size w w2 := ((hb.alloc hsz (.cells #[.int .u8 113] 5 (0, 0))).alloc (by simp; omega) (.cells #[.slice (some ⟨wr.heap.size, 0, none⟩) 1 1] 28 (0, 0))).grown hgr (by simp; omega) (fun k hk => (hvb k hk).1)
  have hblk : ∀ k, k < wr.heap.size → (Value.slice oa bss.length oc).ownBlock ≠ some k → w2.heap[k]? = wr.heap[k]? := fun k hk hne => by
    rw [hgr.block k (by simp; omega) (fun e => hne e.symm), Below.heap_alloc _ _ k (by simp; omega)]
    exact Below.heap_alloc wr _ k hk
  have hcell : ∀ i u, (vals ++ [Value.slice (some ⟨wr.heap.size, 0, none⟩) 1 1])[i]? = some u → w2.cell? ⟨g, i, none⟩ = some u := fun i u hi => by
    rcases RowAt.of_owns hown2 with ⟨h, _⟩ | ⟨g', off', cap', h, hc, hcell⟩
    · cases h
    · simp only [Value.slice.injEq, Option.some.injEq, Addr.mk.injEq] at h
      obtain ⟨⟨rfl, rfl, _⟩, hl, rfl⟩ := h
      simpa using hcell i u hi
  have hg : w.heap.size ≤ g := (hown2.lt g rfl).1
  refine ⟨g, cp, rfl, ⟨hle, hg, fun j hj => ?_, wr.heap.size, ?_, ?_, hsz⟩, hb2⟩
  · obtain ⟨e, c, h1, h2, h3, h4⟩ := hat j hj
    exact ⟨e, c, hcell j _ (by rw [List.getElem?_append_left (by omega)]; exact h1), h2.kept (hblk e h2.lt h4), h3⟩
  · exact hcell _ _ (by rw [List.getElem?_append_right (by omega)]; simp [hvl])
  · have hne : (Value.slice oa bss.length oc).ownBlock ≠ some wr.heap.size := fun h => by have := (hvb _ h).2; omega
    have h5 : w2.heap[wr.heap.size]? = (wr.alloc (.cells #[.int .u8 113] 5 (0, 0))).heap[wr.heap.size]? := by
      rw [hgr.block _ (by simp; omega) (fun e => hne e.symm)]
      exact Below.heap_alloc _ _ _ (by simp)
    rw [cell_of_row _ _ _ _ _ _ (h5.trans (heap_alloc_new wr (.cells #[.int .u8 113] 5 (0, 0))))]
    rfl

set_option maxHeartbeats 1000000 in
theorem lent_lists (l : Value) (bss : List Bs) (w : World) (hl : RowsW w l bss) (hn : bss.length ≤ 90000) (hm : ∀ j (h : j < bss.length), bss[j].length ≤ 90000) :
    Calls Try.prog 22 #[l] w fun e w' => ∃ g cap, e = .returned (.slice (some ⟨g, 0, none⟩) bss.length cap) ∧ LentL w' w.heap.size g cap bss ∧ Below w.heap.size w w' := by
  obtain ⟨i5, hi5, hy0, hy1, hy2⟩ := info_parts info5
  obtain ⟨i0, hi, hz0, hz1, hz2⟩ := info_parts info28
  have HI5 : Hid (Try.prog.info? 5 = some i5 ∧ i5.zero = some (.int .u8 0) ∧ i5.size = 1 ∧ i5.bytes = 1) := ⟨hi5, hy0, hy1, hy2⟩
  have HI := Lib.hid (And.intro hi (And.intro hz0 (And.intro hz1 hz2)))
  clear hi5 hy0 hy1 hy2 hi hz0 hz1 hz2
  have HL := Lib.hid hl
  have HN := Lib.hid hn
  have HM := Lib.hid hm
  obtain ⟨la, lc, hls⟩ : ∃ a c, l = .slice a bss.length c := by
    rcases hl with ⟨rfl, rfl⟩ | ⟨b, off, cap, rfl, _⟩
    · exact ⟨none, 0, rfl⟩
    · exact ⟨_, cap, rfl⟩
  subst hls
  clear hl hm
  go_enter Try.func22, Try.ntmps22
  go_wp2_with fail
  go_loopw [3, 4] (fun v i wr => ∃ k : Nat, k ≤ bss.length ∧ i = .int .i64 k ∧ OutL wr w.heap.size v (bss.take k) ∧ Below w.heap.size w wr) (fun _ i _ => bss.length - (intOf i).toNat)
  case atStart => exact ⟨0, by omega, rfl, OutL.nil _ _, Below.refl _ _⟩
  case round =>
    obtain ⟨k, hk, rfl, ho, hb⟩ := hrel
    have k0 : (0 : Int) ≤ (k : Int) := by omega
    have HO := Lib.hid ho
    have HB := Lib.hid hb
    have hlen : (bss.take k).length = k := by rw [List.length_take]; omega
    obtain ⟨oa, oc, hos⟩ := ho.shape
    rw [hlen] at hos
    subst hos
    have HLEN := Lib.hid hlen
    clear ho hb hlen
    by_cases hlt : k < bss.length
    · have k1 : (k : Int) < (bss.length : Int) := by omega
      obtain ⟨b, off, cap, hv, hc, u, hu, hbw, _⟩ := HL.out.at_ k hlt
      simp only [Value.slice.injEq, true_and] at hv
      obtain ⟨rfl, rfl⟩ := hv
      have hml := HM.out k hlt
      obtain ⟨ua, uc, hus, _⟩ := hbw.shape
      subst hus
      have HTK : Hid (bss.take (k + 1) = bss.take k ++ [bss[k]]) := by show _ = _; rw [List.take_add_one, List.getElem?_eq_getElem hlt]; rfl
      generalize bss[k] = x at *
      have HU : ∀ W, Below w.heap.size w W → W.cell? ⟨b, off + k, none⟩ = some (.slice ua x.length uc) := fun W hW => (World.cell?_of_block (w := w) (hW.block b (World.block_lt_of_cell? _ _ hu))).trans hu
      have HBW := Lib.hid hbw
      have HUH := Lib.hid HU
      have HC := Lib.hid hc
      have HML := Lib.hid hml
      have HS0 : Hid (wr.drew.cell? ⟨b, off + k, none⟩ = some (.slice ua x.length uc)) := HU _ HB.out.drew
      have c1 : (0 : Int) ≤ (x.length : Int) := by omega
      clear hbw hc HU hml hu
      have b1 : 0 + (u8s x).length ≤ maxLen := by have := HML.out; simp only [u8s_length]; unfold maxLen; omega
      have b2 : (0 + (u8s x).length) * 1 ≤ 140737488355328 := by have := HML.out; simp only [u8s_length]; omega
      have b3 : x.length + [Value.int .u8 167].length ≤ maxLen := by have := HML.out; simp only [List.length_singleton]; unfold maxLen; omega
      have b4 : (x.length + [Value.int .u8 167].length) * 1 ≤ 140737488355328 := by have := HML.out; simp only [List.length_singleton]; omega
      have B1 := Lib.hid b1
      have B2 := Lib.hid b2
      have B3 := Lib.hid b3
      have B4 := Lib.hid b4
      have hrb : ∀ W, Below wr.heap.size wr W → RowAt W (.slice ua x.length uc) (u8s x) ∨ (u8s x = [] ∧ ∃ ad, (Value.slice ua x.length uc) = .slice (some ad) 0 0) := fun W hW => (HBW.out.below (HB.out.trans (hW.mono HB.out.size)) (Nat.le_refl _)).rowAt
      have HRB := Lib.hid hrb
      have HROW := Lib.hid (hrb wr.drew (Below.refl _ _).drew)
      clear b1 b2 b3 b4 hrb
      go_wp2_with fail
      refine wp_region_noPanic ?_
      refine wp_region_fork 16 [13, 16] [0, 1, 2, 3, 4, 8, 9, 10, 11, 12] 5 [6, 7, 13, 14, 15, 16] 6 [5, 7, 13, 14, 15, 16] (fun W => W.cell? ⟨b, off + k, none⟩ = some (.slice ua x.length uc)) (by kernel_rfl) (by kernel_rfl) rfl (by kernel_rfl) (fun _ _ _ _ _ h => h) HS0.out ?_
      repeat (apply heldP_run rfl (by rfl); (intro w hSw; go_simp; with_reducible rfl); (try simp only [Act.put, List.setIfInBounds_toArray, List.set_cons_zero, List.set_cons_succ]))
      refine heldP_nil ⟨?_, ?_⟩
      · -- the copy first
        refine heldL_step rfl (by rfl) (by rfl) (fun K hK => ?_)
        refine op_append_rowAt (.const (.slice none 0 0)) (.tmp 15) 28 rfl wr.heap.size 5 i5 (.int .u8 0) 1 Try.underlying28 HI5.out.1 HI5.out.2.1 HI5.out.2.2.1 HI5.out.2.2.2 rfl (.slice none 0 0) 0 [] rfl (World.ownsRow_nil _ _ _ _) _ (u8s x) rfl HROW.out (u8s_one x) B1.out B2.out (Nat.le_refl _) ?_
        intro v1 w1 hown1 hgr1 _
        replace hown1 : w1.ownsRow wr.heap.size 5 1 v1 x.length (u8s x) := by simpa using hown1
        have HB1 : Hid (Below wr.heap.size wr w1) := (Below.refl _ wr).drew.grown hgr1 (Nat.le_refl _) (fun i e => by cases e)
        have HO1 := Lib.hid hown1
        have HS1 : Hid (w1.cell? ⟨b, off + k, none⟩ = some (.slice ua x.length uc)) := HUH.out _ (HB.out.trans (HB1.out.mono HB.out.size))
        clear hown1 hgr1
        refine hK.out _ _ (.inr HS1.out) ?_
        clear hK K
        (try simp only [Act.put, List.setIfInBounds_toArray, List.set_cons_zero, List.set_cons_succ])
        have HS1' : Hid ((w1.alloc (.cells #[.int .u8 167] 5 (0, 0))).cell? ⟨b, off + k, none⟩ = some (.slice ua x.length uc)) := HUH.out _ ((HB.out.trans (HB1.out.mono HB.out.size)).alloc (Nat.le_trans HB.out.size HB1.out.size) _)
        refine heldL_step rfl (by rfl) (by rfl) (fun K hK => ?_)
        go_simp
        refine hK.out _ _ (.inr HS1'.out) ?_
        clear hK K
        (try simp only [Act.put, List.setIfInBounds_toArray, List.set_cons_zero, List.set_cons_succ])
        refine heldL_step rfl (by rfl) (by rfl) (fun K hK => ?_)
        refine op_append_rowAt (.tmp 16) (.tmp 17) 28 rfl wr.heap.size 5 i5 (.int .u8 0) 1 Try.underlying28 HI5.out.1 HI5.out.2.1 HI5.out.2.2.1 HI5.out.2.2.2 rfl v1 x.length (u8s x) rfl (owns_below HO1.out ((Below.refl w1.heap.size w1).alloc (Nat.le_refl _) _)) _ [.int .u8 167] rfl (.inl (row_new w1 #[.int .u8 167] 5 (0, 0) 1 (Nat.le_refl _))) (by simp [Value.oneCell']) B3.out B4.out (by have := HB1.out.size; simp; omega) ?_
        intro v2 w2 hown2 hgr2 _
        replace hown2 : w2.ownsRow wr.heap.size 5 1 v2 (x.length + 1) (u8s x ++ [.int .u8 167]) := by simpa using hown2
        have HB2 : Hid (Below wr.heap.size wr w2) := (HB1.out.alloc HB1.out.size _).grown hgr2 (by have := HB1.out.size; simp; omega) (fun i e => (HO1.out.lt i e).1)
        clear HB1 HO1 HS1 HS1'
        have HG := Lib.hid hown2
        have HSH := owns_shape hown2
        rcases HSH with ⟨_, hz⟩ | ⟨g, cp, rfl, hle, hmx, hbg, hlg⟩
        · omega
        have HE : Hid (LentAt w2 (.slice (some ⟨g, 0, none⟩) x.length cp) x g cp) := LentAt.of_owns HG.out
        have HBG := Lib.hid hbg
        have hle' : x.length ≤ cp := by omega
        have HS2 : Hid (w2.cell? ⟨b, off + k, none⟩ = some (.slice ua x.length uc)) := HUH.out _ (HB.out.trans (HB2.out.mono HB.out.size))
        clear hown2 hgr2 hbg hlg hmx HG
        refine hK.out _ _ (.inr HS2.out) ?_
        clear hK K
        (try simp only [Act.put, List.setIfInBounds_toArray, List.set_cons_zero, List.set_cons_succ])
        refine heldL_step rfl (by rfl) (by rfl) (fun K hK => ?_)
        go_simp
        refine hK.out _ _ (.inr HS2.out) ?_
        clear hK K
        (try simp only [Act.put, List.setIfInBounds_toArray, List.set_cons_zero, List.set_cons_succ])
        have HS3 : Hid ((w2.alloc (.cells #[.slice (some ⟨g, 0, none⟩) x.length cp] 28 (0, 0))).cell? ⟨b, off + k, none⟩ = some (.slice ua x.length uc)) := HUH.out _ ((HB.out.trans (HB2.out.mono HB.out.size)).alloc (Nat.le_trans HB.out.size HB2.out.size) _)
        refine heldL_step rfl (by rfl) (by rfl) (fun K hK => ?_)
        go_simp
        refine hK.out _ _ (.inr HS3.out) ?_
        clear hK K
        (try simp only [Act.put, List.setIfInBounds_toArray, List.set_cons_zero, List.set_cons_succ])
        refine heldL_step rfl (by rfl) (by rfl) (fun K hK => ?_)
        refine op_append_out (.tmp 11) (.tmp 25) rfl HO.out HB2.out HE.out HBG.out HB.out.size (by rw [HLEN.out]; omega) rfl rfl ?_
        intro v4 w4 ho4 hb4
        have HO4 := Lib.hid ho4
        have HB4 : Hid (Below w.heap.size w w4) := HB.out.trans hb4
        have HS4 : Hid (w4.cell? ⟨b, off + k, none⟩ = some (.slice ua x.length uc)) := HUH.out _ HB4.out
        clear ho4 hb4
        refine hK.out _ _ (.inr HS4.out) ?_
        clear hK K
        (try simp only [Act.put, List.setIfInBounds_toArray, List.set_cons_zero, List.set_cons_succ])
        refine heldL_step rfl (by rfl) (by rfl) (fun K hK => ?_)
        go_simp
        refine hK.out _ _ (.inl rfl) ?_
        clear hK K
        (try simp only [Act.put, List.setIfInBounds_toArray, List.set_cons_zero, List.set_cons_succ])
        refine heldL_nil (NoPanic.normal ?_)
        go_wp2_with fail
        go_roundw
        case rel => exact ⟨k + 1, by omega, by go_num, by rw [HTK.out]; exact HO4.out, HB4.out⟩
        case measure => simp [intOf]; omega
      · -- the 0xA7 first
        have HS1 : Hid ((wr.drew.alloc (.cells #[.int .u8 167] 5 (0, 0))).cell? ⟨b, off + k, none⟩ = some (.slice ua x.length uc)) := HUH.out _ (HB.out.drew.alloc HB.out.size _)
        have HBA : Hid (Below wr.heap.size wr (wr.drew.alloc (.cells #[.int .u8 167] 5 (0, 0)))) := (Below.refl _ wr).drew.alloc (Nat.le_refl _) _
        have HRN : Hid (RowAt (wr.drew.alloc (.cells #[.int .u8 167] 5 (0, 0))) (.slice (some ⟨wr.drew.heap.size, 0, none⟩) 1 1) [.int .u8 167]) := row_new wr.drew #[.int .u8 167] 5 (0, 0) 1 (Nat.le_refl _)
        refine heldL_step rfl (by rfl) (by rfl) (fun K hK => ?_)
        go_simp
        refine hK.out _ _ (.inr HS1.out) ?_
        clear hK K
        (try simp only [Act.put, List.setIfInBounds_toArray, List.set_cons_zero, List.set_cons_succ])
        refine heldL_step rfl (by rfl) (by rfl) (fun K hK => ?_)
        refine op_append_rowAt (.const (.slice none 0 0)) (.tmp 15) 28 rfl wr.heap.size 5 i5 (.int .u8 0) 1 Try.underlying28 HI5.out.1 HI5.out.2.1 HI5.out.2.2.1 HI5.out.2.2.2 rfl (.slice none 0 0) 0 [] rfl (World.ownsRow_nil _ _ _ _) _ (u8s x) rfl (HRB.out _ HBA.out) (u8s_one x) B1.out B2.out (by simp) ?_
        intro v1 w1 hown1 hgr1 _
        replace hown1 : w1.ownsRow wr.heap.size 5 1 v1 x.length (u8s x) := by simpa using hown1
        have HR1 : Hid (RowAt w1 (.slice (some ⟨wr.drew.heap.size, 0, none⟩) 1 1) [.int .u8 167]) := RowAt.kept HRN.out (fun i _ hi => hgr1.block i hi (fun e => by cases e))
        have HB1 : Hid (Below wr.heap.size wr w1) := HBA.out.grown hgr1 (by simp) (fun i e => by cases e)
        have HO1 := Lib.hid hown1
        have HS1' : Hid (w1.cell? ⟨b, off + k, none⟩ = some (.slice ua x.length uc)) := HUH.out _ (HB.out.trans (HB1.out.mono HB.out.size))
        clear hown1 hgr1
        refine hK.out _ _ (.inr HS1'.out) ?_
        clear hK K
        (try simp only [Act.put, List.setIfInBounds_toArray, List.set_cons_zero, List.set_cons_succ])
        refine heldL_step rfl (by rfl) (by rfl) (fun K hK => ?_)
        refine op_append_rowAt (.tmp 16) (.tmp 17) 28 rfl wr.heap.size 5 i5 (.int .u8 0) 1 Try.underlying28 HI5.out.1 HI5.out.2.1 HI5.out.2.2.1 HI5.out.2.2.2 rfl v1 x.length (u8s x) rfl HO1.out _ [.int .u8 167] rfl (.inl HR1.out) (by simp [Value.oneCell']) B3.out B4.out HB1.out.size ?_
        intro v2 w2 hown2 hgr2 _
        replace hown2 : w2.ownsRow wr.heap.size 5 1 v2 (x.length + 1) (u8s x ++ [.int .u8 167]) := by simpa using hown2
        have HB2 : Hid (Below wr.heap.size wr w2) := HB1.out.grown hgr2 HB1.out.size (fun i e => (HO1.out.lt i e).1)
        clear HB1 HO1 HS1 HS1' HBA HRN HR1
        have HG := Lib.hid hown2
        have HSH := owns_shape hown2
        rcases HSH with ⟨_, hz⟩ | ⟨g, cp, rfl, hle, hmx, hbg, hlg⟩
        · omega
        have HE : Hid (LentAt w2 (.slice (some ⟨g, 0, none⟩) x.length cp) x g cp) := LentAt.of_owns HG.out
        have HBG := Lib.hid hbg
        have hle' : x.length ≤ cp := by omega
        have HS2 : Hid (w2.cell? ⟨b, off + k, none⟩ = some (.slice ua x.length uc)) := HUH.out _ (HB.out.trans (HB2.out.mono HB.out.size))
        clear hown2 hgr2 hbg hlg hmx HG
        refine hK.out _ _ (.inr HS2.out) ?_
        clear hK K
        (try simp only [Act.put, List.setIfInBounds_toArray, List.set_cons_zero, List.set_cons_succ])
        refine heldL_step rfl (by rfl) (by rfl) (fun K hK => ?_)
        go_simp
        refine hK.out _ _ (.inr HS2.out) ?_
        clear hK K
        (try simp only [Act.put, List.setIfInBounds_toArray, List.set_cons_zero, List.set_cons_succ])
        have HS3 : Hid ((w2.alloc (.cells #[.slice (some ⟨g, 0, none⟩) x.length cp] 28 (0, 0))).cell? ⟨b, off + k, none⟩ = some (.slice ua x.length uc)) := HUH.out _ ((HB.out.trans (HB2.out.mono HB.out.size)).alloc (Nat.le_trans HB.out.size HB2.out.size) _)
        refine heldL_step rfl (by rfl) (by rfl) (fun K hK => ?_)
        go_simp
        refine hK.out _ _ (.inr HS3.out) ?_
        clear hK K
        (try simp only [Act.put, List.setIfInBounds_toArray, List.set_cons_zero, List.set_cons_succ])
        refine heldL_step rfl (by rfl) (by rfl) (fun K hK => ?_)
        refine op_append_out (.tmp 11) (.tmp 25) rfl HO.out HB2.out HE.out HBG.out HB.out.size (by rw [HLEN.out]; omega) rfl rfl ?_
        intro v4 w4 ho4 hb4
        have HO4 := Lib.hid ho4
        have HB4 : Hid (Below w.heap.size w w4) := HB.out.trans hb4
        have HS4 : Hid (w4.cell? ⟨b, off + k, none⟩ = some (.slice ua x.length uc)) := HUH.out _ HB4.out
        clear ho4 hb4
        refine hK.out _ _ (.inr HS4.out) ?_
        clear hK K
        (try simp only [Act.put, List.setIfInBounds_toArray, List.set_cons_zero, List.set_cons_succ])
        refine heldL_step rfl (by rfl) (by rfl) (fun K hK => ?_)
        go_simp
        refine hK.out _ _ (.inl rfl) ?_
        clear hK K
        (try simp only [Act.put, List.setIfInBounds_toArray, List.set_cons_zero, List.set_cons_succ])
        refine heldL_nil (NoPanic.normal ?_)
        go_wp2_with fail
        go_roundw
        case rel => exact ⟨k + 1, by omega, by go_num, by rw [HTK.out]; exact HO4.out, HB4.out⟩
        case measure => simp [intOf]; omega
    · have hke : k = bss.length := by omega
      subst hke
      have HTA : Hid (bss.take bss.length = bss) := List.take_length
      have hcap : ∀ c, bss.length + 1 ≤ c → bss.length ≤ c := fun c h => by omega
      obtain ⟨vals, hown, hat⟩ := HO.out
      rw [HTA.out] at hown hat
      have HW := Lib.hid hown
      have HAT := Lib.hid hat
      clear hown hat
      have hbs := HB.out.size
      have HRW : Hid (RowAt ((wr.alloc (.cells #[.int .u8 113] 5 (0, 0))).alloc (.cells #[.slice (some ⟨wr.heap.size, 0, none⟩) 1 1] 28 (0, 0))) (.slice (some ⟨wr.heap.size + 1, 0, none⟩) 1 1) [.slice (some ⟨wr.heap.size, 0, none⟩) 1 1]) := by
        have := row_new (wr.alloc (.cells #[.int .u8 113] 5 (0, 0))) #[.slice (some ⟨wr.heap.size, 0, none⟩) 1 1] 28 (0, 0) 1 (Nat.le_refl _)
        show RowAt _ _ _
        simpa using this
      go_wp2_with (at_builtin; go_loud (refine wpList_append_rowAt rfl (.tmp 27) (.tmp 29) 36 rfl w.heap.size 28 i0 (.slice none 0 0) 24 Try.underlying36 HI.out.1 HI.out.2.1 HI.out.2.2.1 HI.out.2.2.2 rfl (.slice oa bss.length oc) bss.length vals rfl (owns_below HW.out (((Below.refl wr.heap.size wr).alloc (Nat.le_refl _) (.cells #[.int .u8 113] 5 (0, 0))).alloc (by simp) _)) _ [.slice (some ⟨wr.heap.size, 0, none⟩) 1 1] rfl (.inl HRW.out) (by simp [Value.oneCell']) (by simp; unfold maxLen; omega) (by simp; omega) (by simp; omega) ?_))
      intro v2 w2 hown2 hgr2 hat2
      replace hown2 : w2.ownsRow w.heap.size 28 1 v2 (bss.length + 1) (vals ++ [.slice (some ⟨wr.heap.size, 0, none⟩) 1 1]) := by simpa using hown2
      have HW2 := Lib.hid hown2
      have HG2 := Lib.hid hgr2
      have HA2 := Lib.hid hat2
      rcases owns_shape hown2 with ⟨_, hz⟩ | ⟨g, cp, rfl, hle, hmx, hbg, hlg⟩
      · omega
      have hle' : bss.length ≤ cp := by omega
      have HBG := Lib.hid hbg
      clear hown2 hgr2 hat2 hbg hlg hmx
      go_wp2_with fail
      go_ret
      exact lent_end HB.out HW.out HAT.out HW2.out HG2.out hle
end Go.Proofs.Ythkjihfnphdfkaa
