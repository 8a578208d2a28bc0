/- The document's disk: Read. -/
import Derived.Test.YthdefaodioapbaaRef1
import Derived.Test.YthdefaodioapbaaCells
import Derived.Deep.DeepMust
namespace Go.Proofs.Ythdefaodioapbaa
open Go.RowKit

variable {w w' : World} {O : Nat → Prop} {p : Nat} {d : DS} {fv hv : Value}
attribute [local irreducible] zA

/-- Where the rows lie. -/
theorem RefAt.fastRow (h : RefAt w O p d fv hv) : ∃ g cap cur, fv = .slice (some ⟨g, 0, none⟩) d.n cap ∧ w.heap[g]? = some (.cells cur 75 (0, 0)) ∧ cur.toList.take (512 * d.n) = u8s d.fast ∧ 512 * d.n ≤ cur.size ∧ O g := by
  have h1 := h.n1
  rcases h.fast.2 with ⟨_, h2⟩ | ⟨g, cap, cur, hv', hb, hg, hn, hm, hs, ht⟩
  · omega
  · rw [Nat.mul_comm] at ht
    exact ⟨g, cap, cur, hv', hg, ht, by have := Nat.mul_le_mul_left 512 hn; omega, h.ownF g (by rw [hv']; rfl)⟩
theorem RefAt.heldRow (h : RefAt w O p d fv hv) (hne : 0 < d.back.length) : ∃ g cap cur, hv = .slice (some ⟨g, 0, none⟩) d.back.length cap ∧ w.heap[g]? = some (.cells cur 85 (0, 0)) ∧ cur.toList.take (513 * d.back.length) = heldR d.back ∧ O g := by
  rcases h.held.2 with ⟨_, h2⟩ | ⟨g, cap, cur, hv', hb, hg, hn, hm, hs, ht⟩
  · omega
  · rw [Nat.mul_comm] at ht
    exact ⟨g, cap, cur, hv', hg, ht, h.ownB g (by rw [hv']; rfl)⟩
theorem range_of_take {g : Nat} {cur : Array Value} {t : TypeId} {fr : Nat × Nat} {m o : Nat} {xs cs : List Value} (hg : w.heap[g]? = some (.cells cur t fr)) (ht : cur.toList.take m = xs) (hc : ∀ j v, cs[j]? = some v → xs[o + j]? = some v) : w.rangeAt g o cs := fun j v hv => by
  rw [cell_of_row w g (o + j) _ _ _ hg]
  have := hc j v hv
  rw [← ht, List.getElem?_take] at this
  split at this
  · simpa using this
  · cases this
theorem RefAt.heldAt (h : RefAt w O p d fv hv) (k : Nat) (hk : k < d.back.length) : ∃ g cap, hv = .slice (some ⟨g, 0, none⟩) d.back.length cap ∧ w.cell? ⟨g, 513 * k, none⟩ = some (.int .i64 (d.back[k].1 : Int)) ∧ w.rangeAt g (513 * k + 1) (u8s d.back[k].2) := by
  obtain ⟨g, cap, cur, e, hg, ht, _⟩ := h.heldRow (by omega)
  obtain ⟨h1, h2⟩ := heldR_get d.back (fun x hx => (h.each x hx).2) k hk
  have hl : (u8s d.back[k].2).length = 512 := by rw [u8s_length]; exact (h.each _ (List.getElem_mem hk)).2
  refine ⟨g, cap, e, ?_, range_of_take hg ht fun j v hj => ?_⟩
  · have := range_of_take (o := 513 * k) (cs := [.int .i64 (d.back[k].1 : Int)]) hg ht (fun j v hj => by
      cases j with
      | zero => simp at hj; subst hj; exact h1
      | succ j => simp at hj)
    have := this 0 _ rfl
    rwa [Nat.add_zero] at this
  · have hj' : j < 512 := by have := (List.getElem?_eq_some_iff.1 hj).1; omega
    rw [h2 j hj']; exact hj
theorem RefAt.fastAt (h : RefAt w O p d fv hv) (k : Nat) : ∃ g cap, fv = .slice (some ⟨g, 0, none⟩) d.n cap ∧ w.rangeAt g (512 * k) (u8s (blockAt d.fast k)) := by
  obtain ⟨g, cap, cur, e, hg, ht, _⟩ := h.fastRow
  refine ⟨g, cap, e, range_of_take hg ht fun j v hj => ?_⟩
  unfold blockAt at hj
  rw [u8s_getElem?] at hj ⊢
  rw [List.getElem?_take] at hj
  split at hj
  · rwa [List.getElem?_drop] at hj
  · cases hj

/-- The last one of the first k held writes to a block. -/
def lastW (ws : List (Nat × Bs)) (at_ : Nat) : Nat → Option Bs
  | 0 => none
  | k + 1 => match ws[k]? with
    | some x => if x.1 = at_ then some x.2 else lastW ws at_ k
    | none => lastW ws at_ k

set_option maxHeartbeats 1000000 in
set_option maxRecDepth 100000 in
theorem rRead_off (h : RefAt w O p d fv hv) (at_ : Int) (ho : d.off = true) : Calls Try.prog 36 #[.pointer (some ⟨p, 0, none⟩), .int .i64 at_] w fun e w' => e = .returned (.tuple #[.agg zA, .int .i64 11]) ∧ Below w.heap.size w w' := by
  have c3 := h.c3
  rw [ho] at c3
  have hp := h.lt
  clear h
  go_enter Try.func36, Try.ntmps36
  go_step
  go_step
  go_step
  refine wpList_alloc_row rfl 75 rfl (.agg zA) infoAzz ?_
  have hh := heap_alloc_new w (.cells zA 75)
  have c3' : (w.alloc (.cells zA 75)).cell? ⟨p, 3, none⟩ = some (.bool true) := by rw [World.cell?_alloc_lt _ _ _ hp]; exact c3
  have hb : Below w.heap.size w (w.alloc (.cells zA 75)) := (Below.refl _ _).alloc (Nat.le_refl _) _
  change wpList _ _ _ _ _ (w.alloc (.cells zA 75))
  generalize (w.alloc (.cells zA 75)) = w1 at *
  have HZ : Hid (w.heap.size ≤ w1.heap.size) := hb.size
  obtain ⟨g1, hg1⟩ : ∃ g1, g1 = w.heap.size := ⟨_, rfl⟩
  rw [← hg1] at hh ⊢
  have HG1 := Lib.hid hg1
  have HH := Lib.hid hh
  have HB := Lib.hid hb
  clear hg1
  clear hh hb c3 hp
  go_wp2_with (first | (refine wpList_build_to rfl 75 _ rfl zA (by kernel_rfl) ?_) | (refine wpList_store_row_to rfl 75 _ _ rfl g1 zA rfl rfl 75 _ HH.out sizeAz rfl zA_one ?_; intro w2 hg2 hgr2; have HG2 := Lib.hid hg2; have HGR := Lib.hid hgr2; clear hg2 hgr2))
  refine bodyPost_ret (results_cell_tmp rfl _ _ g1 75 zA (0, 0) (.array 512 5) rfl HG2.out Try.underlying75 rfl sizeAz) rfl ?_
  exact ⟨rfl, HB.out.grown HGR.out HZ.out (fun k e => by cases e; rw [HG1.out]; exact Nat.le_refl _)⟩

theorem lastW_hit {ws : List (Nat × Bs)} {at_ m : Nat} (h : m < ws.length) (e : ws[m].1 = at_) : lastW ws at_ (m + 1) = some ws[m].2 := by
  rw [lastW, List.getElem?_eq_getElem h]
  simp [e]
theorem lastW_miss {ws : List (Nat × Bs)} {at_ m : Nat} (h : m < ws.length) (e : ws[m].1 ≠ at_) : lastW ws at_ (m + 1) = lastW ws at_ m := by
  rw [lastW, List.getElem?_eq_getElem h]
  simp [e]
theorem lastW_pre (ws : List (Nat × Bs)) (x : Nat × Bs) (at_ : Nat) : ∀ k, k ≤ ws.length → lastW (ws ++ [x]) at_ k = lastW ws at_ k
  | 0, _ => rfl
  | k + 1, h => by
    rw [lastW, lastW, List.getElem?_append_left (by omega), lastW_pre ws x at_ k (by omega)]
theorem blockAt_put_ne {l b : Bs} {k m n : Nat} (hl : l.length = 512 * n) (hk : k < n) (hb : b.length = 512) (hne : k ≠ m) : blockAt (putAt l k b) m = blockAt l m := by
  unfold blockAt putAt splice
  have h1 : (List.take (512 * k) l).length = 512 * k := by rw [List.length_take]; omega
  apply List.ext_getElem?
  intro i
  rw [List.getElem?_take, List.getElem?_take]
  split
  · rw [List.getElem?_drop, List.getElem?_drop]
    rcases Nat.lt_or_ge m k with h | h
    · rw [List.getElem?_append_left (by omega), List.getElem?_take, if_pos (by omega)]
    · have hge : 512 * k + 512 ≤ 512 * m := by omega
      rw [List.getElem?_append_right (by omega), h1, List.getElem?_append_right (by omega), hb, List.getElem?_drop]
      exact congrArg (fun z : Nat => l[z]?) (by omega)
  · rfl
theorem blockAt_lay' {n : Nat} {l : Bs} {at_ : Nat} (hl : l.length = 512 * n) (hat : at_ < n) : ∀ (N : Nat) (ws : List (Nat × Bs)), ws.length = N → (∀ x ∈ ws, x.1 < n ∧ x.2.length = 512) → blockAt (layAll l ws) at_ = (lastW ws at_ ws.length).getD (blockAt l at_)
  | 0, ws, h0, _ => by
    obtain rfl := List.eq_nil_of_length_eq_zero h0
    rfl
  | N + 1, ws', hN, h => by
    rcases List.eq_nil_or_concat ws' with rfl | ⟨ws, x, rfl⟩
    · cases hN
    · rw [List.concat_eq_append] at h hN ⊢
      have h1 := blockAt_lay' hl hat N ws (by simpa using hN) (fun y hy => h y (by simp [hy]))
      have hx := h x (by simp)
      have hlen : (layAll l ws).length = 512 * n := layAll_length ws hl (fun y hy => h y (by simp [hy]))
      rw [layAll_snoc, List.length_append, List.length_singleton]
      have hget : (ws ++ [x])[ws.length]'(by simp) = x := by simp
      by_cases e : x.1 = at_
      · rw [lastW_hit (m := ws.length) (by simp) (by rw [hget]; exact e), hget, ← e, blockAt_put hlen hx.1 hx.2]
        rfl
      · rw [lastW_miss (m := ws.length) (by simp) (by rw [hget]; exact e), lastW_pre _ _ _ _ (Nat.le_refl _), blockAt_put_ne hlen hx.1 hx.2 e, h1]
theorem blockAt_lay {n : Nat} {l : Bs} {at_ : Nat} (hl : l.length = 512 * n) (hat : at_ < n) (ws : List (Nat × Bs)) (h : ∀ x ∈ ws, x.1 < n ∧ x.2.length = 512) : blockAt (layAll l ws) at_ = (lastW ws at_ ws.length).getD (blockAt l at_) := blockAt_lay' hl hat _ ws rfl h

/-- so far the loop has found nothing -/
def Scan (ws : List (Nat × Bs)) (at_ : Nat) (i : Value) : Prop := ∃ k, k ≤ ws.length ∧ lastW ws at_ ws.length = lastW ws at_ k ∧ ∃ j : Int, i = .int .i64 j ∧ j + 1 = k
theorem Scan.part {ws : List (Nat × Bs)} {at_ : Nat} {i : Value} (h : Scan ws at_ i) : (i = .int .i64 (-1) ∧ lastW ws at_ ws.length = none) ∨ ∃ m : Nat, m < ws.length ∧ i = .int .i64 m ∧ lastW ws at_ ws.length = lastW ws at_ (m + 1) := by
  obtain ⟨k, h1, h2, j, rfl, h3⟩ := h
  cases k with
  | zero => exact .inl ⟨by congr 1; omega, h2⟩
  | succ m => exact .inr ⟨m, by omega, by congr 1; omega, h2⟩
theorem Scan.mk' {ws : List (Nat × Bs)} {at_ m : Nat} {j : Int} (hm : m ≤ ws.length) (h : lastW ws at_ ws.length = lastW ws at_ m) (hj : j = (m : Int) - 1) : Scan ws at_ (.int .i64 j) := ⟨m, hm, h, j, rfl, by omega⟩
theorem u8s_arr_one (b : Bs) : (u8s b).toArray.all (·.oneCell') = true := all_oneCell_toArray (u8s_one b)

set_option maxHeartbeats 2000000 in
set_option maxRecDepth 100000 in
theorem rRead_ok (h : RefAt w O p d fv hv) (at_ : Nat) (hat : at_ < d.n) (ho : d.off = false) : Calls Try.prog 36 #[.pointer (some ⟨p, 0, none⟩), .int .i64 at_] w fun e w' => e = .returned (.tuple #[.agg (u8s (blockAt (layAll d.fast d.back) at_)).toArray, .int .i64 0]) ∧ Below w.heap.size w w' := by
  have hp := h.lt
  have ha0 : (0 : Int) ≤ (at_ : Int) := by omega
  have ha1 : (at_ : Int) < (d.n : Int) := by omega
  have hn2 := h.n2
  have hsm := h.small
  have HLAY := Lib.hid (blockAt_lay h.flen hat d.back h.each)
  have HEACH := Lib.hid h.each
  have HFL : Hid ((blockAt d.fast at_).length = 512) := blockAt_length h.flen hat
  have HO := Lib.hid ho
  go_enter Try.func36, Try.ntmps36
  go_step
  go_step
  go_step
  refine wpList_alloc_row rfl 75 rfl (.agg zA) infoAzz ?_
  have hh := heap_alloc_new w (.cells zA 75)
  have hb : Below w.heap.size w (w.alloc (.cells zA 75)) := (Below.refl _ _).alloc (Nat.le_refl _) _
  have h1 := h.keep (Keeps.of_below (S := fun _ => False) hb) (fun _ _ => id)
  change wpList _ _ _ _ _ (w.alloc (.cells zA 75))
  generalize (w.alloc (.cells zA 75)) = w1 at *
  obtain ⟨g1, hg1⟩ : ∃ g1, g1 = w.heap.size := ⟨_, rfl⟩
  rw [← hg1] at hh ⊢
  have HZ : Hid (w.heap.size ≤ w1.heap.size) := hb.size
  have HG1 := Lib.hid hg1
  have HH := Lib.hid hh
  have HB := Lib.hid hb
  have H1 := Lib.hid h1
  have c0 := h1.c0
  have c1 := h1.c1
  have c3 := h1.c3
  rw [ho] at c3
  obtain ⟨gf, capf, curf, hfv, hgf, _, _, _⟩ := h1.fastRow
  obtain ⟨ah, ch, hhv⟩ := row_len h1.held
  rw [hfv] at c0
  rw [hhv] at c1
  have HHV := Lib.hid hhv
  have HFV := Lib.hid hfv
  clear hg1 hh hb h1 h hp hfv hhv hgf ho
  go_wp2_with fail
  go_loop [6] (fun i => Scan d.back at_ i) (fun i => (intOf i + 1).toNat)
  case atStart => exact Scan.mk' (Nat.le_refl _) rfl rfl
  case round =>
    rcases hrel.part with ⟨rfl, hno⟩ | ⟨m, hm, rfl, hl⟩
    · clear hrel
      rw [hno] at HLAY
      obtain ⟨gf', capf', hfv', hrg⟩ := H1.out.fastAt at_
      rw [HFV.out] at hfv'
      cases hfv'
      rw [Nat.mul_comm] at hrg
      have HRG := Lib.hid hrg
      have HLY : Hid (blockAt (layAll d.fast d.back) at_ = blockAt d.fast at_) := HLAY.out
      clear hrg hno
      generalize hX : blockAt d.fast at_ = X at *
      have HS : Hid ((Try.prog.info? 75).map (·.size) = some (u8s X).length) := by show _ = _; rw [u8s_length, HFL.out]; exact sizeA
      have HS2 : Hid ((Try.prog.info? 75).map (·.size) = some (u8s X).toArray.size) := by show _ = _; rw [List.size_toArray]; exact HS.out
      have HS3 : Hid (zA.size = (u8s X).toArray.size) := by show zA.size = (u8s X).toArray.size; rw [zA_size, List.size_toArray, u8s_length, HFL.out]
      clear hX
      go_wp2_with (first | (refine wpList_load_mid rfl 75 (.tmp 57) rfl gf (at_ * 512) rfl (u8s X) (.array 512 5) HRG.out Try.underlying75 rfl HS.out ?_) | (refine wpList_store_row_to rfl 75 _ _ rfl g1 (u8s X).toArray rfl rfl 75 _ HH.out HS2.out HS3.out (u8s_arr_one X) ?_; intro w2 hg2 hgr2; have HG2 := Lib.hid hg2; have HGR := Lib.hid hgr2; clear hg2 hgr2))
      refine bodyPost_ret (results_cell_tmp rfl _ _ g1 75 (u8s X).toArray (0, 0) (.array 512 5) rfl HG2.out Try.underlying75 rfl HS2.out) rfl ?_
      exact ⟨by rw [HLY.out]; rfl, HB.out.grown HGR.out HZ.out (fun k e => by cases e; rw [HG1.out]; exact Nat.le_refl _)⟩
    · clear hrel
      have hm0 : (0 : Int) ≤ (m : Int) := by omega
      have hm1 : (m : Int) < (d.back.length : Int) := by omega
      obtain ⟨g, cap, hhv', hc, hrg⟩ := H1.out.heldAt m hm
      rw [HHV.out] at hhv'
      cases hhv'
      have hxl := (HEACH.out _ (List.getElem_mem hm)).2
      rw [Nat.mul_comm] at hc hrg
      have HRG := Lib.hid hrg
      have HL := Lib.hid hl
      clear hrg hl
      by_cases e : d.back[m].1 = at_
      · have hh := lastW_hit hm e
        rw [HL.out, hh] at HLAY
        have HLY : Hid (blockAt (layAll d.fast d.back) at_ = d.back[m].2) := HLAY.out
        have HXL := Lib.hid hxl
        have hc' : w1.cell? ⟨g, m * 513, none⟩ = some (.int .i64 (at_ : Int)) := by rw [hc, e]
        clear hh HLAY HL hc e hxl
        generalize hX : d.back[m].2 = X at *
        have HS : Hid ((Try.prog.info? 75).map (·.size) = some (u8s X).length) := by show _ = _; rw [u8s_length, HXL.out]; exact sizeA
        have HS2 : Hid ((Try.prog.info? 75).map (·.size) = some (u8s X).toArray.size) := by show _ = _; rw [List.size_toArray]; exact HS.out
        have HS3 : Hid (zA.size = (u8s X).toArray.size) := by show zA.size = (u8s X).toArray.size; rw [zA_size, List.size_toArray, u8s_length, HXL.out]
        clear hX
        go_wp2_with (first | (refine wpList_load_mid rfl 75 (.tmp 50) rfl g (m * 513 + 1) rfl (u8s X) (.array 512 5) HRG.out Try.underlying75 rfl HS.out ?_) | (refine wpList_store_row_to rfl 75 _ _ rfl g1 (u8s X).toArray rfl rfl 75 _ HH.out HS2.out HS3.out (u8s_arr_one X) ?_; intro w2 hg2 hgr2; have HG2 := Lib.hid hg2; have HGR := Lib.hid hgr2; clear hg2 hgr2))
        refine bodyPost_ret (results_cell_tmp rfl _ _ g1 75 (u8s X).toArray (0, 0) (.array 512 5) rfl HG2.out Try.underlying75 rfl HS2.out) rfl ?_
        exact ⟨by rw [HLY.out]; rfl, HB.out.grown HGR.out HZ.out (fun k e => by cases e; rw [HG1.out]; exact Nat.le_refl _)⟩
      · have hh := lastW_miss hm e
        rw [hh] at HL
        have he2 : ¬ (d.back[m].1 : Int) = (at_ : Int) := fun h => e (by omega)
        have he : ((d.back[m].1 : Int) == (at_ : Int)) = false := beq_eq_false_iff_ne.2 he2
        have HM := Lib.hid hm
        clear hh e hxl HRG
        generalize d.back[m].1 = kk at *
        clear hm
        go_wp2_with fail
        go_round
        case rel => exact Scan.mk' (Nat.le_of_lt HM.out) HL.out rfl
        case measure => simp [intOf]
end Go.Proofs.Ythdefaodioapbaa
