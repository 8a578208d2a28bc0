/- The document's disk: Flush, Crash. -/
import Derived.Test.YthdefaodioapbaaRef4
namespace Go.Proofs.Ythdefaodioapbaa
open Go.RowKit

variable {w w' : World} {O : Nat → Prop} {p : Nat} {d : DS} {fv hv : Value}
attribute [local irreducible] zA zW

theorem heap_setCells (g : Nat) (e : TypeId) : ∀ (vs : List Value) (o : Nat) (w : World) (cur : Array Value), w.heap[g]? = some (.cells cur e (0, 0)) → o + vs.length ≤ cur.size → (w.setCells g o vs).heap[g]? = some (.cells (cur.toList.take o ++ (vs ++ cur.toList.drop (o + vs.length))).toArray e (0, 0))
  | [], o, w, cur, h, _ => by
    show w.heap[g]? = _
    rw [h]
    simp
  | v :: vs, o, w, cur, h, hl => by
    simp only [List.length_cons] at hl
    show ((w.setCell ⟨g, o, none⟩ v).setCells g (o + 1) vs).heap[g]? = _
    rw [heap_setCells g e vs (o + 1) _ _ (heap_setCell_same w g o cur e v h) (by simp; omega)]
    have hk : o < cur.toList.length := by simp; omega
    congr 3
    rw [Array.toList_setIfInBounds, List.take_set, List.drop_set_of_lt (by omega), List.length_cons, show o + 1 + vs.length = o + (vs.length + 1) by omega, List.take_succ_eq_append_getElem hk, List.set_append_right _ _ (by rw [List.length_take]; omega)]
    have h0 : o - (List.take o cur.toList).length = 0 := by rw [List.length_take]; omega
    rw [h0]
    simp
theorem keeps_setCells {S : Nat → Prop} {w0 : World} {g : Nat} (hg : S g) : ∀ (vs : List Value) (o : Nat) (w : World), Keeps S w0 w → Keeps S w0 (w.setCells g o vs)
  | [], _, _, h => h
  | v :: vs, o, _, h => keeps_setCells hg vs (o + 1) _ (h.setCell ⟨g, o, none⟩ v (.inl hg))

/-- A block of what is fast is written. -/
theorem RefAt.lay (h : RefAt w O p d fv hv) {g cap : Nat} (hfv : fv = .slice (some ⟨g, 0, none⟩) d.n cap) (k : Nat) (hk : k < d.n) (x : Bs) (hx : x.length = 512) :
    RefAt (w.setCells g (512 * k) (u8s x)) O p { d with fast := putAt d.fast k x } fv hv ∧ Keeps O w (w.setCells g (512 * k) (u8s x)) := by
  obtain ⟨g', cap', cur, h1, hg, ht, hle, hO⟩ := h.fastRow
  rw [hfv] at h1
  cases h1
  have hlen : (u8s x).length = 512 := by rw [u8s_length]; exact hx
  have hfit : 512 * k + (u8s x).length ≤ cur.size := by omega
  have hset := heap_setCells g 75 (u8s x) (512 * k) w cur hg hfit
  have kp : Keeps (fun b => b = g) w (w.setCells g (512 * k) (u8s x)) := keeps_setCells (S := fun b => b = g) rfl _ _ _ (Keeps.refl _ _)
  have hfb : fv.ownBlock = some g := by rw [hfv]; rfl
  refine ⟨{ h with
    cell := (kp.block p h.lt (fun e => h.fp (by rw [hfb, e]))).trans h.cell
    fast := ?_
    held := owns_kept h.held (fun b hb hl => kp.block b hl (fun e => h.fb g hfb (by rw [hb, e])))
    flen := putAt_length h.flen hk hx }, kp.mono (fun b _ e => by rw [e]; exact hO)⟩
  have hrow := h.fast
  refine ⟨by rw [u8s_length, putAt_length h.flen hk hx, Nat.mul_comm], ?_⟩
  rcases hrow.2 with ⟨h2, _⟩ | ⟨g2, cap2, cur2, h2, hb2, hg2, hn2, hm2, hs2, ht2⟩
  · rw [hfv] at h2; cases h2
  · rw [hfv] at h2
    cases h2
    rw [hg] at hg2
    cases hg2
    refine .inr ⟨g, cap, _, hfv, hb2, hset, hn2, hm2, ?_, ?_⟩
    · rw [List.size_toArray, List.length_append, List.length_append, List.length_take, List.length_drop, Array.length_toList]
      omega
    · have e1 : (cur.toList.take (512 * k) ++ (u8s x ++ cur.toList.drop (512 * k + (u8s x).length))) = splice cur.toList (512 * k) (u8s x) := rfl
      rw [List.toList_toArray, e1, Nat.mul_comm]
      unfold putAt
      rw [← u8s_splice, ← ht]
      unfold splice
      have hl2 : (cur.toList.take (512 * k)).length = 512 * k := by rw [List.length_take, Array.length_toList]; omega
      rw [List.take_append, hl2, List.take_append, hlen, List.take_take, List.take_take, Nat.min_eq_left (by omega : 512 * k ≤ 512 * d.n), Nat.min_eq_right (by omega : 512 * k ≤ 512 * d.n), List.take_of_length_le (by omega : (u8s x).length ≤ 512 * d.n - 512 * k), List.drop_take]
      rw [Nat.sub_sub]

/-- those of the first k held writes that are kept -/
def selTo (ws : List (Nat × Bs)) (kb : Nat → Bool) : Nat → List (Nat × Bs)
  | 0 => []
  | k + 1 => match ws[k]? with
    | some x => if kb k = true then selTo ws kb k ++ [x] else selTo ws kb k
    | none => selTo ws kb k
theorem selTo_yes {ws : List (Nat × Bs)} {kb : Nat → Bool} {k : Nat} (h : k < ws.length) (e : kb k = true) : selTo ws kb (k + 1) = selTo ws kb k ++ [ws[k]] := by
  rw [selTo, List.getElem?_eq_getElem h]; simp [e]
theorem selTo_no {ws : List (Nat × Bs)} {kb : Nat → Bool} {k : Nat} (h : k < ws.length) (e : kb k = false) : selTo ws kb (k + 1) = selTo ws kb k := by
  rw [selTo, List.getElem?_eq_getElem h]; simp [e]
theorem selTo_sel (d : DS) (kb : Nat → Bool) : ∀ (k : Nat) (h : k ≤ d.back.length), selI d kb (uptoI d.back.length k h) = selTo d.back kb k
  | 0, _ => rfl
  | k + 1, h => by
    have ih := selTo_sel d kb k (by omega)
    rw [uptoI]
    cases e : kb k with
    | true => rw [selTo_yes (by omega) e, selI_yes _ _ _ _ e, ih]
    | false => rw [selTo_no (by omega) e, selI_no _ _ _ _ e, ih]
theorem selTo_stop (ws : List (Nat × Bs)) (kb : Nat → Bool) (j : Nat) (hk : ∀ i, j ≤ i → kb i = false) : ∀ k, j ≤ k → k ≤ ws.length → selTo ws kb k = selTo ws kb j
  | 0, h, _ => by obtain rfl : j = 0 := by omega
                  rfl
  | k + 1, h, hl => by
    rcases Nat.lt_or_ge j (k + 1) with h1 | h1
    · rw [selTo_no (by omega) (hk k (by omega))]
      exact selTo_stop ws kb j hk k (by omega) (by omega)
    · obtain rfl : j = k + 1 := by omega
      rfl
theorem selTo_each {P : Nat × Bs → Prop} (ws : List (Nat × Bs)) (kb : Nat → Bool) (h : ∀ y ∈ ws, P y) : ∀ k, ∀ y ∈ selTo ws kb k, P y
  | 0, y, hy => by cases hy
  | k + 1, y, hy => by
    rw [selTo] at hy
    split at hy
    · rename_i x hx
      split at hy
      · rcases List.mem_append.1 hy with h1 | h1
        · exact selTo_each ws kb h k y h1
        · rw [List.mem_singleton] at h1
          subst h1
          exact h _ (List.mem_of_getElem? hx)
      · exact selTo_each ws kb h k y hy
    · exact selTo_each ws kb h k y hy

/-- a world in which the writes of l have been laid -/
def Laid (w wr : World) (O : Nat → Prop) (p : Nat) (d : DS) (fv hv : Value) (l : List (Nat × Bs)) : Prop := RefAt wr O p { d with fast := layAll d.fast l } fv hv ∧ Keeps O w wr
theorem Laid.next {wr : World} {l : List (Nat × Bs)} (h : Laid w wr O p d fv hv l) {g cap : Nat} (hfv : fv = .slice (some ⟨g, 0, none⟩) d.n cap) (x : Nat × Bs) (hk : x.1 < d.n) (hx : x.2.length = 512) : Laid w ((wr.drew).setCells g (512 * x.1) (u8s x.2)) O p d fv hv (l ++ [x]) := by
  have h0 : RefAt wr.drew O p { d with fast := layAll d.fast l } fv hv := h.1.keep (Keeps.refl (fun _ => False) wr).drew (fun _ _ => id)
  obtain ⟨h1, h2⟩ := h0.lay hfv x.1 hk x.2 hx
  exact ⟨by rw [layAll_snoc]; exact h1, h.2.drew.trans' h2⟩

set_option maxHeartbeats 400000 in
theorem rFlush_off (h : RefAt w O p d fv hv) (ho : d.off = true) : Calls Try.prog 38 #[.pointer (some ⟨p, 0, none⟩)] w fun e w' => e = .returned (.int .i64 11) ∧ w = w' := by
  have c3 := h.c3
  rw [ho] at c3
  clear h
  go_enter Try.func38, Try.ntmps38
  go_wp2_with fail
  go_ret
  exact ⟨rfl, rfl⟩
theorem rRow (h : RefAt w O p d fv hv) (k : Nat) (hk : k < d.back.length) : ∃ g cap, hv = .slice (some ⟨g, 0, none⟩) d.back.length cap ∧ w.cell? ⟨g, k * 513, none⟩ = some (.int .i64 (d.back[k].1 : Int)) ∧ w.rangeAt g (k * 513 + 1) (u8s d.back[k].2) := by
  obtain ⟨g, cap, h1, h2, h3⟩ := h.heldAt k hk
  rw [Nat.mul_comm] at h2 h3
  exact ⟨g, cap, h1, h2, h3⟩
theorem there_row {g : Nat} {cur : Array Value} {t : TypeId} (hg : w.heap[g]? = some (.cells cur t (0, 0))) (o n : Nat) (h : o + n ≤ cur.size) : w.there g o n := fun j hj => by
  rw [cell_of_row w g (o + j) _ _ _ hg]
  exact ⟨by rw [Array.getElem?_eq_getElem (by omega)]; rfl, frozen_of_row w g _ _ _ hg⟩

set_option maxHeartbeats 4000000 in
set_option maxRecDepth 100000 in
theorem rFlush_ok (h : RefAt w O p d fv hv) (ho : d.off = false) (hi : d.Inv) : Calls Try.prog 38 #[.pointer (some ⟨p, 0, none⟩)] w fun e w' => e = .returned (.int .i64 0) ∧ IsRef w' O p d.flush ∧ Keeps O w w' := by
  have c3 := h.c3
  rw [ho] at c3
  have HD := Lib.hid h
  have HI := Lib.hid (And.intro ho hi)
  obtain ⟨gf, capf, curf, hfv, _, _, _, _⟩ := h.fastRow
  obtain ⟨ah, ch, hhv⟩ := row_len h.held
  have HFV := Lib.hid hfv
  have HHV := Lib.hid hhv
  have HL0 : Hid (Laid w w O p d fv hv (d.back.take 0)) := ⟨h, Keeps.refl _ _⟩
  have hsm := h.small
  clear h ho hi hfv hhv
  go_enter Try.func38, Try.ntmps38
  go_wp2_with fail
  go_loopw [3] (fun i wr => ∃ k : Nat, k ≤ d.back.length ∧ i = .int .i64 k ∧ Laid w wr O p d fv hv (d.back.take k)) (fun i _ => d.back.length - (intOf i).toNat)
  case atStart => exact ⟨0, Nat.zero_le _, rfl, HL0.out⟩
  case round =>
    obtain ⟨k, hk, rfl, hl⟩ := hrel
    have HL := Lib.hid hl
    have k0 : (0 : Int) ≤ (k : Int) := by omega
    have c1 := hl.1.c1
    have c0 := hl.1.c0
    rw [HHV.out] at c1
    rw [HFV.out] at c0
    try simp only at c1
    by_cases hlt : k < d.back.length
    · have k1 : (k : Int) < (d.back.length : Int) := by omega
      have hx := HD.out.each _ (List.getElem_mem hlt)
      obtain ⟨g, cap, hhv', hc, hrg⟩ := rRow hl.1 k hlt
      rw [HHV.out] at hhv'
      cases hhv'
      try simp only at hc hrg
      obtain ⟨gf', capf', curf', hfv', hgf', htf', hlf', _⟩ := hl.1.fastRow
      rw [HFV.out] at hfv'
      cases hfv'
      have HT : Hid (d.back.take (k + 1) = d.back.take k ++ [d.back[k]]) := List.take_succ_eq_append_getElem hlt
      have HXX := Lib.hid hx
      have HRG := Lib.hid hrg
      have HS : Hid ((Try.prog.info? 75).map (·.size) = some (u8s d.back[k].2).length) := by show _ = _; rw [u8s_length, hx.2]; exact sizeA
      have HS2 : Hid ((Try.prog.info? 75).map (·.size) = some (u8s d.back[k].2).toArray.size) := by show _ = _; rw [List.size_toArray]; exact HS.out
      have HTH : Hid (wr.drew.there gf (d.back[k].1 * 512) (u8s d.back[k].2).toArray.size) := by
        show World.there _ _ _ _
        rw [List.size_toArray, u8s_length, hx.2]
        exact there_row (w := wr.drew) hgf' (d.back[k].1 * 512) 512 (by have h1 := hx.1; have h2 : 512 * d.n ≤ curf'.size := hlf'; omega)
      have hn0 : (0 : Int) ≤ (d.back[k].1 : Int) := by omega
      have hn1 : (d.back[k].1 : Int) < (d.n : Int) := by omega
      have hsm2 := HD.out.n2
      have HBK := Lib.hid (fun l (h : Laid w wr O p d fv hv l) => h.next HFV.out d.back[k] hx.1 hx.2)
      have HONE := u8s_arr_one d.back[k].2
      clear hl hx hrg hgf' htf' hlf'
      generalize d.back[k] = x at *
      obtain ⟨xa, xb⟩ := x
      try simp only at *
      have HLT := Lib.hid hlt
      clear hlt
      go_wp2_with fail
      refine wp_region_noPanic ?_
      refine wp_region_ordL 21 [] [0, 1, 2, 3, 4, 5, 6, 7, 8, 9, 10, 11, 12, 13, 14, 15, 16, 17, 18, 19, 20, 21] (fun W => W.cell? ⟨p, 0, none⟩ = some (.slice (some ⟨gf, 0, none⟩) d.n capf) ∧ W.cell? ⟨p, 1, none⟩ = some (.slice (some ⟨g, 0, none⟩) d.back.length ch) ∧ W.cell? ⟨g, k * 513, none⟩ = some (.int .i64 (xa : Int)) ∧ W.rangeAt g (k * 513 + 1) (u8s xb)) (by kernel_rfl) (by kernel_rfl) rfl (by kernel_rfl) (fun _ _ _ _ _ h => h) ⟨c0, c1, hc, HRG.out⟩ ?_
      repeat (apply heldL_run rfl (by rfl) (by rfl); (intro w hSw; go_simp; with_reducible rfl); (try simp only [Act.put, List.setIfInBounds_toArray, List.set_cons_zero, List.set_cons_succ]))
      refine heldL_take rfl (by rfl) (yieldsIf_load_mid (by rfl) 75 (.tmp 35) rfl g (k * 513 + 1) rfl (u8s xb) (.array 512 5) (fun w hS => hS.2.2.2) Try.underlying75 rfl HS.out) ?_
      (try simp only [Act.put, List.setIfInBounds_toArray, List.set_cons_zero, List.set_cons_succ])
      repeat (apply heldL_run rfl (by rfl) (by rfl); (intro w hSw; go_simp; with_reducible rfl); (try simp only [Act.put, List.setIfInBounds_toArray, List.set_cons_zero, List.set_cons_succ]))
      refine heldL_step rfl (by rfl) (by rfl) (fun K hK => ?_)
      refine wp_store_mid 75 (.tmp 37) (.tmp 36) rfl gf (xa * 512) (u8s xb).toArray rfl rfl HTH.out HS2.out HONE ?_
      refine hK.out _ _ (.inl rfl) ?_
      clear hK K
      refine heldL_nil (NoPanic.normal ?_)
      have hnx := HBK.out _ HL.out
      rw [Nat.mul_comm 512 xa] at hnx
      have HNX := Lib.hid hnx
      clear hnx
      simp only [Act.put]
      generalize wr.drew.setCells gf (xa * 512) (u8s xb) = w9 at *
      go_wp2_with fail
      go_roundw
      case rel => exact ⟨k + 1, by have := HLT.out; omega, by go_num, by rw [HT.out]; exact HNX.out⟩
      case measure => simp [intOf]; have := HLT.out; omega
    · obtain rfl : k = d.back.length := by omega
      rw [List.take_length] at hl
      have hd1 := hl.1
      have hp1 := hd1.lt
      have f1 := hd1.fr 1
      have hset := heap_setCell_same wr p 1 _ 83 (.slice none 0 0) hd1.cell
      have hkp : Keeps (fun b => b = p) wr (wr.setCell ⟨p, 1, none⟩ (.slice none 0 0)) := (Keeps.refl _ _).setCell _ _ (.inl rfl)
      have hd2 : RefAt (wr.setCell ⟨p, 1, none⟩ (.slice none 0 0)) O p { d with fast := layAll d.fast d.back, back := [] } fv (.slice none 0 0) :=
        { hd1 with
          cell := hset
          fast := owns_kept hd1.fast (fun b hb hl => hkp.block b hl (fun e => hd1.fp (by rw [hb, e])))
          held := World.ownsRow_nil _ _ _ _
          each := fun x hx => by cases hx
          small := Nat.zero_le _
          ownB := InB.nil _ }
      have HST := Lib.hid (rstep_any hd2 HI.out.1 HI.out.2)
      have HK : Hid (Keeps O w (wr.setCell ⟨p, 1, none⟩ (.slice none 0 0))) := HL.out.2.trans' (hkp.mono (fun b _ e => by rw [e]; exact HD.out.ownP))
      clear hd1 hset hkp hd2 hl
      go_wp2_with fail
      refine (HST.out).mono ?_
      rintro e w5 ⟨⟨v, rfl⟩, hd5, hk5⟩
      have HD5 := Lib.hid hd5
      have HK5 := Lib.hid hk5
      clear hd5 hk5 HST
      go_wp2_with fail
      go_ret
      exact ⟨rfl, ⟨_, _, HD5.out⟩, HK.out.trans' (HK5.out.mono (fun b _ e => by rw [e]; exact HD.out.ownP))⟩
end Go.Proofs.Ythdefaodioapbaa
