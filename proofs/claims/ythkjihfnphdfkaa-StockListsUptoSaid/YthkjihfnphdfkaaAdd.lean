/- Add. -/
import Derived.Test.YthkjihfnphdfkaaStock
import Derived.Deep.RegionLaw
import Derived.Deep.AppendLies
import Derived.Deep.RegionHeld3
import Derived.Deep.DeepMust
namespace Go.Proofs.Ythkjihfnphdfkaa
open Go.RowKit Go.Maps
open Go.WideMaps (keyOf_string_mk)
variable {w w' : World} {O : Nat → Prop} {p lim : Nat} {L : List Bs} {lv : Value} {m : Nat} {vs : List Value}

theorem BytesW.keeps {S : Nat → Prop} {v : Value} {b : Bs} (h : BytesW w v b) (k : Keeps S w w') (hS : b ≠ [] → InB v (fun j => ¬ S j)) : BytesW w' v b := by
  by_cases hb : b = []
  · subst hb
    rcases h with h | h
    · rcases h with ⟨rfl, _⟩ | ⟨x, off, cap, rfl, hc, _⟩
      · exact .inl (RowAt.nil _)
      · exact .inl (.inr ⟨x, off, cap, rfl, hc, fun i u hi => by simp [u8s] at hi⟩)
    · exact .inr h
  · exact h.imp (fun h => RowAt.keeps h k (hS hb)) id

theorem p_after {W1 w2 w3 : World} {X : Obj} {cs : Array Value} {row : Option Nat} (h : W1.heap[p]? = some (.cells cs 59 (0, 0))) (hb2 : Below W1.drew.heap.size W1.drew w2) (hg : (w2.alloc X).grownBy w3 row) (hne : row ≠ some p) : w3.heap[p]? = some (.cells cs 59 (0, 0)) := by
  have hl : p < W1.heap.size := (Array.getElem?_eq_some_iff.1 h).1
  have hl2 : p < w2.heap.size := Nat.lt_of_lt_of_le hl hb2.size
  rw [hg.block p (by simp; omega) (fun e => hne e.symm), Below.heap_alloc w2 X p hl2, hb2.block p hl]
  exact h
theorem one_of {B : Nat} {w : World} {v : Value} {b : Bs} (h : Fresh B w v b) : ∀ u ∈ [v], u.oneCell' = true := by
  obtain ⟨a, cap, rfl, _⟩ := RowAt.shape h.1
  simp [Value.oneCell']
theorem row_at {W1 w2 : World} {n cap : Nat} {la : Option Addr} (e : lv = .slice la n cap) (h : W1.ownsRow 0 28 1 lv n vs) (hb : Below W1.drew.heap.size W1.drew w2) : w2.ownsRow 0 28 1 (.slice la n cap) n vs := by
  subst e
  exact owns_below (w := W1.drew) h hb

theorem total_snoc (L : List Bs) (b : Bs) : total (L ++ [b]) = total L + b.length := by simp [total]

theorem add_close {W W1 w2 w3 w4 : World} {b : Bs} {va : Option Addr} {vc gg cap3 : Nat} {X : Obj} (hS : StockAt W O p lim L lv m vs) (kW : Keeps O w W) (hg1 : W.drew.grownBy W1 (some m))
    (hmap : W1.ownsMap Try.prog 9 (plainElem Try.prog 3) m (L.length + 1) ((mapOf L).put (.string b) (.lit (.int .i64 (L.length : Int)))))
    (hb2 : Below W1.drew.heap.size W1.drew w2) (hF : Fresh W1.drew.heap.size w2 (.slice va b.length vc) b)
    (hown3 : w3.ownsRow 0 28 1 (.slice (some ⟨gg, 0, none⟩) (L.length + 1) cap3) (L.length + 1) (vs ++ [.slice va b.length vc])) (hgrow3 : (w2.alloc X).grownBy w3 lv.ownBlock)
    (hat3 : lv.ownBlock = some gg ∨ gg = w2.heap.size + 1) (hpl : lv.ownBlock ≠ some p) (hml : lv.ownBlock ≠ some m) (hpm : p ≠ m) (P3 : w3.heap[p]? = some (.cells #[.int .i64 lim, .int .i64 (total L), lv, .map (some m)] 59 (0, 0)))
    (hm : b ∉ L) (hb : b.length ≤ 8192) (hf : total L + b.length ≤ lim)
    (hw4 : w4 = (w3.setCell ⟨p, 2, none⟩ (.slice (some ⟨gg, 0, none⟩) (L.length + 1) cap3)).setCell ⟨p, 1, none⟩ (.int .i64 ((total L : Int) + (b.length : Int)))) :
    IsStock w4 (fun k => O k ∨ NewIn w w4 k) p lim (L ++ [b]) ∧ Keeps O w w4 := by
  have zW : W.heap.size ≤ W1.heap.size := hg1.size
  have z1 : W1.heap.size ≤ w2.heap.size := hb2.size
  have z3 : w2.heap.size + 1 ≤ w3.heap.size := by have := hgrow3.size; simpa using this
  have z4 : w4.heap.size = w3.heap.size := by rw [hw4]; simp
  have z0 : w.heap.size ≤ W.heap.size := kW.size
  have hgl := hS.row.lt
  have step1 : ∀ k, k < W.heap.size → k ≠ m → W1.heap[k]? = W.heap[k]? := fun k hk hne => hg1.block k hk (fun e => hne (by cases e; rfl))
  have step2 : ∀ k, k < W1.heap.size → k ≠ p → lv.ownBlock ≠ some k → w4.heap[k]? = W1.heap[k]? := fun k hk hp hr => by
    rw [hw4, Below.heap_setCell _ _ _ _ hp, Below.heap_setCell _ _ _ _ hp, hgrow3.block k (by simp; omega) (fun e => hr e.symm), Below.heap_alloc w2 X k (by omega)]
    exact hb2.block k hk
  have step2' : ∀ k, k < w2.heap.size → k ≠ p → lv.ownBlock ≠ some k → w4.heap[k]? = w2.heap[k]? := fun k hk hp hr => by
    rw [hw4, Below.heap_setCell _ _ _ _ hp, Below.heap_setCell _ _ _ _ hp, hgrow3.block k (by simp; omega) (fun e => hr e.symm), Below.heap_alloc w2 X k (by omega)]
  have hgp : gg ≠ p := by
    rcases hat3 with h | h
    · intro e; exact hpl (e ▸ h)
    · have := hS.lt; omega
  have keep : Keeps O w w4 := by
    have k1 : Keeps O w W1 := kW.drew.trans' (Keeps.of_grown hg1 (fun k e => by cases e; exact hS.ownM))
    have k2 : Keeps O w w2 := k1.drew.belowT hb2
    have k3 : Keeps O w w3 := (k2.alloc X).grown hgrow3 (fun k e => .inl (hS.ownL k e))
    rw [hw4]
    exact (k3.setCell _ _ (.inl hS.ownP)).setCell _ _ (.inl hS.ownP)
  refine ⟨⟨.slice (some ⟨gg, 0, none⟩) (L.length + 1) cap3, m, vs ++ [.slice va b.length vc], ?_⟩, keep⟩
  have hnew : ∀ k, W1.heap.size ≤ k → k < w3.heap.size → O k ∨ NewIn w w4 k := fun k h1 h2 => .inr ⟨by omega, by omega⟩
  have hvs : vs.length = L.length := by have := hS.row.1; omega
  refine { cell := ?_, row := ?_, at_ := ?_, map := ?_, nodup := ?_, small := ?_, limit := hS.limit, ownP := .inl hS.ownP, ownM := .inl hS.ownM, ownL := ?_, each := ?_ }
  · have e := heap_setCell_same (w3.setCell ⟨p, 2, none⟩ (.slice (some ⟨gg, 0, none⟩) (L.length + 1) cap3)) p 1 _ 59 (.int .i64 ((total L : Int) + (b.length : Int))) (heap_setCell_same w3 p 2 _ 59 (.slice (some ⟨gg, 0, none⟩) (L.length + 1) cap3) P3)
    rw [hw4, e, total_snoc]
    simp
  · rw [List.length_append, List.length_singleton, hw4]
    refine owns_kept (owns_kept hown3 fun k hk _ => Below.heap_setCell _ _ _ _ ?_) fun k hk _ => Below.heap_setCell _ _ _ _ ?_
    · cases hk; exact hgp
    · cases hk; exact hgp
  · intro i hi
    by_cases hil : i < L.length
    · obtain ⟨v, h1, h2, h3⟩ := hS.at_ i hil
      refine ⟨v, by rw [List.getElem?_append_left (by omega)]; exact h1, ?_, ?_⟩
      · rw [List.getElem_append_left hil]
        refine RowAt.kept h2 fun k hk _ => ?_
        obtain ⟨a1, a2, a3, a4, a5⟩ := h3 k hk
        exact (step2 k (by omega) a3 a5).trans (step1 k a2 a4)
      · refine h3.mono fun k ⟨a1, a2, a3, a4, a5⟩ => ⟨.inl a1, by omega, a3, a4, ?_⟩
        intro e
        have e' : gg = k := by simpa [Value.ownBlock] using e
        subst e'
        rcases hat3 with h | h
        · exact a5 h
        · omega
    · have hie : i = L.length := by simp at hi; omega
      subst hie
      refine ⟨_, by rw [List.getElem?_append_right (by omega)]; simp [hvs]; rfl, ?_, ?_⟩
      · rw [List.getElem_append_right (by omega)]
        simp only [Nat.sub_self, List.getElem_singleton]
        refine RowAt.kept hF.1 fun k hk hk2 => ?_
        obtain ⟨a1, a2⟩ := hF.2 k hk
        refine step2' k a2 (by have := hS.lt; have : W1.heap.size ≤ k := a1; omega) (fun e => ?_)
        have := (hgl k e).2
        have : W1.heap.size ≤ k := a1
        omega
      · refine hF.2.mono fun k ⟨a1, a2⟩ => ?_
        have a1 : W1.heap.size ≤ k := a1
        refine ⟨hnew k a1 (by omega), by omega, by have := hS.lt; omega, by have := hS.ltM; omega, fun e => ?_⟩
        have e' : gg = k := by simpa [Value.ownBlock] using e
        subst e'
        rcases hat3 with h | h
        · have := (hgl _ h).2; omega
        · omega
  · rw [mapOf_snoc, List.length_append, List.length_singleton]
    obtain ⟨es, clock, hb', F, hs, hD⟩ := hmap
    exact ⟨es, clock, (step2 m (by have := hS.ltM; omega) (Ne.symm hpm) hml).trans hb', F, hs, hD⟩
  · rw [List.nodup_append]
    exact ⟨hS.nodup, by simp, fun x hx y hy e => by simp only [List.mem_singleton] at hy; subst hy; subst e; exact hm hx⟩
  · rw [total_snoc]; exact hf
  · refine InB.at_ ?_
    rcases hat3 with h | h
    · exact .inl (hS.ownL gg h)
    · refine hnew gg (by omega) ?_
      have := hown3.lt gg rfl
      exact this.2
  · intro x hx
    simp only [List.mem_append, List.mem_singleton] at hx
    rcases hx with hx | rfl
    · exact hS.each x hx
    · exact hb

set_option maxHeartbeats 400000 in
theorem add_long (v : Value) (b : Bs) (hv : BytesW w v b) (hb : 8192 < b.length) :
    Calls Try.prog 12 #[.pointer (some ⟨p, 0, none⟩), v] w fun e w' => e = .returned (.tuple #[.int .i64 0, .int .i64 2]) ∧ w = w' := by
  obtain ⟨a, cap, rfl, _⟩ := BytesW.shape hv
  clear hv
  go_enter Try.func12, Try.ntmps12
  go_wp2
  go_ret2
  exact ⟨rfl, rfl⟩

set_option maxHeartbeats 400000 in
theorem add_has (h : StockAt w O p lim L lv m vs) (v : Value) (b : Bs) (hv : BytesW w v b) (hb : b.length ≤ 8192) (hm : b ∈ L) :
    Calls Try.prog 12 #[.pointer (some ⟨p, 0, none⟩), v] w fun e w' => e = .returned (.tuple #[.int .i64 (L.idxOf b), .int .i64 0]) ∧ ∃ k, w' = w.drewN k := by
  have H := Lib.hid hv
  obtain ⟨a, cap, hs, _⟩ := BytesW.shape hv
  subst hs
  try simp only [u8s_length] at *
  clear hv
  have e : place L b = (L.idxOf b : Int) := by unfold place; rw [if_pos hm]
  have E := Lib.hid e
  clear e hm
  go_enter Try.func12, Try.ntmps12
  go_wp2_with fail
  refine (find_any h _ b H.out (by omega)).mono ?_
  rw [E.out]
  rintro e w' ⟨rfl, k, rfl⟩
  go_wp2_with fail
  go_ret2
  exact ⟨rfl, _, rfl⟩

set_option maxHeartbeats 400000 in
theorem add_full (h : StockAt w O p lim L lv m vs) (v : Value) (b : Bs) (hv : BytesW w v b) (hb : b.length ≤ 8192) (hm : b ∉ L) (hf : lim < total L + b.length) :
    Calls Try.prog 12 #[.pointer (some ⟨p, 0, none⟩), v] w fun e w' => e = .returned (.tuple #[.int .i64 0, .int .i64 27]) ∧ ∃ k, w' = w.drewN k := by
  have H := Lib.hid hv
  obtain ⟨a, cap, hs, _⟩ := BytesW.shape hv
  subst hs
  try simp only [u8s_length] at *
  clear hv
  have e : place L b = -1 := by unfold place; rw [if_neg hm]
  have E := Lib.hid e
  have c0 := h.c0
  have c1 := h.c1
  have hsm := h.small
  have hli := h.limit
  have hlt : ((lim : Int) - (total L : Int) < (b.length : Int)) := by omega
  clear e hm
  go_enter Try.func12, Try.ntmps12
  go_wp2_with fail
  refine (find_any h _ b H.out (by omega)).mono ?_
  rw [E.out]
  rintro e w' ⟨rfl, k, rfl⟩
  go_wp2_with fail
  go_quiet (fail)
  go_wp2
  go_ret2
  exact ⟨rfl, k + nq, World.drewN_drewN _ _ _⟩

set_option maxHeartbeats 400000 in
theorem add_new (h : StockAt w O p lim L lv m vs) (v : Value) (b : Bs) (hv : BytesW w v b) (hvO : b ≠ [] → InB v (fun k => ¬ O k)) (hb : b.length ≤ 8192) (hm : b ∉ L) (hf : total L + b.length ≤ lim) :
    Calls Try.prog 12 #[.pointer (some ⟨p, 0, none⟩), v] w fun e w' => e = .returned (.tuple #[.int .i64 L.length, .int .i64 0]) ∧ IsStock w' (fun k => O k ∨ NewIn w w' k) p lim (L ++ [b]) ∧ Keeps O w w' := by
  have H := Lib.hid hv
  obtain ⟨a, cap, hs, _⟩ := BytesW.shape hv
  subst hs
  try simp only [u8s_length] at *
  clear hv
  have e : place L b = -1 := by unfold place; rw [if_neg hm]
  have E := Lib.hid e
  have HM := Lib.hid hm
  have c0 := h.c0
  have c1 := h.c1
  have c2 := h.c2
  have c3 := h.c3
  have hsm := h.small
  have hli := h.limit
  have hlt : ((b.length : Int) ≤ (lim : Int) - (total L : Int)) := by omega
  clear e hm
  go_enter Try.func12, Try.ntmps12
  go_wp2_with fail
  refine (find_any h _ b H.out (by omega)).mono ?_
  rw [E.out]
  rintro e w' ⟨rfl, k, rfl⟩
  go_wp2_with fail
  go_quiet (fail)
  go_wp2_with fail
  obtain ⟨W, hW⟩ : ∃ W, W = (w.drewN k).drewN nq := ⟨_, rfl⟩
  rw [← hW]
  have kW : Keeps O w W := by rw [hW]; exact ((Keeps.refl O w).drewN k).drewN nq
  have hS : StockAt W O p lim L lv m vs := h.keep (((Keeps.refl (fun _ => False) w).drewN k).drewN nq |> fun x => hW ▸ x) (fun _ _ => id)
  have HB : BytesW W (.slice a b.length cap) b := by rw [hW]; exact H.out
  clear c0 c1 c2 c3 hW
  have c2 := hS.c2
  have c3 := hS.c3
  obtain ⟨la, lcap, hlv, _⟩ := (RowAt.of_owns hS.row).shape
  have hvs : vs.length = L.length := by have := hS.row.1; omega
  rw [hvs] at hlv
  have hmb : lv.ownBlock ≠ some m := fun e => by
    obtain ⟨es, cl, h2, _⟩ := hS.map
    rcases hS.row.2 with ⟨h3, _⟩ | ⟨g, _, _, h3, _, h4, _⟩
    · rw [h3] at e; cases e
    · rw [h3] at e; cases e; rw [h2] at h4; cases h4
  have hpl : lv.ownBlock ≠ some p := fun e => by
    have h2 := hS.cell
    rcases hS.row.2 with ⟨h3, _⟩ | ⟨g, _, _, h3, _, h4, _⟩
    · rw [h3] at e; cases e
    · rw [h3] at e; cases e; rw [h2] at h4; cases h4
  rw [hlv] at c2
  have hconv : (convert 28 9 (.slice a b.length cap)).run Try.prog W.drew = .ok (.string ⟨b.toArray⟩) W.drew := run_string_ofW W.drew 28 5 Try.underlying28 Try.underlying5 HB 9 Try.underlying9
  have hkey : keyOf Try.prog 9 (.string ⟨b.toArray⟩) = some (.string b) := keyOf_string_mk Try.underlying9 (by simp [ByteArray.size, maxLen]; omega)
  have HK := Lib.hid hkey
  have HLV := Lib.hid hlv
  have HVS := Lib.hid hvs
  clear hkey hlv hvs
  go_still_tail 11, (by kernel_rfl)
  change wpList _ _ _ _ _ W.drew
  go_wp2_with (at_mapUpdate; refine wpList_mapUpdate_own _ rfl _ _ _ 57 rfl 9 3 keyed9 Try.underlying57 _ m L.length _ rfl hS.map.drew (by unfold maxLen; have := hS.count; omega) _ _ _ rfl rfl HK.out _ [] (plainElem_int Try.underlying3 (WalkArith.wf_i64 (by have := hS.count; omega))) ?_)
  intro W1 hmap hg1
  have k1 : Keeps O w W1 := kW.drew.trans' (Keeps.of_grown hg1 (fun k e => by cases e; exact hS.ownM))
  have pl := hS.lt
  have hpm : p ≠ m := fun e => by
    have h1 := hS.cell
    obtain ⟨es, cl, h2, _⟩ := hS.map
    rw [e, h2] at h1
    cases h1
  have cell1 : W1.heap[p]? = some (.cells #[.int .i64 lim, .int .i64 (total L), lv, .map (some m)] 59 (0, 0)) := (hg1.block p pl (fun e => hpm (by cases e; rfl))).trans hS.cell
  have row1 : W1.ownsRow 0 28 1 lv L.length vs := owns_kept hS.row fun k e hk => hg1.block k hk (fun e' => hmb (e.trans e'))
  have pl1 : p < W1.heap.size := Nat.lt_of_lt_of_le pl hg1.size
  have d2 : W1.cell? ⟨p, 2, none⟩ = some lv := by rw [cell_of_row W1 p 2 _ _ _ cell1]; rfl
  have f2 := frozen_of_row W1 p 2 _ _ cell1
  have HB1 : BytesW W1 (.slice a b.length cap) b := H.out.keeps k1 hvO
  obtain ⟨i0, hi, hz0, hz1, hz2⟩ := info_parts info28
  have hcnt := hS.count
  have B1 : Hid (L.length + 1 ≤ maxLen) := by show L.length + 1 ≤ maxLen; unfold maxLen; omega
  have B2 : Hid ((L.length + 1) * 24 ≤ 140737488355328) := by show (L.length + 1) * 24 ≤ _; omega
  have HROW := Lib.hid row1
  have hM := Lib.hid hmap
  have HG1 := Lib.hid hg1
  have HC1 := Lib.hid cell1
  have HMB := Lib.hid hmb
  have HPL := Lib.hid hpl
  clear hmap hg1 cell1 c2 c3 hconv row1 hmb hpl
  have HPL' : Hid ((Value.slice la L.length lcap).ownBlock ≠ some p) := by rw [← HLV.out]; exact HPL.out
  go_wp2_with fail
  rw [HLV.out] at d2
  have HB1d : BytesW W1.drew (.slice a b.length cap) b := HB1
  go_region_law (first | (refine step_append_lies _ (by rfl) _ _ _ (by rfl) 0 28 i0 _ 1 24 Try.underlying36 hi hz0 hz1 hz2 rfl (by omega) _ L.length vs (by rfl) ((row_at HLV.out HROW.out hb2).alloc _) ⟨w2.heap.size, 0, none⟩ 1 1 [.slice va b.length vc] (by rfl) (by rfl) (World.news_of_block (cs := #[.slice va b.length vc]) (t := 28) (fr := (0, 0)) (heap_alloc_new w2 _)) (one_of hF) (by omega) B1.out B2.out (by simp) (w2.heap.size + 1) (by simp) ?_; intro gg cap3 w3 hown3 hgrow3 hat3 hlt3; go_must (have P3 := Lib.hid (p_after HC1.out hb2 hgrow3 HPL'.out); have c3b : w3.cell? ⟨p, 2, none⟩ = some lv := cell_at P3.out rfl; have c3c : w3.cell? ⟨p, 1, none⟩ = some (.int .i64 (total L)) := cell_at P3.out rfl; have f3b : w3.frozen? ⟨p, 2, none⟩ = false := frozen_of_row w3 p 2 _ _ P3.out; have f3c : w3.frozen? ⟨p, 1, none⟩ = false := frozen_of_row w3 p 1 _ _ P3.out)) | (go_simp; go_at_call 27; (with_reducible refine (copied_any _ b W1.drew HB1d (by omega)).mono ?_); rintro e w2 ⟨va, vc, rfl, hF, hb2⟩; have c2b : w2.cell? ⟨p, 2, none⟩ = some (.slice la L.length lcap) := cell_later hb2 d2; have pl2 : p < w2.heap.size := Nat.lt_of_lt_of_le pl1 hb2.size; have f2b : w2.frozen? ⟨p, 2, none⟩ = false := (hb2.frozen (p := ⟨p, 2, none⟩) pl1).trans f2))
  all_goals
    have zt : (total L : Int) + (b.length : Int) ≤ 65536 := by omega
    go_wp2
    go_ret2
    exact ⟨by simp, add_close hS kW HG1.out hM.out hb2 hF hown3 (HLV.out ▸ hgrow3) (HLV.out ▸ hat3) HPL.out HMB.out hpm P3.out HM.out hb hf rfl⟩
end Go.Proofs.Ythkjihfnphdfkaa
