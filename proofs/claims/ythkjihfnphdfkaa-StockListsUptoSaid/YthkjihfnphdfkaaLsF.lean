/- The document's Sum; what the law needs of lists. -/
import Derived.Test.YthkjihfnphdfkaaLsE
import Derived.Test.YthkjihfnphdfkaaSTake1
namespace Go.Proofs.Ythkjihfnphdfkaa
open Go.RowKit Go.Maps

theorem info53 : (Try.prog.info? 53).map (·.size) = some 32 := by kernel_rfl
set_option maxRecDepth 100000 in
set_option maxHeartbeats 800000 in
theorem rsum_any (v : Value) (b : Bs) (w : World) (hv : BytesW w v b) (hb : b.length ≤ 1000000000000) :
    Calls Try.prog 26 #[v] w fun e w' => e = .returned (.agg (Sha.shaOf b)) ∧ Below w.heap.size w w' := by
  obtain ⟨av, cv, hs, _⟩ := BytesW.shape hv
  subst hs
  have HV := Lib.hid hv
  clear hv
  go_enter Try.func26, Try.ntmps26
  go_upto_region 1 with (fail)
  have hbA : Below w.heap.size w (w.alloc (.cells (List.replicate 32 (.int .u8 0)).toArray 53 (0, 0))) := (Below.refl _ _).alloc (Nat.le_refl _) _
  have hrA := heap_alloc_new w (.cells (List.replicate 32 (.int .u8 0)).toArray 53 (0, 0))
  have hzA : (w.alloc (.cells (List.replicate 32 (.int .u8 0)).toArray 53 (0, 0))).heap.size = w.heap.size + 1 := by simp
  change Code.wp _ _ _ _ (w.alloc (.cells (List.replicate 32 (.int .u8 0)).toArray 53 (0, 0)))
  generalize (w.alloc (.cells (List.replicate 32 (.int .u8 0)).toArray 53 (0, 0))) = wA at hbA hrA hzA ⊢
  have HBA := Lib.hid hbA
  have HRA := Lib.hid hrA
  have HZA := Lib.hid hzA
  have HX := Lib.hid (Sha.refSHA_any _ b wA (HV.out.below hbA (Nat.le_refl _)) hb)
  clear hbA hrA hzA
  go_wp2_with fail
  refine HX.out.mono ?_
  rintro e w2 ⟨rfl, hb2⟩
  have hlt : w.heap.size < wA.heap.size := by have := HZA.out; omega
  have HRS : Hid (w2.heap[w.heap.size]? = some (.cells (List.replicate 32 (.int .u8 0)).toArray 53 (0, 0))) := (hb2.block _ hlt).trans HRA.out
  have HB2 : Hid (Below w.heap.size w w2) := HBA.out.trans (hb2.mono (by omega))
  have HSZ : Hid ((Try.prog.info? 53).map (·.size) = some (Sha.shaOf b).size) := by
    show _ = _
    rw [info53]
    have := sha_length b
    rw [Array.length_toList] at this
    rw [this]
  have HOLD : Hid ((List.replicate 32 (Value.int .u8 0)).toArray.size = (Sha.shaOf b).size) := by
    show _ = _
    have := sha_length b
    rw [Array.length_toList] at this
    rw [this]
    rfl
  have HONE : Hid ((Sha.shaOf b).all (·.oneCell') = true) := by
    show _ = _
    rw [Array.all_eq_true_iff_forall_mem]
    exact fun u hu => sha_one b u (by simpa using hu)
  clear hb2 HX
  generalize hD : Sha.shaOf b = D at *
  have HD := Lib.hid hD
  clear hD
  go_wp2_with (refine Sha.wpList_store_row_to rfl 53 _ _ rfl w.heap.size D rfl rfl 53 _ HRS.out HSZ.out HOLD.out HONE.out ?_)
  intro wz hrz hbz
  go_wp2_with fail
  (try simp only [Exit.inBlock, Exit.then])
  refine bodyPost_ret (results_cell_row rfl _ _ w.heap.size 53 D (0, 0) (.array 32 5) rfl hrz (by kernel_rfl) rfl HSZ.out) rfl ?_
  exact ⟨by rw [HD.out], HB2.out.trans (hbz _ (Nat.le_refl _))⟩

set_option maxHeartbeats 800000 in
theorem neq54 (ev : Operand → Value) (x y : Operand) (W : World) (dst : Option Tmp) (rt : TypeId) (pos : String) (after : Array Edge) (guard : Option (Nat × Bool)) (h : Sha.IsDig (ev x)) (he : ev x = ev y) :
    (execOp ev ⟨dst, .binOp .neq 54 x y 54, rt, pos, after, guard⟩).run Try.prog W = .ok (.value (.bool false)) W := by
  obtain ⟨L, hv, hl⟩ := h
  have h10 : (Op.equalIn 10000 54 (.agg (L.map Sha.b8).toArray) (.agg (L.map Sha.b8).toArray)).run Try.prog W = .ok true W := Sha.run_equalIn_dig 9998 L hl W
  unfold execOp
  simp only [← he, hv]
  generalize (L.map Sha.b8).toArray = D at *
  go_simp

/-- How much the first k parts weigh in the law's own count. -/
def wt : List Bs → Nat → Nat
  | [], _ => 0
  | _, 0 => 0
  | b :: l, k + 1 => b.length + 1 + wt l k
theorem wt_zero (l : List Bs) : wt l 0 = 0 := by cases l <;> rfl
theorem wt_succ : ∀ (l : List Bs) (k : Nat) (h : k < l.length), wt l (k + 1) = wt l k + l[k].length + 1
  | [], k, h => by simp at h
  | b :: l, 0, _ => by simp [wt, wt_zero]
  | b :: l, k + 1, h => by
    have := wt_succ l k (by simpa using h)
    simp only [wt, this, List.getElem_cons_succ]
    omega
theorem wt_mono (l : List Bs) : ∀ (j k : Nat), k + j ≤ l.length → wt l k ≤ wt l (k + j)
  | 0, _, _ => Nat.le_refl _
  | j + 1, k, h => by
    have := wt_mono l j k (by omega)
    rw [← Nat.add_assoc, wt_succ l (k + j) (by omega)]
    omega
theorem wt_many (l : List Bs) : ∀ k, k ≤ l.length → k ≤ wt l k
  | 0, _ => Nat.zero_le _
  | k + 1, h => by
    have := wt_many l k (by omega)
    rw [wt_succ l k (by omega)]
    omega
theorem wt_each (l : List Bs) (j : Nat) (hj : j < l.length) : l[j].length ≤ wt l l.length := by
  have h1 := wt_succ l j hj
  have h2 := wt_mono l (l.length - (j + 1)) (j + 1) (by omega)
  rw [show j + 1 + (l.length - (j + 1)) = l.length by omega] at h2
  omega

theorem choose_list {α : Type} {n : Nat} {p : Nat → α → Prop} (h : ∀ i, i < n → ∃ x, p i x) : ∃ l : List α, l.length = n ∧ ∀ i (hi : i < l.length), p i l[i] := by
  induction n with
  | zero => exact ⟨[], rfl, fun i hi => by simp at hi⟩
  | succ n ih =>
    obtain ⟨l, h1, h2⟩ := ih (fun i hi => h i (by omega))
    obtain ⟨x, hx⟩ := h n (by omega)
    refine ⟨l ++ [x], by simp [h1], fun i hi => ?_⟩
    by_cases hlt : i < l.length
    · rw [List.getElem_append_left hlt]; exact h2 i hlt
    · have : i = l.length := by simp at hi; omega
      subst this
      rw [List.getElem_append_right (by omega)]
      simpa [h1] using hx
theorem lens_of {w : World} {g off cap : Nat} {bss : List Bs} (hc : bss.length ≤ cap) (h : ∀ i (hi : i < bss.length), ∃ a c, w.cell? ⟨g, off + i, none⟩ = some (.slice a bss[i].length c) ∧ bss[i].length ≤ maxLen) : Lens w (.slice (some ⟨g, off, none⟩) bss.length cap) (lensOf bss) := by
  obtain ⟨vs, h1, h2⟩ := choose_list (n := bss.length) (p := fun i v => ∃ (hi : i < bss.length) (a : Option Addr) (c : Nat), v = Value.slice a bss[i].length c ∧ w.cell? ⟨g, off + i, none⟩ = some v ∧ bss[i].length ≤ maxLen) (fun i hi => by
    obtain ⟨a, c, h3, h4⟩ := h i hi
    exact ⟨_, hi, a, c, rfl, h3, h4⟩)
  refine ⟨vs, .inr ⟨g, off, cap, by rw [h1], by omega, fun i u hi => ?_⟩, by simp [lensOf, h1], fun i n hi => ?_⟩
  · obtain ⟨hlt, rfl⟩ := List.getElem?_eq_some_iff.1 hi
    obtain ⟨_, _, _, _, h5, _⟩ := h2 i hlt
    exact h5
  · simp only [lensOf, List.getElem?_map, Option.map_eq_some_iff] at hi
    obtain ⟨b, hb, rfl⟩ := hi
    obtain ⟨hlt, rfl⟩ := List.getElem?_eq_some_iff.1 hb
    obtain ⟨_, a, c, h4, _, h6⟩ := h2 i (by omega)
    exact ⟨a, c, by rw [List.getElem?_eq_getElem (by omega), h4], h6⟩
theorem LentL.lens {w : World} {B g cap : Nat} {bss : List Bs} (h : LentL w B g cap bss) (hm : ∀ j (h : j < bss.length), bss[j].length ≤ 90000) : Lens w (.slice (some ⟨g, 0, none⟩) bss.length cap) (lensOf bss) := by
  obtain ⟨h1, _, h3, _⟩ := h
  refine lens_of (by omega) fun i hi => ?_
  obtain ⟨e, c, h4, _⟩ := h3 i hi
  have := hm i hi
  exact ⟨_, c, by simpa using h4, by unfold maxLen; omega⟩
theorem RowsW.lens {w : World} {v : Value} {bss : List Bs} (h : RowsW w v bss) (hm : ∀ j (h : j < bss.length), bss[j].length ≤ 90000) : Lens w v (lensOf bss) := by
  rcases h with ⟨rfl, rfl⟩ | ⟨b, off, cap, rfl, h1, _, h3⟩
  · exact ⟨[], .inl ⟨rfl, rfl⟩, rfl, fun i n h => by simp [lensOf] at h⟩
  · refine lens_of h1 fun i hi => ?_
    obtain ⟨u, h4, h5, _⟩ := h3 i hi
    obtain ⟨a, c, rfl, _⟩ := h5.shape
    have := hm i hi
    exact ⟨a, c, h4, by unfold maxLen; omega⟩
theorem checkL_two (lf : Nat) (l : List Nat) : checkL lf l = 0 ∨ checkL lf l = 2 := by
  induction l generalizing lf with
  | nil => exact .inl rfl
  | cons n r ih =>
    unfold checkL
    split
    · exact .inr rfl
    · exact ih _

/-- The digests in memory. -/
theorem digs_at {w : World} {B gd cd : Nat} {bss : List Bs} (h : w.ownsRow B 54 32 (.slice (some ⟨gd, 0, none⟩) bss.length cd) bss.length (digsOf bss)) (k : Nat) (hk : k < bss.length) : w.rangeAt gd (32 * k) (Sha.shaOf bss[k]).toList := by
  intro j v hj
  obtain ⟨hl, h | ⟨g, cap, cur, hs, _, hg, hn, _, hsz, ht⟩⟩ := h
  · cases h.1
  · cases hs
    have hj32 : j < 32 := by have := (List.getElem?_eq_some_iff.1 hj).1; rw [sha_length] at this; exact this
    rw [cell_of_row w gd (32 * k + j) cur 54 (0, 0) hg]
    rw [← digsOf_at bss k hk j hj32, ← ht, List.getElem?_take] at hj
    split at hj
    · simpa using hj
    · cases hj
theorem rangeAt_below {w w' : World} {g o : Nat} {cs : List Value} (h : w.rangeAt g o cs) (hb : Below w.heap.size w w') : w'.rangeAt g o cs := fun j v hj => by
  have h1 := h j v hj
  exact (World.cell?_of_block (w := w) (hb.block g (World.block_lt_of_cell? _ _ h1))).trans h1
end Go.Proofs.Ythkjihfnphdfkaa
