/- TollEnds: the law's own walk. -/
import Derived.Test.YtndgmdmddoikjaaRef
import Derived.Deep.RegionHeld3
namespace Go.Proofs.Ytndgmdmddoikjaa
open Go.RowKit

def fo (n : Int) : Nat := floatOfInt .f64 n

set_option maxHeartbeats 400000 in
theorem make_any (b i : Int) (w : World) (hb : -1099511627776 ≤ b) (hb' : b ≤ 1099511627776) (hi : -1099511627776 ≤ i) (hi' : i ≤ 1099511627776) :
    Calls Try.prog 5 #[.int .i64 b, .int .i64 i] w fun e w' => e = ansV (fo b, fo i, 0) ∧ w = w' := by
  unfold fo
  go_enter Try.func5, Try.ntmps5
  go_wp2
  go_ret2
  exact ⟨rfl, rfl⟩

theorem below_step {w a b : World} (h : Below w.heap.size w a) (hb : Below a.heap.size a b) : Below w.heap.size w b := h.trans (hb.mono h.size)
theorem good_below (B I : Int) (w : World) : Calls Try.prog 12 #[.agg #[.int .i64 B, .int .i64 I]] w fun e w' => e = .returned (.bool (fairV B && fairV I)) ∧ Below w.heap.size w w' :=
  (good_any B I w).mono fun e w' ⟨he, x, hw⟩ => ⟨he, by subst hw; exact (Below.refl _ _).alloc (Nat.le_refl _) _⟩

def endsV (b i n : Int) : Bool :=
  match sumV .add (fo b) (fo i) (fo n) 0, sumV .sub (fo b) (fo i) 0 (fo n), timesV (fo b) (fo i) n with
  | some u, some v, some x => toldLawV u (b + n) i (fairV (b + n) && fairV i) && (toldLawV v b (i - n) (fairV b && fairV (i - n)) && toldLawV x (TMV b i n).1 (TMV b i n).2.1 (TMV b i n).2.2)
  | _, _, _ => false
theorem endsV_parts {b i n : Int} (h : endsV b i n = true) : ∃ u v x, sumV .add (fo b) (fo i) (fo n) 0 = some u ∧ sumV .sub (fo b) (fo i) 0 (fo n) = some v ∧ timesV (fo b) (fo i) n = some x ∧
    toldLawV u (b + n) i (fairV (b + n) && fairV i) = true ∧ toldLawV v b (i - n) (fairV b && fairV (i - n)) = true ∧ toldLawV x (TMV b i n).1 (TMV b i n).2.1 (TMV b i n).2.2 = true := by
  unfold endsV at h
  split at h
  · rename_i u v x h1 h2 h3
    simp only [Bool.and_eq_true] at h
    exact ⟨u, v, x, h1, h2, h3, h.1, h.2.1, h.2.2⟩
  · cases h
theorem ends_all : ∀ n : Fin 7, endsV 0 0 ((n.val : Int) - 3) = true ∧ endsV 0 (-1099511627776) ((n.val : Int) - 3) = true ∧ endsV 1099511627776 0 ((n.val : Int) - 3) = true ∧ endsV 1099511627776 (-1099511627776) ((n.val : Int) - 3) = true := by decide +kernel
theorem ends_at (n : Int) (h : -3 ≤ n) (h' : n ≤ 3) : endsV 0 0 n = true ∧ endsV 0 (-1099511627776) n = true ∧ endsV 1099511627776 0 n = true ∧ endsV 1099511627776 (-1099511627776) n = true := by
  have := ends_all ⟨(n + 3).toNat, by omega⟩
  have e : (((n + 3).toNat : Nat) : Int) - 3 = n := by omega
  simp only [e] at this
  exact this

set_option maxHeartbeats 500000 in
theorem ends_false_false (n : Int) (w : World) (h : -3 ≤ n) (h' : n ≤ 3) :
    Calls Try.prog 3 #[.bool false, .bool false, .int .i64 n] w fun e w' => e = .returned (.bool true) ∧ Below w.heap.size w w' := by
  obtain ⟨u, v, x, h1, h2, h3, h4, h5, h6⟩ := endsV_parts (ends_at n h h').1
  have H1 := Lib.hid h1
  have H2 := Lib.hid h2
  have H3 := Lib.hid h3
  rw [show (0 : Int) + n = n by omega] at h4
  have H4 := Lib.hid h4
  rw [show (0 : Int) - n = -n by omega] at h5
  have H5 := Lib.hid h5
  have H6 := Lib.hid h6
  clear h1 h2 h3 h4 h5 h6
  go_enter Try.func3, Try.ntmps3
  go_wp2_with fail
  refine (alive_any _).mono ?_
  rintro e w1 ⟨rfl, hb1⟩
  go_wp2_with fail
  refine (make_any _ _ _ (by omega) (by omega) (by omega) (by omega)).mono ?_
  rintro e w' ⟨rfl, rfl⟩
  unfold ansV
  go_wp2_with (go_at_call 6; go_in)
  refine (add_any _ _ _ _ _ _ H1.out).mono ?_
  rintro e w2 ⟨rfl, hb2⟩
  unfold ansV
  go_wp2_with fail
  refine (sub_any _ _ _ _ _ _ H2.out).mono ?_
  rintro e w3 ⟨rfl, hb3⟩
  unfold ansV
  go_wp2_with fail
  refine (times_any _ _ _ _ _ (by omega) (by omega) H3.out).mono ?_
  rintro e w4 ⟨rfl, hb4⟩
  unfold ansV
  go_wp2_with fail
  refine (Times_any _ _ _ _ (by omega) (by omega) (by omega) (by omega) (by omega) (by omega)).mono ?_
  rintro e w5 ⟨rfl, hb5⟩
  go_wp2_with fail
  obtain ⟨W, hW⟩ : ∃ W, W = w5.alloc (.cells #[.int .i64 (TMV 0 0 n).1, .int .i64 (TMV 0 0 n).2.1] 32) := ⟨_, rfl⟩
  rw [← hW]
  have b1 : Below w.heap.size w w4 := hb1.trans ((hb2.mono hb1.size).trans ((hb3.mono (Nat.le_trans hb1.size hb2.size)).trans (hb4.mono (Nat.le_trans hb1.size (Nat.le_trans hb2.size hb3.size)))))
  have s5 : w4.heap.size + 2 ≤ w5.heap.size := by have := hb5.size; simp only [World.size_alloc] at this; omega
  have bW : Below w.heap.size w W := by
    rw [hW]
    exact ((((b1.alloc b1.size _).alloc (by simp; have := b1.size; omega) _).trans (hb5.mono (by simp; have := b1.size; omega))).alloc (by have := b1.size; omega) _)
  have k1 : W.cell? ⟨w4.heap.size, 0, none⟩ = some (.int .i64 (n)) := by
    rw [hW, World.cell?_alloc_lt _ _ _ (by show w4.heap.size < _; omega), hb5.cell (by simp; omega)]; simp [go_sem]
  have k2 : W.cell? ⟨w4.heap.size, 1, none⟩ = some (.int .i64 0) := by
    rw [hW, World.cell?_alloc_lt _ _ _ (by show w4.heap.size < _; omega), hb5.cell (by simp; omega)]; simp [go_sem]
  have k3 : W.cell? ⟨w4.heap.size + 1, 0, none⟩ = some (.int .i64 0) := by
    rw [hW, World.cell?_alloc_lt _ _ _ (by show w4.heap.size + 1 < _; omega), hb5.cell (by simp)]; simp [go_sem]
  have k4 : W.cell? ⟨w4.heap.size + 1, 1, none⟩ = some (.int .i64 (-n)) := by
    rw [hW, World.cell?_alloc_lt _ _ _ (by show w4.heap.size + 1 < _; omega), hb5.cell (by simp)]; simp [go_sem]
  have k5 : W.cell? ⟨w5.heap.size, 0, none⟩ = some (.int .i64 (TMV 0 0 n).1) := by rw [hW]; simp [go_sem]
  have k6 : W.cell? ⟨w5.heap.size, 1, none⟩ = some (.int .i64 (TMV 0 0 n).2.1) := by rw [hW]; simp [go_sem]
  clear b1 hb1 hb2 hb3 hb4 hb5 hW
  go_region_held3 (fun W => W.cell? ⟨w4.heap.size, 0, none⟩ = some (.int .i64 (n)) ∧ W.cell? ⟨w4.heap.size, 1, none⟩ = some (.int .i64 0) ∧ W.cell? ⟨w4.heap.size + 1, 0, none⟩ = some (.int .i64 0) ∧ W.cell? ⟨w4.heap.size + 1, 1, none⟩ = some (.int .i64 (-n)) ∧ W.cell? ⟨w5.heap.size, 0, none⟩ = some (.int .i64 (TMV 0 0 n).1) ∧ W.cell? ⟨w5.heap.size, 1, none⟩ = some (.int .i64 (TMV 0 0 n).2.1) ∧ Below w.heap.size w W)
    (first | exact ⟨cell_later hb k1, cell_later hb k2, cell_later hb k3, cell_later hb k4, cell_later hb k5, cell_later hb k6, below_step bW.drew hb⟩ | (go_split_ands; exact ⟨cell_later hb (by assumption), cell_later hb (by assumption), cell_later hb (by assumption), cell_later hb (by assumption), cell_later hb (by assumption), cell_later hb (by assumption), below_step (by assumption) hb⟩) | exact ⟨k1, k2, k3, k4, k5, k6, bW.drew⟩ | go_keep)
    (first | (go_at_call 12; (with_reducible refine (good_below _ _ _).mono ?_); rintro e wn ⟨rfl, hb⟩) | (go_at_call 11; (with_reducible refine (toldLaw_any _ _ _ _ _ H4.out).mono ?_); clear H4; rintro e wn ⟨rfl, hb⟩) | (go_at_call 11; (with_reducible refine (toldLaw_any _ _ _ _ _ H5.out).mono ?_); clear H5; rintro e wn ⟨rfl, hb⟩) | (go_at_call 11; (with_reducible refine (toldLaw_any _ _ _ _ _ H6.out).mono ?_); clear H6; rintro e wn ⟨rfl, hb⟩))
  go_split_ands
  go_wp2
  go_ret
  exact ⟨rfl, by assumption⟩

set_option maxHeartbeats 500000 in
theorem ends_false_true (n : Int) (w : World) (h : -3 ≤ n) (h' : n ≤ 3) :
    Calls Try.prog 3 #[.bool false, .bool true, .int .i64 n] w fun e w' => e = .returned (.bool true) ∧ Below w.heap.size w w' := by
  obtain ⟨u, v, x, h1, h2, h3, h4, h5, h6⟩ := endsV_parts (ends_at n h h').2.1
  have H1 := Lib.hid h1
  have H2 := Lib.hid h2
  have H3 := Lib.hid h3
  rw [show (0 : Int) + n = n by omega] at h4
  have H4 := Lib.hid h4
  have H5 := Lib.hid h5
  have H6 := Lib.hid h6
  clear h1 h2 h3 h4 h5 h6
  go_enter Try.func3, Try.ntmps3
  go_wp2_with fail
  refine (alive_any _).mono ?_
  rintro e w1 ⟨rfl, hb1⟩
  go_wp2_with fail
  refine (make_any _ _ _ (by omega) (by omega) (by omega) (by omega)).mono ?_
  rintro e w' ⟨rfl, rfl⟩
  unfold ansV
  go_wp2_with (go_at_call 6; go_in)
  refine (add_any _ _ _ _ _ _ H1.out).mono ?_
  rintro e w2 ⟨rfl, hb2⟩
  unfold ansV
  go_wp2_with fail
  refine (sub_any _ _ _ _ _ _ H2.out).mono ?_
  rintro e w3 ⟨rfl, hb3⟩
  unfold ansV
  go_wp2_with fail
  refine (times_any _ _ _ _ _ (by omega) (by omega) H3.out).mono ?_
  rintro e w4 ⟨rfl, hb4⟩
  unfold ansV
  go_wp2_with fail
  refine (Times_any _ _ _ _ (by omega) (by omega) (by omega) (by omega) (by omega) (by omega)).mono ?_
  rintro e w5 ⟨rfl, hb5⟩
  go_wp2_with fail
  obtain ⟨W, hW⟩ : ∃ W, W = w5.alloc (.cells #[.int .i64 (TMV 0 (-1099511627776) n).1, .int .i64 (TMV 0 (-1099511627776) n).2.1] 32) := ⟨_, rfl⟩
  rw [← hW]
  have b1 : Below w.heap.size w w4 := hb1.trans ((hb2.mono hb1.size).trans ((hb3.mono (Nat.le_trans hb1.size hb2.size)).trans (hb4.mono (Nat.le_trans hb1.size (Nat.le_trans hb2.size hb3.size)))))
  have s5 : w4.heap.size + 2 ≤ w5.heap.size := by have := hb5.size; simp only [World.size_alloc] at this; omega
  have bW : Below w.heap.size w W := by
    rw [hW]
    exact ((((b1.alloc b1.size _).alloc (by simp; have := b1.size; omega) _).trans (hb5.mono (by simp; have := b1.size; omega))).alloc (by have := b1.size; omega) _)
  have k1 : W.cell? ⟨w4.heap.size, 0, none⟩ = some (.int .i64 (n)) := by
    rw [hW, World.cell?_alloc_lt _ _ _ (by show w4.heap.size < _; omega), hb5.cell (by simp; omega)]; simp [go_sem]
  have k2 : W.cell? ⟨w4.heap.size, 1, none⟩ = some (.int .i64 (-1099511627776)) := by
    rw [hW, World.cell?_alloc_lt _ _ _ (by show w4.heap.size < _; omega), hb5.cell (by simp; omega)]; simp [go_sem]
  have k3 : W.cell? ⟨w4.heap.size + 1, 0, none⟩ = some (.int .i64 0) := by
    rw [hW, World.cell?_alloc_lt _ _ _ (by show w4.heap.size + 1 < _; omega), hb5.cell (by simp)]; simp [go_sem]
  have k4 : W.cell? ⟨w4.heap.size + 1, 1, none⟩ = some (.int .i64 (-1099511627776 - n)) := by
    rw [hW, World.cell?_alloc_lt _ _ _ (by show w4.heap.size + 1 < _; omega), hb5.cell (by simp)]; simp [go_sem]
  have k5 : W.cell? ⟨w5.heap.size, 0, none⟩ = some (.int .i64 (TMV 0 (-1099511627776) n).1) := by rw [hW]; simp [go_sem]
  have k6 : W.cell? ⟨w5.heap.size, 1, none⟩ = some (.int .i64 (TMV 0 (-1099511627776) n).2.1) := by rw [hW]; simp [go_sem]
  clear b1 hb1 hb2 hb3 hb4 hb5 hW
  go_region_held3 (fun W => W.cell? ⟨w4.heap.size, 0, none⟩ = some (.int .i64 (n)) ∧ W.cell? ⟨w4.heap.size, 1, none⟩ = some (.int .i64 (-1099511627776)) ∧ W.cell? ⟨w4.heap.size + 1, 0, none⟩ = some (.int .i64 0) ∧ W.cell? ⟨w4.heap.size + 1, 1, none⟩ = some (.int .i64 (-1099511627776 - n)) ∧ W.cell? ⟨w5.heap.size, 0, none⟩ = some (.int .i64 (TMV 0 (-1099511627776) n).1) ∧ W.cell? ⟨w5.heap.size, 1, none⟩ = some (.int .i64 (TMV 0 (-1099511627776) n).2.1) ∧ Below w.heap.size w W)
    (first | exact ⟨cell_later hb k1, cell_later hb k2, cell_later hb k3, cell_later hb k4, cell_later hb k5, cell_later hb k6, below_step bW.drew hb⟩ | (go_split_ands; exact ⟨cell_later hb (by assumption), cell_later hb (by assumption), cell_later hb (by assumption), cell_later hb (by assumption), cell_later hb (by assumption), cell_later hb (by assumption), below_step (by assumption) hb⟩) | exact ⟨k1, k2, k3, k4, k5, k6, bW.drew⟩ | go_keep)
    (first | (go_at_call 12; (with_reducible refine (good_below _ _ _).mono ?_); rintro e wn ⟨rfl, hb⟩) | (go_at_call 11; (with_reducible refine (toldLaw_any _ _ _ _ _ H4.out).mono ?_); clear H4; rintro e wn ⟨rfl, hb⟩) | (go_at_call 11; (with_reducible refine (toldLaw_any _ _ _ _ _ H5.out).mono ?_); clear H5; rintro e wn ⟨rfl, hb⟩) | (go_at_call 11; (with_reducible refine (toldLaw_any _ _ _ _ _ H6.out).mono ?_); clear H6; rintro e wn ⟨rfl, hb⟩))
  go_split_ands
  go_wp2
  go_ret
  exact ⟨rfl, by assumption⟩

set_option maxHeartbeats 500000 in
theorem ends_true_false (n : Int) (w : World) (h : -3 ≤ n) (h' : n ≤ 3) :
    Calls Try.prog 3 #[.bool true, .bool false, .int .i64 n] w fun e w' => e = .returned (.bool true) ∧ Below w.heap.size w w' := by
  obtain ⟨u, v, x, h1, h2, h3, h4, h5, h6⟩ := endsV_parts (ends_at n h h').2.2.1
  have H1 := Lib.hid h1
  have H2 := Lib.hid h2
  have H3 := Lib.hid h3
  have H4 := Lib.hid h4
  rw [show (0 : Int) - n = -n by omega] at h5
  have H5 := Lib.hid h5
  have H6 := Lib.hid h6
  clear h1 h2 h3 h4 h5 h6
  go_enter Try.func3, Try.ntmps3
  go_wp2_with fail
  refine (alive_any _).mono ?_
  rintro e w1 ⟨rfl, hb1⟩
  go_wp2_with fail
  refine (make_any _ _ _ (by omega) (by omega) (by omega) (by omega)).mono ?_
  rintro e w' ⟨rfl, rfl⟩
  unfold ansV
  go_wp2_with (go_at_call 6; go_in)
  refine (add_any _ _ _ _ _ _ H1.out).mono ?_
  rintro e w2 ⟨rfl, hb2⟩
  unfold ansV
  go_wp2_with fail
  refine (sub_any _ _ _ _ _ _ H2.out).mono ?_
  rintro e w3 ⟨rfl, hb3⟩
  unfold ansV
  go_wp2_with fail
  refine (times_any _ _ _ _ _ (by omega) (by omega) H3.out).mono ?_
  rintro e w4 ⟨rfl, hb4⟩
  unfold ansV
  go_wp2_with fail
  refine (Times_any _ _ _ _ (by omega) (by omega) (by omega) (by omega) (by omega) (by omega)).mono ?_
  rintro e w5 ⟨rfl, hb5⟩
  go_wp2_with fail
  obtain ⟨W, hW⟩ : ∃ W, W = w5.alloc (.cells #[.int .i64 (TMV 1099511627776 0 n).1, .int .i64 (TMV 1099511627776 0 n).2.1] 32) := ⟨_, rfl⟩
  rw [← hW]
  have b1 : Below w.heap.size w w4 := hb1.trans ((hb2.mono hb1.size).trans ((hb3.mono (Nat.le_trans hb1.size hb2.size)).trans (hb4.mono (Nat.le_trans hb1.size (Nat.le_trans hb2.size hb3.size)))))
  have s5 : w4.heap.size + 2 ≤ w5.heap.size := by have := hb5.size; simp only [World.size_alloc] at this; omega
  have bW : Below w.heap.size w W := by
    rw [hW]
    exact ((((b1.alloc b1.size _).alloc (by simp; have := b1.size; omega) _).trans (hb5.mono (by simp; have := b1.size; omega))).alloc (by have := b1.size; omega) _)
  have k1 : W.cell? ⟨w4.heap.size, 0, none⟩ = some (.int .i64 (1099511627776 + n)) := by
    rw [hW, World.cell?_alloc_lt _ _ _ (by show w4.heap.size < _; omega), hb5.cell (by simp; omega)]; simp [go_sem]
  have k2 : W.cell? ⟨w4.heap.size, 1, none⟩ = some (.int .i64 0) := by
    rw [hW, World.cell?_alloc_lt _ _ _ (by show w4.heap.size < _; omega), hb5.cell (by simp; omega)]; simp [go_sem]
  have k3 : W.cell? ⟨w4.heap.size + 1, 0, none⟩ = some (.int .i64 1099511627776) := by
    rw [hW, World.cell?_alloc_lt _ _ _ (by show w4.heap.size + 1 < _; omega), hb5.cell (by simp)]; simp [go_sem]
  have k4 : W.cell? ⟨w4.heap.size + 1, 1, none⟩ = some (.int .i64 (-n)) := by
    rw [hW, World.cell?_alloc_lt _ _ _ (by show w4.heap.size + 1 < _; omega), hb5.cell (by simp)]; simp [go_sem]
  have k5 : W.cell? ⟨w5.heap.size, 0, none⟩ = some (.int .i64 (TMV 1099511627776 0 n).1) := by rw [hW]; simp [go_sem]
  have k6 : W.cell? ⟨w5.heap.size, 1, none⟩ = some (.int .i64 (TMV 1099511627776 0 n).2.1) := by rw [hW]; simp [go_sem]
  clear b1 hb1 hb2 hb3 hb4 hb5 hW
  go_region_held3 (fun W => W.cell? ⟨w4.heap.size, 0, none⟩ = some (.int .i64 (1099511627776 + n)) ∧ W.cell? ⟨w4.heap.size, 1, none⟩ = some (.int .i64 0) ∧ W.cell? ⟨w4.heap.size + 1, 0, none⟩ = some (.int .i64 1099511627776) ∧ W.cell? ⟨w4.heap.size + 1, 1, none⟩ = some (.int .i64 (-n)) ∧ W.cell? ⟨w5.heap.size, 0, none⟩ = some (.int .i64 (TMV 1099511627776 0 n).1) ∧ W.cell? ⟨w5.heap.size, 1, none⟩ = some (.int .i64 (TMV 1099511627776 0 n).2.1) ∧ Below w.heap.size w W)
    (first | exact ⟨cell_later hb k1, cell_later hb k2, cell_later hb k3, cell_later hb k4, cell_later hb k5, cell_later hb k6, below_step bW.drew hb⟩ | (go_split_ands; exact ⟨cell_later hb (by assumption), cell_later hb (by assumption), cell_later hb (by assumption), cell_later hb (by assumption), cell_later hb (by assumption), cell_later hb (by assumption), below_step (by assumption) hb⟩) | exact ⟨k1, k2, k3, k4, k5, k6, bW.drew⟩ | go_keep)
    (first | (go_at_call 12; (with_reducible refine (good_below _ _ _).mono ?_); rintro e wn ⟨rfl, hb⟩) | (go_at_call 11; (with_reducible refine (toldLaw_any _ _ _ _ _ H4.out).mono ?_); clear H4; rintro e wn ⟨rfl, hb⟩) | (go_at_call 11; (with_reducible refine (toldLaw_any _ _ _ _ _ H5.out).mono ?_); clear H5; rintro e wn ⟨rfl, hb⟩) | (go_at_call 11; (with_reducible refine (toldLaw_any _ _ _ _ _ H6.out).mono ?_); clear H6; rintro e wn ⟨rfl, hb⟩))
  go_split_ands
  go_wp2
  go_ret
  exact ⟨rfl, by assumption⟩

set_option maxHeartbeats 500000 in
theorem ends_true_true (n : Int) (w : World) (h : -3 ≤ n) (h' : n ≤ 3) :
    Calls Try.prog 3 #[.bool true, .bool true, .int .i64 n] w fun e w' => e = .returned (.bool true) ∧ Below w.heap.size w w' := by
  obtain ⟨u, v, x, h1, h2, h3, h4, h5, h6⟩ := endsV_parts (ends_at n h h').2.2.2
  have H1 := Lib.hid h1
  have H2 := Lib.hid h2
  have H3 := Lib.hid h3
  have H4 := Lib.hid h4
  have H5 := Lib.hid h5
  have H6 := Lib.hid h6
  clear h1 h2 h3 h4 h5 h6
  go_enter Try.func3, Try.ntmps3
  go_wp2_with fail
  refine (alive_any _).mono ?_
  rintro e w1 ⟨rfl, hb1⟩
  go_wp2_with fail
  refine (make_any _ _ _ (by omega) (by omega) (by omega) (by omega)).mono ?_
  rintro e w' ⟨rfl, rfl⟩
  unfold ansV
  go_wp2_with (go_at_call 6; go_in)
  refine (add_any _ _ _ _ _ _ H1.out).mono ?_
  rintro e w2 ⟨rfl, hb2⟩
  unfold ansV
  go_wp2_with fail
  refine (sub_any _ _ _ _ _ _ H2.out).mono ?_
  rintro e w3 ⟨rfl, hb3⟩
  unfold ansV
  go_wp2_with fail
  refine (times_any _ _ _ _ _ (by omega) (by omega) H3.out).mono ?_
  rintro e w4 ⟨rfl, hb4⟩
  unfold ansV
  go_wp2_with fail
  refine (Times_any _ _ _ _ (by omega) (by omega) (by omega) (by omega) (by omega) (by omega)).mono ?_
  rintro e w5 ⟨rfl, hb5⟩
  go_wp2_with fail
  obtain ⟨W, hW⟩ : ∃ W, W = w5.alloc (.cells #[.int .i64 (TMV 1099511627776 (-1099511627776) n).1, .int .i64 (TMV 1099511627776 (-1099511627776) n).2.1] 32) := ⟨_, rfl⟩
  rw [← hW]
  have b1 : Below w.heap.size w w4 := hb1.trans ((hb2.mono hb1.size).trans ((hb3.mono (Nat.le_trans hb1.size hb2.size)).trans (hb4.mono (Nat.le_trans hb1.size (Nat.le_trans hb2.size hb3.size)))))
  have s5 : w4.heap.size + 2 ≤ w5.heap.size := by have := hb5.size; simp only [World.size_alloc] at this; omega
  have bW : Below w.heap.size w W := by
    rw [hW]
    exact ((((b1.alloc b1.size _).alloc (by simp; have := b1.size; omega) _).trans (hb5.mono (by simp; have := b1.size; omega))).alloc (by have := b1.size; omega) _)
  have k1 : W.cell? ⟨w4.heap.size, 0, none⟩ = some (.int .i64 (1099511627776 + n)) := by
    rw [hW, World.cell?_alloc_lt _ _ _ (by show w4.heap.size < _; omega), hb5.cell (by simp; omega)]; simp [go_sem]
  have k2 : W.cell? ⟨w4.heap.size, 1, none⟩ = some (.int .i64 (-1099511627776)) := by
    rw [hW, World.cell?_alloc_lt _ _ _ (by show w4.heap.size < _; omega), hb5.cell (by simp; omega)]; simp [go_sem]
  have k3 : W.cell? ⟨w4.heap.size + 1, 0, none⟩ = some (.int .i64 1099511627776) := by
    rw [hW, World.cell?_alloc_lt _ _ _ (by show w4.heap.size + 1 < _; omega), hb5.cell (by simp)]; simp [go_sem]
  have k4 : W.cell? ⟨w4.heap.size + 1, 1, none⟩ = some (.int .i64 (-1099511627776 - n)) := by
    rw [hW, World.cell?_alloc_lt _ _ _ (by show w4.heap.size + 1 < _; omega), hb5.cell (by simp)]; simp [go_sem]
  have k5 : W.cell? ⟨w5.heap.size, 0, none⟩ = some (.int .i64 (TMV 1099511627776 (-1099511627776) n).1) := by rw [hW]; simp [go_sem]
  have k6 : W.cell? ⟨w5.heap.size, 1, none⟩ = some (.int .i64 (TMV 1099511627776 (-1099511627776) n).2.1) := by rw [hW]; simp [go_sem]
  clear b1 hb1 hb2 hb3 hb4 hb5 hW
  go_region_held3 (fun W => W.cell? ⟨w4.heap.size, 0, none⟩ = some (.int .i64 (1099511627776 + n)) ∧ W.cell? ⟨w4.heap.size, 1, none⟩ = some (.int .i64 (-1099511627776)) ∧ W.cell? ⟨w4.heap.size + 1, 0, none⟩ = some (.int .i64 1099511627776) ∧ W.cell? ⟨w4.heap.size + 1, 1, none⟩ = some (.int .i64 (-1099511627776 - n)) ∧ W.cell? ⟨w5.heap.size, 0, none⟩ = some (.int .i64 (TMV 1099511627776 (-1099511627776) n).1) ∧ W.cell? ⟨w5.heap.size, 1, none⟩ = some (.int .i64 (TMV 1099511627776 (-1099511627776) n).2.1) ∧ Below w.heap.size w W)
    (first | exact ⟨cell_later hb k1, cell_later hb k2, cell_later hb k3, cell_later hb k4, cell_later hb k5, cell_later hb k6, below_step bW.drew hb⟩ | (go_split_ands; exact ⟨cell_later hb (by assumption), cell_later hb (by assumption), cell_later hb (by assumption), cell_later hb (by assumption), cell_later hb (by assumption), cell_later hb (by assumption), below_step (by assumption) hb⟩) | exact ⟨k1, k2, k3, k4, k5, k6, bW.drew⟩ | go_keep)
    (first | (go_at_call 12; (with_reducible refine (good_below _ _ _).mono ?_); rintro e wn ⟨rfl, hb⟩) | (go_at_call 11; (with_reducible refine (toldLaw_any _ _ _ _ _ H4.out).mono ?_); clear H4; rintro e wn ⟨rfl, hb⟩) | (go_at_call 11; (with_reducible refine (toldLaw_any _ _ _ _ _ H5.out).mono ?_); clear H5; rintro e wn ⟨rfl, hb⟩) | (go_at_call 11; (with_reducible refine (toldLaw_any _ _ _ _ _ H6.out).mono ?_); clear H6; rintro e wn ⟨rfl, hb⟩))
  go_split_ands
  go_wp2
  go_ret
  exact ⟨rfl, by assumption⟩

set_option maxHeartbeats 400000 in
theorem ends_out (bl il : Bool) (n : Int) (w : World) (h : n < -3 ∨ 3 < n) :
    Calls Try.prog 3 #[.bool bl, .bool il, .int .i64 n] w fun e w' => e = .returned (.bool true) ∧ Below w.heap.size w w' := by
  rcases h with h | h
  all_goals
    go_enter Try.func3, Try.ntmps3
    go_wp2_with fail
    refine (alive_any _).mono ?_
    rintro e w1 ⟨rfl, hb1⟩
    go_wp2_with fail
    go_ret
    exact ⟨rfl, hb1⟩

theorem ends_walk (bl il : Bool) (n : Int) (w : World) :
    Calls Try.prog 3 #[.bool bl, .bool il, .int .i64 n] w fun e w' => e = .returned (.bool true) ∧ Below w.heap.size w w' := by
  by_cases h : -3 ≤ n ∧ n ≤ 3
  · cases bl <;> cases il
    · exact ends_false_false n w h.1 h.2
    · exact ends_false_true n w h.1 h.2
    · exact ends_true_false n w h.1 h.2
    · exact ends_true_true n w h.1 h.2
  · exact ends_out bl il n w (by omega)

end Go.Proofs.Ytndgmdmddoikjaa
