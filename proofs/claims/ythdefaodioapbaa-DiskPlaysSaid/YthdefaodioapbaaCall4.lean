/- call of Fuse, of Write of another length, of nothing; whatever comes. -/
import Derived.Test.YthdefaodioapbaaCall3
import Derived.Test.YthdefaodioapbaaOpsD
import Derived.Test.YthdefaodioapbaaOne
namespace Go.Proofs.Ythdefaodioapbaa
open Go.RowKit

variable {w w' : World} {B : Nat} {X : Nat → Prop} {l : List (Bool × Nat × DS)} {p q : Nat} {d : DS}
attribute [local irreducible] zA blk

theorem and1023 (a : Int) : 0 ≤ bits .and .i64 a 1023 ∧ bits .and .i64 a 1023 ≤ 1023 := by
  have h7 : (BitVec.ofInt IntKind.i64.bits 1023).toNat = 1023 := by decide
  have hle : (BitVec.ofInt IntKind.i64.bits a &&& BitVec.ofInt IntKind.i64.bits 1023).toNat ≤ 1023 := by
    rw [BitVec.toNat_and, h7]
    exact Nat.and_le_right
  have key : ∀ v : Nat, v ≤ 1023 → 0 ≤ IntKind.i64.wrap (v : Int) ∧ IntKind.i64.wrap (v : Int) ≤ 1023 := by
    intro v hv
    have : IntKind.i64.wrap (v : Int) = (v : Int) := IntWalk.i64_in _ (by omega)
    omega
  exact key _ hle

set_option maxHeartbeats 2000000 in
set_option maxRecDepth 100000 in
theorem call3 (h : DisksX w B X ((false, p, d) :: (true, q, d) :: l)) (hB : B ≤ w.heap.size) (a b : Int) (ka : Option Addr) (kn kc : Nat) :
    Calls Try.prog 27 #[.pointer (some ⟨p, 0, none⟩), .pointer (some ⟨q, 0, none⟩), .agg #[.int .i64 3, .int .i64 a, .int .i64 b, .slice ka kn kc]] w fun e w' => e = .returned (.bool true) ∧ DisksX w' B X ((false, p, d.fu a) :: (true, q, d.fu a) :: l) ∧ Keeps (fun j => B ≤ j ∧ ¬ X j) w w' := by
  obtain ⟨W1, hW1⟩ : ∃ W1, W1 = w.alloc (.cells #[.int .i64 3, .int .i64 a, .int .i64 b, .slice ka kn kc] 51) := ⟨_, rfl⟩
  have hb1 : Below w.heap.size w W1 := by rw [hW1]; exact (Below.refl _ _).alloc (Nat.le_refl _) _
  have hr1 : W1.heap[w.heap.size]? = some (.cells #[.int .i64 3, .int .i64 a, .int .i64 b, .slice ka kn kc] 51 (0, 0)) := by rw [hW1]; exact heap_alloc_new w _
  have e0 : W1.cell? ⟨w.heap.size, 0, none⟩ = some (.int .i64 3) := by rw [cell_of_row _ _ _ _ _ _ hr1]; rfl
  have e1 : W1.cell? ⟨w.heap.size, 1, none⟩ = some (.int .i64 a) := by rw [cell_of_row _ _ _ _ _ _ hr1]; rfl
  have HW1 := Lib.hid hW1
  have HB1 := Lib.hid hb1
  have H1 := Lib.hid ((h.more hB hb1).below (w' := W1.drew) (Below.refl _ _).drew)
  have HR1 := Lib.hid hr1
  have HZ1 : Hid (B ≤ W1.heap.size) := Nat.le_trans hB hb1.size
  have HXop : Hid (X w.heap.size ∨ NewIn w W1 w.heap.size) := .inr ⟨Nat.le_refl _, (Array.getElem?_eq_some_iff.1 hr1).1⟩
  clear hW1 hb1 hr1 h
  go_enter Try.func27, Try.ntmps27
  go_wp2_with (refine wpList_box_to rfl 51 _ rfl ?_; change wpList _ _ _ _ _ (w.alloc (.cells #[.int .i64 3, .int .i64 a, .int .i64 b, .slice ka kn kc] 51)); rw [← HW1.out])
  refine wp_region_noPanic ?_
  refine wp_region_ordL 10 [10] [0, 1, 2, 5, 6, 7, 3, 4, 8, 9, 10] (fun W => W.cell? ⟨w.heap.size, 1, none⟩ = some (.int .i64 a)) (by kernel_rfl) (by kernel_rfl) rfl (by kernel_rfl) (fun _ _ _ _ _ h => h) e1 ?_
  repeat (apply heldL_run rfl (by rfl) (by rfl); (intro w hSw; go_simp; with_reducible rfl); (try simp only [Act.put, List.setIfInBounds_toArray, List.set_cons_zero, List.set_cons_succ]))
  refine heldL_step rfl (by rfl) (by rfl) (fun K hK => ?_)
  go_simp
  change Calls _ _ _ W1.drew _
  refine (dFuse H1.out HZ1.out a).mono ?_
  rintro e W2 ⟨rfl, h2, hk2⟩
  have HR2 : Hid (W2.heap[w.heap.size]? = some (.cells #[.int .i64 3, .int .i64 a, .int .i64 b, .slice ka kn kc] 51 (0, 0))) := (hk2.block _ (Array.getElem?_eq_some_iff.1 HR1.out).1 (fun e => e.2 HXop.out)).trans HR1.out
  have e1' : W2.cell? ⟨w.heap.size, 1, none⟩ = some (.int .i64 a) := by rw [cell_of_row _ _ _ _ _ _ HR2.out]; rfl
  have H2 := Lib.hid h2.two
  have HZ2 : Hid (B ≤ W2.heap.size) := Nat.le_trans HZ1.out hk2.size
  have HK2 : Hid (Keeps (fun j => B ≤ j ∧ ¬ X j) w W2) := ((Keeps.of_below HB1.out).drew).trans' (hk2.mono (fun _ _ e => ⟨e.1, fun e' => e.2 (.inl e')⟩))
  have HF := Lib.hid (rFuse H2.out HZ2.out a)
  clear h2 hk2 e1 e0
  generalize hE : d.fuE a = E at *
  clear hE
  refine hK.out _ _ (.inr e1') ?_
  clear hK K
  (try simp only [Act.put, List.setIfInBounds_toArray, List.set_cons_zero, List.set_cons_succ])
  repeat (apply heldL_run rfl (by rfl) (by rfl); (intro w hSw; go_simp; with_reducible rfl); (try simp only [Act.put, List.setIfInBounds_toArray, List.set_cons_zero, List.set_cons_succ]))
  refine heldL_step rfl (by rfl) (by rfl) (fun K hK => ?_)
  go_simp
  refine (num_any _ _).mono ?_
  rintro e w9 ⟨rfl, rfl⟩
  refine hK.out _ _ (.inr e1') ?_
  clear hK K
  (try simp only [Act.put, List.setIfInBounds_toArray, List.set_cons_zero, List.set_cons_succ])
  repeat (apply heldL_run rfl (by rfl) (by rfl); (intro w hSw; go_simp; with_reducible rfl); (try simp only [Act.put, List.setIfInBounds_toArray, List.set_cons_zero, List.set_cons_succ]))
  refine heldL_step rfl (by rfl) (by rfl) (fun K hK => ?_)
  go_simp
  refine (HF.out).mono ?_
  rintro e W3 ⟨rfl, h3, hk3⟩
  have HR3 : Hid (W3.heap[w.heap.size]? = some (.cells #[.int .i64 3, .int .i64 a, .int .i64 b, .slice ka kn kc] 51 (0, 0))) := (hk3.block _ (Array.getElem?_eq_some_iff.1 HR2.out).1 (fun e => e.2 HXop.out)).trans HR2.out
  have e1'' : W3.cell? ⟨w.heap.size, 1, none⟩ = some (.int .i64 a) := by rw [cell_of_row _ _ _ _ _ _ HR3.out]; rfl
  have H3 := Lib.hid (h3.two.less (fun _ => .inl))
  have HK3 : Hid (Keeps (fun j => B ≤ j ∧ ¬ X j) w W3) := HK2.out.trans' (hk3.mono (fun _ _ e => ⟨e.1, fun e' => e.2 (.inl e')⟩))
  clear h3 hk3
  refine hK.out _ _ (.inr e1'') ?_
  clear hK K
  (try simp only [Act.put, List.setIfInBounds_toArray, List.set_cons_zero, List.set_cons_succ])
  repeat (apply heldL_run rfl (by rfl) (by rfl); (intro w hSw; go_simp; with_reducible rfl); (try simp only [Act.put, List.setIfInBounds_toArray, List.set_cons_zero, List.set_cons_succ]))
  refine heldL_step rfl (by rfl) (by rfl) (fun K hK => ?_)
  go_simp
  refine hK.out _ _ (.inl rfl) ?_
  clear hK K
  (try simp only [Act.put, List.setIfInBounds_toArray, List.set_cons_zero, List.set_cons_succ])
  refine heldL_nil (NoPanic.normal ?_)
  go_wp2_with fail
  go_ret
  exact ⟨by simp, H3.out, HK3.out⟩

set_option maxHeartbeats 2000000 in
set_option maxRecDepth 100000 in
theorem call5 (h : DisksX w B X ((false, p, d) :: (true, q, d) :: l)) (hB : B ≤ w.heap.size) (hg : d.Good) (a b : Int) (ka : Option Addr) (kn kc : Nat) :
    Calls Try.prog 27 #[.pointer (some ⟨p, 0, none⟩), .pointer (some ⟨q, 0, none⟩), .agg #[.int .i64 5, .int .i64 a, .int .i64 b, .slice ka kn kc]] w fun e w' => e = .returned (.bool true) ∧ (∃ x, DisksX w' B X ((false, p, d.wr a x) :: (true, q, d.wr a x) :: l)) ∧ Keeps (fun j => B ≤ j ∧ ¬ X j) w w' := by
  obtain ⟨i0, hi, hz0, hz1, hz2⟩ := info_parts info5
  have HI := Lib.hid (And.intro hi (And.intro hz0 hz1))
  obtain ⟨m, hm⟩ := Int.eq_ofNat_of_zero_le (and1023 b).1
  have hm2 : m ≤ 1023 := by have := (and1023 b).2; omega
  have M1 : Hid (i0.bytes * m ≤ 281474976710656) := by show i0.bytes * m ≤ _; rw [hz2]; omega
  have M2 : Hid (m ≤ maxLen) := by show m ≤ maxLen; unfold maxLen; omega
  have HM := Lib.hid hm
  clear hi hz0 hz1 hz2 hm
  obtain ⟨W1, hW1⟩ : ∃ W1, W1 = w.alloc (.cells #[.int .i64 5, .int .i64 a, .int .i64 b, .slice ka kn kc] 51) := ⟨_, rfl⟩
  have hb1 : Below w.heap.size w W1 := by rw [hW1]; exact (Below.refl _ _).alloc (Nat.le_refl _) _
  have hr1 : W1.heap[w.heap.size]? = some (.cells #[.int .i64 5, .int .i64 a, .int .i64 b, .slice ka kn kc] 51 (0, 0)) := by rw [hW1]; exact heap_alloc_new w _
  have e0 : W1.cell? ⟨w.heap.size, 0, none⟩ = some (.int .i64 5) := by rw [cell_of_row _ _ _ _ _ _ hr1]; rfl
  have e2 : W1.cell? ⟨w.heap.size, 2, none⟩ = some (.int .i64 b) := by rw [cell_of_row _ _ _ _ _ _ hr1]; rfl
  have HW1 := Lib.hid hW1
  have HB1 := Lib.hid hb1
  have H := Lib.hid h
  have HR1 := Lib.hid hr1
  have HG := Lib.hid hg
  clear hW1 hb1 hr1 h hg
  have m0 : (0 : Int) ≤ (m : Int) := by omega
  go_enter Try.func27, Try.ntmps27
  go_wp2_with (first | (refine wpList_box_to rfl 51 _ rfl ?_; change wpList _ _ _ _ _ (w.alloc (.cells #[.int .i64 5, .int .i64 a, .int .i64 b, .slice ka kn kc] 51)); rw [← HW1.out]) | (at_make; rw [HM.out]; refine wpList_make_full _ rfl _ _ 29 rfl W1.heap.size 5 i0 (.int .u8 0) 1 Try.underlying29 HI.out.1 HI.out.2.1 HI.out.2.2 .i64 .i64 _ _ m rfl rfl rfl rfl M1.out M2.out (Nat.le_refl _) ?_))
  intro W2 hown hgrow
  rw [zeros_u8s'] at hown
  have hb2 : Below W1.heap.size W1 W2 := (Below.refl _ _).grown hgrow (Nat.le_refl _) (fun j e => by cases e)
  have hb12 : Below w.heap.size w W2 := HB1.out.trans (hb2.mono HB1.out.size)
  have hlt2 := hown.lt W1.heap.size rfl
  obtain ⟨x, hx⟩ : ∃ x : Bs, x = List.replicate m 0 := ⟨_, rfl⟩
  have hxl : x.length = m := by rw [hx, List.length_replicate]
  rw [← hx] at hown
  have hby : Bytes W2 (.slice (some ⟨W1.heap.size, 0, none⟩) m m) x := RowAt.of_owns hown
  have HR2 : Hid (W2.heap[w.heap.size]? = some (.cells #[.int .i64 5, .int .i64 a, .int .i64 b, .slice ka kn kc] 51 (0, 0))) := (hb2.block _ (Array.getElem?_eq_some_iff.1 HR1.out).1).trans HR1.out
  have e1 : W2.cell? ⟨w.heap.size, 1, none⟩ = some (.int .i64 a) := by rw [cell_of_row _ _ _ _ _ _ HR2.out]; rfl
  have H2 := Lib.hid ((H.out.more hB hb12).below (w' := W2.drew) (Below.refl _ _).drew)
  have HZ2 : Hid (B ≤ W2.heap.size) := Nat.le_trans hB hb12.size
  have HXop : Hid (X w.heap.size ∨ NewIn w W2 w.heap.size) := .inr ⟨Nat.le_refl _, (Array.getElem?_eq_some_iff.1 HR2.out).1⟩
  have HXm : Hid (X W1.heap.size ∨ NewIn w W2 W1.heap.size) := .inr ⟨HB1.out.size, hlt2.2⟩
  have HB12 := Lib.hid hb12
  have HBY := Lib.hid hby
  have HXL := Lib.hid hxl
  have HL2 := Lib.hid hlt2.2
  have HW := Lib.hid (dWrite H2.out HZ2.out HG.out a W1.heap.size m x (by rw [hxl]; exact RowAt.below hby (Below.refl _ _).drew (Nat.le_refl _)) HXm.out hlt2.2)
  rw [hxl] at HW
  clear hown hgrow hb2 hb12 hlt2 hx hxl hby e0 e2
  go_wp2_with fail
  refine wp_region_noPanic ?_
  refine wp_region_ordL 12 [12] [0, 1, 2, 3, 6, 7, 8, 9, 4, 5, 10, 11, 12] (fun W => W.cell? ⟨w.heap.size, 1, none⟩ = some (.int .i64 a)) (by kernel_rfl) (by kernel_rfl) rfl (by kernel_rfl) (fun _ _ _ _ _ h => h) e1 ?_
  repeat (apply heldL_run rfl (by rfl) (by rfl); (intro w hSw; go_simp; with_reducible rfl); (try simp only [Act.put, List.setIfInBounds_toArray, List.set_cons_zero, List.set_cons_succ]))
  refine heldL_step rfl (by rfl) (by rfl) (fun K hK => ?_)
  go_simp
  change Calls _ _ _ W2.drew _
  refine (HW.out).mono ?_
  rintro e W3 ⟨rfl, h3, hk3⟩
  have HR3 : Hid (W3.heap[w.heap.size]? = some (.cells #[.int .i64 5, .int .i64 a, .int .i64 b, .slice ka kn kc] 51 (0, 0))) := (hk3.block _ (Array.getElem?_eq_some_iff.1 HR2.out).1 (fun e => e.2 HXop.out)).trans HR2.out
  have e1' : W3.cell? ⟨w.heap.size, 1, none⟩ = some (.int .i64 a) := by rw [cell_of_row _ _ _ _ _ _ HR3.out]; rfl
  have hby3 : Bytes W3 (.slice (some ⟨W1.heap.size, 0, none⟩) m m) x := RowAt.keeps (RowAt.below HBY.out (Below.refl _ _).drew (Nat.le_refl _)) hk3 (fun j e h => by cases e; exact h.2 HXm.out)
  have H3 := Lib.hid h3.two
  have HZ3 : Hid (B ≤ W3.heap.size) := Nat.le_trans HZ2.out hk3.size
  have HK3 : Hid (Keeps (fun j => B ≤ j ∧ ¬ X j) w W3) := ((Keeps.of_below HB12.out).drew).trans' (hk3.mono (fun _ _ e => ⟨e.1, fun e' => e.2 (.inl e')⟩))
  have HF := Lib.hid (rWrite H3.out HZ3.out HG.out a W1.heap.size m x (by rw [HXL.out]; exact hby3))
  rw [HXL.out] at HF
  clear h3 hk3 e1 hby3
  generalize hE : d.wrE a x = E at *
  clear hE
  refine hK.out _ _ (.inr e1') ?_
  clear hK K
  (try simp only [Act.put, List.setIfInBounds_toArray, List.set_cons_zero, List.set_cons_succ])
  repeat (apply heldL_run rfl (by rfl) (by rfl); (intro w hSw; go_simp; with_reducible rfl); (try simp only [Act.put, List.setIfInBounds_toArray, List.set_cons_zero, List.set_cons_succ]))
  refine heldL_step rfl (by rfl) (by rfl) (fun K hK => ?_)
  go_simp
  refine (num_any _ _).mono ?_
  rintro e w9 ⟨rfl, rfl⟩
  refine hK.out _ _ (.inr e1') ?_
  clear hK K
  (try simp only [Act.put, List.setIfInBounds_toArray, List.set_cons_zero, List.set_cons_succ])
  repeat (apply heldL_run rfl (by rfl) (by rfl); (intro w hSw; go_simp; with_reducible rfl); (try simp only [Act.put, List.setIfInBounds_toArray, List.set_cons_zero, List.set_cons_succ]))
  refine heldL_step rfl (by rfl) (by rfl) (fun K hK => ?_)
  go_simp
  refine (HF.out).mono ?_
  rintro e W4 ⟨rfl, h4, hk4⟩
  have HR4 : Hid (W4.heap[w.heap.size]? = some (.cells #[.int .i64 5, .int .i64 a, .int .i64 b, .slice ka kn kc] 51 (0, 0))) := (hk4.block _ (Array.getElem?_eq_some_iff.1 HR3.out).1 (fun e => e.2 HXop.out)).trans HR3.out
  have e1'' : W4.cell? ⟨w.heap.size, 1, none⟩ = some (.int .i64 a) := by rw [cell_of_row _ _ _ _ _ _ HR4.out]; rfl
  have H4 := Lib.hid (h4.two.less (fun _ => .inl))
  have HK4 : Hid (Keeps (fun j => B ≤ j ∧ ¬ X j) w W4) := HK3.out.trans' (hk4.mono (fun _ _ e => ⟨e.1, fun e' => e.2 (.inl e')⟩))
  clear h4 hk4
  refine hK.out _ _ (.inr e1'') ?_
  clear hK K
  (try simp only [Act.put, List.setIfInBounds_toArray, List.set_cons_zero, List.set_cons_succ])
  repeat (apply heldL_run rfl (by rfl) (by rfl); (intro w hSw; go_simp; with_reducible rfl); (try simp only [Act.put, List.setIfInBounds_toArray, List.set_cons_zero, List.set_cons_succ]))
  refine heldL_step rfl (by rfl) (by rfl) (fun K hK => ?_)
  go_simp
  refine hK.out _ _ (.inl rfl) ?_
  clear hK K
  (try simp only [Act.put, List.setIfInBounds_toArray, List.set_cons_zero, List.set_cons_succ])
  refine heldL_nil (NoPanic.normal ?_)
  go_wp2_with fail
  go_ret
  exact ⟨by simp, ⟨x, H4.out⟩, HK4.out⟩

set_option maxHeartbeats 1000000 in
set_option maxRecDepth 100000 in
theorem callN (w : World) (v1 v2 : Value) (k a b : Int) (ka : Option Addr) (kn kc : Nat) (hk : k ≠ 0 ∧ k ≠ 1 ∧ k ≠ 2 ∧ k ≠ 3 ∧ k ≠ 4 ∧ k ≠ 5) :
    Calls Try.prog 27 #[v1, v2, .agg #[.int .i64 k, .int .i64 a, .int .i64 b, .slice ka kn kc]] w fun e w' => e = .returned (.bool true) ∧ Below w.heap.size w w' := by
  obtain ⟨W1, hW1⟩ : ∃ W1, W1 = w.alloc (.cells #[.int .i64 k, .int .i64 a, .int .i64 b, .slice ka kn kc] 51) := ⟨_, rfl⟩
  have hb1 : Below w.heap.size w W1 := by rw [hW1]; exact (Below.refl _ _).alloc (Nat.le_refl _) _
  have hr1 : W1.heap[w.heap.size]? = some (.cells #[.int .i64 k, .int .i64 a, .int .i64 b, .slice ka kn kc] 51 (0, 0)) := by rw [hW1]; exact heap_alloc_new w _
  have e0 : W1.cell? ⟨w.heap.size, 0, none⟩ = some (.int .i64 k) := by rw [cell_of_row _ _ _ _ _ _ hr1]; rfl
  have HW1 := Lib.hid hW1
  have HB1 := Lib.hid hb1
  obtain ⟨h0, h1, h2, h3, h4, h5⟩ := hk
  have k0 : (k == 0) = false := by simpa using h0
  have k1 : (k == 1) = false := by simpa using h1
  have k2 : (k == 2) = false := by simpa using h2
  have k3 : (k == 3) = false := by simpa using h3
  have k4 : (k == 4) = false := by simpa using h4
  have k5 : (k == 5) = false := by simpa using h5
  clear hW1 hb1 hr1 h0 h1 h2 h3 h4 h5
  go_enter Try.func27, Try.ntmps27
  go_wp2_with (refine wpList_box_to rfl 51 _ rfl ?_; change wpList _ _ _ _ _ (w.alloc (.cells #[.int .i64 k, .int .i64 a, .int .i64 b, .slice ka kn kc] 51)); rw [← HW1.out])
  go_ret
  exact ⟨rfl, HB1.out⟩

/-- Whatever call comes: both do alike. -/
theorem callAny (h : DisksX w B X ((false, p, d) :: (true, q, d) :: l)) (hB : B ≤ w.heap.size) (hg : d.Good) (k a b : Int) (ka : Option Addr) (kn kc : Nat) (ks : Nat → Int) (ha : a ≤ 9223372036854775807) (hk : IntsAt w ka kn ks) (hka : ∀ x, ka = some x → 0 < kn → x.block < B) (hcap : ka = none → kc = 0) :
    Calls Try.prog 27 #[.pointer (some ⟨p, 0, none⟩), .pointer (some ⟨q, 0, none⟩), .agg #[.int .i64 k, .int .i64 a, .int .i64 b, .slice ka kn kc]] w fun e w' => e = .returned (.bool true) ∧ (∃ d' : DS, d'.Good ∧ d'.n = d.n ∧ DisksX w' B X ((false, p, d') :: (true, q, d') :: l)) ∧ Keeps (fun j => B ≤ j ∧ ¬ X j) w w' := by
  have hn : ∀ d' : DS, d'.step.n = d'.n := fun d' => by unfold DS.step; split <;> rfl
  have hnw : ∀ x, (d.wr a x).n = d.n := fun x => by unfold DS.wr; split; exact hn _; rfl
  have hnf : d.fl.n = d.n := by unfold DS.fl; split; rfl; exact hn _
  have hnu : (d.fu a).n = d.n := by unfold DS.fu; split; rfl; (split <;> rfl)
  by_cases h0 : k = 0
  · subst h0
    exact (call0 h hB hg a b ka kn kc).mono fun _ _ ⟨he, hb⟩ => ⟨he, ⟨d, hg, rfl, h.below hb⟩, Keeps.of_below hb⟩
  by_cases h1 : k = 1
  · subst h1
    exact (call1 h hB hg a b ka kn kc).mono fun _ _ ⟨he, h2, hb⟩ => ⟨he, ⟨_, DS.wr_good hg _ _, hnw _, h2⟩, hb⟩
  by_cases h2 : k = 2
  · subst h2
    exact (call2 h hB hg a b ka kn kc).mono fun _ _ ⟨he, h2, hb⟩ => ⟨he, ⟨_, DS.fl_good hg, hnf, h2⟩, hb⟩
  by_cases h3 : k = 3
  · subst h3
    exact (call3 h hB a b ka kn kc).mono fun _ _ ⟨he, h2, hb⟩ => ⟨he, ⟨_, DS.fu_good hg _ ha, hnu, h2⟩, hb⟩
  by_cases h4 : k = 4
  · subst h4
    exact (call4 h hB a b ka kn kc ks hk hka hcap).mono fun _ _ ⟨he, h2, hb⟩ => ⟨he, ⟨_, DS.crash_good _ _, rfl, h2⟩, hb⟩
  by_cases h5 : k = 5
  · subst h5
    exact (call5 h hB hg a b ka kn kc).mono fun _ _ ⟨he, ⟨x, h2⟩, hb⟩ => ⟨he, ⟨_, DS.wr_good hg _ _, hnw _, h2⟩, hb⟩
  exact (callN w _ _ k a b ka kn kc ⟨h0, h1, h2, h3, h4, h5⟩).mono fun _ _ ⟨he, hb⟩ => ⟨he, ⟨d, hg, rfl, h.below hb⟩, Keeps.of_below hb⟩
end Go.Proofs.Ythdefaodioapbaa
