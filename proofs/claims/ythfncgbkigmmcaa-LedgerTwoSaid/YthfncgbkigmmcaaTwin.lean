/- Twin. -/
import Derived.Test.YthfncgbkigmmcaaDisk10
import Derived.Deep.RegionHeld3
namespace Go.Proofs.Ythfncgbkigmmcaa
open Go.RowKit

variable {w w' : World} {O R : Nat → Prop} {p B : Nat} {d : DS} {gn gf : Nat} {vb : Value} {vs : List Value}

theorem kc_drew {W : World} {a : Addr} {v : Value} (h : W.cell? a = some v) : W.drew.cell? a = some v := h
theorem kc_alloc {W : World} {a : Addr} {v : Value} {o : Obj} (h : W.cell? a = some v) : (W.alloc o).cell? a = some v := by rw [World.cell?_alloc_some _ _ _ (by rw [h]; rfl)]; exact h
theorem kc_set {W : World} {a b : Addr} {v u : Value} (hb : b.block ≠ a.block) (h : W.cell? a = some v) : (W.setCell b u).cell? a = some v := by rw [World.cell?_setCell_far _ _ _ _ hb]; exact h

theorem twin_mid {w1 w2 : World} {T ga gb n : Nat} {x0 x1 y z u : Value} {c0 : Array Value} (hT : w1.heap[T]? = some (.cells #[x0, x1, y, z, u] 83 (0, 0))) (hz : w1.heap.size = T + 1) (hg : (ga = T + 1 ∧ gb = T + 1 + 1) ∨ (ga = T + 1 + 1 ∧ gb = T + 1))
    (e : w2 = ((((w1.setCell ⟨T, 0, none⟩ (.slice (some ⟨ga, 0, none⟩) n n)).setCell ⟨T, 1, none⟩ (.slice (some ⟨gb, 0, none⟩) n n)).alloc (.cells c0 5)).alloc (.cells c0 5)).drew) :
    w2.heap[T]? = some (.cells #[.slice (some ⟨ga, 0, none⟩) n n, .slice (some ⟨gb, 0, none⟩) n n, y, z, u] 83 (0, 0)) ∧ w2.heap[ga]? = some (.cells c0 5 (0, 0)) ∧ w2.heap[gb]? = some (.cells c0 5 (0, 0)) ∧ Below T w1 w2 ∧ ga ≠ gb ∧ T < ga ∧ T < gb ∧ ga < w2.heap.size ∧ gb < w2.heap.size := by
  have hT2 := heap_setCell_same _ T 1 _ 83 (.slice (some ⟨gb, 0, none⟩) n n) (heap_setCell_same w1 T 0 _ 83 (.slice (some ⟨ga, 0, none⟩) n n) hT)
  have hb : Below T w1 ((w1.setCell ⟨T, 0, none⟩ (.slice (some ⟨ga, 0, none⟩) n n)).setCell ⟨T, 1, none⟩ (.slice (some ⟨gb, 0, none⟩) n n)) := ((Below.refl T w1).setCell (p := ⟨T, 0, none⟩) (Nat.le_refl _) _).setCell (p := ⟨T, 1, none⟩) (Nat.le_refl _) _
  have hz2 : ((w1.setCell ⟨T, 0, none⟩ (.slice (some ⟨ga, 0, none⟩) n n)).setCell ⟨T, 1, none⟩ (.slice (some ⟨gb, 0, none⟩) n n)).heap.size = T + 1 := by simpa using hz
  generalize ((w1.setCell ⟨T, 0, none⟩ (.slice (some ⟨ga, 0, none⟩) n n)).setCell ⟨T, 1, none⟩ (.slice (some ⟨gb, 0, none⟩) n n)) = v at *
  have e1 := heap_alloc_new v (.cells c0 5)
  have e2 := heap_alloc_new (v.alloc (.cells c0 5)) (.cells c0 5)
  have z1 : (v.alloc (.cells c0 5)).heap.size = T + 1 + 1 := by simp [hz2]
  have z2 : ((v.alloc (.cells c0 5)).alloc (.cells c0 5)).heap.size = T + 1 + 1 + 1 := by simp [hz2]
  have b1 : Below v.heap.size v (v.alloc (.cells c0 5)) := (Below.refl _ v).alloc (Nat.le_refl _) _
  have b2 : Below (v.alloc (.cells c0 5)).heap.size (v.alloc (.cells c0 5)) ((v.alloc (.cells c0 5)).alloc (.cells c0 5)) := (Below.refl _ _).alloc (Nat.le_refl _) _
  have b12 : Below v.heap.size v ((v.alloc (.cells c0 5)).alloc (.cells c0 5)) := b1.trans (b2.mono (by omega))
  rw [hz2] at e1 b1 b12
  rw [z1] at e2 b2
  have e1' := (b2.block (T + 1) (by omega)).trans e1
  subst e
  have hTT : (((v.alloc (.cells c0 5)).alloc (.cells c0 5)).drew).heap[T]? = _ := (b12.block T (by omega)).trans hT2
  have hbb : Below T w1 ((v.alloc (.cells c0 5)).alloc (.cells c0 5)).drew := (hb.trans (b12.mono (by omega))).drew
  have hzz : (((v.alloc (.cells c0 5)).alloc (.cells c0 5)).drew).heap.size = T + 1 + 1 + 1 := z2
  rcases hg with ⟨rfl, rfl⟩ | ⟨rfl, rfl⟩
  · exact ⟨hTT, e1', e2, hbb, by omega, by omega, by omega, by omega, by omega⟩
  · exact ⟨hTT, e2, e1', hbb, by omega, by omega, by omega, by omega, by omega⟩

/-- copy of elements of more than one cell, from the row's beginning. -/
theorem run_copy_wide {P : Program} (w : World) (dT sT ty elem : TypeId) (size g dLen dCap : Nat) (sa : Option Addr) (sLen sCap : Nat) (cur : Array Value) (t : TypeId) (cs : List Value)
    (hu : P.underlying dT = some (.slice elem)) (hs : (P.info? elem).map (·.size) = some size) (hg : w.heap[g]? = some (.cells cur t (0, 0))) (hn : cs.length = Nat.min sLen dLen * size)
    (hsrc : (sa = none ∧ cs = []) ∨ ∃ a, sa = some a ∧ ∀ j v, cs[j]? = some v → w.cell? (a.add j) = some v) (hfit : cs.length ≤ cur.size) (h1 : ∀ v ∈ cs, v.oneCell' = true) :
    (Builtin.copy_ #[dT, sT] ty #[.slice (some ⟨g, 0, none⟩) dLen dCap, .slice sa sLen sCap]).run P w = .ok (goInt (Nat.min sLen dLen)) (w.setRow g (cs ++ cur.toList.drop cs.length).toArray) := by
  have hst := run_storeCells_at P g 0 t cs 0 cur w hg (by simpa using hfit) h1
  simp only [Nat.add_zero, Nat.zero_add, List.take_zero, List.nil_append] at hst
  cases hq : P.info? elem with
  | none => simp [hq] at hs
  | some i =>
    have hi : i.size = size := by simpa [hq] using hs
    rcases hsrc with ⟨rfl, rfl⟩ | ⟨a, rfl, hsrc⟩
    · simp only [List.length_nil, List.drop_zero, List.nil_append] at hst ⊢
      simp [Builtin.copy_, run_underlying hu, Builtin.lenOf, Builtin.firstCells, sizeOf, typeInfo, hq, hst]
    · have hl := run_loadCells_list (P := P) w a cs hsrc
      simp [Builtin.copy_, run_underlying hu, Builtin.lenOf, Builtin.firstCells, sizeOf, typeInfo, hq, hi, ← hn, hl, hst]
theorem op_copyW {P : Program} {w : World} {o : Oper} {a : Act} {K : Act → World → Prop} {Q : Exit → Act → World → Prop} (d s : Operand) (dT sT : TypeId)
    (ho : o.op = .call { callee := .builtin .copy, args := #[d, s], argTypes := #[dT, sT] }) (elem : TypeId) (hu : P.underlying dT = some (.slice elem)) (size : Nat) (hsz : (P.info? elem).map (·.size) = some size)
    (g dLen dCap : Nat) (sa : Option Addr) (sLen sCap : Nat) (hd : a.eval d = .slice (some ⟨g, 0, none⟩) dLen dCap) (hs : a.eval s = .slice sa sLen sCap)
    (cur : Array Value) (t : TypeId) (hg : w.heap[g]? = some (.cells cur t (0, 0))) (cs : List Value) (hn : cs.length = Nat.min sLen dLen * size)
    (hsrc : (sa = none ∧ cs = []) ∨ ∃ a, sa = some a ∧ ∀ j v, cs[j]? = some v → w.cell? (a.add j) = some v) (hfit : cs.length ≤ cur.size) (h1 : ∀ v ∈ cs, v.oneCell' = true)
    (h : K (a.put o.dst (goInt (Nat.min sLen dLen))) (w.setRow g (cs ++ cur.toList.drop cs.length).toArray)) : Oper.wp P o a w K Q := by
  have hrun := run_copy_wide (P := P) w dT sT o.type elem size g dLen dCap sa sLen sCap cur t cs hu hsz hg hn hsrc hfit h1
  unfold Oper.wp
  simp [execOp, ho, resolve, invoke, builtin, hd, hs, hrun, Result.andThen]
  exact h

theorem row_whole (cs : List Value) (cur : Array Value) (h : cur.size ≤ cs.length) : (cs ++ cur.toList.drop cs.length).toArray = cs.toArray := by
  rw [List.drop_eq_nil_of_le (by simpa using h), List.append_nil]
theorem owns_src {w : World} {base : Nat} {e : TypeId} {size : Nat} {a : Option Addr} {n c : Nat} {xs : List Value} (h : w.ownsRow base e size (.slice a n c) n xs) : (a = none ∧ xs = []) ∨ ∃ x, a = some x ∧ ∀ j v, xs[j]? = some v → w.cell? (x.add j) = some v := by
  obtain ⟨hl, ⟨h1, h2⟩ | ⟨g, cap, cur, h1, _, hg, hn, _, hs, ht⟩⟩ := h
  · cases h1
    exact .inl ⟨rfl, List.eq_nil_of_length_eq_zero (by rw [hl]; simp)⟩
  · cases h1
    refine .inr ⟨_, rfl, fun j v hj => ?_⟩
    rw [addr_add, cell_of_row w g _ _ _ _ hg, Nat.zero_add]
    rw [← ht, List.getElem?_take] at hj
    split at hj
    · simpa using hj
    · cases hj
theorem heldC_one : ∀ (i : Nat) (l : List (Nat × Bs)) (vs : List Value), (∀ v ∈ vs, v.oneCell' = true) → ∀ u ∈ heldC i l vs, u.oneCell' = true
  | _, [], _, _, u, hu => by simp [heldC] at hu
  | _, _ :: _, [], _, u, hu => by simp [heldC] at hu
  | i, (a, b) :: l, v :: vs, h, u, hu => by
    simp only [heldC, List.mem_cons] at hu
    rcases hu with rfl | rfl | rfl | hu
    · rfl
    · exact h _ (by simp)
    · rfl
    · exact heldC_one (i + 1) l vs (fun v hv => h v (by simp [hv])) u hu
theorem DiskAt.vs_one (h : DiskAt w O R p d gn gf vb vs) : ∀ v ∈ vs, v.oneCell' = true := by
  intro v hv
  obtain ⟨i, hi, rfl⟩ := List.mem_iff_getElem.1 hv
  obtain ⟨v', h1, h2, _⟩ := h.held i (by rw [← h.vlen]; exact hi)
  rw [List.getElem?_eq_getElem hi, Option.some.injEq] at h1
  rw [h1]
  obtain ⟨a, cap, rfl, _⟩ := h2.shape
  rfl

set_option maxRecDepth 8000 in
set_option maxHeartbeats 4000000 in
theorem twin_any (h : DiskAt w O R p d gn gf vb vs) (hOb : ∀ j, O j → j < w.heap.size) (hRb : ∀ j, R j → j < w.heap.size) : Calls Try.prog 28 #[.pointer (some ⟨p, 0, none⟩)] w fun e w' => ∃ q, e = .returned (.pointer (some ⟨q, 0, none⟩)) ∧ IsDisk w' (NewIn w w') R q d ∧ Below w.heap.size w w' := by
  have c0 := h.c0
  have c1 := h.c1
  have c2 := h.c2
  have c3 := h.c3
  have c4 := h.c4
  obtain ⟨a2, cap2, hv⟩ := row_len h.row
  rw [hv] at c2
  have HD := Lib.hid h
  have HVB := Lib.hid hv
  clear h hv
  go_enter Try.func28, Try.ntmps28
  go_wp2_with fail
  have hmk : ∀ w, (Instr.makeSlice 24 (.int .i64 (512 * (d.n : Int))) (.int .i64 (512 * (d.n : Int)))).run Try.prog w = .ok (.slice (some ⟨w.heap.size, 0, none⟩) (512 * d.n) (512 * d.n)) (w.alloc (.cells (madeCells #[.int .u8 0] (512 * d.n)) 5)) := fun w => by
    have := run_make_row' (P := Try.prog) 24 5 (.int .u8 0) 1 Try.underlying24 info5 rfl .i64 .i64 (512 * d.n) (by have := HD.out.n2; omega) (by have := HD.out.n2; omega) w
    rw [show ((512 * d.n : Nat) : Int) = 512 * (d.n : Int) by omega] at this
    exact this
  have b1 : Below w.heap.size w (w.alloc (Obj.cells #[Value.slice (some ⟨gn, 0, none⟩) (512 * d.n) (512 * d.n), Value.slice (some ⟨gf, 0, none⟩) (512 * d.n) (512 * d.n), Value.slice a2 d.back.length cap2, Value.bool d.off, Value.int IntKind.i64 d.left] 83)) := (Below.refl _ w).alloc (Nat.le_refl _) _
  have hT := heap_alloc_new w (Obj.cells #[Value.slice (some ⟨gn, 0, none⟩) (512 * d.n) (512 * d.n), Value.slice (some ⟨gf, 0, none⟩) (512 * d.n) (512 * d.n), Value.slice a2 d.back.length cap2, Value.bool d.off, Value.int IntKind.i64 d.left] 83)
  have hz : (w.alloc (Obj.cells #[Value.slice (some ⟨gn, 0, none⟩) (512 * d.n) (512 * d.n), Value.slice (some ⟨gf, 0, none⟩) (512 * d.n) (512 * d.n), Value.slice a2 d.back.length cap2, Value.bool d.off, Value.int IntKind.i64 d.left] 83)).heap.size = w.heap.size + 1 := by simp
  have d0 := (b1.cell (p := ⟨p, 0, none⟩) HD.out.lt).trans c0
  have d1 := (b1.cell (p := ⟨p, 1, none⟩) HD.out.lt).trans c1
  clear c0 c1 c2 c3 c4
  generalize (w.alloc (Obj.cells #[Value.slice (some ⟨gn, 0, none⟩) (512 * d.n) (512 * d.n), Value.slice (some ⟨gf, 0, none⟩) (512 * d.n) (512 * d.n), Value.slice a2 d.back.length cap2, Value.bool d.off, Value.int IntKind.i64 d.left] 83)) = w1 at *
  have hpT : p < w.heap.size := HD.out.lt
  have t0 : w1.cell? ⟨w.heap.size, 0, none⟩ = some (Value.slice (some ⟨gn, 0, none⟩) (512 * d.n) (512 * d.n)) := by rw [cell_of_row w1 _ 0 _ _ _ hT]; rfl
  have t1 : w1.cell? ⟨w.heap.size, 1, none⟩ = some (Value.slice (some ⟨gf, 0, none⟩) (512 * d.n) (512 * d.n)) := by rw [cell_of_row w1 _ 1 _ _ _ hT]; rfl
  have f0 : w1.frozen? ⟨w.heap.size, 0, none⟩ = false := frozen_of_row w1 _ 0 _ _ hT
  have f1 : w1.frozen? ⟨w.heap.size, 1, none⟩ = false := frozen_of_row w1 _ 1 _ _ hT
  have HT := Lib.hid hT
  have HB1 := Lib.hid b1
  have HZ := Lib.hid hz
  have HPT := Lib.hid hpT
  clear hT b1 hz 
  have HOB := Lib.hid hOb
  have HRB := Lib.hid hRb
  clear hOb hRb
  generalize hTe : w.heap.size = T at *
  have HTE := Lib.hid hTe
  clear hTe
  have hne : p ≠ T := by omega
  have hz1 := HZ.out
  have hne1 : p ≠ T + 1 := by omega
  have hne2 : p ≠ T + 2 := by omega
  have hne3 : T ≠ p := by omega
  have hne4 : T + 1 ≠ p := by omega
  have hne5 : T + 2 ≠ p := by omega
  go_region_held3 (fun V => V.cell? ⟨p, 0, none⟩ = some (Value.slice (some ⟨gn, 0, none⟩) (512 * d.n) (512 * d.n)) ∧ V.cell? ⟨p, 1, none⟩ = some (Value.slice (some ⟨gf, 0, none⟩) (512 * d.n) (512 * d.n))) ((with_reducible refine ⟨?_, ?_⟩ <;> (repeat (with_reducible first | exact d0 | exact d1 | refine kc_drew ?_ | refine kc_alloc ?_ | refine kc_set hne3 ?_)))) (fail)
  all_goals
    first
    | (with_reducible show Exit.then _ _ Exit.normal _ (World.drew (World.alloc (World.alloc (World.setCell (World.setCell w1 _ (.slice (some ⟨T + 1, 0, none⟩) _ _)) _ _) _) _)); have hm := twin_mid (ga := T + 1) (gb := T + 1 + 1) HT.out HZ.out (.inl ⟨rfl, rfl⟩) (n := 512 * d.n) (c0 := madeCells #[Value.int IntKind.u8 0] (512 * d.n)) rfl; generalize ((((w1.setCell ⟨T, 0, none⟩ (Value.slice (some ⟨T + 1, 0, none⟩) (512 * d.n) (512 * d.n))).setCell ⟨T, 1, none⟩ (Value.slice (some ⟨T + 1 + 1, 0, none⟩) (512 * d.n) (512 * d.n))).alloc (Obj.cells (madeCells #[Value.int IntKind.u8 0] (512 * d.n)) 5)).alloc (Obj.cells (madeCells #[Value.int IntKind.u8 0] (512 * d.n)) 5)).drew = w2 at *; clear hne hz1 hne1 hne2 hne3 hne4 hne5; generalize hgb : T + 1 + 1 = gb at *; generalize hga : T + 1 = ga at *)
    | (with_reducible show Exit.then _ _ Exit.normal _ (World.drew (World.alloc (World.alloc (World.setCell (World.setCell w1 _ (.slice (some ⟨T + 1 + 1, 0, none⟩) _ _)) _ _) _) _)); have hm := twin_mid (ga := T + 1 + 1) (gb := T + 1) HT.out HZ.out (.inr ⟨rfl, rfl⟩) (n := 512 * d.n) (c0 := madeCells #[Value.int IntKind.u8 0] (512 * d.n)) rfl; generalize ((((w1.setCell ⟨T, 0, none⟩ (Value.slice (some ⟨T + 1 + 1, 0, none⟩) (512 * d.n) (512 * d.n))).setCell ⟨T, 1, none⟩ (Value.slice (some ⟨T + 1, 0, none⟩) (512 * d.n) (512 * d.n))).alloc (Obj.cells (madeCells #[Value.int IntKind.u8 0] (512 * d.n)) 5)).alloc (Obj.cells (madeCells #[Value.int IntKind.u8 0] (512 * d.n)) 5)).drew = w2 at *; clear hne hz1 hne1 hne2 hne3 hne4 hne5; generalize hga : T + 1 + 1 = ga at *; generalize hgb : T + 1 = gb at *)
  all_goals
    obtain ⟨m0, m1, m2, m3, m4, m5, m6, m7, m8⟩ := hm
    have hTe := HTE.out
    have hO : ∀ i, O i → ¬ T ≤ i := fun i hi => by have := HOB.out i hi; omega
    have hR : ∀ i, R i → ¬ T ≤ i := fun i hi => by have := HRB.out i hi; omega
    rw [made_u8s] at m1 m2
    have hb2 : Below T w w2 := HB1.out.trans m3
    have hk2 : Keeps (fun b => T ≤ b) w w2 := Keeps.of_below (by rw [hTe]; exact hb2)
    have hd2 := HD.out.keep hk2 hO hR
    have HO := Lib.hid hO
    have HR := Lib.hid hR
    have HK2 := Lib.hid hk2
    have HM := Lib.hid (And.intro m2 (And.intro m4 (And.intro m5 (And.intro m6 (And.intro m7 m8)))))
    have hTl : T < w2.heap.size := (Array.getElem?_eq_some_iff.1 m0).1
    have t0 : w2.cell? ⟨T, 0, none⟩ = some (.slice (some ⟨ga, 0, none⟩) (512 * d.n) (512 * d.n)) := by rw [cell_of_row w2 T 0 _ _ _ m0]; rfl
    have c0 := hd2.c0
    have HSC := Lib.hid (bytes_src (.inr ⟨gn, 0, 512 * d.n, by rw [u8s_length, HD.out.nlen], by rw [u8s_length, HD.out.nlen]; exact Nat.le_refl _, fun i u hi => by rw [cell_of_row w2 gn _ _ _ _ hd2.now, Nat.zero_add]; simpa using hi⟩ : Bytes w2 (.slice (some ⟨gn, 0, none⟩) (512 * d.n) (512 * d.n)) d.now))
    have HI5 : Hid ((Try.prog.info? 5).map (·.size) = some 1) := by
      obtain ⟨i0, hi, hz0, hz1, hz2⟩ := info_parts info5
      show _ = _
      rw [hi]; simp [hz1]
    have HLN : Hid ((u8s d.now).length = Nat.min (512 * d.n) (512 * d.n) * 1) := by show _ = _; rw [u8s_length, HD.out.nlen, Nat.mul_one]; exact (Nat.min_self _).symm
    have HFIT : Hid ((u8s d.now).length ≤ (u8s (List.replicate (512 * d.n) 0)).toArray.size) := by show _ ≤ _; rw [u8s_length, HD.out.nlen, List.size_toArray, u8s_length, List.length_replicate]; exact Nat.le_refl _
    have M0 := Lib.hid m0
    have M1 := Lib.hid m1
    have HTL := Lib.hid hTl
    clear hgb hga d0 d1 t1 f0 f1 HZ HPT HT HB1 m2 m3 m4 m5 m6 m7 m8 hTe hO hR hb2 hk2 hd2 m0 m1 hTl
    go_wp2_with fail
    refine wp_region_noPanic ?_
    refine wp_region_ordL 6 [] [0, 1, 2, 3, 4, 5, 6] (fun V => V.cell? ⟨T, 0, none⟩ = some (.slice (some ⟨ga, 0, none⟩) (512 * d.n) (512 * d.n)) ∧ V.cell? ⟨p, 0, none⟩ = some (.slice (some ⟨gn, 0, none⟩) (512 * d.n) (512 * d.n))) (by kernel_rfl) (by kernel_rfl) rfl (by kernel_rfl) (fun _ _ _ _ _ h => h) ⟨t0, c0⟩ ?_
    repeat (apply heldL_run rfl (by rfl) (by rfl); (intro w hSw; go_simp; with_reducible rfl); (try simp only [Act.put, List.setIfInBounds_toArray, List.set_cons_zero, List.set_cons_succ]))
    refine heldL_step rfl (by rfl) (by rfl) (fun K hK => ?_)
    refine op_copyW (.tmp 22) (.tmp 26) 24 24 rfl 5 Try.underlying24 1 HI5.out ga (512 * d.n) (512 * d.n) (some ⟨gn, 0, none⟩) (512 * d.n) (512 * d.n) rfl rfl _ 5 M1.out (u8s d.now) HLN.out (.inr ⟨_, rfl, HSC.out⟩) HFIT.out (u8s_one d.now) ?_
    refine hK.out _ _ (.inl rfl) ?_
    clear hK K
    refine heldL_nil (NoPanic.normal ?_)
    rw [row_whole _ _ (by rw [u8s_length, HD.out.nlen, List.size_toArray, u8s_length, List.length_replicate]; exact Nat.le_refl _)]
    have m3 : (w2.drew.setRow ga (u8s d.now).toArray).heap[ga]? = some (.cells (u8s d.now).toArray 5 (0, 0)) := setRow_heap w2.drew ga _ _ 5 _ M1.out
    have k3 : Keeps (fun b => b = ga) w2 (w2.drew.setRow ga (u8s d.now).toArray) := keeps_setRow (S := fun b => b = ga) (Keeps.refl _ _).drew rfl _
    generalize (w2.drew.setRow ga (u8s d.now).toArray) = w3 at *
    have hk3 : Keeps (fun b => T ≤ b) w w3 := HK2.out.trans' (k3.mono (fun b _ e => by cases e; exact Nat.le_of_lt HM.out.2.2.1))
    have hTga : ¬ T = ga := fun e => by have := HM.out.2.2.1; omega
    have n0 := (k3.block T HTL.out hTga).trans M0.out
    have n2 := (k3.block gb HM.out.2.2.2.2.2 (fun e => HM.out.2.1 e.symm)).trans HM.out.1
    have hd3 := HD.out.keep hk3 HO.out HR.out
    have t1 : w3.cell? ⟨T, 1, none⟩ = some (.slice (some ⟨gb, 0, none⟩) (512 * d.n) (512 * d.n)) := by rw [cell_of_row w3 T 1 _ _ _ n0]; rfl
    have c1 := hd3.c1
    have HSC := Lib.hid (bytes_src (.inr ⟨gf, 0, 512 * d.n, by rw [u8s_length, HD.out.flen], by rw [u8s_length, HD.out.flen]; exact Nat.le_refl _, fun i u hi => by rw [cell_of_row w3 gf _ _ _ _ hd3.fast, Nat.zero_add]; simpa using hi⟩ : Bytes w3 (.slice (some ⟨gf, 0, none⟩) (512 * d.n) (512 * d.n)) d.fast))
    have HLN : Hid ((u8s d.fast).length = Nat.min (512 * d.n) (512 * d.n) * 1) := by show _ = _; rw [u8s_length, HD.out.flen, Nat.mul_one]; exact (Nat.min_self _).symm
    have HFIT : Hid ((u8s d.fast).length ≤ (u8s (List.replicate (512 * d.n) 0)).toArray.size) := by show _ ≤ _; rw [u8s_length, HD.out.flen, List.size_toArray, u8s_length, List.length_replicate]; exact Nat.le_refl _
    have N0 := Lib.hid n0
    have N2 := Lib.hid n2
    have M3 := Lib.hid m3
    have HZ3 := Lib.hid k3.size
    have HK3 := Lib.hid hk3
    clear t0 c0 m3 k3 hk3 hTga n0 n2 hd3 HK2 M1
    go_wp2_with fail
    refine wp_region_noPanic ?_
    refine wp_region_ordL 6 [] [0, 1, 2, 3, 4, 5, 6] (fun V => V.cell? ⟨T, 1, none⟩ = some (.slice (some ⟨gb, 0, none⟩) (512 * d.n) (512 * d.n)) ∧ V.cell? ⟨p, 1, none⟩ = some (.slice (some ⟨gf, 0, none⟩) (512 * d.n) (512 * d.n))) (by kernel_rfl) (by kernel_rfl) rfl (by kernel_rfl) (fun _ _ _ _ _ h => h) ⟨t1, c1⟩ ?_
    repeat (apply heldL_run rfl (by rfl) (by rfl); (intro w hSw; go_simp; with_reducible rfl); (try simp only [Act.put, List.setIfInBounds_toArray, List.set_cons_zero, List.set_cons_succ]))
    refine heldL_step rfl (by rfl) (by rfl) (fun K hK => ?_)
    refine op_copyW (.tmp 29) (.tmp 33) 24 24 rfl 5 Try.underlying24 1 HI5.out gb (512 * d.n) (512 * d.n) (some ⟨gf, 0, none⟩) (512 * d.n) (512 * d.n) rfl rfl _ 5 N2.out (u8s d.fast) HLN.out (.inr ⟨_, rfl, HSC.out⟩) HFIT.out (u8s_one d.fast) ?_
    refine hK.out _ _ (.inl rfl) ?_
    clear hK K
    refine heldL_nil (NoPanic.normal ?_)
    rw [row_whole _ _ (by rw [u8s_length, HD.out.flen, List.size_toArray, u8s_length, List.length_replicate]; exact Nat.le_refl _)]
    have m3 : (w3.drew.setRow gb (u8s d.fast).toArray).heap[gb]? = some (.cells (u8s d.fast).toArray 5 (0, 0)) := setRow_heap w3.drew gb _ _ 5 _ N2.out
    have k3 : Keeps (fun b => b = gb) w3 (w3.drew.setRow gb (u8s d.fast).toArray) := keeps_setRow (S := fun b => b = gb) (Keeps.refl _ _).drew rfl _
    generalize (w3.drew.setRow gb (u8s d.fast).toArray) = w4 at *
    have hk4 : Keeps (fun b => T ≤ b) w w4 := HK3.out.trans' (k3.mono (fun b _ e => by cases e; exact Nat.le_of_lt HM.out.2.2.2.1))
    have hTgb : ¬ T = gb := fun e => by have := HM.out.2.2.2.1; omega
    have hlt3 : T < w3.heap.size := Nat.lt_of_lt_of_le HTL.out HZ3.out
    have p0 := (k3.block T hlt3 hTgb).trans N0.out
    have p1 := (k3.block ga (Nat.lt_of_lt_of_le HM.out.2.2.2.2.1 HZ3.out) HM.out.2.1).trans M3.out
    have hd4 := HD.out.keep hk4 HO.out HR.out
    have c2 := hd4.c2
    obtain ⟨i1, hj, hy0, hy1, hy2⟩ := info_parts infoH
    have M1 : Hid (i1.bytes * d.back.length ≤ 281474976710656) := by show _ * _ ≤ _; rw [hy2]; have := HD.out.small; omega
    have M2 : Hid (d.back.length ≤ maxLen) := by show _ ≤ _; have := HD.out.small; unfold maxLen; omega
    have HV : Hid (vb = .slice a2 d.back.length cap2) := HVB.out
    rw [HV.out] at c2
    have HJ := Lib.hid (And.intro hj (And.intro hy0 (And.intro hy1 hy2)))
    have P0 := Lib.hid p0
    have P1 := Lib.hid p1
    have P2 := Lib.hid m3
    have HK4 := Lib.hid hk4
    have HZ4 := Lib.hid (Nat.le_trans HZ3.out k3.size)
    clear t1 c1 m3 k3 hk4 hTgb hlt3 p0 p1 hd4 HK3 N0 N2 M3 hj hy0 hy1 hy2
    go_wp2_with (at_make; refine wpList_make_full _ rfl (.tmp 39) (.tmp 39) 81 rfl w4.heap.size 90 i1 (.agg #[.int .i64 0, .slice none 0 0, .int .i64 0]) 3 Try.underlying81 HJ.out.1 HJ.out.2.1 HJ.out.2.2.1 .i64 .i64 _ _ d.back.length rfl rfl rfl rfl M1.out M2.out (Nat.le_refl _) ?_)
    intro w5 hown hgrow
    have hT5 := (hgrow.block T (Nat.lt_of_lt_of_le HTL.out HZ4.out) (by simp)).trans P0.out
    have f2 : w5.frozen? ⟨T, 2, none⟩ = false := frozen_of_row w5 _ 2 _ _ hT5
    have t2 : w5.cell? ⟨T, 2, none⟩ = some (.slice a2 d.back.length cap2) := by rw [cell_of_row w5 T 2 _ _ _ hT5]; rfl
    have HOWN := Lib.hid hown
    have HGR := Lib.hid hgrow
    have HT5 := Lib.hid hT5
    clear hown hgrow hT5
    go_wp2_with fail
    have hG : T < w4.heap.size := Nat.lt_of_lt_of_le HTL.out HZ4.out
    have hT6 := heap_setCell_same w5 T 2 _ 83 (.slice (some ⟨w4.heap.size, 0, none⟩) d.back.length d.back.length) HT5.out
    have k6 : Keeps (fun b => b = T) w5 (w5.setCell ⟨T, 2, none⟩ (.slice (some ⟨w4.heap.size, 0, none⟩) d.back.length d.back.length)) := (Keeps.refl (fun b => b = T) w5).setCell ⟨T, 2, none⟩ _ (.inl rfl)
    have hGb := owns_kept HOWN.out (w' := w5.setCell ⟨T, 2, none⟩ (.slice (some ⟨w4.heap.size, 0, none⟩) d.back.length d.back.length)) (fun b hb hl => k6.block b hl (fun e => by cases hb; exact absurd e (by show ¬ w4.heap.size = T; omega)))
    have k5 : Keeps (fun b => T ≤ b) w5 (w5.setCell ⟨T, 2, none⟩ (.slice (some ⟨w4.heap.size, 0, none⟩) d.back.length d.back.length)) := k6.mono (fun b _ e => by cases e; exact Nat.le_refl _)
    have hk5 := (HK4.out.grown HGR.out (fun k e => by cases e)).trans' k5
    have q1 := (k6.block ga (Nat.lt_of_lt_of_le (Nat.lt_of_lt_of_le HM.out.2.2.2.2.1 HZ4.out) HGR.out.size) (fun e => by have := HM.out.2.2.1; omega)).trans ((HGR.out.block ga (Nat.lt_of_lt_of_le HM.out.2.2.2.2.1 HZ4.out) (by simp)).trans P1.out)
    have q2 := (k6.block gb (Nat.lt_of_lt_of_le (Nat.lt_of_lt_of_le HM.out.2.2.2.2.2 HZ4.out) HGR.out.size) (fun e => by have := HM.out.2.2.2.1; omega)).trans ((HGR.out.block gb (Nat.lt_of_lt_of_le HM.out.2.2.2.2.2 HZ4.out) (by simp)).trans P2.out)
    have hd5 := HD.out.keep hk5 HO.out HR.out
    generalize (w5.setCell ⟨T, 2, none⟩ (.slice (some ⟨w4.heap.size, 0, none⟩) d.back.length d.back.length)) = w6 at *
    obtain ⟨hgl, ⟨hg0, _⟩ | ⟨G, cap, cur, hGe, hGs, hcur, _, _, hcs, _⟩⟩ := hGb
    · cases hg0
    obtain ⟨rfl, rfl⟩ : G = w4.heap.size ∧ cap = d.back.length := by cases hGe; exact ⟨rfl, rfl⟩
    have c2 := hd5.c2
    rw [HVB.out] at c2
    have r2 : w6.cell? ⟨T, 2, none⟩ = some (.slice (some ⟨w4.heap.size, 0, none⟩) d.back.length d.back.length) := by rw [cell_of_row w6 T 2 _ _ _ hT6]; rfl
    have hrow := hd5.row
    rw [HVB.out] at hrow
    have HSC := Lib.hid (owns_src hrow)
    have HLC := Lib.hid hrow.1
    have HS3 : Hid ((Try.prog.info? 90).map (·.size) = some 3) := by show _ = _; rw [HJ.out.1]; simp [HJ.out.2.2.1]
    have HLN : Hid ((heldC 0 d.back vs).length = Nat.min d.back.length d.back.length * 3) := by show _ = _; rw [HLC.out]; congr 1; exact (Nat.min_self _).symm
    have HFIT : Hid ((heldC 0 d.back vs).length ≤ cur.size) := by show _ ≤ _; rw [HLC.out, hcs]; exact Nat.le_refl _
    have HFI2 : Hid (cur.size ≤ (heldC 0 d.back vs).length) := by show _ ≤ _; rw [HLC.out, hcs]; exact Nat.le_refl _
    have HCUR := Lib.hid hcur
    have HT6 := Lib.hid hT6
    have HK5 := Lib.hid hk5
    have HGG := Lib.hid hG
    have HQ := Lib.hid (And.intro q1 q2)
    have HZ6 := Lib.hid (And.intro HGR.out.size k6.size)
    clear t2 f2 hGe hGs hcur hcs hgl hT6 k6 k5 hk5 q1 q2 hd5 hrow hG HT5 HOWN P0 P1 P2 HK4
    refine wp_region_noPanic ?_
    refine wp_region_ordL 6 [] [0, 1, 2, 3, 4, 5, 6] (fun V => V.cell? ⟨T, 2, none⟩ = some (.slice (some ⟨w4.heap.size, 0, none⟩) d.back.length d.back.length) ∧ V.cell? ⟨p, 2, none⟩ = some (.slice a2 d.back.length cap2)) (by kernel_rfl) (by kernel_rfl) rfl (by kernel_rfl) (fun _ _ _ _ _ h => h) ⟨r2, c2⟩ ?_
    repeat (apply heldL_run rfl (by rfl) (by rfl); (intro w hSw; go_simp; with_reducible rfl); (try simp only [Act.put, List.setIfInBounds_toArray, List.set_cons_zero, List.set_cons_succ]))
    refine heldL_step rfl (by rfl) (by rfl) (fun K hK => ?_)
    refine op_copyW (.tmp 43) (.tmp 47) 81 81 rfl 90 Try.underlying81 3 HS3.out w4.heap.size d.back.length d.back.length a2 d.back.length cap2 rfl rfl cur 90 HCUR.out (heldC 0 d.back vs) HLN.out HSC.out HFIT.out (heldC_one 0 d.back vs HD.out.vs_one) ?_
    refine hK.out _ _ (.inl rfl) ?_
    clear hK K
    refine heldL_nil (NoPanic.normal ?_)
    rw [row_whole _ _ HFI2.out]
    have m7 : (w6.drew.setRow w4.heap.size (heldC 0 d.back vs).toArray).heap[w4.heap.size]? = some (.cells (heldC 0 d.back vs).toArray 90 (0, 0)) := setRow_heap w6.drew w4.heap.size _ _ 90 _ HCUR.out
    have k7 : Keeps (fun b => b = w4.heap.size) w6 (w6.drew.setRow w4.heap.size (heldC 0 d.back vs).toArray) := keeps_setRow (S := fun b => b = w4.heap.size) (Keeps.refl _ _).drew rfl _
    generalize (w6.drew.setRow w4.heap.size (heldC 0 d.back vs).toArray) = w7 at *
    have hk7 : Keeps (fun b => T ≤ b) w w7 := HK5.out.trans' (k7.mono (fun b _ e => by cases e; exact Nat.le_of_lt HGG.out))
    have M7 := Lib.hid m7
    have K7 := Lib.hid k7
    have HK7 := Lib.hid hk7
    clear r2 c2 m7 k7 hk7
    go_wp2_with fail
    go_ret
    have hm := HM.out
    have hz4 := HZ4.out
    have hz6 := HZ6.out
    have hg := HGG.out
    have hte := HTE.out
    have hz7 := K7.out.size
    have hz0 := HK7.out.size
    have hd := HD.out
    have hlt : ∀ j, T ≤ j → j < w4.heap.size → NewIn w w7 j := fun j h1 h2 => ⟨by omega, by omega⟩
    refine ⟨T, rfl, ⟨ga, gb, .slice (some ⟨w4.heap.size, 0, none⟩) d.back.length d.back.length, vs, ?_⟩, HK7.out.below_of (by omega) (fun k hk e => by omega)⟩
    exact {
      cell := (K7.out.block T (by omega) (by show ¬ T = w4.heap.size; omega)).trans HT6.out
      now := (K7.out.block ga (by omega) (by show ¬ ga = w4.heap.size; omega)).trans HQ.out.1
      fast := (K7.out.block gb (by omega) (by show ¬ gb = w4.heap.size; omega)).trans HQ.out.2
      nlen := hd.nlen
      flen := hd.flen
      n1 := hd.n1
      n2 := hd.n2
      row := ⟨HLC.out, .inr ⟨w4.heap.size, d.back.length, _, rfl, Nat.zero_le _, M7.out, Nat.le_refl _, M2.out, by rw [List.size_toArray]; exact HLC.out, by rw [List.take_of_length_le (by rw [HLC.out]; exact Nat.le_refl _)]⟩⟩
      held := fun i hi => by
        obtain ⟨v, h1, h2, h3⟩ := hd.held i hi
        refine ⟨v, h1, RowAt.keeps h2 HK7.out (fun j e => by have := (h3 j e).2.1; omega), fun j e => ?_⟩
        obtain ⟨a, b, _⟩ := h3 j e
        refine ⟨a, by omega, by omega, by omega, by omega, fun e' => ?_⟩
        have e2 : w4.heap.size = j := by simpa [Value.ownBlock] using e'
        omega
      vlen := hd.vlen
      each := hd.each
      small := hd.small
      ownP := hlt T (Nat.le_refl _) (by omega)
      ownN := hlt ga (by omega) (by omega)
      ownF := hlt gb (by omega) (by omega)
      ownB := InB.at_ ⟨by omega, (Array.getElem?_eq_some_iff.1 M7.out).1⟩
      nf := hm.2.1 }

theorem twin_o (h : DiskO w O R p d) : Calls Try.prog 28 #[.pointer (some ⟨p, 0, none⟩)] w fun e w' => ∃ q, e = .returned (.pointer (some ⟨q, 0, none⟩)) ∧ DiskO w' (NewIn w w') R q d ∧ Apart O R (NewIn w w') R ∧ Below w.heap.size w w' := by
  obtain ⟨⟨gn, gf, vb, vs, hd⟩, hO, hR, hOR⟩ := h
  refine (twin_any hd hO hR).mono ?_
  rintro e w' ⟨q, rfl, h1, h2⟩
  refine ⟨q, rfl, ⟨h1, fun j hj => hj.2, fun j hj => Nat.lt_of_lt_of_le (hR j hj) h2.size, fun j hj hr => ?_⟩, ⟨fun j hj => ⟨fun e => ?_, hOR j hj⟩, fun j hj hr => ?_⟩, h2⟩
  · have := hR j hr; have := hj.1; omega
  · have := hO j hj; have := e.1; omega
  · have := hR j hr; have := hj.1; omega
end Go.Proofs.Ythfncgbkigmmcaa
