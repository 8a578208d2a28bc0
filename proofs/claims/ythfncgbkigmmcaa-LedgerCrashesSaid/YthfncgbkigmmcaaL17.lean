/- The map of a commit; puts; what a commit does. -/
import Derived.Test.YthfncgbkigmmcaaL16
import Derived.Maps.OwnSet
namespace Go.Proofs.Ythfncgbkigmmcaa
open Go.RowKit Go.Maps

/-- what 'seen' has -/
def seenD (d : DataW Unit) (a : Nat) : DataW Unit := d.put (.int .i64 (a : Int)) (.lit (.int .i64 1))
def mapD (S : List Nat) : DataW Unit := S.foldl seenD (.map [])
theorem mapD_snoc (S : List Nat) (a : Nat) : mapD (S ++ [a]) = (mapD S).put (.int .i64 (a : Int)) (.lit (.int .i64 1)) := by
  unfold mapD
  rw [List.foldl_append]
  rfl
theorem at_fold (a : Nat) (z : DataW Unit) : ∀ (S : List Nat) (d : DataW Unit), IsMap d → a ∉ S → (S.foldl seenD d).atKey (.int .i64 (a : Int)) z = d.atKey (.int .i64 (a : Int)) z
  | [], d, _, _ => rfl
  | x :: S, d, h, hn => by
    have hx : a ≠ x := fun e => hn (by simp [e])
    rw [List.foldl_cons, at_fold a z S (seenD d x) (h.put _ _) (fun e => hn (List.mem_cons_of_mem _ e)), seenD, atKey_put_other (by simp; omega)]
theorem at_mapD {S : List Nat} {a : Nat} (h : a ∉ S) : (mapD S).atKey (.int .i64 (a : Int)) (.lit (.int .i64 0)) = .lit (.int .i64 0) := by
  rw [mapD, at_fold a _ S _ isMap_empty h]
  rfl
theorem zero3 (w : World) : (zeroValue 3).run Try.prog w = .ok (.int .i64 0) w := by kernel_rfl
theorem keyed3 : Keyed Try.prog 3 := int_keyed Try.underlying3
def OwnSeen (w : World) (m n : Nat) (S : List Nat) : Prop := w.ownsMap Try.prog 3 (plainElem Try.prog 3) m n (mapD S)
theorem seen_look {w : World} {m n : Nat} {S : List Nat} {a : Nat} (h : OwnSeen w m n S) (ha : a ∉ S) (hw : a ≤ 1000000) : (Instr.lookup 70 (.map (some m)) (.int .i64 (a : Int)) false).run Try.prog w = .ok (.int .i64 0) w := by
  obtain ⟨c, h1, h2, _⟩ := World.ownsMap.lookup_int h keyed3 Try.underlying70 Try.underlying3 (zero3 w) (keyOf_int_mk (a := (a : Int)) Try.underlying3 (WalkArith.wf_i64 (by omega)))
  rw [at_mapD ha] at h2
  cases h2
  exact h1

variable {w w' w1 wr : World} {O R O1 R1 : Nat → Prop} {lp p : Nat} {d D : DS} {dead dead1 : Bool}
/-- puts that no call on the ledger turns -/
def PutsF (w : World) (O : Nat → Prop) (v : Value) (ps : List (Nat × Bs)) : Prop := ∃ a cap, v = .slice a ps.length cap ∧ ∀ k (h : k < ps.length), ∃ g off g0 off0 cap0, a = some ⟨g, off, none⟩ ∧ ¬ O g ∧ w.cell? ⟨g, off + k * 2, none⟩ = some (.int .i64 (ps[k].1 : Int)) ∧
  w.cell? ⟨g, off + k * 2 + 1, none⟩ = some (.slice (some ⟨g0, off0, none⟩) 512 cap0) ∧ ¬ O g0 ∧ Bytes w (.slice (some ⟨g0, off0, none⟩) 512 cap0) ps[k].2
def PutOk (n : Nat) (ps : List (Nat × Bs)) : Prop := 1 ≤ ps.length ∧ ps.length ≤ 40 ∧ (ps.map (·.1)).Nodup ∧ ∀ x ∈ ps, x.1 + 96 < n ∧ x.2.length = 512
theorem PutsF.turned {n : Nat} {v : Value} {ps : List (Nat × Bs)} (h : PutsF w O v ps) (ho : PutOk n ps) (t : Turned w w1 O R O1 R1) : PutsF w1 O1 v ps := by
  obtain ⟨a, cap, e, h1⟩ := h
  refine ⟨a, cap, e, fun k hk => ?_⟩
  obtain ⟨g, off, g0, off0, cap0, e1, hg, c1, c2, hg0, hx⟩ := h1 k hk
  have hl : g < w.heap.size := World.block_lt_of_cell? _ _ c1
  have hx2 := bytes_turned hx hg0 (ho.2.2.2 _ (List.getElem_mem hk)).2 t
  exact ⟨g, off, g0, off0, cap0, e1, fun ho => (t.o _ ho).elim hg (fun h3 => by have := h3.1; omega), (t.keeps.cell (p := ⟨g, off + k * 2, none⟩) hl hg).trans c1, (t.keeps.cell (p := ⟨g, off + k * 2 + 1, none⟩) hl hg).trans c2, hx2.2, hx2.1⟩
theorem PutsF.below {n : Nat} {v : Value} {ps : List (Nat × Bs)} (h : PutsF w O v ps) (_ : PutOk n ps) (hb : Below w.heap.size w w1) : PutsF w1 O v ps := by
  obtain ⟨a, cap, e, h1⟩ := h
  refine ⟨a, cap, e, fun k hk => ?_⟩
  obtain ⟨g, off, g0, off0, cap0, e1, hg, c1, c2, hg0, hx⟩ := h1 k hk
  exact ⟨g, off, g0, off0, cap0, e1, hg, (hb.cell (p := ⟨g, off + k * 2, none⟩) (World.block_lt_of_cell? _ _ c1)).trans c1, (hb.cell (p := ⟨g, off + k * 2 + 1, none⟩) (World.block_lt_of_cell? _ _ c2)).trans c2, hg0, RowAt.below hx hb (Nat.le_refl _)⟩
theorem PutsF.at {a : Option Addr} {n cap : Nat} {ps : List (Nat × Bs)} (h : PutsF w O (.slice a n cap) ps) (k : Nat) (hk : k < ps.length) : ∃ g off g0 off0 cap0, a = some ⟨g, off, none⟩ ∧ w.cell? ⟨g, off + k * 2, none⟩ = some (.int .i64 (ps[k].1 : Int)) ∧
    w.cell? ⟨g, off + k * 2 + 1, none⟩ = some (.slice (some ⟨g0, off0, none⟩) 512 cap0) ∧ ¬ O g0 ∧ Bytes w (.slice (some ⟨g0, off0, none⟩) 512 cap0) ps[k].2 := by
  obtain ⟨a', cap', h1, h2⟩ := h
  cases h1
  obtain ⟨g, off, g0, off0, cap0, e1, _, c1, c2, hg0, hx⟩ := h2 k hk
  exact ⟨g, off, g0, off0, cap0, e1, c1, c2, hg0, hx⟩

/-- what a commit does -/
def commW1 : Nat → List (Nat × Bs) → List LOp
  | _, [] => []
  | i, (_, x) :: r => .w (1 + i) x :: commW1 (i + 1) r
def commW2 : List (Nat × Bs) → List LOp
  | [] => []
  | (a, x) :: r => .w (96 + a) x :: commW2 r
def commOps (ps : List (Nat × Bs)) : List LOp := commW1 0 ps ++ (mark3 (ps.map (·.1)) ++ (commW2 ps ++ mark3 []))
/-- how it ends -/
def CEnds (w : World) (O R : Nat → Prop) (lp p : Nat) (Z : DS × Bool) (e : Ending) (w' : World) : Prop :=
  (Z.2 = true ∧ e = .returned (.int .i64 0) ∧ ∃ O' R', LedO w' O' R' lp p Z.1 false ∧ Turned w w' O R O' R') ∨ (Z.2 = false ∧ e = .returned (.int .i64 11) ∧ ∃ O' R', LedO w' O' R' lp p Z.1 true ∧ Turned w w' O R O' R')
def CAt (w : World) (O R : Nat → Prop) (lp p n m : Nat) (D : DS) (O1 R1 : Nat → Prop) (wr : World) : Prop :=
  LedO wr O1 R1 lp p D false ∧ Turned (w.alloc (.cells #[.int .i64 0] 31)) wr O R O1 R1 ∧ D.n = n ∧ Room m D
theorem CAt.below {n m : Nat} (h : CAt w O R lp p n m D O1 R1 wr) (hb : Below wr.heap.size wr w1) : CAt w O R lp p n m D O1 R1 w1 := ⟨h.1.below hb, h.2.1.trans (Turned.of_below hb O1 R1), h.2.2⟩
theorem CAt.less {n m m' : Nat} (h : CAt w O R lp p n m D O1 R1 wr) (hm : m' ≤ m) : CAt w O R lp p n m' D O1 R1 wr := ⟨h.1, h.2.1, h.2.2.1, h.2.2.2.less hm⟩
theorem CAt.write {n m : Nat} (h : CAt w O R lp p n (m + 1) D O1 R1 wr) (k : Nat) (hk : k < n) (g0 off cap : Nat) (hg : ¬ O1 g0) (x : Bs) (hx : Bytes wr (.slice (some ⟨g0, off, none⟩) 512 cap) x) (hxl : x.length = 512) :
    Calls Try.prog 39 #[.pointer (some ⟨lp, 0, none⟩), .int .i64 k, .slice (some ⟨g0, off, none⟩) 512 cap] wr fun e w' =>
      (D.off = true ∧ e = .panicked (stopP 11) ∧ w' = wr) ∨ (D.off = false ∧ e = .returned (.tuple #[]) ∧ ∃ O' R', CAt w O R lp p n m (D.write k x) O' R' w' ∧ Turned wr w' O1 R1 O' R') :=
  (lwrite_any h.1 (h.2.2.2.less (by omega)) k (by rw [h.2.2.1]; exact hk) g0 off cap hg x hx hxl).mono fun e w' h' => h'.imp id fun ⟨a, b, O', R', c1, c2⟩ => ⟨a, b, O', R', ⟨c1, h.2.1.trans c2, by rw [write_n]; exact h.2.2.1, h.2.2.2.write k x⟩, c2⟩
theorem CAt.flush {n m : Nat} (h : CAt w O R lp p n m D O1 R1 wr) :
    Calls Try.prog 40 #[.pointer (some ⟨lp, 0, none⟩)] wr fun e w' =>
      (D.off = true ∧ e = .panicked (stopP 11) ∧ CAt w O R lp p n m D O1 R1 w') ∨ (D.off = false ∧ e = .returned (.tuple #[]) ∧ ∃ O' R', CAt w O R lp p n m D.flush O' R' w' ∧ Turned wr w' O1 R1 O' R') :=
  (lflush_any h.1 (h.2.2.2.less (by omega))).mono fun e w' h' => h'.imp (fun ⟨a, b, c⟩ => ⟨a, b, h.below c⟩) fun ⟨a, b, O', R', c1, c2⟩ => ⟨a, b, O', R', ⟨c1, h.2.1.trans c2, by rw [flush_n]; exact h.2.2.1, h.2.2.2.flush⟩, c2⟩
theorem CAt.bad {n m : Nat} (h0 : LedO w O R lp p d dead) (h : CAt w O R lp p n m D O1 R1 wr) {fn : Func} {tmps : Array Value} {Z : DS × Bool} (hz : Z = (D, false)) (hr : fn.results = #[.cell 4 31]) (h4 : tmps.getD 4 undef = .pointer (some ⟨w.heap.size, 0, none⟩)) :
    Leaves Try.prog fn tmps (fun e w' => CEnds w O R lp p Z e w') [defd lp w.heap.size] (.panicking (stopP 11)) wr := by
  subst hz
  obtain ⟨e1, e2, e3, e4⟩ := h0.fresh h.2.1
  have hne : lp ≠ w.heap.size := fun e => by have := h0.lt lp h0.own; omega
  have hc : wr.cell? ⟨w.heap.size, 0, none⟩ = some (.int .i64 0) := by rw [cell_of_row wr _ 0 _ _ _ e1]; rfl
  refine leaves_off h.1.c1 (h.1.fr 1) hc (frozen_of_row wr _ 0 _ _ e1) hne ?_
  exact ⟨_, results_err hr _ _ w.heap.size 11 h4 (cell_11 wr lp _ _ _ hc hne), .inr ⟨rfl, rfl, _, _, h0.gone h.2.1 h.1 _⟩⟩
theorem CAt.good {n m : Nat} (h0 : LedO w O R lp p d dead) (h : CAt w O R lp p n m D O1 R1 wr) {fn : Func} {tmps : Array Value} {Z : DS × Bool} (hz : Z = (D, true)) (hr : fn.results = #[.cell 4 31]) (h4 : tmps.getD 4 undef = .pointer (some ⟨w.heap.size, 0, none⟩)) :
    Leaves Try.prog fn tmps (fun e w' => CEnds w O R lp p Z e w') [defd lp w.heap.size] .returning (wr.setCell ⟨w.heap.size, 0, none⟩ (.int .i64 0)) := by
  subst hz
  obtain ⟨e1, e2, e3, e4⟩ := h0.fresh h.2.1
  have hc : wr.cell? ⟨w.heap.size, 0, none⟩ = some (.int .i64 0) := by rw [cell_of_row wr _ 0 _ _ _ e1]; rfl
  have hk : Keeps (fun j => j = w.heap.size) wr (wr.setCell ⟨w.heap.size, 0, none⟩ (.int .i64 0)) := (Keeps.refl (fun j => j = w.heap.size) wr).setCell ⟨w.heap.size, 0, none⟩ _ (.inl rfl)
  refine leaves_idle ?_
  refine ⟨_, results_err hr _ _ w.heap.size 0 h4 (World.cell?_setCell_same' _ _ _ (by rw [hc]; rfl)), .inl ⟨rfl, rfl, O1, R1, ?_, ?_⟩⟩
  · obtain ⟨Od, a1, a2, a3⟩ := h.1.disk
    refine ⟨⟨Od, ⟨a1.1.keep hk (fun i hi e => e2 (a2 _ (e ▸ hi))) (fun i hi e => e3 (e ▸ hi)), fun j hj => Nat.lt_of_lt_of_le (a1.2.1 j hj) hk.size, fun j hj => Nat.lt_of_lt_of_le (a1.2.2.1 j hj) hk.size, a1.2.2.2⟩, a2, a3⟩, ?_, h.1.own, fun j hj => Nat.lt_of_lt_of_le (h.1.lt j hj) hk.size, h.1.ap⟩
    exact (hk.block _ (h.1.lt _ h.1.own) (fun e => e2 (e ▸ h.1.own))).trans h.1.cell
  · have t0 := Turned.behind h.2.1
    exact ⟨t0.keeps.trans hk (fun i hi => .inr (by subst hi; exact Nat.le_refl _)), fun j hj => (t0.o j hj).imp id (·.left hk.size), fun j hj => (t0.r j hj).imp id (·.left hk.size)⟩
end Go.Proofs.Ythfncgbkigmmcaa
