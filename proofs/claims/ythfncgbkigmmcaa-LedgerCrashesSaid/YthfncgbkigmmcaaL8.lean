/- Sync without power; Read. -/
import Derived.Test.YthfncgbkigmmcaaL7
namespace Go.Proofs.Ythfncgbkigmmcaa
open Go.RowKit

variable {w w' w1 : World} {O R O1 R1 : Nat → Prop} {lp p : Nat} {d d1 : DS} {dead dead1 : Bool} {X : Obj}
/-- A cell that was made ahead of a call on a ledger is as it was. -/
theorem LedO.fresh (h : LedO w O R lp p d dead) (t : Turned (w.alloc X) w1 O R O1 R1) : w1.heap[w.heap.size]? = some X ∧ ¬ O1 w.heap.size ∧ ¬ R1 w.heap.size ∧ w.heap.size < w1.heap.size := by
  obtain ⟨Od, hd, h2, h3⟩ := h.disk
  have ho : ¬ O w.heap.size := fun e => by have := h.lt _ e; omega
  have hr : ¬ R w.heap.size := fun e => by have := hd.2.2.1 _ e; omega
  have hs : w.heap.size < (w.alloc X).heap.size := by simp
  refine ⟨(t.keeps.block _ hs ho).trans (heap_alloc_new w X), fun e => ?_, fun e => ?_, Nat.lt_of_lt_of_le hs t.keeps.size⟩
  · exact (t.o _ e).elim ho (fun e => by have := e.1; omega)
  · exact (t.r _ e).elim hr (fun e => by have := e.1; omega)
theorem Turned.behind {X : Obj} (t : Turned (w.alloc X) w1 O R O1 R1) : Turned w w1 O R O1 R1 :=
  Turned.trans (Turned.of_below ((Below.refl _ w).alloc (Nat.le_refl _) X) O R) t
/-- what is there behind 'ErrOff' -/
theorem LedO.gone (h : LedO w O R lp p d dead) (t : Turned (w.alloc X) w1 O R O1 R1) (h1 : LedO w1 O1 R1 lp p d1 dead1) (o : Obj) :
    LedO (((w1.setCell ⟨lp, 1, none⟩ (.bool true)).setCell ⟨w.heap.size, 0, none⟩ (.int .i64 11)).alloc o) O1 R1 lp p d1 true ∧ Turned w (((w1.setCell ⟨lp, 1, none⟩ (.bool true)).setCell ⟨w.heap.size, 0, none⟩ (.int .i64 11)).alloc o) O R O1 R1 := by
  obtain ⟨e1, e2, e3, e4⟩ := h.fresh t
  obtain ⟨g1, g2⟩ := h1.die (u := .int .i64 11) (o := o) e4 e2 e3
  have t0 := Turned.behind t
  refine ⟨g1, ⟨t0.keeps.trans g2 (fun i hi => ?_), fun j hj => (t0.o j hj).imp id (·.left g2.size), fun j hj => (t0.r j hj).imp id (·.left g2.size)⟩⟩
  rcases hi with rfl | rfl
  · exact .inl h.own
  · exact .inr (Nat.le_refl _)
theorem cell_11 (w1 : World) (lp eb : Nat) (x : Value) (o : Obj) (hc : w1.cell? ⟨eb, 0, none⟩ = some x) (he : lp ≠ eb) : ((((w1.setCell ⟨lp, 1, none⟩ (.bool true)).setCell ⟨eb, 0, none⟩ (.int .i64 11)).alloc o)).cell? ⟨eb, 0, none⟩ = some (.int .i64 11) := by
  have hl := World.block_lt_of_cell? _ _ hc
  rw [((Below.refl _ ((w1.setCell ⟨lp, 1, none⟩ (.bool true)).setCell ⟨eb, 0, none⟩ (.int .i64 11))).alloc (Nat.le_refl _) o).cell (by simpa using hl)]
  exact World.cell?_setCell_same' _ _ _ (by rw [World.cell?_setCell_other (h := by intro e; have := congrArg Addr.block e; exact he this), hc]; rfl)

/-- without power, or dead: ErrOff, and dead for good -/
def Gone (w w' : World) (O R : Nat → Prop) (lp p : Nat) (d : DS) : Prop := ∃ O' R', LedO w' O' R' lp p d true ∧ Turned w w' O R O' R'
theorem there_off {d : DS} (ho : d.off = true) (k : Int) : d.there k = 11 := by unfold DS.there; rw [if_pos ho]
/-- awake, when it is not -/
theorem awake_not (h : LedO w O R lp p d dead) (hd : dead = true) : Calls Try.prog 38 #[.pointer (some ⟨lp, 0, none⟩)] w fun x w' => x = .panicked (stopP 11) ∧ w' = w := by subst hd; exact awake_dead h
set_option maxHeartbeats 800000 in
theorem sync_off (h : LedO w O R lp p d dead) (ho : dead = true ∨ d.off = true) : Calls Try.prog 21 #[.pointer (some ⟨lp, 0, none⟩)] w fun e w' => e = .returned (.int .i64 11) ∧ Gone w w' O R lp p d := by
  have HL := Lib.hid (fun w' (hb : Below w.heap.size w w') => h.below hb)
  have HB1 : Hid (∀ o, Below w.heap.size w (w.alloc o)) := fun o => (Below.refl _ w).alloc (Nat.le_refl _) o
  have HEND : Hid (∀ (w1 : World) (fn : Func) (tmps : Array Value), fn.results = #[.cell 2 31] → tmps.getD 2 undef = .pointer (some ⟨w.heap.size, 0, none⟩) → Below (w.heap.size + 1) (w.alloc (.cells #[.int .i64 0] 31)) w1 →
      Leaves Try.prog fn tmps (fun e w' => e = .returned (.int .i64 11) ∧ Gone w w' O R lp p d) [defd lp w.heap.size] (.panicking (stopP 11)) w1) := by
    intro w1 fn tmps hr ht hb
    have t : Turned (w.alloc (.cells #[.int .i64 0] 31)) w1 O R O R := Turned.of_below (hb.mono (by simp)) O R
    have h1 := h.below (((Below.refl _ w).alloc (Nat.le_refl _) (.cells #[.int .i64 0] 31)).trans (hb.mono (by omega)))
    obtain ⟨e1, e2, e3, e4⟩ := h.fresh t
    have hne : lp ≠ w.heap.size := fun e => by have := h.lt lp h.own; omega
    have hc : w1.cell? ⟨w.heap.size, 0, none⟩ = some (.int .i64 0) := by rw [cell_of_row w1 _ 0 _ _ _ e1]; rfl
    refine leaves_off h1.c1 (h1.fr 1) hc (frozen_of_row w1 _ 0 _ _ e1) hne ?_
    exact ⟨_, results_err hr _ _ w.heap.size 11 ht (cell_11 w1 lp _ _ _ hc hne), rfl, _, _, h.gone t h1 _⟩
  clear h
  by_cases hd : dead = true
  · go_enter_defers Try.func21, Try.ntmps21
    go_wp2_with fail
    refine (awake_not (HL.out _ (HB1.out _)) hd).mono ?_
    rintro e w1 ⟨rfl, rfl⟩
    go_wp2_with fail
    exact HEND.out _ _ _ rfl rfl (Below.refl _ _)
  · have ho' : d.off = true := ho.resolve_left hd
    have hd' : dead = false := by simpa using hd
    subst hd'
    go_enter_defers Try.func21, Try.ntmps21
    go_wp2_with fail
    refine (awake_ok (HL.out _ (HB1.out _))).mono ?_
    rintro e w1 ⟨rfl, rfl⟩
    go_wp2_with fail
    have HBD := lread_bad (HL.out _ (HB1.out (.cells #[.int .i64 0] 31))) 0 (by rw [there_off ho']; rfl)
    rw [there_off ho'] at HBD
    refine HBD.mono ?_
    rintro e w2 ⟨rfl, rfl⟩
    go_wp2_with fail
    exact HEND.out _ _ _ rfl rfl (Below.refl _ _)
end Go.Proofs.Ythfncgbkigmmcaa
