/- Read. -/
import Derived.Test.YthfncgbkigmmcaaL8
namespace Go.Proofs.Ythfncgbkigmmcaa
open Go.RowKit

variable {w w' w1 : World} {O R O1 R1 : Nat → Prop} {lp p : Nat} {d d1 : DS} {dead dead1 : Bool} {X : Obj}
set_option maxHeartbeats 800000 in
theorem lRead_ok (h : LedO w O R lp p d false) (ho : d.off = false) (k : Nat) (hk : k + 96 < d.n) (hn : d.n ≤ 4096) : Calls Try.prog 17 #[.pointer (some ⟨lp, 0, none⟩), .int .i64 k] w fun e w' => ∃ g cap, e = .returned (.tuple #[.slice (some ⟨g, 0, none⟩) 512 cap, .int .i64 0]) ∧ Bytes w' (.slice (some ⟨g, 0, none⟩) 512 cap) (blockAt d.now (k + 96)) ∧ w.heap.size ≤ g ∧ g < w'.heap.size ∧ 512 ≤ cap ∧ (∀ i, w'.frozen? ⟨g, i, none⟩ = false) ∧ Below w.heap.size w w' := by
  have HL := Lib.hid (fun w' (hb : Below w.heap.size w w') => h.below hb)
  have HB1 : Hid (∀ o, Below w.heap.size w (w.alloc o)) := fun o => (Below.refl _ w).alloc (Nat.le_refl _) o
  have k0 : (0 : Int) ≤ (k : Int) := by omega
  have k1 : (k : Int) < (d.n : Int) - 96 := by omega
  have HRD : Hid (∀ w1, Below w.heap.size w w1 → Calls Try.prog 43 #[.pointer (some ⟨lp, 0, none⟩), .int .i64 (96 + (k : Int))] w1 fun e w' => ∃ g cap, e = .returned (.slice (some ⟨g, 0, none⟩) 512 cap) ∧ Bytes w' (.slice (some ⟨g, 0, none⟩) 512 cap) (blockAt d.now (k + 96)) ∧ w1.heap.size ≤ g ∧ g < w'.heap.size ∧ 512 ≤ cap ∧ (∀ i, w'.frozen? ⟨g, i, none⟩ = false) ∧ Below w1.heap.size w1 w') := fun w1 hb => by
    have := lread_ok (HL.out w1 hb) ho (k + 96) hk
    rw [show ((k + 96 : Nat) : Int) = 96 + (k : Int) by omega] at this
    exact this
  have HBL := Lib.hid (fun w1 (hb : Below w.heap.size w w1) => lblocks_any (HL.out w1 hb))
  have HAW := Lib.hid (fun w1 (hb : Below w.heap.size w w1) => awake_ok (HL.out w1 hb))
  clear h
  generalize d.n = n at *
  go_enter_defers Try.func17, Try.ntmps17
  go_wp2_with fail
  refine (HAW.out _ (HB1.out _)).mono ?_
  rintro e w1 ⟨rfl, rfl⟩
  go_wp2_with fail
  refine (HBL.out _ (HB1.out _)).mono ?_
  rintro e w1 ⟨rfl, rfl⟩
  go_wp2_with fail
  refine (HRD.out _ (HB1.out _)).mono ?_
  rintro e w2 ⟨g, cap, rfl, q1, q2, q3, q4, q5, hb⟩
  have hb2 := (HB1.out (.cells #[.int .i64 0] 31)).trans (hb.mono (by simp))
  have hc : w2.cell? ⟨w.heap.size, 0, none⟩ = some (.int .i64 0) := (hb.cell (p := ⟨w.heap.size, 0, none⟩) (by simp)).trans (by simp [go_sem])
  have hf : w2.frozen? ⟨w.heap.size, 0, none⟩ = false := (hb.frozen (p := ⟨w.heap.size, 0, none⟩) (by simp)).trans (by simp [go_sem])
  have hg : w.heap.size < g := by simp at q2; omega
  have HB2 := Lib.hid hb2
  have HQ1 := Lib.hid q1
  have HQ3 := Lib.hid q3
  have HQ4 := Lib.hid q4
  have HQ5 := Lib.hid q5
  have HG := Lib.hid hg
  clear hb hb2 q1 q2 q3 q4 q5 hg
  go_wp2_with fail
  refine leaves_idle (eb := w.heap.size) ?_
  refine ⟨_, results_two rfl _ _ _ w.heap.size 0 rfl rfl (World.cell?_setCell_same' _ _ _ (by rw [hc]; rfl)), g, cap, rfl, ?_, Nat.le_of_lt HG.out, by simpa using HQ3.out, HQ4.out, fun i => by rw [World.frozen?_setCell]; exact HQ5.out i, HB2.out.setCell (Nat.le_refl _) _⟩
  exact RowAt.keeps HQ1.out ((Keeps.refl (fun b => b = w.heap.size) w2).setCell ⟨w.heap.size, 0, none⟩ _ (.inl rfl)) (fun k e hk => by cases e; have h2 : g = w.heap.size := hk; have := HG.out; omega)
set_option maxHeartbeats 800000 in
theorem lRead_off (h : LedO w O R lp p d dead) (ho : dead = true ∨ d.off = true) (k : Int) (_ : d.n ≤ 4096) (hk0 : -1000000 ≤ k) (hk1 : k ≤ 1000000) : Calls Try.prog 17 #[.pointer (some ⟨lp, 0, none⟩), .int .i64 k] w fun e w' => e = .returned (.tuple #[.slice none 0 0, .int .i64 11]) ∧ Gone w w' O R lp p d := by
  have HL := Lib.hid (fun w' (hb : Below w.heap.size w w') => h.below hb)
  have HB1 : Hid (∀ o, Below w.heap.size w (w.alloc o)) := fun o => (Below.refl _ w).alloc (Nat.le_refl _) o
  have HEND : Hid (∀ (w1 : World) (fn : Func) (tmps : Array Value), fn.results = #[.tmp 4, .cell 5 31] → tmps.getD 4 undef = .slice none 0 0 → tmps.getD 5 undef = .pointer (some ⟨w.heap.size, 0, none⟩) → Below (w.heap.size + 1) (w.alloc (.cells #[.int .i64 0] 31)) w1 →
      Leaves Try.prog fn tmps (fun e w' => e = .returned (.tuple #[.slice none 0 0, .int .i64 11]) ∧ Gone w w' O R lp p d) [defd lp w.heap.size] (.panicking (stopP 11)) w1) := by
    intro w1 fn tmps hr h4 ht hb
    have t : Turned (w.alloc (.cells #[.int .i64 0] 31)) w1 O R O R := Turned.of_below (hb.mono (by simp)) O R
    have h1 := h.below (((Below.refl _ w).alloc (Nat.le_refl _) (.cells #[.int .i64 0] 31)).trans (hb.mono (by omega)))
    obtain ⟨e1, e2, e3, e4⟩ := h.fresh t
    have hne : lp ≠ w.heap.size := fun e => by have := h.lt lp h.own; omega
    have hc : w1.cell? ⟨w.heap.size, 0, none⟩ = some (.int .i64 0) := by rw [cell_of_row w1 _ 0 _ _ _ e1]; rfl
    refine leaves_off h1.c1 (h1.fr 1) hc (frozen_of_row w1 _ 0 _ _ e1) hne ?_
    exact ⟨_, results_two hr _ _ _ w.heap.size 11 h4 ht (cell_11 w1 lp _ _ _ hc hne), rfl, _, _, h.gone t h1 _⟩
  by_cases hd : dead = true
  · clear h
    go_enter_defers Try.func17, Try.ntmps17
    go_wp2_with fail
    refine (awake_not (HL.out _ (HB1.out _)) hd).mono ?_
    rintro e w1 ⟨rfl, rfl⟩
    go_wp2_with fail
    exact HEND.out _ _ _ rfl rfl rfl (Below.refl _ _)
  · have ho' : d.off = true := ho.resolve_left hd
    have hd' : dead = false := by simpa using hd
    subst hd'
    have HBL := Lib.hid (fun w1 (hb : Below w.heap.size w w1) => lblocks_any (HL.out w1 hb))
    have HAW := Lib.hid (fun w1 (hb : Below w.heap.size w w1) => awake_ok (HL.out w1 hb))
    have HBD := Lib.hid (fun w1 (hb : Below w.heap.size w w1) (a : Int) => lread_bad (HL.out w1 hb) a (by rw [there_off ho']; rfl))
    simp only [there_off ho'] at HBD
    obtain ⟨Od, hdk, _, _⟩ := h.disk
    have HDK : Hid (∀ w1, Below w.heap.size w w1 → Calls Try.prog 73 #[.pointer (some ⟨p, 0, none⟩), .int .i64 0] w1 fun e w' => e = .returned (.tuple #[.slice none 0 0, .int .i64 11]) ∧ w1 = w') := fun w1 hb => by
      obtain ⟨gn, gf, vb, vs, hda⟩ := disk_at (hdk.below hb)
      have := read_bad hda 0 (by rw [there_off ho']; rfl)
      rw [there_off ho'] at this
      exact this
    have c0 : ∀ o, (w.alloc o).cell? ⟨lp, 0, none⟩ = some (.iface 27 (.pointer (some ⟨p, 0, none⟩))) := fun o => (HL.out _ (HB1.out o)).c0
    clear h hdk
    generalize d.n = n at *
    by_cases ka : k < 0
    · go_enter_defers Try.func17, Try.ntmps17
      go_wp2_with fail
      refine (HAW.out _ (HB1.out _)).mono ?_
      rintro e w1 ⟨rfl, rfl⟩
      go_wp2_with fail
      refine (HDK.out _ (HB1.out _)).mono ?_
      rintro e w1 ⟨rfl, rfl⟩
      go_wp2_with fail
      refine (must_not 11 rfl _).mono ?_
      rintro e w1 ⟨rfl, rfl⟩
      go_wp2_with fail
      exact HEND.out _ _ _ rfl rfl rfl (Below.refl _ _)
    · have ka' : 0 ≤ k := by omega
      by_cases kb : (n : Int) - 96 ≤ k
      · go_enter_defers Try.func17, Try.ntmps17
        go_wp2_with fail
        refine (HAW.out _ (HB1.out _)).mono ?_
        rintro e w1 ⟨rfl, rfl⟩
        go_wp2_with fail
        refine (HBL.out _ (HB1.out _)).mono ?_
        rintro e w1 ⟨rfl, rfl⟩
        go_wp2_with fail
        refine (HDK.out _ (HB1.out _)).mono ?_
        rintro e w1 ⟨rfl, rfl⟩
        go_wp2_with fail
        refine (must_not 11 rfl _).mono ?_
        rintro e w1 ⟨rfl, rfl⟩
        go_wp2_with fail
        exact HEND.out _ _ _ rfl rfl rfl (Below.refl _ _)
      · have kb' : k < (n : Int) - 96 := by omega
        go_enter_defers Try.func17, Try.ntmps17
        go_wp2_with fail
        refine (HAW.out _ (HB1.out _)).mono ?_
        rintro e w1 ⟨rfl, rfl⟩
        go_wp2_with fail
        refine (HBL.out _ (HB1.out _)).mono ?_
        rintro e w1 ⟨rfl, rfl⟩
        go_wp2_with fail
        refine (HBD.out _ (HB1.out _) _).mono ?_
        rintro e w1 ⟨rfl, rfl⟩
        go_wp2_with fail
        exact HEND.out _ _ _ rfl rfl rfl (Below.refl _ _)
set_option maxHeartbeats 800000 in
theorem lRead_range (h : LedO w O R lp p d false) (ho : d.off = false) (k : Int) (_ : d.n ≤ 4096) (hn0 : 0 < d.n) (hk : k < 0 ∨ (0 ≤ k ∧ (d.n : Int) - 96 ≤ k)) : Calls Try.prog 17 #[.pointer (some ⟨lp, 0, none⟩), .int .i64 k] w fun e w' => e = .returned (.tuple #[.slice none 0 0, .int .i64 10]) ∧ Below w.heap.size w w' := by
  have HL := Lib.hid (fun w' (hb : Below w.heap.size w w') => h.below hb)
  have HB1 : Hid (∀ o, Below w.heap.size w (w.alloc o)) := fun o => (Below.refl _ w).alloc (Nat.le_refl _) o
  have HBL := Lib.hid (fun w1 (hb : Below w.heap.size w w1) => lblocks_any (HL.out w1 hb))
  have HAW := Lib.hid (fun w1 (hb : Below w.heap.size w w1) => awake_ok (HL.out w1 hb))
  have c0 : ∀ o, (w.alloc o).cell? ⟨lp, 0, none⟩ = some (.iface 27 (.pointer (some ⟨p, 0, none⟩))) := fun o => (HL.out _ (HB1.out o)).c0
  have HDK : Hid (∀ w1, Below w.heap.size w w1 → Calls Try.prog 73 #[.pointer (some ⟨p, 0, none⟩), .int .i64 0] w1 fun e w' => ∃ v, e = .returned (.tuple #[v, .int .i64 0]) ∧ Below w1.heap.size w1 w') := fun w1 hb => by
    obtain ⟨Od, hdk, _, _⟩ := (HL.out w1 hb).disk
    obtain ⟨gn, gf, vb, vs, hda⟩ := disk_at hdk
    refine (read_ok hda 0 hn0 ho).mono ?_
    rintro e w' ⟨g, cap, rfl, _, _, _, _, _, hb⟩
    exact ⟨_, rfl, hb⟩
  have HEND : Hid (∀ (w1 : World) (fn : Func) (tmps : Array Value), fn.results = #[.tmp 4, .cell 5 31] → tmps.getD 4 undef = .slice none 0 0 → tmps.getD 5 undef = .pointer (some ⟨w.heap.size, 0, none⟩) → Below (w.heap.size + 1) (w.alloc (.cells #[.int .i64 0] 31)) w1 →
      Leaves Try.prog fn tmps (fun e w' => e = .returned (.tuple #[.slice none 0 0, .int .i64 10]) ∧ Below w.heap.size w w') [defd lp w.heap.size] (.panicking (stopP 10)) w1) := by
    intro w1 fn tmps hr h4 ht hb
    have e1 : w1.heap[w.heap.size]? = some (.cells #[.int .i64 0] 31 (0, 0)) := (hb.block _ (by omega)).trans (heap_alloc_new w _)
    have hc : w1.cell? ⟨w.heap.size, 0, none⟩ = some (.int .i64 0) := by rw [cell_of_row w1 _ 0 _ _ _ e1]; rfl
    have hl := World.block_lt_of_cell? _ _ hc
    refine leaves_err 10 rfl hc (frozen_of_row w1 _ 0 _ _ e1) ?_
    have hb2 : Below w.heap.size w w1 := (HB1.out _).trans (hb.mono (by omega))
    refine ⟨_, results_two hr _ _ _ w.heap.size 10 h4 ht ?_, rfl, (hb2.setCell (p := ⟨w.heap.size, 0, none⟩) (Nat.le_refl _) _).alloc (by simp; exact Nat.le_of_lt hl) _⟩
    rw [((Below.refl _ (w1.setCell ⟨w.heap.size, 0, none⟩ (.int .i64 10))).alloc (Nat.le_refl _) _).cell (by simpa using hl)]
    exact World.cell?_setCell_same' _ _ _ (by rw [hc]; rfl)
  clear h
  generalize d.n = n at *
  rcases hk with ka | ⟨ka, kb⟩
  · go_enter_defers Try.func17, Try.ntmps17
    go_wp2_with fail
    refine (HAW.out _ (HB1.out _)).mono ?_
    rintro e w1 ⟨rfl, rfl⟩
    go_wp2_with fail
    refine (HDK.out _ (HB1.out _)).mono ?_
    rintro e w1 ⟨v, rfl, hb⟩
    have HB2 := Lib.hid hb
    clear hb
    go_wp2_with fail
    refine (must_ok _).mono ?_
    rintro e w2 ⟨rfl, rfl⟩
    go_wp2_with fail
    exact HEND.out _ _ _ rfl rfl rfl (HB2.out.mono (by simp))
  · go_enter_defers Try.func17, Try.ntmps17
    go_wp2_with fail
    refine (HAW.out _ (HB1.out _)).mono ?_
    rintro e w1 ⟨rfl, rfl⟩
    go_wp2_with fail
    refine (HBL.out _ (HB1.out _)).mono ?_
    rintro e w1 ⟨rfl, rfl⟩
    go_wp2_with fail
    refine (HDK.out _ (HB1.out _)).mono ?_
    rintro e w1 ⟨v, rfl, hb⟩
    have HB2 := Lib.hid hb
    clear hb
    go_wp2_with fail
    refine (must_ok _).mono ?_
    rintro e w2 ⟨rfl, rfl⟩
    go_wp2_with fail
    exact HEND.out _ _ _ rfl rfl rfl (HB2.out.mono (by simp))
end Go.Proofs.Ythfncgbkigmmcaa
