/- LedgerAnew. -/
import Derived.Test.YthfncgbkigmmcaaL30
namespace Go.Proofs.Ythfncgbkigmmcaa
open Go.RowKit
set_option linter.unusedVariables false

variable {w w' w1 wr : World} {B lp p n : Nat} {d D : DS} {dead : Bool} {c : Nat → Bs}
/-- noughts, made here -/
theorem make_ints (n : Nat) (hn : n ≤ 1000) : ∃ X : Obj, (∀ w : World, (Instr.makeSlice 46 (.int .i64 n) (.int .i64 n)).run Try.prog w = .ok (.slice (some ⟨w.heap.size, 0, none⟩) n n) (w.alloc X)) ∧ ∀ w : World, StAt (w.alloc X) (.slice (some ⟨w.heap.size, 0, none⟩) n n) n (fun _ => 0) := by
  refine ⟨Obj.cells (madeCells #[Value.int .i64 0] n) 3 (0, 0), fun w => ?_, fun w => ?_⟩
  · exact run_make_row' (P := Try.prog) 46 3 (.int .i64 0) 8 Try.underlying46 infoI rfl .i64 .i64 n (by omega) (by omega) w
  · refine ⟨_, n, rfl, Nat.le_refl _, fun i hi => ?_⟩
    rw [cell_of_row _ _ _ _ _ _ (heap_alloc_new _ _)]
    have : (madeCells #[Value.int .i64 0] n).toList[i]? = some (.int .i64 0) := by
      rw [toList_madeCells_one, List.getElem?_replicate, if_pos hi]
    simpa using this
theorem QL.crIn (h : QL w B lp p n c) : CrIn w B p n (Has n c) := h.la.crIn
/-- behind a crash: a ledger with these blocks -/
theorem open_has (h : Left w B p n (Has n c)) (hB : B ≤ w.heap.size) (hn : 97 ≤ n) :
    Calls Try.prog 24 #[.pointer (some ⟨p, 0, none⟩)] w fun e w' => ∃ lp, e = .returned (.tuple #[.pointer (some ⟨lp, 0, none⟩), .int .i64 0]) ∧ QL w' B lp p n c ∧ Below B w w' :=
  (open_left h hB hn (C := fun c' => c' = c) (fun I hI => ⟨c, rfl, hI⟩)).mono fun e w' ⟨lp, c', h1, h2, h3, h4⟩ => ⟨lp, h1, h2 ▸ h3, h4⟩
theorem sync_quiet (h : QL w B lp p n c) (hB : B ≤ w.heap.size) (hn : 97 ≤ n) : Calls Try.prog 21 #[.pointer (some ⟨lp, 0, none⟩)] w fun e w' => e = .returned (.int .i64 0) ∧ QL w' B lp p n c ∧ Below B w w' := by
  obtain ⟨d, h1, h2, h3⟩ := h
  refine (sync_led h1 hB (by rw [h2.n]; omega)).mono ?_
  rintro e w' ⟨⟨_, q1, q2⟩ | ⟨q, _⟩, hb⟩
  · exact ⟨q1, ⟨d, q2, h2, h3⟩, hb⟩
  · rw [h3.1] at q
    cases q
/-- the cells of an Op -/
def OpAt (w : World) (g : Nat) (x1 x2 : Int) (v2 v3 v4 : Value) : Prop := w.cell? ⟨g, 0, none⟩ = some (.int .i64 x1) ∧ w.cell? ⟨g, 1, none⟩ = some (.int .i64 x2) ∧ w.cell? ⟨g, 2, none⟩ = some v2 ∧ w.cell? ⟨g, 3, none⟩ = some v3 ∧ w.cell? ⟨g, 4, none⟩ = some v4
theorem OpAt.new (w : World) (x1 x2 : Int) (v2 v3 v4 : Value) : OpAt (w.alloc (.cells #[.int .i64 x1, .int .i64 x2, v2, v3, v4] 52 (0, 0))) w.heap.size x1 x2 v2 v3 v4 := by
  refine ⟨?_, ?_, ?_, ?_, ?_⟩ <;> (rw [cell_of_row _ _ _ _ _ _ (heap_alloc_new _ _)]; rfl)
theorem OpAt.below {g : Nat} {x1 x2 : Int} {v2 v3 v4 : Value} (h : OpAt w g x1 x2 v2 v3 v4) (hb : Below w.heap.size w w') : OpAt w' g x1 x2 v2 v3 v4 := by
  obtain ⟨h0, h1, h2, h3, h4⟩ := h
  have hl := World.block_lt_of_cell? _ _ h0
  exact ⟨(hb.cell (p := ⟨g, 0, none⟩) hl).trans h0, (hb.cell (p := ⟨g, 1, none⟩) hl).trans h1, (hb.cell (p := ⟨g, 2, none⟩) hl).trans h2, (hb.cell (p := ⟨g, 3, none⟩) hl).trans h3, (hb.cell (p := ⟨g, 4, none⟩) hl).trans h4⟩
set_option maxRecDepth 8000 in
set_option maxHeartbeats 1600000 in
theorem anew_law (aa : Option Addr) (an ac : Nat) (fs : Nat → Int) (da : Option Addr) (dn dc : Nat) (ds : Nat → Int) (w : World) (ha : IntsB w aa an fs) (hd : IntsB w da dn ds) :
    Calls Try.prog 7 #[.slice aa an ac, .slice da dn dc] w fun e w' => e = .returned (.bool true) ∧ Below w.heap.size w w' := by
  have HA := Lib.hid ha
  have HD := Lib.hid hd
  obtain ⟨X, hmk, hst⟩ := make_ints 20 (by omega)
  have hmk : ∀ w, (Instr.makeSlice 46 (.int .i64 20) (.int .i64 20)).run Try.prog w = .ok (.slice (some ⟨w.heap.size, 0, none⟩) 20 20) (w.alloc X) := hmk
  have HST := Lib.hid hst
  clear ha hd hst
  by_cases h40 : 40 < an
  · have h40' : (40 : Int) < (an : Int) := by omega
    go_enter Try.func7, Try.ntmps7
    go_wp2_with fail
    refine (alive_any _).mono ?_
    rintro e w0 ⟨rfl, hb0⟩
    have HB0 : Hid (∀ o, Below w.heap.size w (w0.alloc o)) := fun o => hb0.trans (((Below.refl _ _).alloc (Nat.le_refl _) o).mono hb0.size)
    clear hb0
    go_wp2_with fail
    go_ret
    exact ⟨rfl, HB0.out _⟩
  have h40' : ¬ (40 : Int) < (an : Int) := by omega
  go_enter Try.func7, Try.ntmps7
  go_wp2_with fail
  refine (alive_any _).mono ?_
  rintro e w0 ⟨rfl, hb0⟩
  have HOP : Hid (OpAt (w0.alloc (.cells #[.int .i64 0, .int .i64 0, .slice aa an ac, .slice da dn dc, .slice none 0 0] 52 (0, 0))) w0.heap.size 0 0 (.slice aa an ac) (.slice da dn dc) (.slice none 0 0)) := OpAt.new _ _ _ _ _ _
  have HB1 : Hid (Below w.heap.size w (w0.alloc (.cells #[.int .i64 0, .int .i64 0, .slice aa an ac, .slice da dn dc, .slice none 0 0] 52 (0, 0)))) := hb0.trans (((Below.refl _ _).alloc (Nat.le_refl _) _).mono hb0.size)
  clear hb0
  have HR := Lib.hid (fun W (hW : Below w.heap.size w W) => refused_any 0 0 aa an ac fs (.slice da dn dc) (.slice none 0 0) 20 W (HA.out.below hW) (by omega))
  go_wp2_with fail
  refine (HR.out _ HB1.out).mono ?_
  rintro e w2 ⟨r, rfl, hr, hb2⟩
  have HB2 := Lib.hid (HB1.out.trans (hb2.mono HB1.out.size))
  have HOP2 := Lib.hid (HOP.out.below hb2)
  obtain ⟨G, hG⟩ : ∃ G, G = w0.heap.size := ⟨_, rfl⟩
  rw [← hG] at HOP2 ⊢
  clear hb2 hG HR
  by_cases hr0 : r = 0
  · subst hr0
    have hga := hr rfl
    have HGA := Lib.hid hga
    have HFR := Lib.hid (fresh_in 20 w2 (by omega) (by omega))
    clear hr hga
    go_wp2_with fail
    refine (HFR.out).mono ?_
    rintro e w3 ⟨p, lp, rfl, hq3, hb3⟩
    have HQ3 := Lib.hid hq3
    have HB3 := Lib.hid (HB2.out.trans (hb3.mono HB2.out.size))
    have HZ3 := Lib.hid hb3.size
    have HZ2 := Lib.hid HB2.out.size
    obtain ⟨o0, o1, o2, o3, o4⟩ := HOP2.out.below hb3
    have HP := Lib.hid (puts_any 0 0 aa an ac fs da dn dc ds (.slice none 0 0) w3 (HA.out.below HB3.out) (HD.out.below HB3.out) (fun i hi => by have := HGA.out.2.2.1 i hi; omega) HGA.out.2.1)
    clear hq3 hb3 HFR
    go_wp2_with fail
    refine (HP.out).mono ?_
    rintro e w4 ⟨v, rfl, hpf, hb4⟩
    have HC := Lib.hid (commit_quiet HQ3.out hb4 HZ3.out _ v hpf (opPs_ok HGA.out dn ds))
    have HB4 := Lib.hid (HB3.out.trans (hb4.mono HB3.out.size))
    have HZ4 := Lib.hid (Nat.le_trans HZ3.out hb4.size)
    clear hpf hb4 HP o0 o1 o2 o3 o4
    generalize putC (fun _ => zeroB) (opPs fs dn ds an) = c5 at *
    go_wp2_with fail
    refine (HC.out).mono ?_
    rintro e w5 ⟨rfl, hq5, hb5⟩
    have HB5 := Lib.hid (HB4.out.trans (hb5.mono HZ2.out))
    have HZ5 := Lib.hid (Nat.le_trans HZ4.out hb5.size)
    have HSY := Lib.hid (sync_quiet hq5 HZ5.out (by omega))
    clear hq5 hb5 HC
    go_wp2_with fail
    refine (HSY.out).mono ?_
    rintro e w6 ⟨rfl, ⟨d6, hl6, ⟨I6, hr6, _⟩, hv6⟩, hb6⟩
    have HB6 := Lib.hid (HB5.out.trans (hb6.mono HZ2.out))
    have HZ6 := Lib.hid (Nat.le_trans HZ5.out hb6.size)
    have HF := Lib.hid (format_in hl6.disk HZ6.out hr6 hv6 (by omega))
    clear hl6 hr6 hv6 hb6 HSY
    go_wp2_with fail
    refine (HF.out).mono ?_
    rintro e w7 ⟨lp7, rfl, hq7, hb7⟩
    have HB7 := Lib.hid (HB6.out.trans (hb7.mono HZ2.out))
    have HZ7 := Lib.hid (Nat.le_trans HZ6.out hb7.size)
    have HQ7 := Lib.hid hq7
    have HXB : Hid (Below w7.heap.size w7 (w7.alloc X)) := (Below.refl _ _).alloc (Nat.le_refl _) X
    have HIS := Lib.hid (is_any (HQ7.out.below HXB.out) (HST.out w7) (by omega) (by omega))
    have hm7 := hmk w7
    clear hq7 hb7 HF
    go_wp2_with fail
    refine (num_any _ _).mono ?_
    rintro e w8 ⟨rfl, rfl⟩
    go_wp2_with fail
    refine (HIS.out).mono ?_
    rintro e w8 ⟨b8, rfl, hb8e, hb8⟩
    obtain rfl : b8 = true := hb8e.2 (fun i _ => (if_pos rfl).symm)
    have hxb8 := HXB.out.trans (hb8.mono HXB.out.size)
    have HB8 := Lib.hid (HB7.out.trans (hxb8.mono HB7.out.size))
    have HZ8 := Lib.hid (Nat.le_trans HZ7.out hxb8.size)
    have HCR := Lib.hid (crash_cr (HQ7.out.below hxb8).crIn HZ8.out none 0 0 (fun _ => 0) (ints_none _ _) (fun x hx => by cases hx))
    clear hb8e hb8 hxb8 HIS HXB hm7
    go_wp2_with fail
    refine (HCR.out).mono ?_
    rintro e w9 ⟨⟨v9, rfl⟩, hl9, hb9⟩
    have HB9 := Lib.hid (HB8.out.trans (hb9.mono HZ2.out))
    have HZ9 := Lib.hid (Nat.le_trans HZ8.out hb9.size)
    have HO := Lib.hid (open_has hl9 HZ9.out (by omega))
    clear hl9 hb9 HCR
    go_wp2_with fail
    refine (HO.out).mono ?_
    rintro e w10 ⟨lp10, rfl, hq10, hb10⟩
    have HB10 := Lib.hid (HB9.out.trans (hb10.mono HZ2.out))
    have HXB : Hid (Below w10.heap.size w10 (w10.alloc X)) := (Below.refl _ _).alloc (Nat.le_refl _) X
    have HIS := Lib.hid (is_any (hq10.below HXB.out) (HST.out w10) (by omega) (by omega))
    have hm10 := hmk w10
    clear hq10 hb10 HO
    go_wp2_with fail
    refine (num_any _ _).mono ?_
    rintro e w11 ⟨rfl, rfl⟩
    go_wp2_with fail
    refine (HIS.out).mono ?_
    rintro e w12 ⟨b12, rfl, hb12e, hb12⟩
    obtain rfl : b12 = true := hb12e.2 (fun i _ => (if_pos rfl).symm)
    have HB12 := Lib.hid (HB10.out.trans ((HXB.out.trans (hb12.mono HXB.out.size)).mono HB10.out.size))
    clear hb12e hb12
    go_wp2_with fail
    go_ret
    exact ⟨rfl, HB12.out⟩
  · have hr1 : (r != 0) = true := by simpa using hr0
    clear hr hr0
    go_wp2_with fail
    go_ret
    exact ⟨rfl, HB2.out⟩
theorem anew_walk (a0 : Option Addr) (len0 cap0 : Nat) (z0 : List Int) (a1 : Option Addr) (len1 cap1 : Nat) (z1 : List Int) (w : World) (w0 : RowIn .i64 w a0 len0 cap0 z0) (w1 : RowIn .i64 w a1 len1 cap1 z1) :
    Calls Try.prog 7 #[.slice a0 len0 cap0, .slice a1 len1 cap1] w fun e w' => e = .returned (.bool true) ∧ Below w.heap.size w w' :=
  anew_law _ _ _ _ _ _ _ _ w (intsB_of_row w0) (intsB_of_row w1)
end Go.Proofs.Ythfncgbkigmmcaa
