/- LedgerTwo. -/
import Derived.Test.YthfncgbkigmmcaaL33
import Derived.Test.YthfncgbkigmmcaaTwin
namespace Go.Proofs.Ythfncgbkigmmcaa
open Go.RowKit
set_option linter.unusedVariables false

variable {w w' w1 wr : World} {S T : Nat → Prop} {B lp p n : Nat} {d D : DS} {dead : Bool} {c : Nat → Bs} {P : Bs → Prop}
/-- a call turns one ledger: its blocks, and what has come since -/
def Since (w w' : World) (T T' : Nat → Prop) : Prop := (∀ j, T' j → j < w'.heap.size) ∧ (∀ j, T' j → T j ∨ w.heap.size ≤ j) ∧ Keeps T w w'
theorem up_since (w : World) (T : Nat → Prop) : Up w (fun j => T j ∨ w.heap.size ≤ j) := fun j hj => .inr hj
theorem since_of {w : World} {T : Nat → Prop} (k : Keeps (fun j => T j ∨ w.heap.size ≤ j) w w') : Since w w' T (fun j => (T j ∨ w.heap.size ≤ j) ∧ j < w'.heap.size) :=
  ⟨fun j h => h.2, fun j h => h.1, k.mono (fun j hj h => h.elim id (fun h => by omega))⟩
/-- one put, in a family -/
theorem commit_f {w3 : World} (h : QS w T lp p n c) (hb : Below w.heap.size w w3) (g0 cap a : Nat) (x : Bs) (h3 : w.heap.size ≤ g0) (hx : Bytes w3 (.slice (some ⟨g0, 0, none⟩) 512 cap) x) (hxl : x.length = 512) (ha : a + 96 < n) :
    Calls Try.prog 15 #[.pointer (some ⟨lp, 0, none⟩), .slice (some ⟨w3.heap.size, 0, none⟩) 1 1] (w3.alloc (.cells #[.int .i64 a, .slice (some ⟨g0, 0, none⟩) 512 cap] 26 (0, 0))) fun e w2 => e = .returned (.int .i64 0) ∧ ∃ T', QS w2 T' lp p n (putC c [(a, x)]) ∧ Since w w2 T T' := by
  have hal : Below w3.heap.size w3 (w3.alloc (.cells #[.int .i64 a, .slice (some ⟨g0, 0, none⟩) 512 cap] 26 (0, 0))) := (Below.refl _ _).alloc (Nat.le_refl _) _
  have hs := heap_alloc_new w3 (.cells #[.int .i64 a, .slice (some ⟨g0, 0, none⟩) 512 cap] 26 (0, 0))
  have hb2 := hb.trans (hal.mono hb.size)
  have h' : QS w (fun j => T j ∨ w.heap.size ≤ j) lp p n c := h.sub (fun j _ h => .inl h)
  refine (commit_qs h' (Keeps.of_below (S := fun _ => False) hb2) (fun _ _ _ e => e) (up_since w T) [(a, x)] _ (puts_one (g := w3.heap.size) (g0 := g0) (cap := cap) hb.size ?_ ?_ h3 (RowAt.below hx hal (Nat.le_refl _))) (putOk_one ha hxl)).mono ?_
  · rw [cell_of_row _ _ _ _ _ _ hs]; rfl
  · rw [cell_of_row _ _ _ _ _ _ hs]; rfl
  · rintro e w2 ⟨q1, q2, q3⟩
    have k : Keeps (fun j => T j ∨ w.heap.size ≤ j) w w2 := (Keeps.of_below hb2).trans' q3
    exact ⟨q1, _, q2.sub (fun j hj h => ⟨h, hj⟩), since_of k⟩
theorem QS.other {U T' : Nat → Prop} (h : QS w U lp p n c) (s : Since w w' T T') (hd : ∀ j, U j → ¬ T j) : QS w' U lp p n c := h.keep s.2.2 (fun j _ => hd j)
/-- a twin of a disk at rest -/
theorem twin_f (h : QS w T lp p n c) (hn : 97 ≤ n) : Calls Try.prog 28 #[.pointer (some ⟨p, 0, none⟩)] w fun e w' => ∃ q, e = .returned (.pointer (some ⟨q, 0, none⟩)) ∧ LeftS w' (NewIn w w') q n (Has n c) ∧ Below w.heap.size w w' := by
  obtain ⟨D, h1, h2, h3⟩ := h
  obtain ⟨O, R, q1, q2⟩ := h1.disk
  refine (twin_o q1).mono ?_
  rintro e w' ⟨q, rfl, q3, _, hb⟩
  obtain ⟨I, r1, r2⟩ := h2
  exact ⟨q, rfl, ⟨I, D, ⟨_, _, q3.noR r1.back, fun _ h => h, fun _ e => e.elim⟩, r1, ⟨_, r2⟩, h3⟩, hb⟩
theorem LeftS.keep {K : Nat → Prop} (h : LeftS w S p n P) (k : Keeps K w w') (hK : ∀ j, j < w.heap.size → S j → ¬ K j) : LeftS w' S p n P := let ⟨I, D, h1, h2⟩ := h; ⟨I, D, h1.keep k hK, h2⟩
theorem LeftS.sub (h : LeftS w S p n P) (hs : ∀ j, j < w.heap.size → S j → T j) : LeftS w T p n P := let ⟨I, D, h1, h2⟩ := h; ⟨I, D, h1.sub hs, h2⟩
theorem LeftS.other {T' : Nat → Prop} (h : LeftS w S p n P) (s : Since w w' T T') (hd : ∀ j, S j → ¬ T j) : LeftS w' S p n P := h.keep s.2.2 (fun j _ => hd j)
theorem open_f (h : LeftS w T p n (Has n c)) (hn : 97 ≤ n) :
    Calls Try.prog 24 #[.pointer (some ⟨p, 0, none⟩)] w fun e w' => ∃ lp T', e = .returned (.tuple #[.pointer (some ⟨lp, 0, none⟩), .int .i64 0]) ∧ QS w' T' lp p n c ∧ Since w w' T T' := by
  have h' : LeftS w (fun j => T j ∨ w.heap.size ≤ j) p n (Has n c) := h.sub (fun j _ h => .inl h)
  refine (open_ls h' (up_since w T) hn (C := fun c' => c' = c) (fun I hI => ⟨c, rfl, hI⟩)).mono ?_
  rintro e w' ⟨lp, c', q1, rfl, q2, q3⟩
  exact ⟨lp, _, q1, q2.sub (fun j hj h => ⟨h, hj⟩), since_of q3⟩
/-- Read: what it tells may be written -/
theorem read_f (h : QS w T lp p n c) (k : Nat) (hk : k + 96 < n) : Calls Try.prog 17 #[.pointer (some ⟨lp, 0, none⟩), .int .i64 k] w fun e w' => ∃ g cap, e = .returned (.tuple #[.slice (some ⟨g, 0, none⟩) 512 cap, .int .i64 0]) ∧ Bytes w' (.slice (some ⟨g, 0, none⟩) 512 cap) (c k) ∧ w.heap.size ≤ g ∧ g < w'.heap.size ∧ (∀ i, w'.frozen? ⟨g, i, none⟩ = false) ∧ Below w.heap.size w w' := by
  obtain ⟨D, h1, h2, h3⟩ := h
  have hn2 := h1.n2
  obtain ⟨O, R, h5, h6⟩ := h1
  refine (lRead_ok h5 h3.1 k (by rw [h2.n]; exact hk) hn2).mono fun e w' ⟨g, cap, q1, q2, q3, q4, _, q5, q6⟩ => ⟨g, cap, q1, ?_, q3, q4, q5, q6⟩
  rw [h2.at k hk] at q2
  exact q2
/-- bytes, whatever they are, that may be written -/
def AnyB (w : World) (g : Nat) : Prop := (∀ i, i < 512 → ∃ q : Int, w.cell? ⟨g, i, none⟩ = some (.int .u8 q)) ∧ ∀ i, w.frozen? ⟨g, i, none⟩ = false
theorem AnyB.of_bytes {g cap : Nat} {x : Bs} (h : Bytes w (.slice (some ⟨g, 0, none⟩) 512 cap) x) (hx : x.length = 512) (hf : ∀ i, w.frozen? ⟨g, i, none⟩ = false) : AnyB w g := by
  refine ⟨fun i hi => ?_, hf⟩
  have := bytes_cell h (k := i) (by omega)
  rw [Nat.zero_add] at this
  exact ⟨_, this⟩
theorem AnyB.below {g : Nat} (h : AnyB w g) (hb : Below w.heap.size w w') (hg : g < w.heap.size) : AnyB w' g := ⟨fun i hi => let ⟨q, hq⟩ := h.1 i hi; ⟨q, (hb.cell (p := ⟨g, i, none⟩) hg).trans hq⟩, fun i => (hb.frozen (p := ⟨g, i, none⟩) hg).trans (h.2 i)⟩
theorem AnyB.set {g : Nat} (h : AnyB w g) (k : Nat) (u : Int) (hk : k < 512) : AnyB (w.setCell ⟨g, k, none⟩ (.int .u8 u)) g := by
  refine ⟨fun i hi => ?_, fun i => by rw [World.frozen?_setCell]; exact h.2 i⟩
  by_cases e : k = i
  · subst e
    obtain ⟨q, hq⟩ := h.1 k hk
    exact ⟨u, World.cell?_setCell_same' _ _ _ (by rw [hq]; rfl)⟩
  · obtain ⟨q, hq⟩ := h.1 i hi
    exact ⟨q, by rw [World.cell?_setCell_other (h := by intro e'; have := congrArg Addr.off e'; simp at this; omega)]; exact hq⟩
theorem AnyB.far {g g2 : Nat} (h : AnyB w g) (k : Nat) (u : Value) (hg : g2 ≠ g) : AnyB (w.setCell ⟨g2, k, none⟩ u) g :=
  ⟨fun i hi => let ⟨q, hq⟩ := h.1 i hi; ⟨q, by rw [World.cell?_setCell_far _ _ _ _ hg]; exact hq⟩, fun i => by rw [World.frozen?_setCell]; exact h.2 i⟩
set_option maxRecDepth 8000 in
set_option maxHeartbeats 6400000 in
theorem two_law (a b : Int) (w : World) (ha : 1 ≤ a) (hb : 1 ≤ b) :
    Calls Try.prog 6 #[.int .i64 a, .int .i64 b] w fun e w' => e = .returned (.bool true) ∧ Below w.heap.size w w' := by
  have n1 : ¬ a < 1 := by omega
  have n2 : ¬ b < 1 := by omega
  obtain ⟨y, hy⟩ : ∃ y, wrap64 (b + 1) = y := ⟨_, rfl⟩
  have hwy : IntKind.i64.wrap (b + 1) = y := by rw [← hy, IntKind.wrap_i64]; unfold wrap64; rfl
  go_enter Try.func6, Try.ntmps6
  go_wp2_with fail
  refine (alive_any _).mono ?_
  rintro e w0 ⟨rfl, hb0⟩
  have HB0 := Lib.hid hb0
  have HFR := Lib.hid (fresh_in 10 w0 (by omega) (by omega))
  clear hb0
  go_wp2_with fail
  refine (HFR.out).mono ?_
  rintro e w1 ⟨p, lp, rfl, hq1, hb1⟩
  obtain ⟨Tl, hTl⟩ : ∃ T : Nat → Prop, T = fun j => w0.heap.size ≤ j ∧ j < w1.heap.size := ⟨_, rfl⟩
  have hq1s : QS w1 Tl lp p (96 + 10) (fun _ => zeroB) := by rw [hTl]; exact hq1.s.sub (fun j hj h => ⟨h, hj⟩)
  have HQ1 := Lib.hid hq1s
  have HB1 := Lib.hid (HB0.out.trans (hb1.mono HB0.out.size))
  have HL1 : Hid (∀ j, Tl j → w0.heap.size ≤ j ∧ j < w1.heap.size) := by rw [hTl]; exact fun j h => h
  have HFR2 := Lib.hid (fresh_in 10 w1 (by omega) (by omega))
  have HZ1 := Lib.hid hb1.size
  clear hq1 hq1s hb1 HFR hTl
  go_wp2_with fail
  refine (HFR2.out).mono ?_
  rintro e w2 ⟨p2, mp, rfl, hq2, hb2⟩
  obtain ⟨Tm, hTm⟩ : ∃ T : Nat → Prop, T = fun j => w1.heap.size ≤ j ∧ j < w2.heap.size := ⟨_, rfl⟩
  have hq2s : QS w2 Tm mp p2 (96 + 10) (fun _ => zeroB) := by rw [hTm]; exact hq2.s.sub (fun j hj h => ⟨h, hj⟩)
  have HM2 := Lib.hid hq2s
  have HL2 := Lib.hid (HQ1.out.below hb2)
  have HB2 := Lib.hid (HB1.out.trans (hb2.mono HB1.out.size))
  have HTM2 : Hid (∀ j, Tm j → w1.heap.size ≤ j ∧ j < w2.heap.size) := by rw [hTm]; exact fun j h => h
  have HZ2 := Lib.hid hb2.size
  have HWZ := Lib.hid HB0.out.size
  clear hq2 hq2s hb2 HFR2 hTm HQ1 HB1
  go_wp2_with fail
  refine (block_any a _).mono ?_
  rintro e w3 ⟨rfl, hx3, hb3⟩
  have HC := Lib.hid (commit_f HL2.out hb3 w2.heap.size 512 1 (blk a) (Nat.le_refl _) hx3 (blk_length a) (by omega))
  clear hx3
  go_wp2_with fail
  refine (HC.out).mono ?_
  rintro e w4 ⟨rfl, Tl1, hq4, hs4⟩
  have HL4 := Lib.hid hq4
  have HS4 := Lib.hid hs4
  have HM4 := Lib.hid (HM2.out.other hs4 (fun j h1 h2 => by have := HTM2.out j h1; have := HL1.out j h2; omega))
  have HB4 := Lib.hid (HB2.out.trans (hs4.2.2.below_of HB2.out.size (fun k hk e => by have := HL1.out k e; have := HWZ.out; omega)))
  have HZ4 := Lib.hid hs4.2.2.size
  have HSY := Lib.hid (sync_qs hq4 (by omega))
  clear hq4 hs4 hb3 HC HL2 HM2
  go_wp2_with fail
  refine (HSY.out).mono ?_
  rintro e w5 ⟨rfl, hq5, hb5⟩
  have HL5 := Lib.hid hq5
  have HM5 := Lib.hid (HM4.out.below hb5)
  have HB5 := Lib.hid (HB4.out.trans (hb5.mono HB4.out.size))
  have HZ5 := Lib.hid hb5.size
  have HTW := Lib.hid (twin_f hq5 (by omega))
  clear hq5 hb5 HSY HM4 HL4
  go_wp2_with fail
  refine (HTW.out).mono ?_
  rintro e w6 ⟨q, rfl, hl6, hb6⟩
  have HT6 := Lib.hid hl6
  have HL6 := Lib.hid (HL5.out.below hb6)
  have HM6 := Lib.hid (HM5.out.below hb6)
  have HB6 := Lib.hid (HB5.out.trans (hb6.mono HB5.out.size))
  have HZ6 := Lib.hid hb6.size
  have HN6 : Hid (∀ j, NewIn w5 w6 j → w5.heap.size ≤ j ∧ j < w6.heap.size) := fun j h => ⟨h.1, h.2⟩
  clear hl6 hb6 HTW HL5 HM5
  generalize NewIn w5 w6 = Tt at *
  go_wp2_with fail
  refine (block_any b _).mono ?_
  rintro e w7 ⟨rfl, hx7, hb7⟩
  have HC := Lib.hid (commit_f HM6.out hb7 w6.heap.size 512 1 (blk b) (Nat.le_refl _) hx7 (blk_length b) (by omega))
  clear hx7
  go_wp2_with fail
  refine (HC.out).mono ?_
  rintro e w8 ⟨rfl, Tm1, hq8, hs8⟩
  have HM8 := Lib.hid hq8
  have HS8 := Lib.hid hs8
  have HL8 := Lib.hid (HL6.out.other hs8 (fun j h1 h2 => by have := HTM2.out j h2; rcases HS4.out.2.1 j h1 with h | h; have := HL1.out j h; omega; omega))
  have HT8 := Lib.hid (HT6.out.other hs8 (fun j h1 h2 => by have := HN6.out j h1; have := HTM2.out j h2; have := HZ4.out; have := HZ5.out; omega))
  have HB8 := Lib.hid (HB6.out.trans (hs8.2.2.below_of HB6.out.size (fun k hk e => by have := HTM2.out k e; have := HWZ.out; have := HZ1.out; omega)))
  have HZ8 := Lib.hid hs8.2.2.size
  clear hq8 hs8 hb7 HC HM6 HL6 HT6
  go_wp2_with fail
  refine (block_any y _).mono ?_
  rintro e w9 ⟨rfl, hx9, hb9⟩
  have HC := Lib.hid (commit_f HL8.out hb9 w8.heap.size 512 1 (blk y) (Nat.le_refl _) hx9 (blk_length y) (by omega))
  clear hx9
  go_wp2_with fail
  refine (HC.out).mono ?_
  rintro e w10 ⟨rfl, Tl2, hq10, hs10⟩
  have HL10 := Lib.hid hq10
  have HS10 := Lib.hid hs10
  have hlt4 : ∀ j, Tl1 j → j < w4.heap.size := HS4.out.1
  have HM10 := Lib.hid (HM8.out.other hs10 (fun j h1 h2 => by
    have := hlt4 j h2
    rcases HS8.out.2.1 j h1 with h | h
    · have := HTM2.out j h
      rcases HS4.out.2.1 j h2 with h | h
      · have := HL1.out j h; omega
      · omega
    · have := HZ5.out; have := HZ6.out; omega))
  have HT10 := Lib.hid (HT8.out.other hs10 (fun j h1 h2 => by have := HN6.out j h1; have := hlt4 j h2; have := HZ5.out; omega))
  have HLOW : Hid (∀ j, Tl1 j → w0.heap.size ≤ j) := fun j h => by
    rcases HS4.out.2.1 j h with h | h
    · exact (HL1.out j h).1
    · have := HZ1.out; have := HZ2.out; omega
  have HB10 := Lib.hid (HB8.out.trans (hs10.2.2.below_of HB8.out.size (fun k hk e => by have := HLOW.out k e; have := HWZ.out; omega)))
  have HZ10 := Lib.hid hs10.2.2.size
  have HOP := Lib.hid (open_f HT10.out (by omega))
  clear hq10 hs10 hb9 HC HM8 HL8 HT8 HT10 hlt4
  go_wp2_with fail
  refine (HOP.out).mono ?_
  rintro e w11 ⟨np, Tn, rfl, hq11, hs11⟩
  have HN11 := Lib.hid hq11
  have HS11 := Lib.hid hs11
  have HL11 := Lib.hid (HL10.out.other hs11 (fun j h1 h2 => by
    have := HN6.out j h2
    rcases HS10.out.2.1 j h1 with h | h
    · have := HS4.out.1 j h; have := HZ5.out; omega
    · have := HZ8.out; omega))
  have HM11 := Lib.hid (HM10.out.other hs11 (fun j h1 h2 => by
    have := HN6.out j h2
    rcases HS8.out.2.1 j h1 with h | h
    · have := HTM2.out j h; have := HZ4.out; have := HZ5.out; omega
    · omega))
  have HB11 := Lib.hid (HB10.out.trans (hs11.2.2.below_of HB10.out.size (fun k hk e => by have := HN6.out k e; have := HWZ.out; have := HZ1.out; have := HZ2.out; have := HZ4.out; have := HZ5.out; omega)))
  have HRN := Lib.hid (read_f hq11 1 (by omega))
  have HLT : Hid (∀ j, Tn j ∨ Tl2 j → j < w11.heap.size) := fun j h => h.elim (HS11.out.1 j) (fun h => by have := HS10.out.1 j h; have := hs11.2.2.size; omega)
  clear hq11 hs11 HOP HL10 HM10
  go_wp2_with fail
  refine (num_any _ _).mono ?_
  rintro e w12 ⟨rfl, rfl⟩
  go_wp2_with fail
  refine (HRN.out).mono ?_
  rintro e w12 ⟨gx, cx, rfl, hx12, hg12, hz12, hf12, hb12⟩
  have HX12 := Lib.hid hx12
  have HGX := Lib.hid (And.intro hg12 (And.intro hz12 hf12))
  have HB12 := Lib.hid hb12
  have HRM := Lib.hid (read_f (HM11.out.below hb12) 1 (by omega))
  clear hx12 hg12 hz12 hf12 hb12 HRN
  go_wp2_with fail
  refine (HRM.out).mono ?_
  rintro e w13 ⟨gy, cy, rfl, hx13, hg13, hz13, hf13, hb13⟩
  have HX13 := Lib.hid hx13
  have HB13 := Lib.hid hb13
  have HB123 := Lib.hid (HB12.out.trans (hb13.mono HB12.out.size))
  have HRL := Lib.hid (read_f (HL11.out.below HB123.out) 1 (by omega))
  clear hx13 hg13 hz13 hf13 hb13 HRM
  go_wp2_with fail
  refine (HRL.out).mono ?_
  rintro e w14 ⟨gz, cz, rfl, hx14, hg14, hz14, hf14, hb14⟩
  rw [putC_one] at hx14
  have HB14 := Lib.hid (HB123.out.trans (hb14.mono HB123.out.size))
  have hx12' : Bytes w14 (.slice (some ⟨gx, 0, none⟩) 512 cx) (blk a) := by
    have := HX12.out
    rw [putC_one] at this
    exact RowAt.below this (HB13.out.trans (hb14.mono HB13.out.size)) (Nat.le_refl _)
  have hx13' : Bytes w14 (.slice (some ⟨gy, 0, none⟩) 512 cy) (blk b) := by
    have := HX13.out
    rw [putC_one] at this
    exact RowAt.below this hb14 (Nat.le_refl _)
  have hcx : ∀ W, Below w14.heap.size w14 W → (convert 24 9 (.slice (some ⟨gx, 0, none⟩) 512 cx)).run Try.prog W = .ok (.string ⟨(blk a).toArray⟩) W := fun W hW => run_string_of W 24 5 Try.underlying24 Try.underlying5 (RowAt.below hx12' hW (Nat.le_refl _)) 9 Try.underlying9
  have hcy : ∀ W, Below w14.heap.size w14 W → (convert 24 9 (.slice (some ⟨gy, 0, none⟩) 512 cy)).run Try.prog W = .ok (.string ⟨(blk b).toArray⟩) W := fun W hW => run_string_of W 24 5 Try.underlying24 Try.underlying5 (RowAt.below hx13' hW (Nat.le_refl _)) 9 Try.underlying9
  have hcz : ∀ W, Below w14.heap.size w14 W → (convert 24 9 (.slice (some ⟨gz, 0, none⟩) 512 cz)).run Try.prog W = .ok (.string ⟨(blk y).toArray⟩) W := fun W hW => run_string_of W 24 5 Try.underlying24 Try.underlying5 (RowAt.below hx14 hW (Nat.le_refl _)) 9 Try.underlying9
  have HAX := Lib.hid (AnyB.of_bytes hx12' (blk_length _) (fun i => (HB13.out.trans (hb14.mono HB13.out.size)).frozen (p := ⟨gx, i, none⟩) HGX.out.2.1 |>.trans (HGX.out.2.2 i)))
  have HAZ := Lib.hid (AnyB.of_bytes hx14 (blk_length _) hf14)
  have HGE : Hid (w11.heap.size ≤ gx ∧ gx < w14.heap.size ∧ w11.heap.size ≤ gz ∧ gz < w14.heap.size ∧ gx ≠ gz) := by
    have := HGX.out; have := HB13.out.size; have := HB12.out.size
    exact ⟨by omega, by omega, by omega, by omega, by omega⟩
  have HL14 := Lib.hid (HL11.out.below HB14.out)
  have HN14 := Lib.hid (HN11.out.below HB14.out)
  have HSD : Hid (Below w14.heap.size w14 w14.drew) := (Below.refl _ _).drew
  clear hx14 hg14 hz14 hf14 hb14 hx12' hx13' HX12 HX13 HGX HRL HB12 HB13 HB123 HM11 HL11 HN11
  go_wp2_with fail
  refine wp_region_noPanic ?_
  refine wp_region_ordL 23 [4, 11, 20, 23] [0, 1, 2, 3, 4, 5, 6, 7, 8, 9, 10, 11, 12, 13, 14, 15, 16, 17, 18, 19, 20, 21, 22, 23] (fun W => Below w14.heap.size w14 W) (by kernel_rfl) (by kernel_rfl) rfl (by kernel_rfl) (fun _ _ _ _ _ h => h) HSD.out ?_
  repeat (apply heldL_run rfl (by rfl) (by rfl); (intro w hSw; go_simp; with_reducible rfl); (try simp only [Act.put, List.setIfInBounds_toArray, List.set_cons_zero, List.set_cons_succ]))
  refine heldL_step rfl (by rfl) (by rfl) (fun K hK => ?_)
  go_simp
  refine (block_any a _).mono ?_
  rintro e w15 ⟨rfl, hx15, hb15⟩
  have HS15 : Hid (Below w14.heap.size w14 w15) := HSD.out.trans hb15
  have hc15 := run_string_of w15 24 5 Try.underlying24 Try.underlying5 hx15 9 Try.underlying9
  clear hx15 hb15
  generalize w14.drew.heap.size = q9 at *
  refine hK.out _ _ (.inr HS15.out) ?_
  clear hK K
  (try simp only [Act.put, List.setIfInBounds_toArray, List.set_cons_zero, List.set_cons_succ])
  repeat (apply heldL_run rfl (by rfl) (by rfl); (intro w hSw; go_simp; with_reducible rfl); (try simp only [Act.put, List.setIfInBounds_toArray, List.set_cons_zero, List.set_cons_succ]))
  refine heldL_step rfl (by rfl) (by rfl) (fun K hK => ?_)
  go_simp
  refine hK.out _ _ (.inr HS15.out) ?_
  clear hK K
  (try simp only [Act.put, List.setIfInBounds_toArray, List.set_cons_zero, List.set_cons_succ])
  clear hc15
  repeat (apply heldL_run rfl (by rfl) (by rfl); (intro w hSw; go_simp; with_reducible rfl); (try simp only [Act.put, List.setIfInBounds_toArray, List.set_cons_zero, List.set_cons_succ]))
  refine heldL_step rfl (by rfl) (by rfl) (fun K hK => ?_)
  go_simp
  refine (block_any b _).mono ?_
  rintro e w16 ⟨rfl, hx16, hb16⟩
  have HS16 : Hid (Below w14.heap.size w14 w16) := HS15.out.trans (hb16.mono HS15.out.size)
  have hc16 := run_string_of w16 24 5 Try.underlying24 Try.underlying5 hx16 9 Try.underlying9
  clear hx16 hb16
  generalize w15.heap.size = q10 at *
  refine hK.out _ _ (.inr HS16.out) ?_
  clear hK K
  (try simp only [Act.put, List.setIfInBounds_toArray, List.set_cons_zero, List.set_cons_succ])
  repeat (apply heldL_run rfl (by rfl) (by rfl); (intro w hSw; go_simp; with_reducible rfl); (try simp only [Act.put, List.setIfInBounds_toArray, List.set_cons_zero, List.set_cons_succ]))
  refine heldL_step rfl (by rfl) (by rfl) (fun K hK => ?_)
  go_simp
  refine hK.out _ _ (.inr HS16.out) ?_
  clear hK K
  (try simp only [Act.put, List.setIfInBounds_toArray, List.set_cons_zero, List.set_cons_succ])
  clear hc16
  repeat (apply heldL_run rfl (by rfl) (by rfl); (intro w hSw; go_simp; with_reducible rfl); (try simp only [Act.put, List.setIfInBounds_toArray, List.set_cons_zero, List.set_cons_succ]))
  refine heldL_step rfl (by rfl) (by rfl) (fun K hK => ?_)
  go_simp
  refine (block_any y _).mono ?_
  rintro e w17 ⟨rfl, hx17, hb17⟩
  have HS17 : Hid (Below w14.heap.size w14 w17) := HS16.out.trans (hb17.mono HS16.out.size)
  have hc17 := run_string_of w17 24 5 Try.underlying24 Try.underlying5 hx17 9 Try.underlying9
  clear hx17 hb17
  generalize w16.heap.size = q11 at *
  refine hK.out _ _ (.inr HS17.out) ?_
  clear hK K
  (try simp only [Act.put, List.setIfInBounds_toArray, List.set_cons_zero, List.set_cons_succ])
  repeat (apply heldL_run rfl (by rfl) (by rfl); (intro w hSw; go_simp; with_reducible rfl); (try simp only [Act.put, List.setIfInBounds_toArray, List.set_cons_zero, List.set_cons_succ]))
  refine heldL_step rfl (by rfl) (by rfl) (fun K hK => ?_)
  go_simp
  refine hK.out _ _ (.inr HS17.out) ?_
  clear hK K
  (try simp only [Act.put, List.setIfInBounds_toArray, List.set_cons_zero, List.set_cons_succ])
  clear hc17
  repeat (apply heldL_run rfl (by rfl) (by rfl); (intro w hSw; go_simp; with_reducible rfl); (try simp only [Act.put, List.setIfInBounds_toArray, List.set_cons_zero, List.set_cons_succ]))
  refine heldL_step rfl (by rfl) (by rfl) (fun K hK => ?_)
  go_simp
  refine hK.out _ _ (.inl rfl) ?_
  clear hK K
  (try simp only [Act.put, List.setIfInBounds_toArray, List.set_cons_zero, List.set_cons_succ])
  refine heldL_nil (NoPanic.normal ?_)
  have HL17 := Lib.hid (HL14.out.below HS17.out)
  have HN17 := Lib.hid (HN14.out.below HS17.out)
  have HB17 := Lib.hid (HB11.out.trans ((HB14.out.trans (HS17.out.mono HB14.out.size)).mono HB11.out.size))
  have HAX17 := Lib.hid (HAX.out.below HS17.out HGE.out.2.1)
  have HAZ17 := Lib.hid (HAZ.out.below HS17.out HGE.out.2.2.2.1)
  have HZ17 : Hid (w14.heap.size ≤ w17.heap.size ∧ w.heap.size ≤ w11.heap.size) := ⟨HS17.out.size, HB11.out.size⟩
  clear hcx hcy hcz HAX HAZ HL14 HN14 HSD HS15 HS16 HS17
  go_wp2_with fail
  go_loopw [22] (fun i wr => ∃ k : Nat, i = .int .i64 (k : Int) ∧ k ≤ 512 ∧ AnyB wr gx ∧ AnyB wr gz ∧ Keeps (fun j => j = gx ∨ j = gz) w17 wr) (fun i _ => 512 - (intOf i).toNat)
  case atStart => exact ⟨0, rfl, Nat.zero_le _, HAX17.out, HAZ17.out, Keeps.refl _ _⟩
  case round =>
    obtain ⟨k, rfl, hk, hax, haz, hkp⟩ := hrel
    have HKP := Lib.hid hkp
    have k0 : (0 : Int) ≤ (k : Int) := by omega
    by_cases hlt : k < 512
    · have k1 : (k : Int) < 512 := by omega
      obtain ⟨q1, hq1⟩ := hax.1 k hlt
      obtain ⟨q2, hq2⟩ := haz.1 k hlt
      have hf1 := hax.2 k
      have hf2 := haz.2 k
      have hne := HGE.out.2.2.2.2
      have hne2 : gz ≠ gx := fun e => hne e.symm
      have HH := Lib.hid (And.intro hax haz)
      have hq2' : ∀ v, (wr.setCell ⟨gx, k, none⟩ v).cell? ⟨gz, k, none⟩ = some (.int .u8 q2) := fun v => by rw [World.cell?_setCell_far _ _ _ _ hne]; exact hq2
      clear hax haz hkp hk
      go_wp2_with fail
      go_roundw
      case rel => exact ⟨k + 1, by go_num, by omega, (HH.out.1.set k _ hlt).far k _ hne2, (HH.out.2.far k _ hne).set k _ hlt, (HKP.out.setCell _ _ (.inl (.inl rfl))).setCell _ _ (.inl (.inr rfl))⟩
      case measure => simp [intOf]; omega
    · obtain rfl : k = 512 := by omega
      have HN18 := Lib.hid (HN17.out.keep HKP.out (fun j _ h e => by have := HLT.out j (.inl h); have := HGE.out; omega))
      have HL18 := Lib.hid (HL17.out.keep HKP.out (fun j _ h e => by have := HLT.out j (.inr h); have := HGE.out; omega))
      have HB18 := Lib.hid (HB17.out.trans (HKP.out.below_of HB17.out.size (fun j h e => by have := HGE.out; have := HZ17.out.2; omega)))
      have HRN := Lib.hid (read_f HN18.out 1 (by omega))
      clear hax haz hkp hk
      go_wp2_with fail
      refine (HRN.out).mono ?_
      rintro e w19 ⟨gu, cu, rfl, hx19, _, _, _, hb19⟩
      have HX19 := Lib.hid hx19
      have HB19 := Lib.hid hb19
      have HRL := Lib.hid (read_f (HL18.out.below hb19) 1 (by omega))
      clear hx19 hb19 HRN
      go_wp2_with fail
      refine (HRL.out).mono ?_
      rintro e w20 ⟨gv, cv, rfl, hx20, _, _, _, hb20⟩
      rw [putC_one] at hx20
      have hx19' : Bytes w20 (.slice (some ⟨gu, 0, none⟩) 512 cu) (blk a) := by
        have := HX19.out
        rw [putC_one] at this
        exact RowAt.below this hb20 (Nat.le_refl _)
      have hcu : ∀ W, Below w20.heap.size w20 W → (convert 24 9 (.slice (some ⟨gu, 0, none⟩) 512 cu)).run Try.prog W = .ok (.string ⟨(blk a).toArray⟩) W := fun W hW => run_string_of W 24 5 Try.underlying24 Try.underlying5 (RowAt.below hx19' hW (Nat.le_refl _)) 9 Try.underlying9
      have hcv : ∀ W, Below w20.heap.size w20 W → (convert 24 9 (.slice (some ⟨gv, 0, none⟩) 512 cv)).run Try.prog W = .ok (.string ⟨(blk y).toArray⟩) W := fun W hW => run_string_of W 24 5 Try.underlying24 Try.underlying5 (RowAt.below hx20 hW (Nat.le_refl _)) 9 Try.underlying9
      have HB20 := Lib.hid (HB18.out.trans ((HB19.out.trans (hb20.mono HB19.out.size)).mono HB18.out.size))
      have HSD : Hid (Below w20.heap.size w20 w20.drew) := (Below.refl _ _).drew
      clear hx20 hb20 HRL hx19' HX19
      go_wp2_with fail
      refine wp_region_noPanic ?_
      refine wp_region_ordL 18 [6, 15, 18] [0, 1, 2, 3, 4, 5, 6, 7, 8, 9, 10, 11, 12, 13, 14, 15, 16, 17, 18] (fun W => Below w20.heap.size w20 W) (by kernel_rfl) (by kernel_rfl) rfl (by kernel_rfl) (fun _ _ _ _ _ h => h) HSD.out ?_
      repeat (apply heldL_run rfl (by rfl) (by rfl); (intro w hSw; go_simp; with_reducible rfl); (try simp only [Act.put, List.setIfInBounds_toArray, List.set_cons_zero, List.set_cons_succ]))
      refine heldL_step rfl (by rfl) (by rfl) (fun K hK => ?_)
      go_simp
      refine (block_any a _).mono ?_
      rintro e w21 ⟨rfl, hx21, hb21⟩
      have HS21 : Hid (Below w20.heap.size w20 w21) := HSD.out.trans hb21
      have hc21 := run_string_of w21 24 5 Try.underlying24 Try.underlying5 hx21 9 Try.underlying9
      clear hx21 hb21
      generalize w20.drew.heap.size = q9 at *
      refine hK.out _ _ (.inr HS21.out) ?_
      clear hK K
      (try simp only [Act.put, List.setIfInBounds_toArray, List.set_cons_zero, List.set_cons_succ])
      repeat (apply heldL_run rfl (by rfl) (by rfl); (intro w hSw; go_simp; with_reducible rfl); (try simp only [Act.put, List.setIfInBounds_toArray, List.set_cons_zero, List.set_cons_succ]))
      refine heldL_step rfl (by rfl) (by rfl) (fun K hK => ?_)
      go_simp
      refine hK.out _ _ (.inr HS21.out) ?_
      clear hK K
      (try simp only [Act.put, List.setIfInBounds_toArray, List.set_cons_zero, List.set_cons_succ])
      clear hc21
      repeat (apply heldL_run rfl (by rfl) (by rfl); (intro w hSw; go_simp; with_reducible rfl); (try simp only [Act.put, List.setIfInBounds_toArray, List.set_cons_zero, List.set_cons_succ]))
      refine heldL_step rfl (by rfl) (by rfl) (fun K hK => ?_)
      go_simp
      refine (block_any y _).mono ?_
      rintro e w22 ⟨rfl, hx22, hb22⟩
      have HS22 : Hid (Below w20.heap.size w20 w22) := HS21.out.trans (hb22.mono HS21.out.size)
      have hc22 := run_string_of w22 24 5 Try.underlying24 Try.underlying5 hx22 9 Try.underlying9
      clear hx22 hb22
      generalize w21.heap.size = q10 at *
      refine hK.out _ _ (.inr HS22.out) ?_
      clear hK K
      (try simp only [Act.put, List.setIfInBounds_toArray, List.set_cons_zero, List.set_cons_succ])
      repeat (apply heldL_run rfl (by rfl) (by rfl); (intro w hSw; go_simp; with_reducible rfl); (try simp only [Act.put, List.setIfInBounds_toArray, List.set_cons_zero, List.set_cons_succ]))
      refine heldL_step rfl (by rfl) (by rfl) (fun K hK => ?_)
      go_simp
      refine hK.out _ _ (.inr HS22.out) ?_
      clear hK K
      (try simp only [Act.put, List.setIfInBounds_toArray, List.set_cons_zero, List.set_cons_succ])
      clear hc22
      repeat (apply heldL_run rfl (by rfl) (by rfl); (intro w hSw; go_simp; with_reducible rfl); (try simp only [Act.put, List.setIfInBounds_toArray, List.set_cons_zero, List.set_cons_succ]))
      refine heldL_step rfl (by rfl) (by rfl) (fun K hK => ?_)
      go_simp
      refine hK.out _ _ (.inl rfl) ?_
      clear hK K
      (try simp only [Act.put, List.setIfInBounds_toArray, List.set_cons_zero, List.set_cons_succ])
      refine heldL_nil (NoPanic.normal ?_)
      have HB22 := Lib.hid (HB20.out.trans (HS22.out.mono HB20.out.size))
      go_wp2_with fail
      go_ret
      exact ⟨rfl, HB22.out⟩
set_option maxRecDepth 8000 in
set_option maxHeartbeats 1600000 in
theorem two_walk (a0 a1 : Int) (w : World) (_ : (Lit.int .i64 a0).wf = true) (_ : (Lit.int .i64 a1).wf = true) :
    Calls Try.prog 6 #[.int .i64 a0, .int .i64 a1] w fun e w' => e = .returned (.bool true) ∧ Below w.heap.size w w' := by
  by_cases h1 : 1 ≤ a0 ∧ 1 ≤ a1
  · exact two_law a0 a1 w h1.1 h1.2
  · have h2 : a0 < 1 ∨ (¬ a0 < 1 ∧ a1 < 1) := by omega
    clear h1
    rcases h2 with h2 | ⟨h2, h3⟩
    all_goals
      go_enter Try.func6, Try.ntmps6
      go_wp2_with fail
      refine (alive_any _).mono ?_
      rintro e w0 ⟨rfl, hb0⟩
      have HB0 := Lib.hid hb0
      clear hb0
      go_wp2_with fail
      go_ret
      exact ⟨rfl, HB0.out⟩
end Go.Proofs.Ythfncgbkigmmcaa
