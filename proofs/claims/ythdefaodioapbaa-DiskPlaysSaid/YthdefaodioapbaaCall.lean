/- pair, alike; call of Read. -/
import Derived.Test.YthdefaodioapbaaPair
import Derived.Test.YthdefaodioapbaaJunk
import Derived.Deep.QuietTactic
import Derived.BigQuiet
namespace Go.Proofs.Ythdefaodioapbaa
open Go.RowKit

variable {w w' : World} {B : Nat} {X : Nat → Prop} {l : List (Bool × Nat × DS)} {p q : Nat} {d : DS}
attribute [local irreducible] zA

set_option maxHeartbeats 400000 in
theorem pair_any (n : Nat) (h1 : 1 ≤ n) (h2 : n ≤ 4096) (h : DisksX w B (fun _ => False) l) (hB : B ≤ w.heap.size) : Calls Try.prog 26 #[.int .i64 n] w fun e w' => ∃ p q, e = .returned (.tuple #[.pointer (some ⟨p, 0, none⟩), .pointer (some ⟨q, 0, none⟩), .bool true]) ∧ DisksX w' B (fun _ => False) ((false, p, DS.new n) :: (true, q, DS.new n) :: l) ∧ Below w.heap.size w w' := by
  have H := Lib.hid h
  clear h
  go_enter Try.func26, Try.ntmps26
  go_wp2_with fail
  refine (new_o n w h1 h2).mono ?_
  rintro e w1 ⟨p, rfl, ⟨O, R, hd, hO, hR⟩, hb1⟩
  have H1 := Lib.hid (H.out.new (k := false) hB hb1 hd hO hR)
  have HB1 := Lib.hid hb1
  clear hd hO hR hb1
  go_wp2_with fail
  refine (rNew_any n w1 h1 h2).mono ?_
  rintro e w2 ⟨q, rfl, hr, hb2⟩
  have H2 := Lib.hid ((H1.out.new (k := true) (O := NewIn w1 w2) (R := fun _ => False) (Nat.le_trans hB HB1.out.size) hb2 ⟨hr, fun j hj => hj.2, fun _ e => e.elim, fun _ _ => id⟩ (fun _ e => e) (fun _ e => e.elim)).two)
  have HB2 : Hid (Below w.heap.size w w2) := HB1.out.trans (hb2.mono HB1.out.size)
  clear hr hb2 H1
  go_wp2_with fail
  refine (num_any _ _).mono ?_
  rintro e w3 ⟨rfl, rfl⟩
  go_wp2_with fail
  go_ret3
  exact ⟨p, q, rfl, H2.out, HB2.out⟩

theorem on_q {O R : Nat → Prop} {gn gf : Nat} {vb : Value} {vs : List Value} (h : DiskAt w O R p d gn gf vb vs) (n : Nat) : Calls Try.prog 21 #[.pointer (some ⟨p, 0, none⟩)] (w.drewN n) fun e w'' => e = .returned (.bool !d.off) ∧ ∃ m, w'' = w.drewN m :=
  (on_any (h.keep (S := fun _ => False) ((Keeps.refl _ w).drewN n) (fun _ _ => id) (fun _ _ => id))).mono fun _ _ ⟨a, b⟩ => ⟨a, n, b.symm⟩
theorem blocks_q {O R : Nat → Prop} {gn gf : Nat} {vb : Value} {vs : List Value} (h : DiskAt w O R p d gn gf vb vs) (n : Nat) : Calls Try.prog 30 #[.pointer (some ⟨p, 0, none⟩)] (w.drewN n) fun e w'' => e = .returned (.int .i64 d.n) ∧ ∃ m, w'' = w.drewN m :=
  (blocks_any (h.keep (S := fun _ => False) ((Keeps.refl _ w).drewN n) (fun _ _ => id) (fun _ _ => id))).mono fun _ _ ⟨a, b⟩ => ⟨a, n, b.symm⟩
set_option maxHeartbeats 800000 in
set_option maxRecDepth 100000 in
theorem alike_any (h : DisksX w B X ((false, p, d) :: (true, q, d) :: l)) (hB : B ≤ w.heap.size) : Calls Try.prog 28 #[.pointer (some ⟨p, 0, none⟩), .pointer (some ⟨q, 0, none⟩)] w fun e w' => e = .returned (.bool true) ∧ Below w.heap.size w w' := by
  obtain ⟨O, R, gn, gf, vb, vs, h1⟩ := h.disk hB
  obtain ⟨O2, fv, hv, h2⟩ := h.two.ref hB
  have H1 := Lib.hid h1
  have H2 := Lib.hid h2
  clear h h1 h2
  go_enter Try.func28, Try.ntmps28
  go_wp2_with fail
  refine (pending_any H1.out).mono ?_
  rintro e w1 ⟨v, rfl, hrow, hb⟩
  have h1 := H1.out.keep (S := fun _ => False) (Keeps.of_below hb) (fun _ _ => id) (fun _ _ => id)
  have h2 := H2.out.keep (S := fun _ => False) (Keeps.of_below hb) (fun _ _ => id)
  have HROW := Lib.hid hrow
  obtain ⟨av, cv, hsv⟩ := row_len hrow
  subst hsv
  have c0 := h2.c0
  have c1 := h2.c1
  have c3 := h2.c3
  have hsm := h1.small
  obtain ⟨gfr, capf, curf, hfv, _, _, _, _⟩ := h2.fastRow
  obtain ⟨ah, ch, hhv⟩ := row_len h2.held
  rw [hfv] at c0
  rw [hhv] at c1
  have H1 := Lib.hid h1
  have H2 := Lib.hid h2
  have HHV := Lib.hid hhv
  have HB := Lib.hid hb
  have Q1 := Lib.hid (fun n => on_q h1 n)
  have Q2 := Lib.hid (fun n => blocks_q h1 n)
  have HBD : Hid (B = B) := rfl
  clear h1 h2 hrow hfv hhv hb
  generalize hoff : d.off = off at *
  clear hoff HBD
  cases off
  all_goals
    go_wp2_with fail
    go_quiet ((first | (go_at_call 21; exact Q1.out _) | (go_at_call 30; exact Q2.out _)))
    go_wp2_with fail
    go_loopw [6] (fun i wr => ∃ k m : Nat, k ≤ d.back.length ∧ i = .int .i64 k ∧ wr = w1.drewN m) (fun i _ => d.back.length - (intOf i).toNat)
    case atStart => exact ⟨0, nq, Nat.zero_le _, rfl, rfl⟩
    case round =>
      obtain ⟨k, m, hk, rfl, rfl⟩ := hrel
      have k0 : (0 : Int) ≤ (k : Int) := by omega
      by_cases hlt : k < d.back.length
      · have k1 : (k : Int) < (d.back.length : Int) := by omega
        obtain ⟨g, cap, hhv', hc, _⟩ := rRow H2.out k hlt
        rw [HHV.out] at hhv'
        cases hhv'
        have hml : (d.back.map fun x => Value.int .i64 (x.1 : Int)).length = d.back.length := List.length_map _
        have hvc : ∃ gl, av = some ⟨gl, 0, none⟩ ∧ w1.cell? ⟨gl, k, none⟩ = some (.int .i64 (d.back[k].1 : Int)) := by
          rcases RowAt.of_owns HROW.out with ⟨_, h0⟩ | ⟨gl, off, cap, he, _, hcell⟩
          · rw [h0] at hml; simp at hml; omega
          · rcases owns_shape HROW.out with ⟨_, h00⟩ | ⟨g', cap', hv', _⟩
            · omega
            · simp only [Value.slice.injEq] at hv' he
              have h1 := hv'.1
              rw [he.1] at h1
              cases h1
              have h3 := hcell k (.int .i64 (d.back[k].1 : Int)) (by rw [List.getElem?_map, List.getElem?_eq_getElem hlt]; rfl)
              rw [Nat.zero_add] at h3
              exact ⟨_, hv'.1, h3⟩
        obtain ⟨gl, rfl, hcl⟩ := hvc
        generalize (d.back[k].1 : Int) = xv at *
        go_wp2_with fail
        go_quiet (fail)
        go_wp2_with fail
        go_roundw
        case rel => exact ⟨k + 1, _, by omega, by go_num, rfl⟩
        case measure => simp [intOf]; omega
      · obtain rfl : k = d.back.length := by omega
        go_wp2_with fail
        go_ret
        exact ⟨rfl, below_drewN HB.out _⟩
end Go.Proofs.Ythdefaodioapbaa
