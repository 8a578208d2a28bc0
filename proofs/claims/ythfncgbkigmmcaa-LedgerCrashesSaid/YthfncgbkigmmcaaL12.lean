/- The doors of Format and Open. -/
import Derived.Test.YthfncgbkigmmcaaL11
namespace Go.Proofs.Ythfncgbkigmmcaa
open Go.RowKit

variable {w w' w1 : World} {O R O1 R1 : Nat → Prop} {lp p : Nat} {d d1 : DS} {dead dead1 : Bool}
theorem fshut_ok (eb lc : Nat) (w : World) (u : FrameMode) (hc : w.cell? ⟨eb, 0, none⟩ = some (.int .i64 0)) : CallsD Try.prog 51 #[.pointer (some ⟨eb, 0, none⟩), .pointer (some ⟨lc, 0, none⟩)] u w fun e u' w' => u' = u ∧ (e = .returned (.tuple #[]) ∧ w' = w) := by
  go_enter_d Try.func51, Try.ntmps51
  go_wp2_with fail
  go_end0
  exact ⟨rfl, rfl⟩
theorem fshut_err (eb lc : Nat) (c : Int) (w : World) (u : FrameMode) (x : Value) (hc : w.cell? ⟨eb, 0, none⟩ = some (.int .i64 c)) (h0 : (c != 0) = true) (hl : w.cell? ⟨lc, 0, none⟩ = some x) (hf : w.frozen? ⟨lc, 0, none⟩ = false) : CallsD Try.prog 51 #[.pointer (some ⟨eb, 0, none⟩), .pointer (some ⟨lc, 0, none⟩)] u w fun e u' w' => u' = u ∧ (e = .returned (.tuple #[]) ∧ w' = w.setCell ⟨lc, 0, none⟩ (.pointer none)) := by
  go_enter_d Try.func51, Try.ntmps51
  go_wp2_with fail
  go_end0
  exact ⟨rfl, rfl⟩
theorem oshut_ok (eb lc : Nat) (w : World) (u : FrameMode) (hc : w.cell? ⟨eb, 0, none⟩ = some (.int .i64 0)) : CallsD Try.prog 47 #[.pointer (some ⟨eb, 0, none⟩), .pointer (some ⟨lc, 0, none⟩)] u w fun e u' w' => u' = u ∧ (e = .returned (.tuple #[]) ∧ w' = w) := by
  go_enter_d Try.func47, Try.ntmps47
  go_wp2_with fail
  go_end0
  exact ⟨rfl, rfl⟩
theorem oshut_err (eb lc : Nat) (c : Int) (w : World) (u : FrameMode) (x : Value) (hc : w.cell? ⟨eb, 0, none⟩ = some (.int .i64 c)) (h0 : (c != 0) = true) (hl : w.cell? ⟨lc, 0, none⟩ = some x) (hf : w.frozen? ⟨lc, 0, none⟩ = false) : CallsD Try.prog 47 #[.pointer (some ⟨eb, 0, none⟩), .pointer (some ⟨lc, 0, none⟩)] u w fun e u' w' => u' = u ∧ (e = .returned (.tuple #[]) ∧ w' = w.setCell ⟨lc, 0, none⟩ (.pointer none)) := by
  go_enter_d Try.func47, Try.ntmps47
  go_wp2_with fail
  go_end0
  exact ⟨rfl, rfl⟩

/-- the world behind 'l = &Ledger{d: d}' -/
def startW (w : World) (p : Nat) : World := ((w.alloc (.cells #[.pointer (some ⟨w.heap.size + 1 + 1, 0, none⟩)] 28)).alloc (.cells #[.int .i64 0] 31)).alloc (.cells #[.iface 27 (.pointer (some ⟨p, 0, none⟩)), .bool false] 76)
def startO (w : World) (O : Nat → Prop) : Nat → Prop := fun j => j = w.heap.size + 1 + 1 ∨ O j
theorem start_below (w : World) (p : Nat) : Below w.heap.size w (startW w p) := (((Below.refl _ w).alloc (Nat.le_refl _) _).alloc (by simp) _).alloc (by simp; omega) _
theorem start_size (w : World) (p : Nat) : (startW w p).heap.size = w.heap.size + 3 := by simp [startW]
theorem start_led (h : DiskO w O R p d) : LedO (startW w p) (startO w O) R (w.heap.size + 1 + 1) p d false := by
  have hb := start_below w p
  have hs := start_size w p
  refine ⟨⟨O, h.below hb, fun j hj => .inr hj, fun e => by have := h.2.1 _ e; omega⟩, ?_, .inl rfl, ?_, ?_⟩
  · have := heap_alloc_new ((w.alloc (.cells #[.pointer (some ⟨w.heap.size + 1 + 1, 0, none⟩)] 28)).alloc (.cells #[.int .i64 0] 31)) (.cells #[.iface 27 (.pointer (some ⟨p, 0, none⟩)), .bool false] 76)
    simp only [World.size_alloc] at this
    exact this
  · rintro j (rfl | hj)
    · omega
    · have := h.2.1 _ hj
      omega
  · rintro j (rfl | hj)
    · intro e
      have := h.2.2.1 _ e
      omega
    · exact h.2.2.2 _ hj
theorem start_turned (w : World) (p : Nat) (O R : Nat → Prop) : Turned w (startW w p) O R (startO w O) R := by
  refine ⟨Keeps.of_below (start_below w p), ?_, fun j => .inl⟩
  rintro j (rfl | hj)
  · exact .inr ⟨by omega, by rw [start_size]; omega⟩
  · exact .inl hj
end Go.Proofs.Ythfncgbkigmmcaa
