/- The door: what was given up with becomes the error. Sync. -/
import Derived.Test.YthfncgbkigmmcaaL6
namespace Go.Proofs.Ythfncgbkigmmcaa
open Go.RowKit

variable {w w' : World} {O R : Nat → Prop} {lp p : Nat} {d : DS} {dead : Bool}
theorem results_err {fn : Func} {q : Tmp} (h : fn.results = #[.cell q 31]) (tmps : Array Value) (w : World) (g : Nat) (c : Int) (hp : tmps.getD q undef = .pointer (some ⟨g, 0, none⟩)) (hc : w.cell? ⟨g, 0, none⟩ = some (.int .i64 c)) :
    (results fn tmps).run Try.prog w = .ok (.int .i64 c) w := by
  have hp' : tmps[q]?.getD undef = .pointer (some ⟨g, 0, none⟩) := by simpa using hp
  simp [results, h, hp', go_sem, hc]
theorem results_two {fn : Func} {t q : Tmp} (h : fn.results = #[.tmp t, .cell q 31]) (tmps : Array Value) (w : World) (v : Value) (g : Nat) (c : Int) (hv : tmps.getD t undef = v) (hp : tmps.getD q undef = .pointer (some ⟨g, 0, none⟩)) (hc : w.cell? ⟨g, 0, none⟩ = some (.int .i64 c)) :
    (results fn tmps).run Try.prog w = .ok (.tuple #[v, .int .i64 c]) w := by
  have hp' : tmps[q]?.getD undef = .pointer (some ⟨g, 0, none⟩) := by simpa using hp
  have hv' : tmps[t]?.getD undef = v := by simpa using hv
  simp [results, h, hp', hv', go_sem, hc]
def defd (lp eb : Nat) : Deferred := { target := Target.fn (Fn.func 37) #[], args := #[.pointer (some ⟨lp, 0, none⟩), .pointer (some ⟨eb, 0, none⟩)] }
variable {fn : Func} {tmps : Array Value} {Q : Ending → World → Prop} {eb : Nat} {v x : Value} {ds : List Deferred}
theorem leaves_idle (h : Leaves Try.prog fn tmps Q ds .returning w) : Leaves Try.prog fn tmps Q (defd lp eb :: ds) .returning w := by
  refine leaves_cons (f := 37) (args := #[.pointer (some ⟨lp, 0, none⟩), .pointer (some ⟨eb, 0, none⟩)]) (by simp) (by simp [go_sem]) ?_
  refine (caught_idle lp eb w).mono ?_
  rintro e u' w'' ⟨rfl, rfl, rfl⟩
  exact h
theorem leaves_err (c : Int) (hc : (c == 11) = false) (h2 : w.cell? ⟨eb, 0, none⟩ = some x) (h3 : w.frozen? ⟨eb, 0, none⟩ = false)
    (h : Leaves Try.prog fn tmps Q ds .returning ((w.setCell ⟨eb, 0, none⟩ (.int .i64 c)).alloc (.cells #[.int .i64 c] 79))) : Leaves Try.prog fn tmps Q (defd lp eb :: ds) (.panicking (stopP c)) w := by
  refine leaves_cons (f := 37) (args := #[.pointer (some ⟨lp, 0, none⟩), .pointer (some ⟨eb, 0, none⟩)]) (by simp [stopP]) (by simp [go_sem]) ?_
  refine (caught_err lp eb c hc w x h2 h3).mono ?_
  rintro e u' w'' ⟨rfl, rfl, rfl⟩
  exact h
theorem leaves_off {d0 : Value} (h0 : w.cell? ⟨lp, 1, none⟩ = some d0) (h1 : w.frozen? ⟨lp, 1, none⟩ = false) (h2 : w.cell? ⟨eb, 0, none⟩ = some x) (h3 : w.frozen? ⟨eb, 0, none⟩ = false) (he : lp ≠ eb)
    (h : Leaves Try.prog fn tmps Q ds .returning (((w.setCell ⟨lp, 1, none⟩ (.bool true)).setCell ⟨eb, 0, none⟩ (.int .i64 11)).alloc (.cells #[.int .i64 11] 79))) : Leaves Try.prog fn tmps Q (defd lp eb :: ds) (.panicking (stopP 11)) w := by
  refine leaves_cons (f := 37) (args := #[.pointer (some ⟨lp, 0, none⟩), .pointer (some ⟨eb, 0, none⟩)]) (by simp [stopP]) (by simp [go_sem]) ?_
  refine (caught_off lp eb w x d0 h0 h1 h2 h3 he).mono ?_
  rintro e u' w'' ⟨rfl, rfl, rfl⟩
  exact h

/-- The ledger is dead. -/
theorem LedO.die (h : LedO w O R lp p d dead) {eb : Nat} {u : Value} {o : Obj} (hb : eb < w.heap.size) (he : ¬ O eb) (hr : ¬ R eb) : LedO (((w.setCell ⟨lp, 1, none⟩ (.bool true)).setCell ⟨eb, 0, none⟩ u).alloc o) O R lp p d true ∧ Keeps (fun b => b = lp ∨ b = eb) w (((w.setCell ⟨lp, 1, none⟩ (.bool true)).setCell ⟨eb, 0, none⟩ u).alloc o) := by
  have hk : Keeps (fun b => b = lp ∨ b = eb) w (((w.setCell ⟨lp, 1, none⟩ (.bool true)).setCell ⟨eb, 0, none⟩ u).alloc o) := (((Keeps.refl (fun b => b = lp ∨ b = eb) w).setCell ⟨lp, 1, none⟩ _ (.inl (.inl rfl))).setCell ⟨eb, 0, none⟩ _ (.inl (.inr rfl))).alloc o
  obtain ⟨Od, h1, h2, h3⟩ := h.disk
  have hle : lp ≠ eb := fun e => he (e ▸ h.own)
  have hll := h.lt lp h.own
  refine ⟨⟨⟨Od, ⟨h1.1.keep hk (fun i hi e => ?_) (fun i hi e => ?_), fun j hj => Nat.lt_of_lt_of_le (h1.2.1 j hj) hk.size, fun j hj => Nat.lt_of_lt_of_le (h1.2.2.1 j hj) hk.size, h1.2.2.2⟩, h2, h3⟩, ?_, h.own, fun j hj => Nat.lt_of_lt_of_le (h.lt j hj) hk.size, h.ap⟩, hk⟩
  · rcases e with rfl | rfl
    · exact h3 hi
    · exact he (h2 _ hi)
  · rcases e with rfl | rfl
    · exact h.ap _ h.own hi
    · exact hr hi
  · rw [Below.heap_alloc _ _ _ (by simp; omega), Below.heap_setCell _ _ _ _ hle, heap_setCell_same w lp 1 _ _ _ h.cell]
    rfl
set_option maxHeartbeats 800000 in
theorem sync_ok (h : LedO w O R lp p d false) (ho : d.off = false) (hn : 0 < d.n) : Calls Try.prog 21 #[.pointer (some ⟨lp, 0, none⟩)] w fun e w' => e = .returned (.int .i64 0) ∧ Below w.heap.size w w' := by
  have HL := Lib.hid (fun w' (hb : Below w.heap.size w w') => h.below hb)
  have HB1 : Hid (∀ o, Below w.heap.size w (w.alloc o)) := fun o => (Below.refl _ w).alloc (Nat.le_refl _) o
  clear h
  go_enter_defers Try.func21, Try.ntmps21
  go_wp2_with fail
  refine (awake_ok (HL.out _ (HB1.out _))).mono ?_
  rintro e w1 ⟨rfl, rfl⟩
  go_wp2_with fail
  refine (lread_ok (HL.out _ (HB1.out _)) ho 0 hn).mono ?_
  rintro e w2 ⟨g, cap, rfl, _, _, _, _, _, hb⟩
  have hb2 := (HB1.out (.cells #[.int .i64 0] 31)).trans (hb.mono (by simp))
  have hc : w2.cell? ⟨w.heap.size, 0, none⟩ = some (.int .i64 0) := (hb.cell (p := ⟨w.heap.size, 0, none⟩) (by simp)).trans (by simp [go_sem])
  have hf : w2.frozen? ⟨w.heap.size, 0, none⟩ = false := (hb.frozen (p := ⟨w.heap.size, 0, none⟩) (by simp)).trans (by simp [go_sem])
  have HB2 := Lib.hid hb2
  clear hb hb2
  go_wp2_with fail
  refine leaves_idle (eb := w.heap.size) ?_
  refine ⟨_, results_err rfl _ _ w.heap.size 0 rfl (World.cell?_setCell_same' _ _ _ (by rw [hc]; rfl)), rfl, HB2.out.setCell (Nat.le_refl _) _⟩
end Go.Proofs.Ythfncgbkigmmcaa
