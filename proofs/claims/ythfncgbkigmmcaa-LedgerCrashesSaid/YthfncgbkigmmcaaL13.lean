/- The doors of Format and Open: what is there behind them. -/
import Derived.Test.YthfncgbkigmmcaaL12
namespace Go.Proofs.Ythfncgbkigmmcaa
open Go.RowKit

variable {w w' w1 wr : World} {O R O1 R1 : Nat → Prop} {lp p : Nat} {d D : DS} {dead dead1 : Bool}
theorem start_cells (h : DiskO w O R p d) (t : Turned (startW w p) wr (startO w O) R O1 R1) :
    wr.heap[w.heap.size]? = some (.cells #[.pointer (some ⟨w.heap.size + 1 + 1, 0, none⟩)] 28 (0, 0)) ∧ wr.heap[w.heap.size + 1]? = some (.cells #[.int .i64 0] 31 (0, 0)) ∧
    (∀ j, j = w.heap.size ∨ j = w.heap.size + 1 → ¬ O1 j ∧ ¬ R1 j) ∧ w.heap.size + 2 < wr.heap.size := by
  have hs := start_size w p
  have ho : ∀ j, j = w.heap.size ∨ j = w.heap.size + 1 → ¬ startO w O j ∧ ¬ R j := fun j hj => by
    refine ⟨?_, fun e => by have := h.2.2.1 _ e; omega⟩
    rintro (e | e)
    · omega
    · have := h.2.1 _ e; omega
  refine ⟨?_, ?_, fun j hj => ⟨fun e => ?_, fun e => ?_⟩, by have := t.keeps.size; omega⟩
  · rw [t.keeps.block _ (by omega) (ho _ (.inl rfl)).1]
    unfold startW
    rw [Below.heap_alloc _ _ _ (by simp; omega), Below.heap_alloc _ _ _ (by simp)]
    exact heap_alloc_new _ _
  · rw [t.keeps.block _ (by omega) (ho _ (.inr rfl)).1]
    unfold startW
    rw [Below.heap_alloc _ _ _ (by simp)]
    have := heap_alloc_new (w.alloc (.cells #[.pointer (some ⟨w.heap.size + 1 + 1, 0, none⟩)] 28)) (.cells #[.int .i64 0] 31)
    simp only [World.size_alloc] at this
    exact this
  · exact (t.o _ e).elim (ho j hj).1 (fun e => by have := e.1; omega)
  · exact (t.r _ e).elim (ho j hj).2 (fun e => by have := e.1; omega)

theorem results_cells {fn : Func} {a b : Tmp} (h : fn.results = #[.cell a 28, .cell b 31]) (tmps : Array Value) (w : World) (g1 g2 : Nat) (c : Int) (x : Option Addr) (h1 : tmps.getD a undef = .pointer (some ⟨g1, 0, none⟩)) (h2 : tmps.getD b undef = .pointer (some ⟨g2, 0, none⟩)) (hc1 : w.cell? ⟨g1, 0, none⟩ = some (.pointer x)) (hc2 : w.cell? ⟨g2, 0, none⟩ = some (.int .i64 c)) :
    (results fn tmps).run Try.prog w = .ok (.tuple #[.pointer x, .int .i64 c]) w := by
  have h1' : tmps[a]?.getD undef = .pointer (some ⟨g1, 0, none⟩) := by simpa using h1
  have h2' : tmps[b]?.getD undef = .pointer (some ⟨g2, 0, none⟩) := by simpa using h2
  simp [results, h, h1', h2', go_sem, hc1, hc2]

/-- the closure that is deferred first -/
structure Shut (sh : FuncId) : Prop where
  enter : ∀ (a b : Value) (w : World), (callFunc sh #[a, b]).run Try.prog w = .ok (.enter sh #[a, b]) w
  ok : ∀ (eb lc : Nat) (w : World) (u : FrameMode), w.cell? ⟨eb, 0, none⟩ = some (.int .i64 0) → CallsD Try.prog sh #[.pointer (some ⟨eb, 0, none⟩), .pointer (some ⟨lc, 0, none⟩)] u w fun e u' w' => u' = u ∧ (e = .returned (.tuple #[]) ∧ w' = w)
  err : ∀ (eb lc : Nat) (c : Int) (w : World) (u : FrameMode) (x : Value), w.cell? ⟨eb, 0, none⟩ = some (.int .i64 c) → (c != 0) = true → w.cell? ⟨lc, 0, none⟩ = some x → w.frozen? ⟨lc, 0, none⟩ = false → CallsD Try.prog sh #[.pointer (some ⟨eb, 0, none⟩), .pointer (some ⟨lc, 0, none⟩)] u w fun e u' w' => u' = u ∧ (e = .returned (.tuple #[]) ∧ w' = w.setCell ⟨lc, 0, none⟩ (.pointer none))
theorem shutF : Shut 51 := ⟨fun _ _ _ => by simp [go_sem], fshut_ok, fshut_err⟩
theorem shutO : Shut 47 := ⟨fun _ _ _ => by simp [go_sem], oshut_ok, oshut_err⟩
def clos (sh : FuncId) (eb lc : Nat) : Deferred := { target := Target.fn (Fn.func sh) #[.pointer (some ⟨eb, 0, none⟩), .pointer (some ⟨lc, 0, none⟩)], args := #[] }

/-- How Format and Open end: Z what has become of the disk, and whether there is a ledger; the error if there is none. -/
def Opened (w : World) (O R : Nat → Prop) (p : Nat) (Z : DS × Bool) (err : Int) (e : Ending) (w' : World) : Prop :=
  (Z.2 = true ∧ ∃ lp O' R', e = .returned (.tuple #[.pointer (some ⟨lp, 0, none⟩), .int .i64 0]) ∧ LedO w' O' R' lp p Z.1 false ∧ Turned w w' O R O' R') ∨
  (Z.2 = false ∧ e = .returned (.tuple #[.pointer none, .int .i64 err]) ∧ ∃ O' R', DiskO w' O' R' p Z.1 ∧ Turned w w' O R O' R')

theorem door_ok {sh : FuncId} (hs : Shut sh) (h : DiskO w O R p d) {W2 : World} (hk : Keeps (fun j => j = w.heap.size ∨ j = w.heap.size + 1) wr W2) (hl : LedO wr O1 R1 (w.heap.size + 1 + 1) p D false) (t : Turned (startW w p) wr (startO w O) R O1 R1)
    (hc1 : W2.cell? ⟨w.heap.size, 0, none⟩ = some (.pointer (some ⟨w.heap.size + 1 + 1, 0, none⟩))) (hc2 : W2.cell? ⟨w.heap.size + 1, 0, none⟩ = some (.int .i64 0))
    {fn : Func} {tmps : Array Value} (hr : fn.results = #[.cell 2 28, .cell 3 31]) (h2 : tmps.getD 2 undef = .pointer (some ⟨w.heap.size, 0, none⟩)) (h3 : tmps.getD 3 undef = .pointer (some ⟨w.heap.size + 1, 0, none⟩)) (err : Int) :
    Leaves Try.prog fn tmps (fun e w' => Opened w O R p (D, true) err e w') [defd (w.heap.size + 1 + 1) (w.heap.size + 1), clos sh (w.heap.size + 1) w.heap.size] .returning W2 := by
  obtain ⟨_, _, hno, hsz⟩ := start_cells h t
  refine leaves_idle ?_
  refine leaves_cons (f := sh) (args := #[.pointer (some ⟨w.heap.size + 1, 0, none⟩), .pointer (some ⟨w.heap.size, 0, none⟩)]) (by simp) (by simp [go_sem, hs.enter]) ?_
  refine (hs.ok _ _ W2 _ hc2).mono ?_
  rintro e u' w'' ⟨rfl, rfl, rfl⟩
  refine ⟨_, results_cells hr _ _ _ _ 0 _ h2 h3 hc1 hc2, .inl ⟨rfl, _, O1, R1, rfl, ?_, ?_⟩⟩
  · obtain ⟨Od, a1, a2, a3⟩ := hl.disk
    refine ⟨⟨Od, ⟨a1.1.keep hk (fun i hi e => (hno i e).1 (a2 i hi)) (fun i hi e => (hno i e).2 hi), fun j hj => Nat.lt_of_lt_of_le (a1.2.1 j hj) hk.size, fun j hj => Nat.lt_of_lt_of_le (a1.2.2.1 j hj) hk.size, a1.2.2.2⟩, a2, a3⟩, ?_, hl.own, fun j hj => Nat.lt_of_lt_of_le (hl.lt j hj) hk.size, hl.ap⟩
    exact (hk.block _ (hl.lt _ hl.own) (by omega)).trans hl.cell
  · have t0 := (start_turned w p O R).trans t
    exact ⟨t0.keeps.trans hk (fun i hi => .inr (by rcases hi with rfl | rfl <;> omega)), fun j hj => (t0.o j hj).imp id (·.left hk.size), fun j hj => (t0.r j hj).imp id (·.left hk.size)⟩

theorem door_bad {sh : FuncId} (hs : Shut sh) (h : DiskO w O R p d) (hl : LedO wr O1 R1 (w.heap.size + 1 + 1) p D false) (t : Turned (startW w p) wr (startO w O) R O1 R1) (c : Int) (h0 : (c != 0) = true)
    {fn : Func} {tmps : Array Value} (hr : fn.results = #[.cell 2 28, .cell 3 31]) (h2 : tmps.getD 2 undef = .pointer (some ⟨w.heap.size, 0, none⟩)) (h3 : tmps.getD 3 undef = .pointer (some ⟨w.heap.size + 1, 0, none⟩)) :
    Leaves Try.prog fn tmps (fun e w' => Opened w O R p (D, false) c e w') [defd (w.heap.size + 1 + 1) (w.heap.size + 1), clos sh (w.heap.size + 1) w.heap.size] (.panicking (stopP c)) wr := by
  obtain ⟨hcl, hce, hno, hsz⟩ := start_cells h t
  have hc : wr.cell? ⟨w.heap.size + 1, 0, none⟩ = some (.int .i64 0) := by rw [cell_of_row wr _ 0 _ _ _ hce]; rfl
  have hcc : wr.cell? ⟨w.heap.size, 0, none⟩ = some (.pointer (some ⟨w.heap.size + 1 + 1, 0, none⟩)) := by rw [cell_of_row wr _ 0 _ _ _ hcl]; rfl
  have hf := frozen_of_row wr _ 0 _ _ hce
  have hfl := frozen_of_row wr _ 0 _ _ hcl
  -- whatever the world behind 'caught' is: the error stands in its cell; the rest is as it was
  have key : ∀ W : World, Keeps (fun j => j = w.heap.size + 1 + 1 ∨ j = w.heap.size + 1) wr W → W.cell? ⟨w.heap.size + 1, 0, none⟩ = some (.int .i64 c) →
      Leaves Try.prog fn tmps (fun e w' => Opened w O R p (D, false) c e w') [clos sh (w.heap.size + 1) w.heap.size] .returning W := by
    intro W hk hcW
    have q1 : W.cell? ⟨w.heap.size, 0, none⟩ = some (.pointer (some ⟨w.heap.size + 1 + 1, 0, none⟩)) := (hk.cell (p := ⟨w.heap.size, 0, none⟩) (by simp only; omega) (by simp only; omega)).trans hcc
    have q2 : W.frozen? ⟨w.heap.size, 0, none⟩ = false := (hk.frozen (p := ⟨w.heap.size, 0, none⟩) (by simp only; omega) (by simp only; omega)).trans hfl
    refine leaves_cons (f := sh) (args := #[.pointer (some ⟨w.heap.size + 1, 0, none⟩), .pointer (some ⟨w.heap.size, 0, none⟩)]) (by simp) (by simp [go_sem, hs.enter]) ?_
    refine (hs.err _ _ c W _ _ hcW h0 q1 q2).mono ?_
    rintro e u' w'' ⟨rfl, rfl, rfl⟩
    have hk2 : Keeps (fun j => j = w.heap.size + 1 + 1 ∨ j = w.heap.size + 1 ∨ j = w.heap.size) wr (W.setCell ⟨w.heap.size, 0, none⟩ (.pointer none)) := (hk.mono (fun k _ e => e.elim .inl (fun e => .inr (.inl e)))).setCell _ _ (.inl (.inr (.inr rfl)))
    refine ⟨_, results_cells hr _ _ _ _ c _ h2 h3 (World.cell?_setCell_same' _ _ _ (by rw [q1]; rfl)) ?_, .inr ⟨rfl, rfl, ?_⟩⟩
    · rw [World.cell?_setCell_other (h := by intro e; have := congrArg Addr.block e; simp at this)]
      exact hcW
    · obtain ⟨Od, a1, a2, a3⟩ := hl.disk
      have t0 := (start_turned w p O R).trans t
      refine ⟨Od, R1, ⟨a1.1.keep hk2 (fun i hi e => ?_) (fun i hi e => ?_), fun j hj => Nat.lt_of_lt_of_le (a1.2.1 j hj) hk2.size, fun j hj => Nat.lt_of_lt_of_le (a1.2.2.1 j hj) hk2.size, a1.2.2.2⟩, t0.keeps.trans hk2 (fun i hi => .inr (by rcases hi with rfl | rfl | rfl <;> omega)), fun j hj => (t0.o j (a2 j hj)).imp id (·.left hk2.size), fun j hj => (t0.r j hj).imp id (·.left hk2.size)⟩
      · rcases e with rfl | e
        · exact a3 hi
        · exact (hno i e.symm).1 (a2 i hi)
      · rcases e with rfl | e
        · exact hl.ap _ hl.own hi
        · exact (hno i e.symm).2 hi
  by_cases hc11 : c = 11
  · subst hc11
    have hne : w.heap.size + 1 + 1 ≠ w.heap.size + 1 := by omega
    refine leaves_off hl.c1 (hl.fr 1) hc hf hne ?_
    refine key _ ((((Keeps.refl (fun j => j = w.heap.size + 1 + 1 ∨ j = w.heap.size + 1) wr).setCell ⟨w.heap.size + 1 + 1, 1, none⟩ _ (.inl (.inl rfl))).setCell ⟨w.heap.size + 1, 0, none⟩ _ (.inl (.inr rfl))).alloc _) (cell_11 wr _ _ _ _ hc hne)
  · refine leaves_err c (by simpa using hc11) hc hf ?_
    have hl2 := World.block_lt_of_cell? _ _ hc
    refine key _ (((Keeps.refl (fun j => j = w.heap.size + 1 + 1 ∨ j = w.heap.size + 1) wr).setCell ⟨w.heap.size + 1, 0, none⟩ _ (.inl (.inr rfl))).alloc _) ?_
    rw [((Below.refl _ (wr.setCell ⟨w.heap.size + 1, 0, none⟩ (.int .i64 c))).alloc (Nat.le_refl _) _).cell (by simpa using hl2)]
    exact World.cell?_setCell_same' _ _ _ (by rw [hc]; rfl)
end Go.Proofs.Ythfncgbkigmmcaa
