/- caught, as it is deferred. -/
import Derived.Test.YthfncgbkigmmcaaL1
namespace Go.Proofs.Ythfncgbkigmmcaa
open Go.RowKit

theorem caught_tmps (a b n : Value) : (#[a, b] ++ ((Array.replicate 30 undef).setIfInBounds 5 n).setIfInBounds 2 n : Array Value) = #[a, b, undef, undef, n, undef, undef, n, undef, undef, undef, undef, undef, undef, undef, undef, undef, undef, undef, undef, undef, undef, undef, undef, undef, undef, undef, undef, undef, undef, undef, undef] := by
  apply Array.toList_inj.1
  simp [List.replicate]
set_option maxHeartbeats 400000 in
theorem caught_idle (lp eb : Nat) (w : World) : CallsD Try.prog 37 #[.pointer (some ⟨lp, 0, none⟩), .pointer (some ⟨eb, 0, none⟩)] .returning w fun e u' w' => e = .returned (.tuple #[]) ∧ u' = .returning ∧ w' = w := by
  refine callsD_of_wpS Try.func37 rfl fun c₀ cs hu => ?_
  apply wpS_seq
  apply wpS_region
  generalize hQ : Exit.thenS _ _ = Q
  simp [wpOpsS, go_sem, recoverD, hu, Try.ntmps37]
  subst hQ
  simp only [Exit.thenS]
  refine wpS_of_wp ?_
  rw [caught_tmps]
  generalize hQ : (fun (e : Exit) (a' : Act) (w' : World) => bodyPostS _ _ _ _ _ e a' _ w') = Q
  go_wp2_with fail
  subst hQ
  cases c₀
  simp_all [bodyPostS, results, Try.results37]
set_option maxRecDepth 8000 in
set_option maxHeartbeats 800000 in
theorem caught_off (lp eb : Nat) (w : World) (x : Value) (d0 : Value) (h0 : w.cell? ⟨lp, 1, none⟩ = some d0) (h1 : w.frozen? ⟨lp, 1, none⟩ = false) (h2 : w.cell? ⟨eb, 0, none⟩ = some x) (h3 : w.frozen? ⟨eb, 0, none⟩ = false) (he : lp ≠ eb) :
    CallsD Try.prog 37 #[.pointer (some ⟨lp, 0, none⟩), .pointer (some ⟨eb, 0, none⟩)] (.panicking (stopP 11)) w fun e u' w' => e = .returned (.tuple #[]) ∧ u' = .panicking [{ v := .iface 79 (.agg #[.int .i64 11]), recovered := true }] ∧ w' = ((w.setCell ⟨lp, 1, none⟩ (.bool true)).setCell ⟨eb, 0, none⟩ (.int .i64 11)).alloc (.cells #[.int .i64 11] 79) := by
  have hta : ∀ (v : Value) (w : World), (Instr.typeAssert (.iface 79 v) 20 79 true).run Try.prog w = .ok (.tuple #[v, .bool true]) w := fun v w => by kernel_rfl
  have hl := World.block_lt_of_cell? _ _ h0
  have hb := World.block_lt_of_cell? _ _ h2
  have a1 : ∀ o, (w.alloc o).cell? ⟨lp, 1, none⟩ = some d0 := fun o => ((Below.refl w.heap.size w).alloc (Nat.le_refl _) o).cell hl |>.trans h0
  have a2 : ∀ o, (w.alloc o).frozen? ⟨lp, 1, none⟩ = false := fun o => ((Below.refl w.heap.size w).alloc (Nat.le_refl _) o).frozen hl |>.trans h1
  have a3 : ∀ o u, ((w.setCell ⟨lp, 1, none⟩ u).alloc o).cell? ⟨eb, 0, none⟩ = some x := fun o u => by
    rw [((Below.refl _ (w.setCell ⟨lp, 1, none⟩ u)).alloc (Nat.le_refl _) o).cell (by simpa using hb), World.cell?_setCell_other (h := by intro e; have := congrArg Addr.block e; exact he this)]
    exact h2
  have a4 : ∀ o u, ((w.setCell ⟨lp, 1, none⟩ u).alloc o).frozen? ⟨eb, 0, none⟩ = false := fun o u => by
    rw [((Below.refl _ (w.setCell ⟨lp, 1, none⟩ u)).alloc (Nat.le_refl _) o).frozen (by simpa using hb), World.frozen?_setCell]
    exact h3
  have hs : ¬ w.heap.size = lp := by simp only at hl; omega
  have hs2 : ¬ w.heap.size = eb := by simp only at hb; omega
  have he2 : ¬ eb = lp := fun e => he e.symm
  clear h0 h1 h2 h3
  refine callsD_of_wpS Try.func37 rfl fun c₀ cs hu => ?_
  unfold stopP at hu
  apply wpS_seq
  apply wpS_region
  generalize hQ : Exit.thenS _ _ = Q
  simp [wpOpsS, go_sem, recoverD, hu, Try.ntmps37]
  subst hQ
  simp only [Exit.thenS]
  refine wpS_of_wp ?_
  rw [caught_tmps]
  generalize hQ : (fun (e : Exit) (a' : Act) (w' : World) => bodyPostS _ _ _ _ _ e a' _ w') = Q
  go_wp2_with fail
  subst hQ
  cases c₀
  simp_all [bodyPostS, results, Try.results37]
set_option maxRecDepth 8000 in
set_option maxHeartbeats 800000 in
theorem caught_err (lp eb : Nat) (c : Int) (hc : (c == 11) = false) (w : World) (x : Value) (h2 : w.cell? ⟨eb, 0, none⟩ = some x) (h3 : w.frozen? ⟨eb, 0, none⟩ = false)  :
    CallsD Try.prog 37 #[.pointer (some ⟨lp, 0, none⟩), .pointer (some ⟨eb, 0, none⟩)] (.panicking (stopP c)) w fun e u' w' => e = .returned (.tuple #[]) ∧ u' = .panicking [{ v := .iface 79 (.agg #[.int .i64 c]), recovered := true }] ∧ w' = (w.setCell ⟨eb, 0, none⟩ (.int .i64 c)).alloc (.cells #[.int .i64 c] 79) := by
  have hta : ∀ (v : Value) (w : World), (Instr.typeAssert (.iface 79 v) 20 79 true).run Try.prog w = .ok (.tuple #[v, .bool true]) w := fun v w => by kernel_rfl
  have hb := World.block_lt_of_cell? _ _ h2
  have a3 : ∀ o, (w.alloc o).cell? ⟨eb, 0, none⟩ = some x := fun o => (((Below.refl _ w).alloc (Nat.le_refl _) o).cell hb).trans h2
  have a4 : ∀ o, (w.alloc o).frozen? ⟨eb, 0, none⟩ = false := fun o => (((Below.refl _ w).alloc (Nat.le_refl _) o).frozen hb).trans h3
  have hs2 : ¬ w.heap.size = eb := by simp only at hb; omega
  clear h2 h3
  refine callsD_of_wpS Try.func37 rfl fun c₀ cs hu => ?_
  unfold stopP at hu
  apply wpS_seq
  apply wpS_region
  generalize hQ : Exit.thenS _ _ = Q
  simp [wpOpsS, go_sem, recoverD, hu, Try.ntmps37]
  subst hQ
  simp only [Exit.thenS]
  refine wpS_of_wp ?_
  rw [caught_tmps]
  generalize hQ : (fun (e : Exit) (a' : Act) (w' : World) => bodyPostS _ _ _ _ _ e a' _ w') = Q
  go_wp2_with fail
  subst hQ
  cases c₀
  simp_all [bodyPostS, results, Try.results37]
end Go.Proofs.Ythfncgbkigmmcaa
