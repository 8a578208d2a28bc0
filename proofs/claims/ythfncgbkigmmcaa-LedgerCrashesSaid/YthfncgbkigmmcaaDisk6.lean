/- writes: the iterator over what is held back, and its contract. -/
import Derived.Test.YthfncgbkigmmcaaDisk5
import Derived.RangeFuncNested
import Derived.RangeFuncBound
import Derived.RangeFuncBox
import Derived.RangeFuncCalls
import Derived.RangeFuncLeaves
import Derived.Shelf.Abstract
import Derived.Shelf.RegionOpen
import Derived.OwnWalkIn
import Derived.TacticsInMore
import Derived.LoopNIn
import Derived.LoopIn
namespace Go.Proofs.Ythfncgbkigmmcaa
open Go.RowKit Go.Shelf

attribute [local go_sem] Oper.semAt_some

/-- so many places; a place of N. -/
abbrev Ix (N : Nat) := { k : Nat // k < N }
def uptoI (N : Nat) : (k : Nat) → k ≤ N → List (Ix N)
  | 0, _ => []
  | k + 1, h => uptoI N k (Nat.le_of_succ_le h) ++ [⟨k, h⟩]
theorem uptoI_length (N : Nat) : ∀ (k : Nat) (h : k ≤ N), (uptoI N k h).length = k
  | 0, _ => rfl
  | k + 1, h => by simp [uptoI, uptoI_length N k]
/-- What the held writes' cells are. -/
structure Hs where
  a : Nat → Int
  g : Nat → Nat
  o : Nat → Nat
  c : Nat → Nat
/-- a held write's cells, as one value. -/
def heldV (h : Hs) (k : Nat) : Value := .agg #[.int .i64 (h.a k), .slice (some ⟨h.g k, h.o k, none⟩) 512 (h.c k), .int .i64 (k : Int)]
/-- What a round keeps: the row. -/
def KeptRow (b : Nat) (W W' : World) : Prop := W.heap.size ≤ W'.heap.size ∧ W'.heap[b]? = W.heap[b]?

set_option maxHeartbeats 1000000 in
theorem writes_in (p : Nat) (w : World) (n : Nat) : CallsIn Fence.wide n Try.prog 44 #[.pointer (some ⟨p, 0, none⟩)] w fun e w' => e = .returned (.func (.func 54) #[] #[.pointer (some ⟨w.heap.size, 0, none⟩)]) ∧ w' = w.alloc (.cells #[.pointer (some ⟨p, 0, none⟩)] 27) := by
  refine callsIn_wide.2 ?_
  go_enter Try.func44, Try.ntmps44
  go_wp2
  go_ret
  exact ⟨rfl, rfl⟩

set_option maxHeartbeats 2000000 in
theorem iter_in (n : Nat) (hn : 1 ≤ n) (l B p b N cap : Nat) (h : Hs) (hN : N ≤ 65536) (J Jx : List (Ix N) → World → Prop) (B0 : Nat) (hJ : ∀ pre W W', J pre W → W.grownBy W' none → B0 ≤ W.heap.size → J pre W')
    (hY : ∀ pre (x : Ix N) W, J pre W → pre.length < N → YieldAt Fence.wide (n - 1) Try.prog l #[heldV h x.1] W fun e W' =>
      (e = .returned (.bool true) ∧ J (pre ++ [x]) W' ∧ KeptRow b W W') ∨ (e = .returned (.bool false) ∧ Jx (pre ++ [x]) W'))
    (W : World) (hB : W.cell? ⟨B, 0, none⟩ = some (.pointer (some ⟨p, 0, none⟩))) (hp : W.cell? ⟨p, 2, none⟩ = some (.slice (some ⟨b, 0, none⟩) N cap)) (hb : b < W.heap.size) (hB0 : B0 ≤ W.heap.size)
    (hc : ∀ k, k < N → W.cell? ⟨b, k * 3, none⟩ = some (.int .i64 (h.a k)) ∧ W.cell? ⟨b, k * 3 + 1, none⟩ = some (.slice (some ⟨h.g k, h.o k, none⟩) 512 (h.c k)) ∧ W.cell? ⟨b, k * 3 + 2, none⟩ = some (.int .i64 (k : Int))) (h0 : J [] W) :
    CallsIn Fence.wide n Try.prog 54 #[.func (.yield l) #[] #[], .pointer (some ⟨B, 0, none⟩)] W fun e W' => (∃ v, e = .returned v) ∧
      ((∃ ys, ys = uptoI N N (Nat.le_refl _) ∧ J ys W') ∨ (∃ pre, True ∧ Jx pre W')) := by
  refine callsIn_of_wp Try.func54 rfl trivial ?_ rfl
  simp only [Try.ntmps54, List.size_toArray, List.length_cons, List.length_nil, Nat.reduceAdd, Nat.reduceSub, Array.replicate_succ, Array.replicate_zero, List.push_toArray, List.append_toArray, List.nil_append, List.cons_append]
  gi_wp2
  gi_loopw [10] (fun i wr => ∃ (k : Nat) (hk : k ≤ N), i = .int .i64 k ∧ J (uptoI N k hk) wr ∧ KeptRow b W wr ∧ B0 ≤ wr.heap.size)
    (fun i _ => N - (intOf i).toNat)
  case atStart => exact ⟨0, Nat.zero_le _, rfl, h0, ⟨Nat.le_refl _, rfl⟩, hB0⟩
  case round =>
    obtain ⟨k, hk, rfl, hJs, hkr, hbz⟩ := hrel
    by_cases hlt : k < N
    · have hcc : ∀ i, wr.cell? ⟨b, i, none⟩ = W.cell? ⟨b, i, none⟩ := fun i => World.cell?_of_block (w := W) hkr.2
      obtain ⟨c0, c1, c2⟩ := hc k hlt
      rw [← hcc] at c0 c1 c2
      clear hcc hc
      have hgb := World.grownBy_alloc wr (.cells #[.int .i64 (h.a k), .slice (some ⟨h.g k, h.o k, none⟩) 512 (h.c k), .int .i64 (k : Int)] 90) none
      obtain ⟨fn, tmps, assign, body, hy, hR⟩ := hY _ ⟨k, hlt⟩ _ (hJ _ _ _ hJs hgb hbz) (by rw [uptoI_length]; exact hlt)
      dsimp only [heldV] at hy hR
      have hkr2 : (wr.alloc (.cells #[.int .i64 (h.a k), .slice (some ⟨h.g k, h.o k, none⟩) 512 (h.c k), .int .i64 (k : Int)] 90)).heap[b]? = W.heap[b]? := (hgb.block b (Nat.lt_of_lt_of_le hb hkr.1) (by simp)).trans hkr.2
      have hsz := hgb.size
      gi_wp2
      refine hR.mono ?_
      rintro e W3 (⟨rfl, hJ3, hk3⟩ | ⟨rfl, hJx3⟩)
      · have hb3 : B0 ≤ W3.heap.size := by have := hk3.1; omega
        have hk03 : KeptRow b W W3 := ⟨by have := hk3.1; have := hkr.1; omega, hk3.2.trans hkr2⟩
        clear hk3 hR hkr2
        gi_wp2
        go_roundw
        case rel => exact ⟨k + 1, hlt, by simp, hJ3, hk03, hb3⟩
        case measure => simp [intOf]; omega
      · gi_wp2
        refine bodyPost_ret (results_none rfl _ _ _) rfl ?_
        exact ⟨⟨_, rfl⟩, .inr ⟨_, trivial, hJx3⟩⟩
    · obtain rfl : k = N := by omega
      gi_wp2
      go_end0
      exact ⟨⟨_, rfl⟩, .inl ⟨_, rfl, hJs⟩⟩

set_option maxHeartbeats 1000000 in
/-- nothing is held back: no round. -/
theorem iter_none (n : Nat) (l B p : Nat) (a : Option Addr) (cap : Nat) (R : World → Prop) (W : World) (hB : W.cell? ⟨B, 0, none⟩ = some (.pointer (some ⟨p, 0, none⟩))) (hp : W.cell? ⟨p, 2, none⟩ = some (.slice a 0 cap)) (h0 : R W) :
    CallsIn Fence.wide n Try.prog 54 #[.func (.yield l) #[] #[], .pointer (some ⟨B, 0, none⟩)] W fun e W' => (∃ v, e = .returned v) ∧ R W' := by
  refine callsIn_of_wp Try.func54 rfl trivial ?_ rfl
  simp only [Try.ntmps54, List.size_toArray, List.length_cons, List.length_nil, Nat.reduceAdd, Nat.reduceSub, Array.replicate_succ, Array.replicate_zero, List.push_toArray, List.append_toArray, List.nil_append, List.cons_append]
  gi_wp2
  gi_loopw [10] (fun i wr => i = .int .i64 0 ∧ R wr) (fun _ _ => 0)
  case atStart => exact ⟨rfl, h0⟩
  case round =>
    obtain ⟨rfl, hJs⟩ := hrel
    gi_wp2
    go_end0
    exact ⟨⟨_, rfl⟩, hJs⟩
end Go.Proofs.Ythfncgbkigmmcaa
