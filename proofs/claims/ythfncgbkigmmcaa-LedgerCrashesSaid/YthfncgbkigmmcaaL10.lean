/- Rows of writes and flushes, till the power fails. -/
import Derived.Test.YthfncgbkigmmcaaL9
namespace Go.Proofs.Ythfncgbkigmmcaa
open Go.RowKit

inductive LOp where
  | w (k : Nat) (x : Bs)
  | f
def LOp.run (d : DS) : LOp → DS
  | .w k x => d.write k x
  | .f => d.flush
/-- till the power fails; has all been done? -/
def runL : List LOp → DS → DS × Bool
  | [], d => (d, true)
  | o :: r, d => if d.off = true then (d, false) else runL r (o.run d)
theorem runL_off {o : LOp} {r : List LOp} {d : DS} (h : d.off = true) : runL (o :: r) d = (d, false) := by rw [runL, if_pos h]
theorem runL_on {o : LOp} {r : List LOp} {d : DS} (h : d.off = false) : runL (o :: r) d = runL r (o.run d) := by rw [runL, if_neg (by simp [h])]

theorem step_n (d : DS) : d.step.n = d.n := by unfold DS.step; split <;> rfl
theorem step_now (d : DS) : d.step.now = d.now := by unfold DS.step; split <;> rfl
theorem step_fast (d : DS) : d.step.fast = d.fast := by unfold DS.step; split <;> rfl
theorem step_back (d : DS) : d.step.back = d.back := by unfold DS.step; split <;> rfl
theorem step_left (d : DS) (h : d.left ≤ 9223372036854775807) : d.step.left ≤ 9223372036854775807 := by
  unfold DS.step
  split
  · show d.left - 1 ≤ _
    omega
  · exact h
theorem write_n (d : DS) (k : Nat) (x : Bs) : (d.write k x).n = d.n := by rw [DS.write, step_n]
theorem write_now (d : DS) (k : Nat) (x : Bs) : (d.write k x).now = putAt d.now k x := by rw [DS.write, step_now]
theorem write_fast (d : DS) (k : Nat) (x : Bs) : (d.write k x).fast = d.fast := by rw [DS.write, step_fast]
theorem write_back (d : DS) (k : Nat) (x : Bs) : (d.write k x).back = d.back ++ [(k, x)] := by rw [DS.write, step_back]
theorem flush_n (d : DS) : d.flush.n = d.n := by rw [DS.flush, step_n]
theorem flush_now (d : DS) : d.flush.now = d.now := by rw [DS.flush, step_now]
theorem flush_fast (d : DS) : d.flush.fast = layAll d.fast d.back := by rw [DS.flush, step_fast]
theorem flush_back (d : DS) : d.flush.back = [] := by rw [DS.flush, step_back]
/-- there is room for so many writes more -/
def Room (m : Nat) (d : DS) : Prop := d.left ≤ 9223372036854775807 ∧ d.back.length + m ≤ 65535
theorem Room.write {m : Nat} {d : DS} (h : Room (m + 1) d) (k : Nat) (x : Bs) : Room m (d.write k x) := by
  refine ⟨?_, by rw [write_back, List.length_append, List.length_singleton]; have := h.2; omega⟩
  unfold DS.write
  exact step_left _ h.1
theorem Room.flush {m : Nat} {d : DS} (h : Room m d) : Room m d.flush := by
  refine ⟨?_, by rw [flush_back, List.length_nil]; have := h.2; omega⟩
  unfold DS.flush
  exact step_left _ h.1
theorem Room.less {m m' : Nat} {d : DS} (h : Room m d) (hm : m' ≤ m) : Room m' d := ⟨h.1, by have := h.2; omega⟩
theorem splice_at (l : Bs) (o : Nat) (b : Bs) (h : o + b.length ≤ l.length) (j : Nat) : (splice l o b)[j]? = if o ≤ j ∧ j < o + b.length then b[j - o]? else l[j]? := by
  have hto : (l.take o).length = o := by rw [List.length_take]; omega
  unfold splice
  by_cases h1 : j < o
  · rw [if_neg (by omega), List.getElem?_append_left (by omega), List.getElem?_take, if_pos h1]
  · by_cases h2 : j < o + b.length
    · rw [if_pos ⟨by omega, h2⟩, List.getElem?_append_right (by omega), hto, List.getElem?_append_left (by omega)]
    · rw [if_neg (by omega), List.getElem?_append_right (by omega), hto, List.getElem?_append_right (by omega), List.getElem?_drop]
      congr 1
      omega
theorem blockAt_get (l : Bs) (k i : Nat) : (blockAt l k)[i]? = if i < 512 then l[512 * k + i]? else none := by
  unfold blockAt
  rw [List.getElem?_take]
  split
  · rw [List.getElem?_drop]
  · rfl
/-- another block -/
theorem blockAt_other {l b : Bs} {k j n : Nat} (hl : l.length = 512 * n) (hk : k < n) (hb : b.length = 512) (hj : j ≠ k) : blockAt (putAt l k b) j = blockAt l j := by
  apply List.ext_getElem?
  intro i
  rw [blockAt_get, blockAt_get]
  split
  · unfold putAt
    rw [splice_at _ _ _ (by omega), if_neg (by omega)]
  · rfl

/-- the writes of 'settle' -/
def settleW (l : Bs) : Nat → List Nat → List LOp
  | _, [] => []
  | i, a :: r => .w (96 + a) (blockAt l (1 + i)) :: settleW l (i + 1) r
/-- made fast; the first block; made fast -/
def mark3 (ps : List Nat) : List LOp := [.f, .w 0 (headB ps), .f]
def settleOps (l : Bs) (ps : List Nat) : List LOp := settleW l 0 ps ++ mark3 []
end Go.Proofs.Ythfncgbkigmmcaa
