/- What a disk is in memory; Blocks, there, part, step, Fuse, On. -/
import Derived.Test.YthfncgbkigmmcaaRows
import Derived.Test.YthfncgbkigmmcaaWide
import Derived.Test.YthfncgbkigmmcaaText
import Derived.Handy
import Derived.StillTailTactics
namespace Go.Proofs.Ythfncgbkigmmcaa
open Go.RowKit

abbrev Bs := List UInt8

/-- A disk, plain: so many blocks; as it is, as it is fast; the writes that are held back; no power; the steps to the fuse. -/
structure DS where
  n : Nat
  now : Bs
  fast : Bs
  back : List (Nat × Bs)
  off : Bool
  left : Int

/-- what a row of held writes has in its cells. -/
def heldC : Nat → List (Nat × Bs) → List Value → List Value
  | i, (a, _) :: l, v :: vs => .int .i64 (a : Int) :: v :: .int .i64 (i : Int) :: heldC (i + 1) l vs
  | _, _, _ => []
theorem heldC_length : ∀ (i : Nat) (l : List (Nat × Bs)) (vs : List Value), vs.length = l.length → (heldC i l vs).length = 3 * l.length
  | _, [], [], _ => rfl
  | i, (a, b) :: l, v :: vs, h => by
    have := heldC_length (i + 1) l vs (by simpa using h)
    simp only [heldC, List.length_cons, this]
    omega
  | _, [], _ :: _, h => by simp at h
  | _, _ :: _, [], h => by simp at h
theorem heldC_append : ∀ (i : Nat) (l : List (Nat × Bs)) (vs : List Value) (x : Nat × Bs) (v : Value), vs.length = l.length → heldC i (l ++ [x]) (vs ++ [v]) = heldC i l vs ++ [.int .i64 (x.1 : Int), v, .int .i64 ((i + l.length : Nat) : Int)]
  | i, [], [], x, v, _ => by simp [heldC]
  | i, (a, b) :: l, u :: vs, x, v, h => by
    have := heldC_append (i + 1) l vs x v (by simpa using h)
    simp only [List.cons_append, heldC, this, List.length_cons]
    rw [show i + 1 + l.length = i + (l.length + 1) by omega]
  | _, [], _ :: _, _, _, h => by simp at h
  | _, _ :: _, [], _, _, h => by simp at h
theorem heldC_get : ∀ (i : Nat) (l : List (Nat × Bs)) (vs : List Value) (k : Nat) (hk : k < l.length) (hv : k < vs.length),
    (heldC i l vs)[3 * k]? = some (.int .i64 (l[k].1 : Int)) ∧ (heldC i l vs)[3 * k + 1]? = some vs[k] ∧ (heldC i l vs)[3 * k + 2]? = some (.int .i64 ((i + k : Nat) : Int))
  | i, (a, b) :: l, u :: vs, 0, _, _ => by simp [heldC]
  | i, (a, b) :: l, u :: vs, k + 1, hk, hv => by
    have := heldC_get (i + 1) l vs k (by simpa using hk) (by simpa using hv)
    rw [show i + 1 + k = i + (k + 1) by omega] at this
    simp only [heldC, show 3 * (k + 1) = 3 * k + 1 + 1 + 1 by omega, List.getElem?_cons_succ, List.getElem_cons_succ]
    exact this
  | _, [], _, _, h, _ => by simp at h
  | _, _ :: _, [], _, _, h => by simp at h

/-- The block p is the disk d; what it turns lies in blocks of O, the bytes of what is held back in blocks of R (which it never turns). -/
structure DiskAt (w : World) (O R : Nat → Prop) (p : Nat) (d : DS) (gn gf : Nat) (vb : Value) (vs : List Value) : Prop where
  cell : w.heap[p]? = some (.cells #[.slice (some ⟨gn, 0, none⟩) (512 * d.n) (512 * d.n), .slice (some ⟨gf, 0, none⟩) (512 * d.n) (512 * d.n), vb, .bool d.off, .int .i64 d.left] 83 (0, 0))
  now : w.heap[gn]? = some (.cells (u8s d.now).toArray 5 (0, 0))
  fast : w.heap[gf]? = some (.cells (u8s d.fast).toArray 5 (0, 0))
  nlen : d.now.length = 512 * d.n
  flen : d.fast.length = 512 * d.n
  n1 : 1 ≤ d.n
  n2 : d.n ≤ 4096
  row : w.ownsRow 0 90 3 vb d.back.length (heldC 0 d.back vs)
  held : ∀ i (h : i < d.back.length), ∃ v, vs[i]? = some v ∧ Bytes w v d.back[i].2 ∧ InB v (fun k => R k ∧ k < w.heap.size ∧ k ≠ p ∧ k ≠ gn ∧ k ≠ gf ∧ vb.ownBlock ≠ some k)
  vlen : vs.length = d.back.length
  each : ∀ x ∈ d.back, x.1 < d.n ∧ x.2.length = 512
  small : d.back.length ≤ 65536
  ownP : O p
  ownN : O gn
  ownF : O gf
  ownB : InB vb O
  nf : gn ≠ gf

def IsDisk (w : World) (O R : Nat → Prop) (p : Nat) (d : DS) : Prop := ∃ gn gf vb vs, DiskAt w O R p d gn gf vb vs

variable {w w' : World} {O R : Nat → Prop} {p : Nat} {d : DS} {gn gf : Nat} {vb : Value} {vs : List Value}
theorem row_block {w : World} {base : Nat} {e : TypeId} {size : Nat} {v : Value} {n : Nat} {xs : List Value} (h : w.ownsRow base e size v n xs) {k : Nat} (hk : v.ownBlock = some k) : k < w.heap.size ∧ ∃ cs, w.heap[k]? = some (.cells cs e (0, 0)) := by
  rcases h.2 with ⟨rfl, _⟩ | ⟨g, cap, cur, rfl, _, hg, _⟩
  · cases hk
  · simp only [Value.ownBlock, Option.some.injEq] at hk
    subst hk
    exact ⟨(Array.getElem?_eq_some_iff.1 hg).1, _, hg⟩
namespace DiskAt
theorem lt (h : DiskAt w O R p d gn gf vb vs) : p < w.heap.size := (Array.getElem?_eq_some_iff.1 h.cell).1
theorem ltN (h : DiskAt w O R p d gn gf vb vs) : gn < w.heap.size := (Array.getElem?_eq_some_iff.1 h.now).1
theorem ltF (h : DiskAt w O R p d gn gf vb vs) : gf < w.heap.size := (Array.getElem?_eq_some_iff.1 h.fast).1
theorem pn (h : DiskAt w O R p d gn gf vb vs) : p ≠ gn := fun e => by have h1 := h.cell; rw [e, h.now] at h1; simp at h1
theorem pf (h : DiskAt w O R p d gn gf vb vs) : p ≠ gf := fun e => by have h1 := h.cell; rw [e, h.fast] at h1; simp at h1
theorem bp (h : DiskAt w O R p d gn gf vb vs) : vb.ownBlock ≠ some p := fun e => by obtain ⟨_, cs, h1⟩ := row_block h.row e; rw [h.cell] at h1; simp at h1
theorem bn (h : DiskAt w O R p d gn gf vb vs) : vb.ownBlock ≠ some gn := fun e => by obtain ⟨_, cs, h1⟩ := row_block h.row e; rw [h.now] at h1; simp at h1
theorem bf (h : DiskAt w O R p d gn gf vb vs) : vb.ownBlock ≠ some gf := fun e => by obtain ⟨_, cs, h1⟩ := row_block h.row e; rw [h.fast] at h1; simp at h1
theorem c0 (h : DiskAt w O R p d gn gf vb vs) : w.cell? ⟨p, 0, none⟩ = some (.slice (some ⟨gn, 0, none⟩) (512 * d.n) (512 * d.n)) := by rw [cell_of_row w p 0 _ _ _ h.cell]; rfl
theorem c1 (h : DiskAt w O R p d gn gf vb vs) : w.cell? ⟨p, 1, none⟩ = some (.slice (some ⟨gf, 0, none⟩) (512 * d.n) (512 * d.n)) := by rw [cell_of_row w p 1 _ _ _ h.cell]; rfl
theorem c2 (h : DiskAt w O R p d gn gf vb vs) : w.cell? ⟨p, 2, none⟩ = some vb := by rw [cell_of_row w p 2 _ _ _ h.cell]; rfl
theorem c3 (h : DiskAt w O R p d gn gf vb vs) : w.cell? ⟨p, 3, none⟩ = some (.bool d.off) := by rw [cell_of_row w p 3 _ _ _ h.cell]; rfl
theorem c4 (h : DiskAt w O R p d gn gf vb vs) : w.cell? ⟨p, 4, none⟩ = some (.int .i64 d.left) := by rw [cell_of_row w p 4 _ _ _ h.cell]; rfl
theorem fr (h : DiskAt w O R p d gn gf vb vs) (i : Nat) : w.frozen? ⟨p, i, none⟩ = false := frozen_of_row w p i _ _ h.cell

/-- What lies beyond a disk's blocks does not matter to it. -/
theorem keep (h : DiskAt w O R p d gn gf vb vs) {S : Nat → Prop} (k : Keeps S w w') (hS : ∀ i, O i → ¬ S i) (hR : ∀ i, R i → ¬ S i) : DiskAt w' O R p d gn gf vb vs :=
  { h with
    cell := (k.block p h.lt (hS p h.ownP)).trans h.cell
    now := (k.block gn h.ltN (hS gn h.ownN)).trans h.now
    fast := (k.block gf h.ltF (hS gf h.ownF)).trans h.fast
    row := owns_kept h.row (fun b hb hl => k.block b hl (hS b (h.ownB b hb)))
    held := fun i hi => by
      obtain ⟨v, h1, h2, h3⟩ := h.held i hi
      exact ⟨v, h1, RowAt.keeps h2 k (fun j e => hR j (h3 j e).1), h3.mono fun j ⟨a, b, c⟩ => ⟨a, Nat.lt_of_lt_of_le b k.size, c⟩⟩ }
theorem mono (h : DiskAt w O R p d gn gf vb vs) {O' R' : Nat → Prop} (ho : ∀ k, O k → O' k) (hr : ∀ k, R k → R' k) : DiskAt w O' R' p d gn gf vb vs :=
  { h with
    held := fun i hi => by
      obtain ⟨v, h1, h2, h3⟩ := h.held i hi
      exact ⟨v, h1, h2, h3.mono fun j ⟨a, b⟩ => ⟨hr j a, b⟩⟩
    ownP := ho _ h.ownP
    ownN := ho _ h.ownN
    ownF := ho _ h.ownF
    ownB := h.ownB.mono ho }
/-- The disk's own cells are turned: power, fuse. -/
theorem turn (h : DiskAt w O R p d gn gf vb vs) (k : Keeps (fun b => b = p) w w') (off : Bool) (left : Int)
    (hc : w'.heap[p]? = some (.cells #[.slice (some ⟨gn, 0, none⟩) (512 * d.n) (512 * d.n), .slice (some ⟨gf, 0, none⟩) (512 * d.n) (512 * d.n), vb, .bool off, .int .i64 left] 83 (0, 0))) :
    DiskAt w' O R p { d with off := off, left := left } gn gf vb vs :=
  { h with
    cell := hc
    now := (k.block gn h.ltN (fun e => h.pn e.symm)).trans h.now
    fast := (k.block gf h.ltF (fun e => h.pf e.symm)).trans h.fast
    row := owns_kept h.row (fun b hb hl => k.block b hl (fun e => h.bp (by rw [hb, e])))
    held := fun i hi => by
      obtain ⟨v, h1, h2, h3⟩ := h.held i hi
      exact ⟨v, h1, RowAt.keeps h2 k (fun j e => (h3 j e).2.2.1), h3.mono fun j ⟨a, b, c⟩ => ⟨a, Nat.lt_of_lt_of_le b k.size, c⟩⟩ }
end DiskAt
theorem IsDisk.keep (h : IsDisk w O R p d) {S : Nat → Prop} (k : Keeps S w w') (hS : ∀ i, O i → ¬ S i) (hR : ∀ i, R i → ¬ S i) : IsDisk w' O R p d := let ⟨a, b, c, e, h⟩ := h; ⟨a, b, c, e, h.keep k hS hR⟩
theorem IsDisk.mono (h : IsDisk w O R p d) {O' R' : Nat → Prop} (ho : ∀ k, O k → O' k) (hr : ∀ k, R k → R' k) : IsDisk w O' R' p d := let ⟨a, b, c, e, h⟩ := h; ⟨a, b, c, e, h.mono ho hr⟩
theorem IsDisk.below (h : IsDisk w O R p d) (hb : Below w.heap.size w w') : IsDisk w' O R p d := h.keep (Keeps.of_below (S := fun _ => False) hb) (fun _ _ => id) (fun _ _ => id)

set_option maxHeartbeats 400000 in
theorem blocks_any (h : DiskAt w O R p d gn gf vb vs) : Calls Try.prog 48 #[.pointer (some ⟨p, 0, none⟩)] w fun e w' => e = .returned (.int .i64 d.n) ∧ w = w' := by
  have h0 := h.c0
  have hn : ((512 * d.n : Nat) : Int) / 512 = (d.n : Int) := by omega
  have h2 := h.n2
  clear h
  generalize d.n = n at *
  have HN := Lib.hid hn
  clear hn
  go_enter Try.func48, Try.ntmps48
  go_wp2_with fail
  go_ret
  exact ⟨by rw [← HN.out]; first | rfl | (congr 3; omega), rfl⟩

/-- there's answer. -/
def DS.there (d : DS) (at_ : Int) : Int := if d.off = true then 11 else if at_ < 0 ∨ (d.n : Int) ≤ at_ then 10 else 0
set_option maxHeartbeats 400000 in
theorem there_any (h : DiskAt w O R p d gn gf vb vs) (at_ : Int) : Calls Try.prog 75 #[.pointer (some ⟨p, 0, none⟩), .int .i64 at_] w fun e w' => e = .returned (.int .i64 (d.there at_)) ∧ w = w' := by
  have HB := Lib.hid (blocks_any h)
  have h3 := h.c3
  have h2 := h.n2
  unfold DS.there
  clear h
  obtain ⟨n, now, fast, back, off, left⟩ := d
  simp only at *
  cases off with
  | true =>
    go_enter Try.func75, Try.ntmps75
    go_wp2_with fail
    go_ret
    exact ⟨rfl, rfl⟩
  | false =>
    by_cases ha : at_ < 0
    · rw [if_neg (by decide), if_pos (.inl ha)]
      go_enter Try.func75, Try.ntmps75
      go_wp2_with fail
      go_ret
      exact ⟨rfl, rfl⟩
    · have ha' : 0 ≤ at_ := by omega
      by_cases hb : (n : Int) ≤ at_
      · rw [if_neg (by decide), if_pos (.inr hb)]
        go_enter Try.func75, Try.ntmps75
        go_wp2_with fail
        refine HB.out.mono ?_
        rintro e w1 ⟨rfl, rfl⟩
        go_wp2_with fail
        go_ret
        exact ⟨rfl, rfl⟩
      · rw [if_neg (by decide), if_neg (by omega)]
        have hb' : at_ < (n : Int) := by omega
        go_enter Try.func75, Try.ntmps75
        go_wp2_with fail
        refine HB.out.mono ?_
        rintro e w1 ⟨rfl, rfl⟩
        go_wp2_with fail
        go_ret
        exact ⟨rfl, rfl⟩

set_option maxHeartbeats 400000 in
/-- A block's bytes in a picture of n blocks. -/
theorem part_any (g n k : Nat) (w : World) (hk : k < n) (hn : n ≤ 4096) : Calls Try.prog 45 #[.slice (some ⟨g, 0, none⟩) (512 * n) (512 * n), .int .i64 k] w fun e w' => e = .returned (.slice (some ⟨g, 512 * k, none⟩) 512 512) ∧ w = w' := by
  have k0 : (0 : Int) ≤ (k : Int) := by omega
  have k1 : (k : Int) ≤ 4095 := by omega
  have k2 : ((k : Int) + 1) * 512 ≤ 512 * (n : Int) := by omega
  have k3 : (k : Int) * 512 ≤ ((k : Int) + 1) * 512 := by omega
  have k4 : ((k : Int) * 512).toNat = 512 * k := by omega
  have k5 : (((k : Int) + 1) * 512).toNat = 512 * k + 512 := by omega
  go_enter Try.func45, Try.ntmps45
  go_wp2_with fail
  go_ret
  exact ⟨rfl, rfl⟩
end Go.Proofs.Ythfncgbkigmmcaa
