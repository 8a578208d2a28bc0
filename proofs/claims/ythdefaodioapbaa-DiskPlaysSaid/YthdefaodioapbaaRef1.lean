/- The document's disk: what it is in memory; New, step, Fuse. -/
import Derived.Test.YthdefaodioapbaaRef0
import Derived.Test.YthdefaodioapbaaCells
namespace Go.Proofs.Ythdefaodioapbaa
open Go.RowKit
attribute [local irreducible] zA

variable {w w' : World} {O : Nat → Prop} {p : Nat} {d : DS} {fv hv : Value}

/-- what a row of held writes has in its cells. -/
def heldR : List (Nat × Bs) → List Value
  | [] => []
  | (a, b) :: l => .int .i64 (a : Int) :: (u8s b ++ heldR l)
theorem heldR_length : ∀ (l : List (Nat × Bs)), (∀ x ∈ l, x.2.length = 512) → (heldR l).length = 513 * l.length
  | [], _ => rfl
  | (a, b) :: l, h => by
    have h1 := heldR_length l (fun x hx => h x (by simp [hx]))
    have h2 := h (a, b) (by simp)
    simp only [heldR, List.length_cons, List.length_append, u8s_length, h1]
    simp only at h2
    omega
theorem heldR_append : ∀ (l m : List (Nat × Bs)), heldR (l ++ m) = heldR l ++ heldR m
  | [], _ => rfl
  | (a, b) :: l, m => by simp [heldR, heldR_append l m]
theorem heldR_get : ∀ (l : List (Nat × Bs)), (∀ x ∈ l, x.2.length = 512) → ∀ (k : Nat) (hk : k < l.length), (heldR l)[513 * k]? = some (.int .i64 (l[k].1 : Int)) ∧ ∀ j, j < 512 → (heldR l)[513 * k + 1 + j]? = (u8s l[k].2)[j]?
  | (a, b) :: l, h, 0, _ => by
    have h2 := h (a, b) (by simp)
    refine ⟨rfl, fun j hj => ?_⟩
    simp only [heldR, Nat.mul_zero, Nat.zero_add, List.getElem_cons_zero]
    rw [show 1 + j = j + 1 by omega, List.getElem?_cons_succ, List.getElem?_append_left (by rw [u8s_length]; simp only at h2; omega)]
  | (a, b) :: l, h, k + 1, hk => by
    have h2 := h (a, b) (by simp)
    obtain ⟨h3, h4⟩ := heldR_get l (fun x hx => h x (by simp [hx])) k (by simpa using hk)
    have hl : (u8s b).length = 512 := by rw [u8s_length]; exact h2
    simp only [heldR, List.getElem_cons_succ]
    refine ⟨?_, fun j hj => ?_⟩
    · rw [show 513 * (k + 1) = (512 + 513 * k) + 1 by omega, List.getElem?_cons_succ, List.getElem?_append_right (by omega), hl, show 512 + 513 * k - 512 = 513 * k by omega]
      exact h3
    · rw [show 513 * (k + 1) + 1 + j = (512 + (513 * k + 1 + j)) + 1 by omega, List.getElem?_cons_succ, List.getElem?_append_right (by omega), hl, show 512 + (513 * k + 1 + j) - 512 = 513 * k + 1 + j by omega]
      exact h4 j hj
theorem heldR_one : ∀ (l : List (Nat × Bs)), ∀ u ∈ heldR l, u.oneCell' = true
  | [], u, h => by cases h
  | (a, b) :: l, u, h => by
    simp only [heldR, List.mem_cons, List.mem_append] at h
    rcases h with rfl | h | h
    · rfl
    · exact u8s_one b u h
    · exact heldR_one l u h

/-- The block p is the document's disk; what it turns lies in blocks of O. ('now' is no part of it.) -/
structure RefAt (w : World) (O : Nat → Prop) (p : Nat) (d : DS) (fv hv : Value) : Prop where
  cell : w.heap[p]? = some (.cells #[fv, hv, .int .i64 d.left, .bool d.off] 83 (0, 0))
  fast : w.ownsRow 0 75 512 fv d.n (u8s d.fast)
  held : w.ownsRow 0 85 513 hv d.back.length (heldR d.back)
  flen : d.fast.length = 512 * d.n
  n1 : 1 ≤ d.n
  n2 : d.n ≤ 4096
  each : ∀ x ∈ d.back, x.1 < d.n ∧ x.2.length = 512
  small : d.back.length ≤ 65536
  ownP : O p
  ownF : InB fv O
  ownB : InB hv O
namespace RefAt
theorem lt (h : RefAt w O p d fv hv) : p < w.heap.size := (Array.getElem?_eq_some_iff.1 h.cell).1
theorem fp (h : RefAt w O p d fv hv) : fv.ownBlock ≠ some p := fun e => by obtain ⟨_, cs, h1⟩ := row_block h.fast e; rw [h.cell] at h1; simp at h1
theorem bp (h : RefAt w O p d fv hv) : hv.ownBlock ≠ some p := fun e => by obtain ⟨_, cs, h1⟩ := row_block h.held e; rw [h.cell] at h1; simp at h1
theorem fb (h : RefAt w O p d fv hv) (k : Nat) (e : fv.ownBlock = some k) : hv.ownBlock ≠ some k := fun e' => by obtain ⟨_, cs, h1⟩ := row_block h.held e'; obtain ⟨_, cs', h2⟩ := row_block h.fast e; rw [h1] at h2; simp at h2
theorem c0 (h : RefAt w O p d fv hv) : w.cell? ⟨p, 0, none⟩ = some fv := by rw [cell_of_row w p 0 _ _ _ h.cell]; rfl
theorem c1 (h : RefAt w O p d fv hv) : w.cell? ⟨p, 1, none⟩ = some hv := by rw [cell_of_row w p 1 _ _ _ h.cell]; rfl
theorem c2 (h : RefAt w O p d fv hv) : w.cell? ⟨p, 2, none⟩ = some (.int .i64 d.left) := by rw [cell_of_row w p 2 _ _ _ h.cell]; rfl
theorem c3 (h : RefAt w O p d fv hv) : w.cell? ⟨p, 3, none⟩ = some (.bool d.off) := by rw [cell_of_row w p 3 _ _ _ h.cell]; rfl
theorem fr (h : RefAt w O p d fv hv) (i : Nat) : w.frozen? ⟨p, i, none⟩ = false := frozen_of_row w p i _ _ h.cell
theorem keep (h : RefAt w O p d fv hv) {S : Nat → Prop} (k : Keeps S w w') (hS : ∀ i, O i → ¬ S i) : RefAt w' O p d fv hv :=
  { h with
    cell := (k.block p h.lt (hS p h.ownP)).trans h.cell
    fast := owns_kept h.fast (fun b hb hl => k.block b hl (hS b (h.ownF b hb)))
    held := owns_kept h.held (fun b hb hl => k.block b hl (hS b (h.ownB b hb))) }
theorem mono (h : RefAt w O p d fv hv) {O' : Nat → Prop} (ho : ∀ k, O k → O' k) : RefAt w O' p d fv hv :=
  { h with ownP := ho _ h.ownP, ownF := h.ownF.mono ho, ownB := h.ownB.mono ho }
/-- Its own cells are turned: power, fuse. -/
theorem turn (h : RefAt w O p d fv hv) (k : Keeps (fun b => b = p) w w') (off : Bool) (left : Int)
    (hc : w'.heap[p]? = some (.cells #[fv, hv, .int .i64 left, .bool off] 83 (0, 0))) : RefAt w' O p { d with off := off, left := left } fv hv :=
  { h with
    cell := hc
    fast := owns_kept h.fast (fun b hb hl => k.block b hl (fun e => h.fp (by rw [hb, e])))
    held := owns_kept h.held (fun b hb hl => k.block b hl (fun e => h.bp (by rw [hb, e]))) }
/-- Only what is fast, held back, off, left counts. -/
theorem now (h : RefAt w O p d fv hv) (x : Bs) : RefAt w O p { d with now := x } fv hv := { h with }
end RefAt
def IsRef (w : World) (O : Nat → Prop) (p : Nat) (d : DS) : Prop := ∃ fv hv, RefAt w O p d fv hv
theorem IsRef.keep (h : IsRef w O p d) {S : Nat → Prop} (k : Keeps S w w') (hS : ∀ i, O i → ¬ S i) : IsRef w' O p d := let ⟨a, b, h⟩ := h; ⟨a, b, h.keep k hS⟩
theorem IsRef.below (h : IsRef w O p d) (hb : Below w.heap.size w w') : IsRef w' O p d := h.keep (Keeps.of_below (S := fun _ => False) hb) (fun _ _ => id)

theorem ref_new {w0 w1 w2 : World} {n : Nat} (h1 : 1 ≤ n) (h2 : n ≤ 4096) (hown : w1.ownsRow w0.heap.size 75 512 (.slice (some ⟨w0.heap.size, 0, none⟩) n n) n (u8s (List.replicate (512 * n) 0))) (hg : w0.grownBy w1 none)
    (e : w2 = w1.alloc (.cells #[.slice (some ⟨w0.heap.size, 0, none⟩) n n, .slice none 0 0, .int .i64 (-1), .bool false] 83)) :
    RefAt w2 (NewIn w0 w2) w1.heap.size (DS.new n) (.slice (some ⟨w0.heap.size, 0, none⟩) n n) (.slice none 0 0) := by
  have z1 := hg.size
  have z2 : w2.heap.size = w1.heap.size + 1 := by rw [e]; simp
  have b2 : Below w1.heap.size w1 w2 := by rw [e]; exact (Below.refl _ _).alloc (Nat.le_refl _) _
  have hlt := (hown.lt w0.heap.size rfl).2
  refine ⟨?_, ?_, World.ownsRow_nil _ _ _ _, by simp [DS.new], h1, h2, fun x h => by simp [DS.new] at h, by simp [DS.new], ⟨by omega, by omega⟩, InB.at_ ⟨Nat.le_refl _, by omega⟩, InB.nil _⟩
  · rw [e]; exact heap_alloc_new w1 _
  · have h3 := owns_below hown b2
    refine ⟨h3.1, h3.2.imp id ?_⟩
    rintro ⟨g, cap, cur, h4, _, h5⟩
    exact ⟨g, cap, cur, h4, Nat.zero_le _, h5⟩
set_option maxHeartbeats 400000 in
theorem rNew_any (n : Nat) (w : World) (h1 : 1 ≤ n) (h2 : n ≤ 4096) : Calls Try.prog 35 #[.int .i64 n] w fun e w' => ∃ p, e = .returned (.tuple #[.pointer (some ⟨p, 0, none⟩), .int .i64 0]) ∧ IsRef w' (NewIn w w') p (DS.new n) ∧ Below w.heap.size w w' := by
  have n0 : (1 : Int) ≤ (n : Int) := by omega
  have n1 : (n : Int) ≤ 4096 := by omega
  obtain ⟨i0, hi, hz0, hz1, hz2⟩ := info_parts infoAz
  have HI := Lib.hid (And.intro hi (And.intro hz0 hz1))
  have M1 : Hid (i0.bytes * n ≤ 281474976710656) := by show i0.bytes * n ≤ _; rw [hz2]; omega
  have M2 : Hid (n ≤ maxLen) := by show n ≤ maxLen; unfold maxLen; omega
  clear hi hz0 hz1 hz2
  go_enter Try.func35, Try.ntmps35
  go_wp2_with (at_make; refine wpList_make_full _ rfl _ _ 80 rfl w.heap.size 75 i0 (.agg zA) 512 Try.underlying80 HI.out.1 HI.out.2.1 HI.out.2.2 .i64 .i64 _ _ n rfl rfl rfl rfl M1.out M2.out (Nat.le_refl _) ?_)
  intro w2 hown hgrow
  replace hown : w2.ownsRow w.heap.size 75 512 (.slice (some ⟨w.heap.size, 0, none⟩) n n) n (madeCells zA (n * 512)).toList := hown
  rw [made_zA, Nat.mul_comm] at hown
  have hbel : Below w.heap.size w w2 := (Below.refl _ _).grown hgrow (Nat.le_refl _) (by simp)
  have HN := Lib.hid (ref_new h1 h2 hown hgrow rfl)
  have HB := Lib.hid hbel
  clear hown hgrow hbel
  go_wp2_with fail
  go_ret2
  exact ⟨_, rfl, ⟨_, _, HN.out⟩, HB.out.alloc HB.out.size _⟩
set_option maxHeartbeats 400000 in
theorem rNew_bad (n : Int) (w : World) (h : n < 1 ∨ (1 ≤ n ∧ 4096 < n)) : Calls Try.prog 35 #[.int .i64 n] w fun e w' => e = .returned (.tuple #[.pointer none, .int .i64 1]) ∧ w = w' := by
  rcases h with h | ⟨h1, h⟩
  all_goals
    go_enter Try.func35, Try.ntmps35
    go_wp2
    go_ret2
    exact ⟨rfl, rfl⟩

/-- what the document's step makes; of a disk with power: that of the disk. -/
def DS.Inv (d : DS) : Prop := d.off = (d.left == 0) ∧ -1 ≤ d.left ∧ d.left ≤ 9223372036854775807
def Got (e : Ending) : Prop := ∃ v, e = .returned v
set_option maxHeartbeats 400000 in
theorem rstep_any (h : RefAt w O p d fv hv) (ho : d.off = false) (hi : d.Inv) : Calls Try.prog 42 #[.pointer (some ⟨p, 0, none⟩)] w fun e w' => Got e ∧ RefAt w' O p d.step fv hv ∧ Keeps (fun b => b = p) w w' := by
  have c2 := h.c2
  have c3 := h.c3
  have f2 := h.fr 2
  have f3 := h.fr 3
  have HD := Lib.hid h
  unfold DS.step
  by_cases h0 : 0 < d.left
  · rw [if_pos h0]
    have hl := hi.2.2
    clear h hi
    generalize hL : d.left = L at *
    have HL := Lib.hid hL
    clear hL
    go_enter Try.func42, Try.ntmps42
    go_wp2_with fail
    go_end0
    refine ⟨⟨_, rfl⟩, HD.out.turn (((Keeps.refl (fun b => b = p) w).setCell ⟨p, 2, none⟩ _ (.inl rfl)).setCell ⟨p, 3, none⟩ _ (.inl rfl)) _ _ ?_, (((Keeps.refl (fun b => b = p) w).setCell ⟨p, 2, none⟩ _ (.inl rfl)).setCell ⟨p, 3, none⟩ _ (.inl rfl))⟩
    rw [heap_setCell_same _ p 3 _ 83 _ (heap_setCell_same w p 2 _ 83 _ HD.out.cell)]
    rfl
  · rw [if_neg h0]
    have hne : d.left ≠ 0 := fun e => by have := hi.1; rw [ho, e] at this; cases this
    have hn1 : (d.left == 0) = false := by simpa using hne
    have hle : d.left ≤ 0 := by omega
    have HO := Lib.hid ho
    clear h hi h0 ho hne
    generalize hL : d.left = L at *
    have HL := Lib.hid hL
    clear hL
    go_enter Try.func42, Try.ntmps42
    go_wp2_with fail
    go_end0
    refine ⟨⟨_, rfl⟩, ?_, (Keeps.refl (fun b => b = p) w).setCell ⟨p, 3, none⟩ _ (.inl rfl)⟩
    have := HD.out.turn ((Keeps.refl (fun b => b = p) w).setCell ⟨p, 3, none⟩ (.bool false) (.inl rfl)) d.off d.left (by rw [heap_setCell_same w p 3 _ 83 _ HD.out.cell, HO.out]; rfl)
    exact this
set_option maxHeartbeats 400000 in
theorem rfuse_any (h : RefAt w O p d fv hv) (s : Int) (hs : -1 ≤ s) (ho : d.off = false) : Calls Try.prog 39 #[.pointer (some ⟨p, 0, none⟩), .int .i64 s] w fun e w' => e = .returned (.int .i64 0) ∧ RefAt w' O p { d with left := s, off := s == 0 } fv hv ∧ Keeps (fun b => b = p) w w' := by
  have c2 := h.c2
  have c3 := h.c3
  have f2 := h.fr 2
  have f3 := h.fr 3
  have HD := Lib.hid h
  rw [ho] at c3
  clear h
  generalize hL : d.left = L at *
  clear hL
  have hs' : ¬ s < -1 := by omega
  go_enter Try.func39, Try.ntmps39
  go_wp2_with fail
  go_ret
  refine ⟨rfl, HD.out.turn (((Keeps.refl (fun b => b = p) w).setCell ⟨p, 2, none⟩ _ (.inl rfl)).setCell ⟨p, 3, none⟩ _ (.inl rfl)) _ _ ?_, (((Keeps.refl (fun b => b = p) w).setCell ⟨p, 2, none⟩ _ (.inl rfl)).setCell ⟨p, 3, none⟩ _ (.inl rfl))⟩
  rw [heap_setCell_same _ p 3 _ 83 _ (heap_setCell_same w p 2 _ 83 _ HD.out.cell)]
  rfl
set_option maxHeartbeats 400000 in
theorem rfuse_bad (p : Nat) (w : World) (s : Int) (hs : s < -1) : Calls Try.prog 39 #[.pointer (some ⟨p, 0, none⟩), .int .i64 s] w fun e w' => e = .returned (.int .i64 1) ∧ w = w' := by
  go_enter Try.func39, Try.ntmps39
  go_wp2_with fail
  go_ret
  exact ⟨rfl, rfl⟩
set_option maxHeartbeats 400000 in
theorem rfuse_off (h : RefAt w O p d fv hv) (s : Int) (hs : -1 ≤ s) (ho : d.off = true) : Calls Try.prog 39 #[.pointer (some ⟨p, 0, none⟩), .int .i64 s] w fun e w' => e = .returned (.int .i64 11) ∧ w = w' := by
  have c3 := h.c3
  rw [ho] at c3
  clear h
  have hs' : ¬ s < -1 := by omega
  go_enter Try.func39, Try.ntmps39
  go_wp2_with fail
  go_ret
  exact ⟨rfl, rfl⟩
end Go.Proofs.Ythdefaodioapbaa
