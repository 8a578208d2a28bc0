/- A stock as a law holds it: Add whatever comes, Get, All. -/
import Derived.Test.YthkjihfnphdfkaaAlive
namespace Go.Proofs.Ythkjihfnphdfkaa
open Go.RowKit Go.Maps

variable {w w' : World} {O : Nat → Prop} {p lim : Nat} {L : List Bs}

def StockO (w : World) (O : Nat → Prop) (p lim : Nat) (L : List Bs) : Prop := IsStock w O p lim L ∧ ∀ j, O j → j < w.heap.size
structure Turned (w w' : World) (O O' : Nat → Prop) : Prop where
  keeps : Keeps O w w'
  o : ∀ j, O' j → O j ∨ NewIn w w' j
theorem Turned.of_below {a b : World} (h : Below a.heap.size a b) (O : Nat → Prop) : Turned a b O O := ⟨Keeps.of_below h, fun _ => .inl⟩
theorem Turned.trans {a b c : World} {O O1 O2 : Nat → Prop} (h : Turned a b O O1) (k : Turned b c O1 O2) : Turned a c O O2 :=
  ⟨h.keeps.trans k.keeps (fun i hi => (h.o i hi).imp id (·.1)),
   fun j hj => (k.o j hj).elim (fun e => (h.o j e).imp id (fun e => ⟨e.1, Nat.lt_of_lt_of_le e.2 k.keeps.size⟩)) (fun e => .inr ⟨Nat.le_trans h.keeps.size e.1, e.2⟩)⟩
theorem StockO.below (h : StockO w O p lim L) (hb : Below w.heap.size w w') : StockO w' O p lim L := ⟨h.1.keep (Keeps.of_below (S := fun _ => False) hb) (fun _ _ => id), fun j hj => Nat.lt_of_lt_of_le (h.2 j hj) hb.size⟩
/-- Another stock is left as it was. -/
theorem StockO.other {O' O2 : Nat → Prop} {p2 lim2 : Nat} {L2 : List Bs} (h : StockO w O2 p2 lim2 L2) (t : Turned w w' O O') (a : ∀ j, O2 j → ¬ O j) : StockO w' O2 p2 lim2 L2 ∧ ∀ j, O2 j → ¬ O' j := by
  refine ⟨⟨h.1.keep t.keeps a, fun j hj => Nat.lt_of_lt_of_le (h.2 j hj) t.keeps.size⟩, fun j hj e => ?_⟩
  rcases t.o j e with h1 | h1
  · exact a j hj h1
  · have := h.2 j hj; have := h1.1; omega
theorem IsStock.facts (h : IsStock w O p lim L) : L.Nodup ∧ total L ≤ lim ∧ lim ≤ 65536 ∧ L.length ≤ 65537 ∧ ∀ b ∈ L, b.length ≤ 8192 := let ⟨_, _, _, h⟩ := h; ⟨h.nodup, h.small, h.limit, h.count, h.each⟩

/-- What Add answers, and what there is then. -/
def addE (lim : Nat) (L : List Bs) (b : Bs) : Int × Int := if 8192 < b.length then (0, 2) else if b ∈ L then ((L.idxOf b : Nat), 0) else if lim < total L + b.length then (0, 27) else ((L.length : Nat), 0)
def addT (lim : Nat) (L : List Bs) (b : Bs) : List Bs := if 8192 < b.length then L else if b ∈ L then L else if lim < total L + b.length then L else L ++ [b]

theorem add_o (h : StockO w O p lim L) (v : Value) (b : Bs) (hv : BytesW w v b) (hvO : b ≠ [] → InB v (fun k => ¬ O k)) :
    Calls Try.prog 12 #[.pointer (some ⟨p, 0, none⟩), v] w fun e w' => e = .returned (.tuple #[.int .i64 (addE lim L b).1, .int .i64 (addE lim L b).2]) ∧ ∃ O', StockO w' O' p lim (addT lim L b) ∧ Turned w w' O O' := by
  have hs := h
  obtain ⟨⟨lv, m, vs, h⟩, hO⟩ := h
  have hdr : ∀ k, Below w.heap.size w (w.drewN k) := fun k => below_drewN (Below.refl _ _) k
  unfold addE addT
  by_cases h1 : 8192 < b.length
  · simp only [if_pos h1]
    refine (add_long v b hv h1).mono ?_
    rintro e w' ⟨rfl, rfl⟩
    exact ⟨rfl, O, hs, Turned.of_below (Below.refl _ _) O⟩
  · simp only [if_neg h1]
    by_cases h2 : b ∈ L
    · simp only [if_pos h2]
      refine (add_has h v b hv (by omega) h2).mono ?_
      rintro e w' ⟨rfl, k, rfl⟩
      exact ⟨rfl, O, hs.below (hdr k), Turned.of_below (hdr k) O⟩
    · simp only [if_neg h2]
      by_cases h3 : lim < total L + b.length
      · simp only [if_pos h3]
        refine (add_full h v b hv (by omega) h2 h3).mono ?_
        rintro e w' ⟨rfl, k, rfl⟩
        exact ⟨rfl, O, hs.below (hdr k), Turned.of_below (hdr k) O⟩
      · simp only [if_neg h3]
        refine (add_new h v b hv hvO (by omega) h2 (by omega)).mono ?_
        rintro e w' ⟨rfl, h4, h5⟩
        exact ⟨rfl, _, ⟨h4, fun j hj => hj.elim (fun e => Nat.lt_of_lt_of_le (hO j e) h5.size) (·.2)⟩, h5, fun j hj => hj⟩

theorem stock_cell {lv : Value} {m : Nat} {vs : List Value} (h : StockAt w O p lim L lv m vs) (k : Nat) (hk : k < L.length) : ∃ g cap v, lv = .slice (some ⟨g, 0, none⟩) L.length cap ∧ w.cell? ⟨g, k, none⟩ = some v ∧ Bytes w v L[k] := by
  obtain ⟨v, h1, h2, _⟩ := h.at_ k hk
  rcases RowAt.of_owns h.row with ⟨_, h0⟩ | ⟨g, off, cap, hv, hc, hcell⟩
  · subst h0; simp at h1
  · have hl : vs.length = L.length := by have := h.row.1; omega
    rcases owns_shape h.row with ⟨h0, h00⟩ | ⟨g', cap', hv', _⟩
    · omega
    · rw [hv] at hv'
      simp only [Value.slice.injEq, Option.some.injEq, Addr.mk.injEq] at hv'
      obtain ⟨⟨rfl, rfl, _⟩, _, rfl⟩ := hv'
      refine ⟨g, cap, v, by rw [hv, hl], ?_, h2⟩
      have := hcell k v h1
      rwa [Nat.zero_add] at this

set_option maxHeartbeats 400000 in
theorem get_ok (h : StockO w O p lim L) (k : Nat) (hk : k < L.length) :
    Calls Try.prog 16 #[.pointer (some ⟨p, 0, none⟩), .int .i64 k] w fun e w' => ∃ va vc, e = .returned (.tuple #[.slice va L[k].length vc, .int .i64 0]) ∧ Fresh w.heap.size w' (.slice va L[k].length vc) L[k] ∧ Below w.heap.size w w' ∧ (∀ j i, (Value.slice va L[k].length vc).ownBlock = some j → w'.frozen? ⟨j, i, none⟩ = false) := by
  have hf := h.1.facts
  obtain ⟨⟨lv, m, vs, h⟩, hO⟩ := h
  obtain ⟨g, cap, v, rfl, hc, hv⟩ := stock_cell h k hk
  have c2 := h.c2
  have H := Lib.hid (copied_more v L[k] w (.inl hv) (by have := hf.2.2.2.2 _ (List.getElem_mem hk); omega))
  have k0 : (0 : Int) ≤ (k : Int) := by omega
  have k1 : (k : Int) < (L.length : Int) := by omega
  clear h hv hf
  generalize hbk : L[k] = b at *
  clear hbk
  go_enter Try.func16, Try.ntmps16
  go_wp2_with fail
  refine (H.out).mono ?_
  rintro e w1 ⟨va, vc, rfl, hF, hb, hz⟩
  go_wp2_with fail
  go_ret2
  exact ⟨va, vc, rfl, hF, hb, hz⟩
set_option maxHeartbeats 400000 in
theorem get_no (h : StockO w O p lim L) (k : Int) (hk : k < 0 ∨ (0 ≤ k ∧ (L.length : Int) ≤ k)) :
    Calls Try.prog 16 #[.pointer (some ⟨p, 0, none⟩), .int .i64 k] w fun e w' => e = .returned (.tuple #[.slice none 0 0, .int .i64 32]) ∧ w = w' := by
  obtain ⟨⟨lv, m, vs, h⟩, hO⟩ := h
  obtain ⟨a, cap, hv, _⟩ := (RowAt.of_owns h.row).shape
  have hl : vs.length = L.length := by have := h.row.1; omega
  rw [hl] at hv
  have c2 := h.c2
  rw [hv] at c2
  clear h hv
  rcases hk with hk | ⟨hk0, hk⟩
  all_goals
    go_enter Try.func16, Try.ntmps16
    go_wp2_with fail
    go_ret2
    exact ⟨rfl, rfl⟩

/-- Rows of the call's own, with these bytes. -/
structure AllAt (w : World) (B : Nat) (v : Value) (us : List Value) (L : List Bs) : Prop where
  row : w.ownsRow B 28 1 v L.length us
  at_ : ∀ i (h : i < L.length), ∃ u, us[i]? = some u ∧ Bytes w u L[i] ∧ InB u (fun k => B ≤ k ∧ k < w.heap.size ∧ v.ownBlock ≠ some k) ∧ ∀ k j, u.ownBlock = some k → w.frozen? ⟨k, j, none⟩ = false
theorem AllAt.len {B : Nat} {v : Value} {us : List Value} (h : AllAt w B v us L) : us.length = L.length := by have := h.row.1; omega
theorem AllAt.nil (w : World) (B : Nat) : AllAt w B (.slice none 0 0) [] [] := ⟨World.ownsRow_nil _ _ _ _, fun i h => by simp at h⟩
theorem AllAt.below {B : Nat} {v : Value} {us : List Value} (h : AllAt w B v us L) (hb : Below w.heap.size w w') : AllAt w' B v us L := by
  refine ⟨owns_below h.row hb, fun i hi => ?_⟩
  obtain ⟨u, h1, h2, h3, h4⟩ := h.at_ i hi
  refine ⟨u, h1, RowAt.below h2 hb (Nat.le_refl _), h3.mono fun k ⟨a, b, c⟩ => ⟨a, Nat.lt_of_lt_of_le b hb.size, c⟩, fun k j e => ?_⟩
  rw [World.frozen?_of_block (w := w) (hb.block k (h3 k e).2.1)]
  exact h4 k j e
theorem AllAt.snoc {B : Nat} {v v' u : Value} {us : List Value} {b : Bs} (h : AllAt w B v us L) (hu : Bytes w u b) (huB : InB u (fun k => B ≤ k ∧ k < w.heap.size ∧ v.ownBlock ≠ some k)) (huz : ∀ k j, u.ownBlock = some k → w.frozen? ⟨k, j, none⟩ = false)
    (hrow : w'.ownsRow B 28 1 v' (L.length + 1) (us ++ [u])) (hg : w.grownBy w' v.ownBlock) (hat : v'.ownBlock = v.ownBlock ∨ v'.ownBlock = some w.heap.size) : AllAt w' B v' (us ++ [u]) (L ++ [b]) := by
  have key : ∀ (x : Value) (y : Bs), Bytes w x y → InB x (fun k => B ≤ k ∧ k < w.heap.size ∧ v.ownBlock ≠ some k) → (∀ k j, x.ownBlock = some k → w.frozen? ⟨k, j, none⟩ = false) → Bytes w' x y ∧ InB x (fun k => B ≤ k ∧ k < w'.heap.size ∧ v'.ownBlock ≠ some k) ∧ ∀ k j, x.ownBlock = some k → w'.frozen? ⟨k, j, none⟩ = false := by
    intro x y h1 h2 h3
    refine ⟨RowAt.kept h1 (fun k e hk => hg.block k hk (fun e' => (h2 k e).2.2 e'.symm)), fun k e => ?_, fun k j e => ?_⟩
    · obtain ⟨a, b, c⟩ := h2 k e
      refine ⟨a, Nat.lt_of_lt_of_le b hg.size, fun e' => ?_⟩
      rcases hat with h | h
      · exact c (h ▸ e')
      · rw [h] at e'; cases e'; omega
    · obtain ⟨a, b, c⟩ := h2 k e
      rw [World.frozen?_of_block (w := w) (hg.block k b (fun e' => c e'.symm))]
      exact h3 k j e
  have hl := h.len
  refine ⟨by rw [List.length_append]; exact hrow, fun i hi => ?_⟩
  by_cases hlt : i < L.length
  · obtain ⟨x, h1, h2, h3, h4⟩ := h.at_ i hlt
    refine ⟨x, by rw [List.getElem?_append_left (by omega)]; exact h1, ?_⟩
    rw [List.getElem_append_left hlt]
    exact key x _ h2 h3 h4
  · have hie : i = L.length := by simp at hi; omega
    subst hie
    refine ⟨u, by rw [List.getElem?_append_right (by omega), hl]; simp, ?_⟩
    rw [List.getElem_append_right (by omega)]
    simp only [Nat.sub_self, List.getElem_singleton]
    exact key u b hu huB huz

theorem row_block' {w : World} {base : Nat} {e : TypeId} {size : Nat} {v : Value} {n : Nat} {xs : List Value} (h : w.ownsRow base e size v n xs) {k : Nat} (hk : v.ownBlock = some k) : k < w.heap.size := by
  rcases h.2 with ⟨rfl, _⟩ | ⟨g, cap, cur, rfl, _, hg, _⟩
  · cases hk
  · simp only [Value.ownBlock, Option.some.injEq] at hk
    subst hk
    exact (Array.getElem?_eq_some_iff.1 hg).1
theorem row_low {w : World} {base : Nat} {e : TypeId} {size : Nat} {v : Value} {n : Nat} {xs : List Value} (h : w.ownsRow base e size v n xs) {k : Nat} (hk : v.ownBlock = some k) : base ≤ k := by
  rcases h.2 with ⟨rfl, _⟩ | ⟨g, cap, cur, rfl, hb, _⟩
  · cases hk
  · simp only [Value.ownBlock, Option.some.injEq] at hk
    subst hk
    exact hb

set_option maxHeartbeats 2000000 in
theorem all_ok (h : StockO w O p lim L) :
    Calls Try.prog 19 #[.pointer (some ⟨p, 0, none⟩)] w fun e w' => ∃ v us, e = .returned v ∧ AllAt w' w.heap.size v us L ∧ Below w.heap.size w w' := by
  have hf := h.1.facts
  obtain ⟨⟨lv, m, vs, h⟩, hO⟩ := h
  obtain ⟨a, cap, hv, _⟩ := (RowAt.of_owns h.row).shape
  have hl : vs.length = L.length := by have := h.row.1; omega
  rw [hl] at hv
  obtain ⟨i0, hi, hz0, hz1, hz2⟩ := info_parts info28
  have HI := Lib.hid (And.intro hi (And.intro hz0 (And.intro hz1 hz2)))
  have c2 := h.c2
  rw [hv] at c2
  have H := Lib.hid h
  have HV := Lib.hid hv
  have HF := Lib.hid hf
  have n1 : (L.length : Int) ≤ 65537 := by omega
  clear h hv hl hi hz0 hz1 hz2 hf
  go_enter Try.func19, Try.ntmps19
  go_wp2_with fail
  go_loopw [3, 5, 11] (fun l _ i wr => ∃ (k : Nat) (us : List Value), k ≤ L.length ∧ i = .int .i64 k ∧ AllAt wr w.heap.size l us (L.take k) ∧ Below w.heap.size w wr) (fun _ _ i _ => L.length - (intOf i).toNat)
  case atStart => exact ⟨0, [], Nat.zero_le _, rfl, AllAt.nil _ _, Below.refl _ _⟩
  case round =>
    obtain ⟨k, us, hk, rfl, hA, hb⟩ := hrel
    by_cases hlt : k < L.length
    · obtain ⟨g, cap', v, hlv, hc, hvb⟩ := stock_cell H.out k hlt
      have hlv' := HV.out.symm.trans hlv
      cases hlv'
      have hcr : wr.cell? ⟨g, k, none⟩ = some v := (hb.cell (p := ⟨g, k, none⟩) (World.block_lt_of_cell? _ _ hc)).trans hc
      have HC := Lib.hid (copied_more v L[k] wr (.inl (RowAt.below hvb hb (Nat.le_refl _))) (by have := HF.out.2.2.2.2 _ (List.getElem_mem hlt); omega))
      have HT : Hid (L.take (k + 1) = L.take k ++ [L[k]]) := List.take_succ_eq_append_getElem hlt
      have HLT : Hid ((L.take k).length = k) := by show _ = _; rw [List.length_take]; omega
      have B1 : Hid ((L.take k).length + [v].length ≤ maxLen) := by show _ ≤ _; rw [HLT.out]; simp only [List.length_singleton]; unfold maxLen; omega
      have B2 : Hid (((L.take k).length + [v].length) * 24 ≤ 140737488355328) := by show _ ≤ _; rw [HLT.out]; simp only [List.length_singleton]; omega
      have k0 : (0 : Int) ≤ (k : Int) := by omega
      have k1 : (k : Int) < (L.length : Int) := by omega
      obtain ⟨la, lc, hsh, _⟩ := (RowAt.of_owns hA.row).shape
      rw [hA.len] at hsh
      subst hsh
      have HA := Lib.hid hA
      have HB := Lib.hid hb
      have HK := Lib.hid hlt
      clear hA hb hc hvb
      generalize L[k] = b at *
      generalize L.take k = T at *
      go_wp2_with fail
      refine (HC.out).mono ?_
      rintro e w1 ⟨va, vc, rfl, hF, hb1, hz1⟩
      have HA1 := Lib.hid (HA.out.below hb1)
      have HF1 := Lib.hid hF
      have HB1 := Lib.hid hb1
      have HZ1 := Lib.hid hz1
      clear hF hb1 hz1
      have hs1 : w.heap.size ≤ w1.heap.size := Nat.le_trans HB.out.size HB1.out.size
      have hone : ∀ u ∈ [Value.slice va b.length vc], u.oneCell' = true := fun u hu => by rw [List.mem_singleton] at hu; subst hu; rfl
      have HO := Lib.hid hone
      clear hone
      go_wp2_with (at_builtin; refine wpList_append_rowAt rfl (.tmp 15) (.tmp 18) 36 rfl w.heap.size 28 i0 (.slice none 0 0) 24 Try.underlying36 HI.out.1 HI.out.2.1 HI.out.2.2.1 HI.out.2.2.2 rfl _ T.length us rfl (owns_below HA1.out.row ((Below.refl w1.heap.size w1).alloc (Nat.le_refl _) _)) _ [.slice va b.length vc] rfl (.inl (row_new w1 #[.slice va b.length vc] 28 (0, 0) 1 (Nat.le_refl _))) HO.out B1.out B2.out (by simp; omega) ?_)
      intro v2 w2 hown hgrow hat
      have hba : Below w1.heap.size w1 (w1.alloc (.cells #[.slice va b.length vc] 28)) := (Below.refl w1.heap.size w1).alloc (Nat.le_refl _) _
      have hA2 := (HA1.out.below hba).snoc (u := .slice va b.length vc) (b := b) (RowAt.below HF1.out.1 hba (Nat.le_refl _)) (HF1.out.2.mono (fun j ⟨x, y⟩ => ⟨Nat.le_trans HB.out.size x, by simp; omega, fun e => by have := (row_block' HA.out.row e); omega⟩)) (fun j i e => (World.frozen?_of_block (w := w1) (hba.block j (HF1.out.2 j e).2)).trans (HZ1.out j i e)) hown hgrow (by simpa using hat)
      have HA2 := Lib.hid hA2
      have HB2 : Hid (Below w.heap.size w w2) := (HB.out.trans ((HB1.out.mono HB.out.size).trans (hba.mono hs1))).grown hgrow (by simp; omega) (fun j e => by
        have := row_low HA.out.row e
        omega)
      clear hown hgrow hat hba hA2 HC
      go_wp2_with fail
      go_roundw
      case rel => exact ⟨k + 1, us ++ [.slice va b.length vc], by omega, by go_num, by rw [HT.out]; exact HA2.out, HB2.out⟩
      case measure => simp [intOf]; omega
    · obtain rfl : k = L.length := by omega
      rw [List.take_length] at hA
      go_wp2_with fail
      go_ret
      exact ⟨_, us, rfl, hA, hb⟩
end Go.Proofs.Ythkjihfnphdfkaa
