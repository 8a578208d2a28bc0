/- DiskPlays. -/
import Derived.Test.YthdefaodioapbaaCall4
import Derived.Test.YthdefaodioapbaaRef7
namespace Go.Proofs.Ythdefaodioapbaa
open Go.RowKit

variable {w w' wr : World} {B : Nat} {X : Nat → Prop} {l : List (Bool × Nat × DS)} {p q : Nat} {d : DS}
attribute [local irreducible] zA blk

abbrev Tw := Nat × Nat × DS
def flat (L : List Tw) : List (Bool × Nat × DS) := L.flatMap fun x => [(false, x.1, x.2.2), (true, x.2.1, x.2.2)]
theorem flat_snoc (L : List Tw) (x : Tw) : flat (L ++ [x]) = flat L ++ [(false, x.1, x.2.2), (true, x.2.1, x.2.2)] := by simp [flat]
theorem flat_at : ∀ (L : List Tw) (i : Nat) (h : i < L.length), ∃ r, (flat L).Perm ((false, L[i].1, L[i].2.2) :: (true, L[i].2.1, L[i].2.2) :: r)
  | x :: L, 0, _ => ⟨flat L, List.Perm.refl _⟩
  | x :: L, i + 1, h => by
    obtain ⟨r, hr⟩ := flat_at L i (by simpa using h)
    refine ⟨(false, x.1, x.2.2) :: (true, x.2.1, x.2.2) :: r, ?_⟩
    show List.Perm ((false, x.1, x.2.2) :: (true, x.2.1, x.2.2) :: flat L) _
    refine ((hr.cons _).cons _).trans ?_
    simp only [List.getElem_cons_succ]
    exact (List.perm_append_comm (l₁ := [(false, x.1, x.2.2), (true, x.2.1, x.2.2)]) (l₂ := [(false, (L[i]'(by simpa using h)).1, (L[i]'(by simpa using h)).2.2), (true, (L[i]'(by simpa using h)).2.1, (L[i]'(by simpa using h)).2.2)])).append_right r
def ptrs (L : List Nat) : List Value := L.map fun p => .pointer (some ⟨p, 0, none⟩)
theorem ptrs_snoc (L : List Nat) (p : Nat) : ptrs (L ++ [p]) = ptrs L ++ [.pointer (some ⟨p, 0, none⟩)] := by simp [ptrs]

theorem FamX.grow {L : List DX} {S : Nat → Prop} (h : FamX w B X L) (hB : B ≤ w.heap.size) (k : Keeps S w w') (hS : ∀ j, S j → X j) : FamX w' B (fun j => X j ∨ NewIn w w' j) L :=
  ⟨fun x hx => ⟨(h.1 x hx).1.keep k (fun j hj e => ((h.1 x hx).2.1 j hj).2 (hS j e)) (fun j hj e => (h.1 x hx).2.2 j hj (hS j e)), fun j hj => ⟨((h.1 x hx).2.1 j hj).1, fun e => e.elim ((h.1 x hx).2.1 j hj).2 (fun e => by have := (h.1 x hx).1.lt.1 j hj; have := e.1; omega)⟩, fun j hj e => e.elim ((h.1 x hx).2.2 j hj) (fun e => by have := (h.1 x hx).1.lt.2.1 j hj; have := e.1; omega)⟩, h.2.1, fun j e => e.elim (fun e => ⟨(h.2.2 j e).1, Nat.lt_of_lt_of_le (h.2.2 j e).2 k.size⟩) (fun e => ⟨Nat.le_trans hB e.1, e.2⟩)⟩
theorem DisksX.grow {S : Nat → Prop} (h : DisksX w B X l) (hB : B ≤ w.heap.size) (k : Keeps S w w') (hS : ∀ j, S j → X j) : DisksX w' B (fun j => X j ∨ NewIn w w' j) l := let ⟨L, h1, h2⟩ := h; ⟨L, h1, h2.grow hB k hS⟩

/-- A disk and the document's, alike; those that were left behind, and two rows of them. -/
structure DP (w wr : World) (X : Nat → Prop) (p q : Nat) (d : DS) (L : List Tw) (lv wv : Value) (bl : Nat) : Prop where
  disks : DisksX wr w.heap.size X ((false, p, d) :: (true, q, d) :: flat L)
  good : d.Good
  n : d.n = bl
  goods : ∀ x ∈ L, x.2.2.Good ∧ x.2.2.n = bl
  row : wr.ownsRow 0 24 1 lv L.length (ptrs (L.map (·.1)))
  row2 : wr.ownsRow 0 47 1 wv L.length (ptrs (L.map (·.2.1)))
  inl : InB lv X
  inw : InB wv X
  bel : Below w.heap.size w wr
theorem DP.size {X : Nat → Prop} {L : List Tw} {lv wv : Value} {bl : Nat} (h : DP w wr X p q d L lv wv bl) : w.heap.size ≤ wr.heap.size := h.bel.size
theorem DP.below {X : Nat → Prop} {L : List Tw} {lv wv : Value} {bl : Nat} (h : DP w wr X p q d L lv wv bl) (hb : Below wr.heap.size wr w') : DP w w' X p q d L lv wv bl :=
  { h with
    disks := h.disks.below hb
    row := owns_below h.row hb
    row2 := owns_below h.row2 hb
    bel := h.bel.trans (hb.mono h.bel.size) }
/-- Both do what a call says. -/
theorem DP.call {X : Nat → Prop} {L : List Tw} {lv wv : Value} {bl : Nat} (h : DP w wr X p q d L lv wv bl) (k a b : Int) (ka : Option Addr) (kn kc : Nat) (ks : Nat → Int) (ha : a ≤ 9223372036854775807) (hk : IntsAt w ka kn ks) (hka : ∀ x, ka = some x → 0 < kn → x.block < w.heap.size) (hcap : ka = none → kc = 0) :
    Calls Try.prog 27 #[.pointer (some ⟨p, 0, none⟩), .pointer (some ⟨q, 0, none⟩), .agg #[.int .i64 k, .int .i64 a, .int .i64 b, .slice ka kn kc]] wr fun e w' => e = .returned (.bool true) ∧ ∃ d', DP w w' X p q d' L lv wv bl := by
  refine (callAny h.disks h.size h.good k a b ka kn kc ks ha (hk.below h.bel) hka hcap).mono ?_
  rintro e w' ⟨rfl, ⟨d', hg, hn, hd⟩, hkp⟩
  exact ⟨rfl, d', { h with
    disks := hd
    good := hg
    n := hn.trans h.n
    row := owns_kept h.row (fun j e hl => hkp.block j hl (fun e' => e'.2 (h.inl j e)))
    row2 := owns_kept h.row2 (fun j e hl => hkp.block j hl (fun e' => e'.2 (h.inw j e)))
    bel := h.bel.trans (hkp.belB h.size) }⟩
theorem DP.alike {X : Nat → Prop} {L : List Tw} {lv wv : Value} {bl : Nat} (h : DP w wr X p q d L lv wv bl) : Calls Try.prog 28 #[.pointer (some ⟨p, 0, none⟩), .pointer (some ⟨q, 0, none⟩)] wr fun e w' => e = .returned (.bool true) ∧ DP w w' X p q d L lv wv bl :=
  (alike_any h.disks h.size).mono fun _ _ ⟨he, hb⟩ => ⟨he, h.below hb⟩
/-- Of those left behind, one. -/
theorem DP.at_ {X : Nat → Prop} {L : List Tw} {lv wv : Value} {bl : Nat} (h : DP w wr X p q d L lv wv bl) (i : Nat) (hi : i < L.length) : ∃ (r : List (Bool × Nat × DS)) (g g2 c c2 : Nat), DisksX wr w.heap.size X ((false, L[i].1, L[i].2.2) :: (true, L[i].2.1, L[i].2.2) :: r) ∧ L[i].2.2.Good ∧ L[i].2.2.n = bl ∧
    lv = .slice (some ⟨g, 0, none⟩) L.length c ∧ wv = .slice (some ⟨g2, 0, none⟩) L.length c2 ∧ wr.cell? ⟨g, i, none⟩ = some (.pointer (some ⟨L[i].1, 0, none⟩)) ∧ wr.cell? ⟨g2, i, none⟩ = some (.pointer (some ⟨L[i].2.1, 0, none⟩)) := by
  obtain ⟨r, hr⟩ := flat_at L i hi
  have hp : List.Perm ((false, p, d) :: (true, q, d) :: flat L) ((false, L[i].1, L[i].2.2) :: (true, L[i].2.1, L[i].2.2) :: ((false, p, d) :: (true, q, d) :: r)) :=
    ((hr.cons _).cons _).trans ((List.perm_append_comm (l₁ := [(false, p, d), (true, q, d)]) (l₂ := [(false, L[i].1, L[i].2.2), (true, L[i].2.1, L[i].2.2)])).append_right r)
  have hg := h.goods _ (List.getElem_mem hi)
  have key : ∀ {e : TypeId} {v : Value} {P : List Nat}, wr.ownsRow 0 e 1 v L.length (ptrs P) → P.length = L.length → ∀ (hP : i < P.length), ∃ g c, v = .slice (some ⟨g, 0, none⟩) L.length c ∧ wr.cell? ⟨g, i, none⟩ = some (.pointer (some ⟨P[i], 0, none⟩)) := by
    intro e v P hrow hl hP
    rcases hrow.2 with ⟨_, h0⟩ | ⟨g, cap, cur, hv, _, hg, hn, hm, hs, ht⟩
    · omega
    · refine ⟨g, cap, hv, ?_⟩
      rw [cell_of_row wr g i cur _ _ hg]
      have : (ptrs P)[i]? = some (.pointer (some ⟨P[i], 0, none⟩)) := by unfold ptrs; rw [List.getElem?_map, List.getElem?_eq_getElem hP]; rfl
      rw [← ht, List.getElem?_take] at this
      split at this
      · simpa using this
      · cases this
  obtain ⟨g, c, h1, h2⟩ := key h.row (by simp) (by simpa using hi)
  obtain ⟨g2, c2, h3, h4⟩ := key h.row2 (by simp) (by simpa using hi)
  exact ⟨_, g, g2, c, c2, h.disks.perm hp, hg.1, hg.2, h1, h3, by simpa using h2, by simpa using h4⟩

theorem infoPD : (Try.prog.info? 24).map (fun i => (i.zero, i.size, i.bytes)) = some (some (.pointer none), 1, 8) := by kernel_rfl
theorem infoPR : (Try.prog.info? 47).map (fun i => (i.zero, i.size, i.bytes)) = some (some (.pointer none), 1, 8) := by kernel_rfl
/-- Disks, and two rows of pointers of the law's own. -/
structure DQ (w wr : World) (X : Nat → Prop) (l : List (Bool × Nat × DS)) (lv : Value) (P1 : List Nat) (wv : Value) (P2 : List Nat) : Prop where
  disks : DisksX wr w.heap.size X l
  row : wr.ownsRow 0 24 1 lv P1.length (ptrs P1)
  row2 : wr.ownsRow 0 47 1 wv P2.length (ptrs P2)
  inl : InB lv X
  inw : InB wv X
  bel : Below w.heap.size w wr
theorem DQ.apart {lv wv : Value} {P1 P2 : List Nat} (h : DQ w wr X l lv P1 wv P2) (j : Nat) (e : lv.ownBlock = some j) : wv.ownBlock ≠ some j := fun e' => by
  obtain ⟨_, cs, h1⟩ := row_block h.row e
  obtain ⟨_, cs', h2⟩ := row_block h.row2 e'
  rw [h1] at h2
  simp at h2
theorem DQ.push1 {lv wv v' : Value} {P1 P2 : List Nat} {wa : World} {p : Nat} (h : DQ w wr X l lv P1 wv P2) (hb : Below wr.heap.size wr wa) (hrow : w'.ownsRow 0 24 1 v' (P1.length + 1) (ptrs P1 ++ [.pointer (some ⟨p, 0, none⟩)])) (hg : wa.grownBy w' lv.ownBlock) (hat : v'.ownBlock = lv.ownBlock ∨ v'.ownBlock = some wa.heap.size) :
    DQ w w' (fun j => X j ∨ NewIn wr w' j) l v' (P1 ++ [p]) wv P2 := by
  have k : Keeps (fun j => lv.ownBlock = some j) wr w' := (Keeps.of_below hb).grown hg (fun j e => .inl e)
  have hz := h.bel.size
  refine ⟨h.disks.grow hz k (fun j e => h.inl j e), by rw [ptrs_snoc, List.length_append]; exact hrow, owns_kept h.row2 (fun j e hl => k.block j hl (fun e' => h.apart j e' e)), fun j e => ?_, h.inw.mono (fun _ => .inl), h.bel.trans (k.below_of hz (fun j hj e => by have := (h.disks.xlt j (h.inl j e)).1; omega))⟩
  rcases hat with h1 | h1
  · exact .inl (h.inl j (h1 ▸ e))
  · have h2 := (hrow.lt j e).2
    rw [h1] at e
    cases e
    exact .inr ⟨hb.size, h2⟩
theorem DQ.push2 {lv wv v' : Value} {P1 P2 : List Nat} {wa : World} {p : Nat} (h : DQ w wr X l lv P1 wv P2) (hb : Below wr.heap.size wr wa) (hrow : w'.ownsRow 0 47 1 v' (P2.length + 1) (ptrs P2 ++ [.pointer (some ⟨p, 0, none⟩)])) (hg : wa.grownBy w' wv.ownBlock) (hat : v'.ownBlock = wv.ownBlock ∨ v'.ownBlock = some wa.heap.size) :
    DQ w w' (fun j => X j ∨ NewIn wr w' j) l lv P1 v' (P2 ++ [p]) := by
  have k : Keeps (fun j => wv.ownBlock = some j) wr w' := (Keeps.of_below hb).grown hg (fun j e => .inl e)
  have hz := h.bel.size
  refine ⟨h.disks.grow hz k (fun j e => h.inw j e), owns_kept h.row (fun j e hl => k.block j hl (fun e' => h.apart j e e')), by rw [ptrs_snoc, List.length_append]; exact hrow, h.inl.mono (fun _ => .inl), fun j e => ?_, h.bel.trans (k.below_of hz (fun j hj e => by have := (h.disks.xlt j (h.inw j e)).1; omega))⟩
  rcases hat with h1 | h1
  · exact .inl (h.inw j (h1 ▸ e))
  · have h2 := (hrow.lt j e).2
    rw [h1] at e
    cases e
    exact .inr ⟨hb.size, h2⟩
theorem DQ.perm {lv wv : Value} {P1 P2 : List Nat} {l' : List (Bool × Nat × DS)} (h : DQ w wr X l lv P1 wv P2) (hp : l.Perm l') : DQ w wr X l' lv P1 wv P2 := { h with disks := h.disks.perm hp }
theorem DQ.twin {lv wv : Value} {P1 P2 : List Nat} (h : DQ w wr X ((false, p, d) :: l) lv P1 wv P2) : Calls Try.prog 23 #[.pointer (some ⟨p, 0, none⟩)] wr fun e w' => ∃ q, e = .returned (.pointer (some ⟨q, 0, none⟩)) ∧ DQ w w' X ((false, q, d) :: (false, p, d) :: l) lv P1 wv P2 := by
  obtain ⟨O, R, h1, hgo⟩ := h.disks.twin h.bel.size
  have h1' : DiskO wr O R p d := h1
  refine (twin_o h1').mono ?_
  rintro e w' ⟨q, rfl, h2, ha, hb⟩
  exact ⟨q, rfl, hgo w' q hb h2 ha, owns_below h.row hb, owns_below h.row2 hb, h.inl, h.inw, h.bel.trans (hb.mono h.bel.size)⟩
theorem DQ.rtwin {lv wv : Value} {P1 P2 : List Nat} (h : DQ w wr X ((true, p, d) :: l) lv P1 wv P2) : Calls Try.prog 29 #[.pointer (some ⟨p, 0, none⟩)] wr fun e w' => ∃ q, e = .returned (.pointer (some ⟨q, 0, none⟩)) ∧ DQ w w' X ((true, q, d) :: (true, p, d) :: l) lv P1 wv P2 := by
  obtain ⟨O, fv, hv, h1⟩ := h.disks.ref h.bel.size
  refine (rTwin_any h1).mono ?_
  rintro e w' ⟨q, rfl, h2, hb⟩
  exact ⟨q, rfl, h.disks.new (k := true) (O := NewIn wr w') (R := fun _ => False) h.bel.size hb ⟨h2, fun j hj => hj.2, fun _ e => e.elim, fun _ _ => id⟩ (fun _ e => e) (fun _ e => e.elim), owns_below h.row hb, owns_below h.row2 hb, h.inl, h.inw, h.bel.trans (hb.mono h.bel.size)⟩
theorem DP.toQ {L : List Tw} {lv wv : Value} {bl : Nat} (h : DP w wr X p q d L lv wv bl) : DQ w wr X ((false, p, d) :: (true, q, d) :: flat L) lv (L.map (·.1)) wv (L.map (·.2.1)) := ⟨h.disks, by rw [List.length_map]; exact h.row, by rw [List.length_map]; exact h.row2, h.inl, h.inw, h.bel⟩
/-- The twins go on. -/
theorem DP.next {L : List Tw} {lv wv : Value} {bl p2 q2 : Nat} {X0 : Nat → Prop} {w0 : World} {lv0 wv0 : Value} (h : DP w w0 X0 p q d L lv0 wv0 bl) (h2 : DQ w wr X ((true, q2, d) :: (true, q, d) :: (false, p2, d) :: (false, p, d) :: flat L) lv (L.map (·.1) ++ [p]) wv (L.map (·.2.1) ++ [q])) : DP w wr X p2 q2 d (L ++ [(p, q, d)]) lv wv bl where
  disks := by
    rw [flat_snoc]
    refine h2.disks.perm ?_
    refine (List.Perm.trans ?_ ((List.Perm.refl _).cons _ |>.cons _ : List.Perm ((false, p2, d) :: (true, q2, d) :: ((false, p, d) :: (true, q, d) :: flat L)) _)).trans (((List.perm_append_comm (l₁ := [(false, p, d), (true, q, d)]) (l₂ := flat L)).cons _).cons _)
    have s1 : List.Perm ((true, q2, d) :: (true, q, d) :: (false, p2, d) :: (false, p, d) :: flat L) ((true, q2, d) :: (false, p2, d) :: (true, q, d) :: (false, p, d) :: flat L) := (List.Perm.swap _ _ _).cons _
    have s2 : List.Perm ((true, q2, d) :: (false, p2, d) :: (true, q, d) :: (false, p, d) :: flat L) ((false, p2, d) :: (true, q2, d) :: (false, p, d) :: (true, q, d) :: flat L) := (List.Perm.swap _ _ _).trans (((List.Perm.swap _ _ _).cons _).cons _)
    exact s1.trans s2
  good := h.good
  n := h.n
  goods := fun x hx => by
    rcases List.mem_append.1 hx with h1 | h1
    · exact h.goods x h1
    · rw [List.mem_singleton] at h1
      subst h1
      exact ⟨h.good, h.n⟩
  row := by
    have := h2.row
    rw [List.length_append, List.length_map] at this
    rw [List.map_append, List.length_append]
    exact this
  row2 := by
    have := h2.row2
    rw [List.length_append, List.length_map] at this
    rw [List.map_append, List.length_append]
    exact this
  inl := h2.inl
  inw := h2.inw
  bel := h2.bel
end Go.Proofs.Ythdefaodioapbaa
