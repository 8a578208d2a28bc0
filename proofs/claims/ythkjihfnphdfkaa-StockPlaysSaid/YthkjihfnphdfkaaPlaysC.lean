/- StockPlays: what the law holds: a stock, contents of its own. -/
import Derived.Test.YthkjihfnphdfkaaPlaysB
namespace Go.Proofs.Ythkjihfnphdfkaa
open Go.RowKit Go.Maps

variable {w wr w' : World} {p lim : Nat} {Ls La L : List Bs} {v : Value}

theorem Turned.below {O O' : Nat → Prop} {B : Nat} (t : Turned w w' O O') (hB : B ≤ w.heap.size) (hO : ∀ j, O j → B ≤ j) : Below B w w' := t.keeps.below_of hB (fun k hk e => by have := hO k e; omega)

/-- Contents that the law has put together; all in blocks of A. -/
structure AllO (w : World) (A : Nat → Prop) (v : Value) (us : List Value) (L : List Bs) : Prop where
  row : w.ownsRow 0 28 1 v L.length us
  own : InB v A
  at_ : ∀ i (h : i < L.length), ∃ u, us[i]? = some u ∧ Bytes w u L[i] ∧ InB u (fun k => A k ∧ k < w.heap.size ∧ v.ownBlock ≠ some k)
  lt : ∀ j, A j → j < w.heap.size
theorem AllO.keeps {A S : Nat → Prop} {us : List Value} (h : AllO w A v us L) (k : Keeps S w w') (hS : ∀ j, A j → ¬ S j) : AllO w' A v us L := by
  refine ⟨owns_kept h.row (fun j e hj => k.block j hj (hS j (h.own j e))), h.own, fun i hi => ?_, fun j hj => Nat.lt_of_lt_of_le (h.lt j hj) k.size⟩
  obtain ⟨u, h1, h2, h3⟩ := h.at_ i hi
  exact ⟨u, h1, RowAt.keeps h2 k (fun j e => hS j (h3 j e).1), h3.mono fun j ⟨a, b, c⟩ => ⟨a, Nat.lt_of_lt_of_le b k.size, c⟩⟩
theorem AllO.snoc {A C : Nat → Prop} {us : List Value} {u v' : Value} {b : Bs} (h : AllO w A v us L) (hu : Bytes w u b) (huB : InB u (fun k => C k ∧ k < w.heap.size ∧ v.ownBlock ≠ some k))
    (hrow : w'.ownsRow 0 28 1 v' (L.length + 1) (us ++ [u])) (hg : w.grownBy w' v.ownBlock) (hat : v'.ownBlock = v.ownBlock ∨ v'.ownBlock = some w.heap.size) :
    AllO w' (fun k => A k ∨ (C k ∧ k < w.heap.size) ∨ NewIn w w' k) v' (us ++ [u]) (L ++ [b]) := by
  have key : ∀ (x : Value) (y : Bs) (D : Nat → Prop), Bytes w x y → InB x (fun k => D k ∧ k < w.heap.size ∧ v.ownBlock ≠ some k) → (∀ k, D k → k < w.heap.size → A k ∨ (C k ∧ k < w.heap.size)) → Bytes w' x y ∧ InB x (fun k => (A k ∨ (C k ∧ k < w.heap.size) ∨ NewIn w w' k) ∧ k < w'.heap.size ∧ v'.ownBlock ≠ some k) := by
    intro x y D h1 h2 hD
    refine ⟨RowAt.kept h1 (fun k e hk => hg.block k hk (fun e' => (h2 k e).2.2 e'.symm)), fun k e => ?_⟩
    obtain ⟨a, b, c⟩ := h2 k e
    refine ⟨(hD k a b).imp id .inl, Nat.lt_of_lt_of_le b hg.size, fun e' => ?_⟩
    rcases hat with h | h
    · exact c (h ▸ e')
    · rw [h] at e'; cases e'; omega
  have hl : us.length = L.length := by have := h.row.1; omega
  refine ⟨by rw [List.length_append]; exact hrow, fun k e => ?_, fun i hi => ?_, fun j hj => ?_⟩
  · rcases hat with h1 | h1
    · exact .inl (h.own k (h1 ▸ e))
    · have h2 := (hrow.lt k e).2
      rw [h1] at e; cases e
      exact .inr (.inr ⟨Nat.le_refl _, h2⟩)
  · by_cases hlt : i < L.length
    · obtain ⟨x, h1, h2, h3⟩ := h.at_ i hlt
      refine ⟨x, by rw [List.getElem?_append_left (by omega)]; exact h1, ?_⟩
      rw [List.getElem_append_left hlt]
      exact key x _ A h2 h3 (fun _ a _ => .inl a)
    · have hie : i = L.length := by simp at hi; omega
      subst hie
      refine ⟨u, by rw [List.getElem?_append_right (by omega), hl]; simp, ?_⟩
      rw [List.getElem_append_right (by omega)]
      simp only [Nat.sub_self, List.getElem_singleton]
      exact key u b C hu huB (fun _ a b => .inr ⟨a, b⟩)
  · rcases hj with h1 | h1 | h1
    · exact Nat.lt_of_lt_of_le (h.lt j h1) hg.size
    · exact Nat.lt_of_lt_of_le h1.2 hg.size
    · exact h1.2

/-- A stock with Ls, contents La in the law's own memory, X: other blocks of the law's. -/
def Play (w wr : World) (X : Nat → Prop) (p lim : Nat) (Ls La : List Bs) (v : Value) : Prop :=
  ∃ O A us, StockO wr O p lim Ls ∧ AllO wr A v us La ∧ (∀ j, O j → ¬ A j ∧ ¬ X j) ∧ (∀ j, A j → ¬ X j) ∧ (∀ j, O j ∨ A j ∨ X j → w.heap.size ≤ j) ∧ (∀ j, X j → j < wr.heap.size) ∧ Below w.heap.size w wr
namespace Play
variable {X : Nat → Prop}
theorem bel (h : Play w wr X p lim Ls La v) : Below w.heap.size w wr := let ⟨_, _, _, _, _, _, _, _, _, h⟩ := h; h
theorem stock (h : Play w wr X p lim Ls La v) : ∃ O, StockO wr O p lim Ls := let ⟨O, _, _, h, _⟩ := h; ⟨O, h⟩
theorem stop (h : Play w wr X p lim Ls La v) : Play w wr (fun _ => False) p lim Ls La v := by
  obtain ⟨O, A, us, h1, h2, h3, h4, h5, h6, h7⟩ := h
  exact ⟨O, A, us, h1, h2, fun j hj => ⟨(h3 j hj).1, id⟩, fun _ _ => id, fun j hj => h5 j (hj.imp id (fun e => e.imp id (fun e => e.elim))), fun _ e => e.elim, h7⟩
theorem start (h : Play w wr (fun _ => False) p lim Ls La v) (hb : Below wr.heap.size wr w') : Play w w' (NewIn wr w') p lim Ls La v := by
  obtain ⟨O, A, us, h1, h2, h3, h4, h5, h6, h7⟩ := h
  refine ⟨O, A, us, h1.below hb, h2.keeps (Keeps.of_below (S := fun _ => False) hb) (fun _ _ => id), fun j hj => ⟨(h3 j hj).1, fun e => by have := h1.2 j hj; have := e.1; omega⟩, fun j hj e => by have := h2.lt j hj; have := e.1; omega, fun j hj => ?_, fun j e => e.2, h7.trans (hb.mono h7.size)⟩
  rcases hj with h | h | h
  · exact h5 j (.inl h)
  · exact h5 j (.inr (.inl h))
  · exact Nat.le_trans h7.size h.1
theorem below (h : Play w wr X p lim Ls La v) (hb : Below wr.heap.size wr w') : Play w w' X p lim Ls La v := by
  obtain ⟨O, A, us, h1, h2, h3, h4, h5, h6, h7⟩ := h
  exact ⟨O, A, us, h1.below hb, h2.keeps (Keeps.of_below (S := fun _ => False) hb) (fun _ _ => id), h3, h4, h5, fun j e => Nat.lt_of_lt_of_le (h6 j e) hb.size, h7.trans (hb.mono h7.size)⟩
theorem wipe (h : Play w wr X p lim Ls La v) {S : Nat → Prop} (k : Keeps S wr w') (hS : ∀ j, S j → X j) : Play w w' X p lim Ls La v := by
  obtain ⟨O, A, us, h1, h2, h3, h4, h5, h6, h7⟩ := h
  exact ⟨O, A, us, ⟨h1.1.keep k (fun j hj e => (h3 j hj).2 (hS j e)), fun j hj => Nat.lt_of_lt_of_le (h1.2 j hj) k.size⟩, h2.keeps k (fun j hj e => h4 j hj (hS j e)), h3, h4, h5, fun j e => Nat.lt_of_lt_of_le (h6 j e) k.size,
    h7.trans (k.below_of h7.size (fun j hj e => by have := h5 j (.inr (.inr (hS j e))); omega))⟩
theorem rd (h : Play w wr X p lim Ls La v) : Rd wr v La := by
  obtain ⟨O, A, us, h1, h2, h3, h4, h5, h6, h7⟩ := h
  have hl : us.length = La.length := by have := h2.row.1; omega
  rcases RowAt.of_owns h2.row with ⟨rfl, he⟩ | ⟨g, off, cap, rfl, hc, hcell⟩
  · have : La = [] := List.eq_nil_of_length_eq_zero (by rw [← hl, he]; rfl)
    subst this
    exact ⟨none, 0, rfl, fun i hi => by simp at hi⟩
  · refine ⟨_, cap, by rw [hl], fun i hi => ?_⟩
    obtain ⟨u, hu1, hu2, _⟩ := h2.at_ i hi
    obtain ⟨ua, uc, rfl, _⟩ := RowAt.shape hu2
    rw [u8s_length] at hu1 hu2
    exact ⟨g, off, ua, uc, rfl, hcell i _ hu1, .inl hu2⟩
theorem begin_ (h : IsStock wr (fun j => w.heap.size ≤ j ∧ j < wr.heap.size) p lim Ls) (hb : Below w.heap.size w wr) : Play w wr (fun _ => False) p lim Ls [] (.slice none 0 0) :=
  ⟨_, fun _ => False, [], ⟨h, fun _ hj => hj.2⟩, ⟨World.ownsRow_nil _ _ _ _, InB.nil _, fun i hi => by simp at hi, fun _ e => e.elim⟩, fun _ _ => ⟨id, id⟩, fun _ e => e.elim, fun j hj => hj.elim (·.1) (fun e => e.elim (fun e => e.elim) (fun e => e.elim)), fun _ e => e.elim, hb⟩
theorem add (h : Play w wr X p lim Ls La v) (u : Value) (b : Bs) (hu : BytesW wr u b) (huX : InB u X) :
    Calls Try.prog 12 #[.pointer (some ⟨p, 0, none⟩), u] wr fun e w' => e = .returned (.tuple #[.int .i64 (addE lim Ls b).1, .int .i64 (addE lim Ls b).2]) ∧ Play w w' X p lim (addT lim Ls b) La v ∧ Keeps (fun j => w.heap.size ≤ j ∧ ¬ X j) wr w' := by
  obtain ⟨O, A, us, h1, h2, h3, h4, h5, h6, h7⟩ := h
  refine (add_o h1 u b hu (fun _ k e hO => (h3 k hO).2 (huX k e))).mono ?_
  rintro e w' ⟨rfl, O', h8, t⟩
  refine ⟨rfl, ⟨O', A, us, h8, h2.keeps t.keeps (fun j hj e => (h3 j e).1 hj), fun j hj => ?_, h4, fun j hj => ?_, fun j e => Nat.lt_of_lt_of_le (h6 j e) t.keeps.size, h7.trans (t.below h7.size (fun j e => h5 j (.inl e)))⟩, t.keeps.mono (fun k _ e => ⟨h5 k (.inl e), (h3 k e).2⟩)⟩
  · rcases t.o j hj with e | e
    · exact h3 j e
    · exact ⟨fun a => by have := h2.lt j a; have := e.1; omega, fun a => by have := h6 j a; have := e.1; omega⟩
  · rcases hj with e | e
    · rcases t.o j e with e | e
      · exact h5 j (.inl e)
      · exact Nat.le_trans h7.size e.1
    · exact h5 j (.inr e)
end Play

/-- Bytes of whatever value, that may be turned. -/
def Junk (w : World) (va : Option Addr) (n : Nat) : Prop := n = 0 ∨ ∃ g off, va = some ⟨g, off, none⟩ ∧ ∀ i, i < n → (∃ x : Int, w.cell? ⟨g, off + i, none⟩ = some (.int .u8 x)) ∧ w.frozen? ⟨g, off + i, none⟩ = false
theorem Junk.set {va : Option Addr} {n : Nat} (h : Junk w va n) (q : Addr) (y : Int) : Junk (w.setCell q (.int .u8 y)) va n := by
  refine h.imp id fun ⟨g, off, h1, h2⟩ => ⟨g, off, h1, fun i hi => ?_⟩
  obtain ⟨⟨x, hx⟩, hf⟩ := h2 i hi
  refine ⟨?_, by rw [World.frozen?_setCell]; exact hf⟩
  by_cases e : q = ⟨g, off + i, none⟩
  · subst e
    exact ⟨y, World.cell?_setCell_same' _ _ _ (by rw [hx]; rfl)⟩
  · exact ⟨x, by rw [World.cell?_setCell_other (h := e)]; exact hx⟩
theorem Junk.of_bytes {va : Option Addr} {n c : Nat} {b : Bs} (h : Bytes w (.slice va n c) b) (hn : n = b.length) (hf : ∀ k i, (Value.slice va n c).ownBlock = some k → w.frozen? ⟨k, i, none⟩ = false) : Junk w va n := by
  rcases h with ⟨h, hb⟩ | ⟨g, off, cap, h, _, hcell⟩
  · cases h; exact .inl rfl
  · simp only [Value.slice.injEq] at h
    obtain ⟨rfl, h2, _⟩ := h
    refine .inr ⟨g, off, rfl, fun i hi => ⟨⟨_, hcell i (u8 b[i]) (by rw [u8s_getElem?, List.getElem?_eq_getElem (by omega)]; rfl)⟩, hf g _ rfl⟩⟩
theorem Junk.kept {va : Option Addr} {n : Nat} (h : Junk w va n) (hk : ∀ k, va.map (·.block) = some k → k < w.heap.size → w'.heap[k]? = w.heap[k]?) : Junk w' va n := by
  refine h.imp id fun ⟨g, off, h1, h2⟩ => ⟨g, off, h1, fun i hi => ?_⟩
  obtain ⟨⟨x, hx⟩, hf⟩ := h2 i hi
  have hb := hk g (by rw [h1]; rfl) (World.block_lt_of_cell? _ _ hx)
  exact ⟨⟨x, (World.cell?_of_block (w := w) hb).trans hx⟩, (World.frozen?_of_block (w := w) hb).trans hf⟩

theorem Play.grow {X : Nat → Prop} (h : Play w wr X p lim Ls La v) : ∃ us, wr.ownsRow 0 28 1 v La.length us ∧ ∀ (W6 W7 : World) (v' u : Value) (b : Bs), Below wr.heap.size wr W6 → Bytes W6 u b → InB u (NewIn wr W6) →
    W7.ownsRow 0 28 1 v' (La.length + 1) (us ++ [u]) → W6.grownBy W7 v.ownBlock → (v'.ownBlock = v.ownBlock ∨ v'.ownBlock = some W6.heap.size) → Play w W7 X p lim Ls (La ++ [b]) v' ∧ Keeps (fun j => w.heap.size ≤ j ∧ ¬ X j) wr W7 := by
  obtain ⟨O, A, us, h1, h2, h3, h4, h5, h6, h7⟩ := h
  refine ⟨us, h2.row, fun W6 W7 v' u b hb hu huB hrow hg hat => ?_⟩
  have hA6 := h2.keeps (Keeps.of_below (S := fun _ => False) hb) (fun _ _ => id)
  have hA7 := hA6.snoc (C := fun k => wr.heap.size ≤ k) hu (fun k e => ⟨(huB k e).1, (huB k e).2, fun e' => by have := h2.lt k (h2.own k e'); have := (huB k e).1; omega⟩) hrow hg hat
  have k67 : Keeps (fun j => v.ownBlock = some j) W6 W7 := Keeps.of_grown hg (fun k e => e)
  have h16 := h1.below hb
  have b67 : Below w.heap.size W6 W7 := k67.below_of (Nat.le_trans h7.size hb.size) (fun k hk e => by have := h5 k (.inr (.inl (h2.own k e))); omega)
  refine ⟨⟨O, _, _, ⟨h16.1.keep k67 (fun j hj e => (h3 j hj).1 (h2.own j e)), fun j hj => Nat.lt_of_lt_of_le (h16.2 j hj) hg.size⟩, hA7, fun j hj => ⟨fun e => ?_, (h3 j hj).2⟩, fun j hj e => ?_, fun j hj => ?_, fun j e => Nat.lt_of_lt_of_le (h6 j e) (Nat.le_trans hb.size hg.size), (h7.trans (hb.mono h7.size)).trans b67⟩, (Keeps.of_below hb).trans' (k67.mono fun k _ e => ⟨h5 k (.inr (.inl (h2.own k e))), h4 k (h2.own k e)⟩)⟩
  · have := h1.2 j hj
    rcases e with e | e | e
    · exact (h3 j hj).1 e
    · have := e.1; omega
    · have := e.1; have := hb.size; omega
  · have := h6 j e
    rcases hj with hj | hj | hj
    · exact h4 j hj e
    · have := hj.1; omega
    · have := hj.1; have := hb.size; omega
  · have := h7.size
    rcases hj with hj | (hj | hj | hj) | hj
    · exact h5 j (.inl hj)
    · exact h5 j (.inr (.inl hj))
    · have := hj.1; omega
    · have := hj.1; have := hb.size; omega
    · exact h5 j (.inr (.inr hj))

/-- 'append(nil, b...)': memory of its own. -/
theorem app_new {W W2 : World} {v' : Value} {b : Bs} (hown : W2.ownsRow W.heap.size 5 1 v' b.length (u8s b)) (hg : W.grownBy W2 none) :
    ∃ va vc, v' = .slice va b.length vc ∧ Bytes W2 (.slice va b.length vc) b ∧ InB (.slice va b.length vc) (NewIn W W2) ∧ (∀ k i, (Value.slice va b.length vc).ownBlock = some k → W2.frozen? ⟨k, i, none⟩ = false) ∧ Below W.heap.size W W2 := by
  have hb : Below W.heap.size W W2 := (Below.refl _ _).grown hg (Nat.le_refl _) (by simp)
  have hr := RowAt.of_owns hown
  rcases owns_shape hown with ⟨rfl, h0⟩ | ⟨g, cap, rfl, hle, hm, hbb, hlt⟩
  · have : b = [] := List.eq_nil_of_length_eq_zero h0
    subst this
    exact ⟨none, 0, rfl, hr, InB.nil _, (fun k i e => by cases e), hb⟩
  · refine ⟨_, cap, rfl, hr, InB.at_ ⟨hbb, hlt⟩, fun k i e => ?_, hb⟩
    rcases hown.2 with ⟨h, _⟩ | ⟨g', cap', cur, h, _, hg', _⟩
    · cases h
    · cases h
      cases e
      exact frozen_of_row W2 _ _ _ _ hg'

theorem add_hasE {b : Bs} (h : b.length ≤ 8192) (hm : b ∈ L) : addE lim L b = (((L.idxOf b : Nat) : Int), 0) ∧ addT lim L b = L ∧ place L b = ((L.idxOf b : Nat) : Int) := by
  have h8 : ¬ 8192 < b.length := by omega
  simp [addE, addT, place, h8, hm]
theorem add_fullE {b : Bs} (h : b.length ≤ 8192) (hm : b ∉ L) (hf : lim < total L + b.length) : addE lim L b = (0, 27) ∧ addT lim L b = L ∧ place L b = -1 := by
  have h8 : ¬ 8192 < b.length := by omega
  simp [addE, addT, place, h8, hm, hf]
theorem add_newE {b : Bs} (h : b.length ≤ 8192) (hm : b ∉ L) (hf : total L + b.length ≤ lim) : addE lim L b = (((L.length : Nat) : Int), 0) ∧ addT lim L b = L ++ [b] ∧ place L b = -1 := by
  have h8 : ¬ 8192 < b.length := by omega
  have hf' : ¬ lim < total L + b.length := by omega
  simp [addE, addT, place, h8, hm, hf']

theorem AllAt.rd {B : Nat} {us : List Value} (h : AllAt wr B v us L) : Rd wr v L := by
  rcases RowAt.of_owns h.row with ⟨rfl, he⟩ | ⟨g, off, cap, rfl, hc, hcell⟩
  · have : L = [] := List.eq_nil_of_length_eq_zero (by rw [← h.len, he]; rfl)
    subst this
    exact ⟨none, 0, rfl, fun i hi => by simp at hi⟩
  · refine ⟨_, cap, by rw [h.len], fun i hi => ?_⟩
    obtain ⟨u, hu1, hu2, _⟩ := h.at_ i hi
    obtain ⟨ua, uc, rfl, _⟩ := RowAt.shape hu2
    rw [u8s_length] at hu1 hu2
    exact ⟨g, off, ua, uc, rfl, hcell i _ hu1, .inl hu2⟩

/-- What All told, its bytes of whatever value; blocks of S. -/
def GotJ (wq : World) (S : Nat → Prop) (ga : Option Addr) (n : Nat) : Prop := ∀ i, i < n → ∃ g ua m uc, ga = some ⟨g, 0, none⟩ ∧ wq.cell? ⟨g, i, none⟩ = some (.slice ua m uc) ∧ Junk wq ua m ∧ m ≤ 8192 ∧ ∀ k, (Value.slice ua m uc).ownBlock = some k → k ≠ g ∧ S k
theorem AllAt.gotJ {B : Nat} {us : List Value} {ga : Option Addr} {n c : Nat} (h : AllAt wr B (.slice ga n c) us L) (hL : ∀ b ∈ L, b.length ≤ 8192) : GotJ wr (fun k => B ≤ k ∧ k < wr.heap.size) ga L.length := by
  intro i hi
  obtain ⟨u, hu1, hu2, hu3, hu4⟩ := h.at_ i hi
  rcases h.row.2 with ⟨h1, h2⟩ | ⟨g, cap, cur, h1, hb, hg, hn, _, hs, ht⟩
  · omega
  · simp only [Value.slice.injEq] at h1
    obtain ⟨rfl, _, _⟩ := h1
    obtain ⟨ua, uc, rfl, _⟩ := RowAt.shape hu2
    rw [u8s_length] at hu1 hu2 hu3 hu4
    refine ⟨g, ua, L[i].length, uc, rfl, ?_, Junk.of_bytes hu2 rfl hu4, hL _ (List.getElem_mem hi), fun k e => ?_⟩
    · rw [cell_of_row wr g i cur _ _ hg]
      rw [← ht] at hu1
      rw [List.getElem?_take] at hu1
      split at hu1
      · simpa using hu1
      · cases hu1
    · obtain ⟨a, b, d⟩ := hu3 k e
      exact ⟨fun e' => d (by rw [e']; rfl), a, b⟩
theorem GotJ.set {wq : World} {S : Nat → Prop} {ga : Option Addr} {n : Nat} (h : GotJ wq S ga n) {g : Nat} (hga : ga = some ⟨g, 0, none⟩) (q : Addr) (hq : q.block ≠ g) (y : Int) : GotJ (wq.setCell q (.int .u8 y)) S ga n := by
  intro i hi
  obtain ⟨g', ua, m, uc, h1, h2, h3, h4, h5⟩ := h i hi
  rw [hga] at h1
  cases h1
  exact ⟨g, ua, m, uc, hga, by rw [World.cell?_setCell_other (h := fun e => hq (by rw [e]))]; exact h2, h3.set q y, h4, h5⟩
end Go.Proofs.Ythkjihfnphdfkaa
