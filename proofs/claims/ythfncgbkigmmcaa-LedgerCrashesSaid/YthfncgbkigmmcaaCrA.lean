/- Rows that are sliced and appended to; ledgers in a family, whatever the power; opened. -/
import Derived.Test.YthfncgbkigmmcaaL31
import Derived.Deep.AppendSrc
import Derived.Deep.CutBlock
namespace Go.Proofs.Ythfncgbkigmmcaa
open Go.RowKit
set_option linter.unusedVariables false

variable {w w' w1 wr : World} {O R S T : Nat → Prop} {B lp p n : Nat} {d D : DS} {dead : Bool} {c : Nat → Bs} {P : Bs → Prop}
/-- a row of one-cell elements that lies in an array of our own, from anywhere on -/
def RowV (w : World) (g : Nat) (v : Value) (e : TypeId) (xs : List Value) : Prop := ∃ off cap cur, v = .slice (some ⟨g, off, none⟩) xs.length cap ∧ xs.length ≤ cap ∧ w.heap[g]? = some (.cells cur e (0, 0)) ∧ off + cap ≤ cur.size ∧ ∀ j (h : j < xs.length), cur[off + j]? = some xs[j]
theorem RowV.kept {g : Nat} {v : Value} {e : TypeId} {xs : List Value} {K : Nat → Prop} (h : RowV w g v e xs) (k : Keeps K w w') (hg : ¬ K g) : RowV w' g v e xs := by
  obtain ⟨off, cap, cur, h1, h2, h3, h4⟩ := h
  exact ⟨off, cap, cur, h1, h2, (k.block g (Array.getElem?_eq_some_iff.1 h3).1 hg).trans h3, h4⟩
theorem RowV.lt {g : Nat} {v : Value} {e : TypeId} {xs : List Value} (h : RowV w g v e xs) : g < w.heap.size := by
  obtain ⟨off, cap, cur, h1, h2, h3, h4⟩ := h
  exact (Array.getElem?_eq_some_iff.1 h3).1
theorem run_append_rowV {P : Program} (t ty e : TypeId) (i : TypeInfo) (z : Value) (ht : P.underlying t = some (.slice e)) (hi : P.info? e = some i) (hz : i.zero = some z) (hsize : i.size = 1) (hby : i.bytes = 24) (hzs : z.cells.size = 1)
    {g : Nat} {v : Value} {xs : List Value} {x : Value} (h : RowV w g v e xs) (ad : Addr) (c : Nat) (hx : w.cell? ad = some x) (h1 : x.oneCell' = true) (hlen : xs.length ≤ 1000000) :
    ∃ v' w' g', (Builtin.append_ #[t, t] ty #[v, .slice (some ad) 1 c]).run P w = .ok v' w' ∧ RowV w' g' v' e (xs ++ [x]) ∧ Keeps (fun j => j = g) w w' ∧ (g' = g ∨ g' = w.heap.size) := by
  obtain ⟨off, cap, cur, rfl, hle, hg, hfit, hcs⟩ := h
  have hs : Src P i.size t (.slice (some ad) 1 c) 1 [x] w := Src.ofSlice w ht ad 1 c [x] (by rw [hsize]; rfl) (fun j u hj => by
    have : j = 0 := by
      have := (List.getElem?_eq_some_iff.1 hj).1
      simpa using this
    subst this
    simp at hj
    subst hj
    have : ad.add 0 = ad := by simp [Addr.add]
    rw [this]
    exact hx) (fun u hu => by rw [List.mem_singleton] at hu; subst hu; exact h1)
  by_cases hroom : xs.length + 1 ≤ cap
  · have hr := run_append_room_src (P := P) w t t ty e i ht hi g off xs.length cap _ 1 [x] hs hroom (fun j hj => by
      rw [cell_of_row _ _ _ _ _ _ hg, hsize]
      have : j = 0 := by simpa using hj
      subst this
      have hlt : off + xs.length * 1 + 0 < cur.size := by omega
      rw [Array.getElem?_eq_getElem hlt]
      rfl) (fun j hj => frozen_of_row _ _ _ _ _ hg)
    have e1 : w.setCells g (off + xs.length * i.size) [x] = w.setCell ⟨g, off + xs.length, none⟩ x := by rw [hsize, Nat.mul_one]; rfl
    rw [e1] at hr
    refine ⟨_, _, g, hr, ⟨off, cap, cur.setIfInBounds (off + xs.length) x, by rw [List.length_append]; rfl, by simpa using hroom, heap_setCell_same w g _ cur e x hg, by simpa using hfit, fun j hj => ?_⟩, (Keeps.refl _ _).setCell _ _ (.inl rfl), .inl rfl⟩
    by_cases hj2 : j < xs.length
    · rw [Array.getElem?_setIfInBounds_ne (by omega), List.getElem_append_left hj2]
      exact hcs j hj2
    · have hje : j = xs.length := by simp at hj; omega
      subst hje
      rw [Array.getElem?_setIfInBounds_self_of_lt (by omega)]
      simp
  · have hold : (Builtin.firstCells i.size xs.length (.slice (some ⟨g, off, none⟩) xs.length cap)).run P w.drew = .ok xs.toArray w.drew := by
      refine run_firstCells_some w.drew i.size xs.length ⟨g, off, none⟩ xs.length cap xs (by rw [hsize]; simp) (fun j u hj => ?_)
      rw [addr_add]
      have hjl := (List.getElem?_eq_some_iff.1 hj).1
      have hju := (List.getElem?_eq_some_iff.1 hj).2
      have hg2 : w.drew.heap[g]? = some (.cells cur e (0, 0)) := hg
      rw [cell_of_row _ _ _ _ _ _ hg2, hcs j hjl, hju]
    have hr := run_append_grow_src (P := P) w t t ty e i z ht hi hz (some ⟨g, off, none⟩) xs.length cap xs hold _ 1 [x] hs (by omega) (by omega) (by
      have := nextslicecap_le (need := xs.length + 1) (old := cap) (by omega)
      rw [hby]
      omega)
    have hge := grownCap_ge w (xs.length + 1) cap e
    refine ⟨_, _, w.heap.size, hr, ⟨0, grownCap w (xs.length + 1) cap e, _, by rw [List.length_append]; rfl, by simpa using hge, heap_alloc_new w.drew _, ?_, fun j hj => ?_⟩, ((Keeps.refl _ _).drew).alloc _, .inr rfl⟩
    · simp only [Array.size_append, List.size_toArray, List.length_append, List.length_singleton, size_zeroCells, hzs]
      omega
    · rw [Nat.zero_add, Array.getElem?_append_left (by simpa using hj), List.getElem?_toArray, List.getElem?_eq_getElem hj]
theorem wpList_append_rowV {P : Program} {w : World} {ops : Array Oper} {rest : List Oper} {o : Oper} {a : Act} {Q : Exit → Act → World → Prop} (hgd : o.guard = none) (s x : Operand) (t : TypeId)
    (ho : o.op = .call { callee := .builtin .append, args := #[s, x], argTypes := #[t, t] })
    (e : TypeId) (i : TypeInfo) (z : Value) (ht : P.underlying t = some (.slice e)) (hi : P.info? e = some i) (hz : i.zero = some z) (hsize : i.size = 1) (hby : i.bytes = 24) (hzs : z.cells.size = 1)
    (g : Nat) (v : Value) (xs : List Value) (hs : a.eval s = v) (hrow : RowV w g v e xs) (ad : Addr) (c : Nat) (hxv : a.eval x = .slice (some ad) 1 c) (u : Value) (hx : w.cell? ad = some u) (h1 : u.oneCell' = true) (hlen : xs.length ≤ 1000000)
    (h : ∀ v' w' g', RowV w' g' v' e (xs ++ [u]) → Keeps (fun j => j = g) w w' → (g' = g ∨ g' = w.heap.size) → wpList P ops Q rest (a.put o.dst v') w') : wpList P ops Q (o :: rest) a w := by
  refine wpList_plain hgd fun K hK => ?_
  obtain ⟨v', w', g', hr, h2, h3, h4⟩ := run_append_rowV (P := P) t o.type e i z ht hi hz hsize hby hzs hrow ad c hx h1 hlen
  unfold Oper.wp execOp
  simp only [ho, resolve, invoke, builtin, Sem.run_bind, Sem.run_pure, Result.andThen_ok, List.map_toArray, List.map_cons, List.map_nil, hs, hxv, hr]
  exact hK _ _ (h v' w' g' h2 h3 h4)

/-- a call turns one ledger: its blocks, and what has come since -/
def Since (w w' : World) (T T' : Nat → Prop) : Prop := (∀ j, T' j → j < w'.heap.size) ∧ (∀ j, T' j → T j ∨ w.heap.size ≤ j) ∧ Keeps T w w'
theorem up_since (w : World) (T : Nat → Prop) : Up w (fun j => T j ∨ w.heap.size ≤ j) := fun j hj => .inr hj
theorem since_of {T : Nat → Prop} (k : Keeps (fun j => T j ∨ w.heap.size ≤ j) w w') : Since w w' T (fun j => (T j ∨ w.heap.size ≤ j) ∧ j < w'.heap.size) :=
  ⟨fun j h => h.2, fun j h => h.1, k.mono (fun j hj h => h.elim id (fun h => by omega))⟩
theorem Since.not {T' : Nat → Prop} (s : Since w w' T T') {j : Nat} (hj : j < w.heap.size) (h : ¬ T j) : ¬ T' j := fun e => (s.2.1 j e).elim h (fun e => by omega)
theorem runL_dark : ∀ (L : List LOp) (d : DS), (runL L d).2 = false → (runL L d).1.off = true
  | [], d, h => by cases h
  | o :: r, d, h => by
    rw [runL] at h ⊢
    split at h
    · rename_i h2
      rw [if_pos h2]
      exact h2
    · rename_i h2
      rw [if_neg h2]
      exact runL_dark r _ h
/-- a ledger that is dead: so is the disk -/
def DarkS (w : World) (S : Nat → Prop) (p n : Nat) (P : Bs → Prop) : Prop := ∃ D, DiskS w S p D ∧ Cr n P D ∧ D.off = true
theorem DarkS.crS (h : DarkS w S p n P) : CrS w S p n P := let ⟨D, h1, h2, _⟩ := h; ⟨D, h1, h2⟩
theorem DarkS.below (h : DarkS w S p n P) (hb : Below w.heap.size w w') : DarkS w' S p n P := let ⟨D, h1, h2⟩ := h; ⟨D, h1.below hb, h2⟩
theorem DarkS.keep {K : Nat → Prop} (h : DarkS w S p n P) (k : Keeps K w w') (hK : ∀ j, j < w.heap.size → S j → ¬ K j) : DarkS w' S p n P := let ⟨D, h1, h2⟩ := h; ⟨D, h1.keep k hK, h2⟩
theorem DarkS.mono {P' : Bs → Prop} (h : DarkS w S p n P) (e : ∀ I, P I → P' I) : DarkS w S p n P' := let ⟨D, h1, h2, h3⟩ := h; ⟨D, h1, h2.mono e, h3⟩
theorem CrS.below (h : CrS w S p n P) (hb : Below w.heap.size w w') : CrS w' S p n P := let ⟨D, h1, h2⟩ := h; ⟨D, h1.below hb, h2⟩
theorem CrS.sub (h : CrS w S p n P) (hs : ∀ j, j < w.heap.size → S j → T j) : CrS w T p n P := let ⟨D, h1, h2⟩ := h; ⟨D, h1.sub hs, h2⟩
/-- a commit: done, or the power has failed -/
theorem commit_fo {w3 : World} (h : QO w T lp p n c) (hb : Below w.heap.size w w3) (ps : List (Nat × Bs)) (v : Value) (hp : PutsF w3 (fun j => j < w.heap.size) v ps) (hok : PutOk n ps) :
    Calls Try.prog 15 #[.pointer (some ⟨lp, 0, none⟩), v] w3 fun e w2 => ∃ T', Since w w2 T T' ∧ ((e = .returned (.int .i64 0) ∧ AS w2 T' lp p n (putC c ps)) ∨ (e = .returned (.int .i64 11) ∧ DarkS w2 T' p n (fun I => Has n c I ∨ Has n (putC c ps) I))) := by
  obtain ⟨D, h1, h2, ho, h3⟩ := h
  have hn2 := h1.n2
  rw [h2.n] at hn2
  have hlf := comm_left (ps := ps) h2 h3 hok.2.1
  have h1' : LedS w (fun j => T j ∨ w.heap.size ≤ j) lp p D false := h1.sub (fun j _ h => .inl h)
  have hdark := runL_dark (commOps ps) D
  refine (commit_s h1' (Keeps.of_below (S := fun _ => False) hb) (fun _ _ _ e => e) (up_since w T) ps v hp (by rw [h2.n]; exact hok) (h2.room h3 (by omega))).mono ?_
  rintro e w2 ⟨hh, hb2⟩
  have hk : Keeps (fun j => T j ∨ w.heap.size ≤ j) w w2 := (Keeps.of_below hb).trans' hb2
  refine ⟨_, since_of hk, ?_⟩
  rcases hh with ⟨q1, q2, q3⟩ | ⟨q1, q2, q3⟩
  · rcases comm_done h2 hn2 hok with ⟨D', e1, _⟩ | ⟨D', e1, e2⟩
    · rw [e1] at q1
      cases q1
    · rw [e1] at q3 hlf
      exact .inl ⟨q2, D', q3.sub (fun j hj h => ⟨h, hj⟩), e2, hlf⟩
  · rcases comm_done h2 hn2 hok with ⟨D', e1, e2⟩ | ⟨D', e1, _⟩
    · rw [e1] at q3 hdark
      exact .inr ⟨q2, D', q3.disk.sub (fun j hj h => ⟨h, hj⟩), e2, hdark rfl⟩
    · rw [e1] at q1
      cases q1
theorem sync_fo (h : QO w T lp p n c) (hn : 97 ≤ n) : Calls Try.prog 21 #[.pointer (some ⟨lp, 0, none⟩)] w fun e w' => e = .returned (.int .i64 0) ∧ QO w' T lp p n c ∧ Below w.heap.size w w' := by
  obtain ⟨D, h1, h2, h3, h4⟩ := h
  have h0 := h1
  obtain ⟨O, R, h5, h6⟩ := h1
  exact (sync_ok h5 h3 (by rw [h2.n]; omega)).mono fun e w2 ⟨q1, hb⟩ => ⟨q1, ⟨D, h0.below hb, h2, h3, h4⟩, hb⟩
theorem fuse_fo (h : QO w T lp p n c) (s : Int) (hs : -1 ≤ s) (hs2 : s ≤ 9223372036854775807) : Calls Try.prog 19 #[.pointer (some ⟨p, 0, none⟩), .int .i64 s] w fun e w' => e = .returned (.int .i64 0) ∧ ∃ T', Since w w' T T' ∧ AS w' T' lp p n c := by
  have h' : QO w (fun j => T j ∨ w.heap.size ≤ j) lp p n c := h.sub (fun j _ h => .inl h)
  refine (fuse_qo h' (up_since w T) s hs hs2).mono ?_
  rintro e w' ⟨q1, q2, q3⟩
  exact ⟨q1, _, since_of q3, q2.sub (fun j hj h => ⟨h, hj⟩)⟩
theorem on_s (h : DiskS w S p d) : Calls Try.prog 35 #[.pointer (some ⟨p, 0, none⟩)] w fun e w' => e = .returned (.bool !d.off) ∧ w' = w := by
  obtain ⟨O, R, ⟨⟨gn, gf, vb, vs, hda⟩, _⟩, _⟩ := h
  exact (on_any hda).mono fun e w' ⟨q1, q2⟩ => ⟨q1, q2.symm⟩
/-- is there power? -/
theorem on_as (h : AS w T lp p n c) : Calls Try.prog 35 #[.pointer (some ⟨p, 0, none⟩)] w fun e w' => (∃ b : Bool, e = .returned (.bool b) ∧ (b = true → QO w T lp p n c)) ∧ w' = w := by
  obtain ⟨D, h1, h2, h3⟩ := h
  refine (on_s h1.disk).mono ?_
  rintro e w' ⟨rfl, rfl⟩
  exact ⟨⟨_, rfl, fun e => ⟨D, h1, h2, by simpa using e, h3⟩⟩, rfl⟩
theorem on_dark (h : DarkS w T p n P) : Calls Try.prog 35 #[.pointer (some ⟨p, 0, none⟩)] w fun e w' => e = .returned (.bool false) ∧ w' = w := by
  obtain ⟨D, h1, h2, h3⟩ := h
  refine (on_s h1).mono ?_
  rintro e w' ⟨rfl, rfl⟩
  rw [h3]
  exact ⟨rfl, rfl⟩
end Go.Proofs.Ythfncgbkigmmcaa
