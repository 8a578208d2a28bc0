/- Rows of puts that are put together here. -/
import Derived.Test.YthfncgbkigmmcaaL25
namespace Go.Proofs.Ythfncgbkigmmcaa
open Go.RowKit

variable {w w' w1 wr : World} {B lp p n : Nat} {d D : DS} {dead : Bool} {c : Nat → Bs}
def putV : List (Nat × Bs) → List Nat → List Value
  | (a, _) :: r, g :: gs => .int .i64 (a : Int) :: .slice (some ⟨g, 0, none⟩) 512 512 :: putV r gs
  | _, _ => []
theorem putV_snoc : ∀ (ps : List (Nat × Bs)) (gs : List Nat) (a : Nat) (x : Bs) (g : Nat), gs.length = ps.length → putV (ps ++ [(a, x)]) (gs ++ [g]) = putV ps gs ++ [.int .i64 (a : Int), .slice (some ⟨g, 0, none⟩) 512 512]
  | [], [], a, x, g, _ => rfl
  | (b, y) :: r, h :: gs, a, x, g, e => by
    rw [List.cons_append, List.cons_append, putV, putV_snoc r gs a x g (by simpa using e), putV]
    rfl
  | [], _ :: _, _, _, _, e => by cases e
  | _ :: _, [], _, _, _, e => by cases e
theorem putV_at : ∀ (ps : List (Nat × Bs)) (gs : List Nat) (k : Nat) (hk : k < ps.length) (hg : k < gs.length), (putV ps gs)[2 * k]? = some (.int .i64 (ps[k].1 : Int)) ∧ (putV ps gs)[2 * k + 1]? = some (.slice (some ⟨gs[k], 0, none⟩) 512 512)
  | (b, y) :: r, h :: gs, 0, _, _ => ⟨rfl, rfl⟩
  | (b, y) :: r, h :: gs, k + 1, hk, hg => by
    have := putV_at r gs k (by simpa using hk) (by simpa using hg)
    rw [show 2 * (k + 1) = 2 * k + 1 + 1 by omega]
    simpa [putV] using this
/-- puts that lie in blocks beyond B, the row's own among them -/
def PutsB (w : World) (B : Nat) (v : Value) (ps : List (Nat × Bs)) : Prop := ∃ gs : List Nat, gs.length = ps.length ∧ w.ownsRow B 26 2 v ps.length (putV ps gs) ∧
  ∀ k (hk : k < ps.length) (hg : k < gs.length), B ≤ gs[k] ∧ v.ownBlock ≠ some gs[k] ∧ Bytes w (.slice (some ⟨gs[k], 0, none⟩) 512 512) ps[k].2
theorem PutsB.nil (w : World) (B : Nat) : PutsB w B (.slice none 0 0) [] := ⟨[], rfl, World.ownsRow_nil _ _ _ _, fun k hk => by cases hk⟩
theorem PutsB.below {v : Value} {ps : List (Nat × Bs)} (h : PutsB w B v ps) (hb : Below w.heap.size w w') : PutsB w' B v ps := by
  obtain ⟨gs, h1, h2, h3⟩ := h
  refine ⟨gs, h1, owns_below h2 hb, fun k hk hg => ?_⟩
  obtain ⟨a, b, x⟩ := h3 k hk hg
  exact ⟨a, b, RowAt.below x hb (Nat.le_refl _)⟩
theorem PutsB.add {v v2 : Value} {ps : List (Nat × Bs)} {gs : List Nat} {w4 : World} {g0 a : Nat} {x : Bs} (hl : gs.length = ps.length) (h3 : ∀ k (hk : k < ps.length) (hg : k < gs.length), B ≤ gs[k] ∧ v.ownBlock ≠ some gs[k] ∧ Bytes w (.slice (some ⟨gs[k], 0, none⟩) 512 512) ps[k].2)
    (hok : ∀ y ∈ ps, y.2.length = 512) (hv : ∀ j, v.ownBlock = some j → j < w.heap.size) (hb : Below w.heap.size w w1) (hB : B ≤ w.heap.size) (hg0 : w.heap.size ≤ g0) (hx : Bytes w1 (.slice (some ⟨g0, 0, none⟩) 512 512) x) (hxl : x.length = 512)
    (hown : w4.ownsRow B 26 2 v2 (ps.length + 1) (putV ps gs ++ [.int .i64 (a : Int), .slice (some ⟨g0, 0, none⟩) 512 512])) (hgrow : w1.grownBy w4 v.ownBlock) (hat : v2.ownBlock = v.ownBlock ∨ v2.ownBlock = some w1.heap.size) :
    PutsB w4 B v2 (ps ++ [(a, x)]) := by
  have hlt0 : g0 < w1.heap.size := World.block_lt_of_cell? _ _ (bytes_cell hx (k := 0) (by omega))
  have hkp : Keeps (fun j => v.ownBlock = some j) w1 w4 := (Keeps.refl _ w1).grown hgrow fun j e => .inl e
  have hkeep : ∀ {g : Nat} {y : Bs}, y.length = 512 → v.ownBlock ≠ some g → Bytes w1 (.slice (some ⟨g, 0, none⟩) 512 512) y → Bytes w4 (.slice (some ⟨g, 0, none⟩) 512 512) y := fun {g y} hy hne hh => by
    exact RowAt.keeps hh hkp (fun k e => by cases e; exact hne)
  refine ⟨gs ++ [g0], by simp [hl], ?_, fun k hk hg => ?_⟩
  · rw [putV_snoc _ _ _ _ _ hl, List.length_append, List.length_singleton]
    exact hown
  · by_cases hlt : k < ps.length
    · obtain ⟨q1, q2, q3⟩ := h3 k hlt (by omega)
      rw [List.getElem_append_left (by omega), List.getElem_append_left hlt]
      have hgl : gs[k] < w.heap.size := World.block_lt_of_cell? _ _ (bytes_cell q3 (k := 0) (by rw [hok _ (List.getElem_mem hlt)]; omega))
      refine ⟨q1, fun e => ?_, hkeep (hok _ (List.getElem_mem hlt)) q2 (RowAt.below q3 hb (Nat.le_refl _))⟩
      rcases hat with h | h
      · exact q2 (h ▸ e)
      · rw [h] at e
        have := Option.some.inj e
        have := hb.size
        omega
    · obtain rfl : k = ps.length := by simp at hk; omega
      rw [List.getElem_append_right (by omega), List.getElem_append_right (Nat.le_refl _)]
      simp only [hl, Nat.sub_self, List.getElem_singleton]
      have hne : v.ownBlock ≠ some g0 := fun e => by have := hv g0 e; omega
      refine ⟨by omega, fun e => ?_, hkeep hxl hne hx⟩
      rcases hat with h | h
      · exact hne (h ▸ e)
      · rw [h] at e
        have := Option.some.inj e
        omega
theorem PutsB.puts {v : Value} {ps : List (Nat × Bs)} (h : PutsB w B v ps) : PutsF w (fun j => j < B) v ps := by
  obtain ⟨gs, h1, h2, h3⟩ := h
  obtain ⟨a, cap, rfl⟩ := row_len h2
  refine ⟨a, cap, rfl, fun k hk => ?_⟩
  obtain ⟨q1, q2, q3⟩ := h3 k hk (by omega)
  obtain ⟨e1, e2⟩ := putV_at ps gs k hk (by omega)
  rcases owns_shape h2 with ⟨e, h0⟩ | ⟨g, cap2, e, _⟩
  · omega
  · cases e
    have hc := h2.cells (g := g) rfl
    have c1 := hc _ _ e1
    have c2 := hc _ _ e2
    rw [addr_add, Nat.zero_add] at c1 c2
    exact ⟨g, 0, gs[k], 0, 512, rfl, fun e => by have := (h2.lt g rfl).1; omega, by rw [show 0 + k * 2 = 2 * k by omega]; exact c1, by rw [show 0 + k * 2 + 1 = 2 * k + 1 by omega]; exact c2, fun e => by omega, q3⟩
theorem infoPut : (Try.prog.info? 26).map (fun i => (i.zero, i.size, i.bytes)) = some (some (.agg #[.int .i64 0, .slice none 0 0]), 2, 32) := by kernel_rfl
end Go.Proofs.Ythfncgbkigmmcaa
namespace Go.Proofs.Ythfncgbkigmmcaa
open Go.RowKit

variable {w w' w1 wr : World} {B lp p n : Nat} {d D : DS} {dead : Bool} {c : Nat → Bs} {P : Bs → Prop}
theorem IntsAt.below {ka : Option Addr} {kn : Nat} {ks : Nat → Int} (h : IntsAt w ka kn ks) (hb : Below w.heap.size w w') : IntsAt w' ka kn ks :=
  ⟨h.1, h.2.imp id (fun ⟨g, off, h1, h2⟩ => ⟨g, off, h1, fun i hi => (hb.cell (p := ⟨g, off + i, none⟩) (World.block_lt_of_cell? _ _ (h2 i hi))).trans (h2 i hi)⟩)⟩
theorem ints_of_row {w : World} {a : Option Addr} {len cap : Nat} {zs : List Int} (h : RowIn .i64 w a len cap zs) (hl : len ≤ 1000000000000) : IntsAt w a len (fun i => zs.getD i 0) ∧ ∀ x, a = some x → 0 < len → x.block < w.heap.size := by
  rcases h with ⟨rfl, rfl, rfl, rfl⟩ | ⟨x, rfl, hs, hlc, hm, hz, hcell, hwf⟩
  · exact ⟨⟨hl, .inl rfl⟩, fun x hx => by cases hx⟩
  · obtain ⟨xb, xo, xs⟩ := x
    simp only at hs
    subst hs
    have hc : ∀ i, i < len → w.cell? ⟨xb, xo + i, none⟩ = some (.int .i64 (zs.getD i 0)) := fun i hi => by
      have := hcell i (by omega)
      rw [addr_add] at this
      exact this
    refine ⟨⟨hl, .inr ⟨xb, xo, rfl, hc⟩⟩, fun y hy h0 => ?_⟩
    cases hy
    exact World.block_lt_of_cell? _ _ (hc 0 h0)
/-- it lives: what it has is c -/
def LA (w : World) (B lp p n : Nat) (c : Nat → Bs) : Prop := ∃ D, LedIn w B lp p D false ∧ Quiet n c D ∧ D.left ≤ 9223372036854775807
/-- it is dead: a crash leaves an image that P tells -/
def LD (w : World) (B lp p n : Nat) (P : Bs → Prop) : Prop := ∃ D, LedIn w B lp p D true ∧ Cr n P D
def CrIn (w : World) (B p n : Nat) (P : Bs → Prop) : Prop := ∃ D, DiskIn w B p D ∧ Cr n P D
def Has (n : Nat) (c : Nat → Bs) (I : Bs) : Prop := ∃ l, Img n I l c
theorem LA.below (h : LA w B lp p n c) (hb : Below w.heap.size w w') : LA w' B lp p n c := let ⟨D, h1, h2⟩ := h; ⟨D, h1.below hb, h2⟩
theorem LD.below (h : LD w B lp p n P) (hb : Below w.heap.size w w') : LD w' B lp p n P := let ⟨D, h1, h2⟩ := h; ⟨D, h1.below hb, h2⟩
theorem LA.ext {c' : Nat → Bs} (h : LA w B lp p n c) (e : ∀ j, j + 96 < n → c j = c' j) : LA w B lp p n c' := let ⟨D, h1, h2, h3⟩ := h; ⟨D, h1, h2.ext e, h3⟩
theorem Img.ext {I : Bs} {l : List Nat} {c' : Nat → Bs} (h : Img n I l c) (e : ∀ j, j + 96 < n → c j = c' j) : Img n I l c' := ⟨h.len, h.way, h.fit, fun j hj => (h.at_ j hj).trans (e j hj)⟩
theorem Has.ext {I : Bs} {c' : Nat → Bs} (h : Has n c I) (e : ∀ j, j + 96 < n → c j = c' j) : Has n c' I := let ⟨l, h⟩ := h; ⟨l, h.ext e⟩
theorem LD.mono {P' : Bs → Prop} (h : LD w B lp p n P) (e : ∀ I, P I → P' I) : LD w B lp p n P' := let ⟨D, h1, h2⟩ := h; ⟨D, h1, h2.mono e⟩
theorem LA.crIn (h : LA w B lp p n c) : CrIn w B p n (Has n c) := let ⟨D, h1, h2, _⟩ := h; ⟨D, h1.disk, h2.cr⟩
theorem LD.crIn (h : LD w B lp p n P) : CrIn w B p n P := let ⟨D, h1, h2⟩ := h; ⟨D, h1.disk, h2⟩
theorem CrIn.mono {P' : Bs → Prop} (h : CrIn w B p n P) (e : ∀ I, P I → P' I) : CrIn w B p n P' := let ⟨D, h1, h2⟩ := h; ⟨D, h1, h2.mono e⟩
theorem CrIn.below (h : CrIn w B p n P) (hb : Below w.heap.size w w') : CrIn w' B p n P := let ⟨D, h1, h2⟩ := h; ⟨D, h1.below hb, h2⟩
theorem QL.la (h : QL w B lp p n c) : LA w B lp p n c := let ⟨D, h1, h2, h3⟩ := h; ⟨D, h1, h2, by have := h3.2; omega⟩
theorem commit_la (h : LA w B lp p n c) (hb : Below w.heap.size w w') (hB : B ≤ w.heap.size) (ps : List (Nat × Bs)) (v : Value) (hp : PutsF w' (fun j => j < w.heap.size) v ps) (hok : PutOk n ps) :
    Calls Try.prog 15 #[.pointer (some ⟨lp, 0, none⟩), v] w' fun e w2 => ((e = .returned (.int .i64 0) ∧ LA w2 B lp p n (putC c ps)) ∨ (e = .returned (.int .i64 11) ∧ LD w2 B lp p n (fun I => Has n c I ∨ Has n (putC c ps) I))) ∧ Below B w' w2 := by
  obtain ⟨D, h1, h2, h3⟩ := h
  have hn2 := h1.n2
  rw [h2.n] at hn2
  refine (commit_in h1 hb hB ps v hp (by rw [h2.n]; exact hok) (h2.room h3 (by omega))).mono ?_
  have hl := comm_left h2 h3 hok.2.1
  rintro e w2 ⟨⟨q1, q2, q3⟩ | ⟨q1, q2, q3⟩, hb2⟩
  · rcases comm_done h2 hn2 hok with ⟨D', e1, _⟩ | ⟨D', e1, e2⟩
    · rw [e1] at q1
      cases q1
    · rw [e1] at q3 hl
      exact ⟨.inl ⟨q2, D', q3, e2, hl⟩, hb2⟩
  · rcases comm_done h2 hn2 hok with ⟨D', e1, e2⟩ | ⟨D', e1, e2⟩
    · rw [e1] at q3
      exact ⟨.inr ⟨q2, D', q3, e2⟩, hb2⟩
    · rw [e1] at q1
      cases q1
theorem commit_ld (h : LD w B lp p n P) (hb : Below w.heap.size w w') (hB : B ≤ w.heap.size) (ps : List (Nat × Bs)) (v : Value) (hp : PutsF w' (fun j => j < w.heap.size) v ps) (hok : PutOk n ps) :
    Calls Try.prog 15 #[.pointer (some ⟨lp, 0, none⟩), v] w' fun e w2 => (e = .returned (.int .i64 11) ∧ LD w2 B lp p n P) ∧ Below B w' w2 := by
  obtain ⟨D, h1, h2⟩ := h
  have hn2 := h1.n2
  obtain ⟨O, R, h3, h4⟩ := h1
  refine (commit_dead (h3.below hb) ps v (hp.weaken (fun j hj => h3.lt j hj)) (by rw [h2.hn]; exact hok) hn2).mono ?_
  rintro e w2 ⟨q1, O', R', q3, q4⟩
  have := LedIn.of_turned h4 (Nat.le_trans hB hb.size) q3 q4
  exact ⟨⟨q1, D, this.1, h2⟩, this.2⟩
/-- what a crash leaves -/
def Left (w : World) (B p n : Nat) (P : Bs → Prop) : Prop := ∃ I D, DiskIn w B p D ∧ Rest n I D ∧ P I ∧ Live D
theorem crash_cr (h : CrIn w B p n P) (hB : B ≤ w.heap.size) (ka : Option Addr) (kn kcap : Nat) (ks : Nat → Int) (hkeep : IntsAt w ka kn ks) (hka : ∀ x, ka = some x → 0 < kn → x.block < B) :
    Calls Try.prog 20 #[.pointer (some ⟨p, 0, none⟩), .slice ka kn kcap] w fun e w' => (∃ v, e = .returned v) ∧ Left w' B p n P ∧ Below B w w' := by
  obtain ⟨D, h1, h2⟩ := h
  refine (crash_in h1 hB ka kn kcap ks hkeep hka).mono ?_
  rintro e w' ⟨hv, h3, h4⟩
  obtain ⟨I, q1, q2, q3, q4⟩ := h2.crash (keepB kn ks)
  exact ⟨hv, ⟨I, _, h3, q1, q2, q3, by rw [q4]; decide⟩, h4⟩
theorem Left.mono {P' : Bs → Prop} (h : Left w B p n P) (e : ∀ I, P I → P' I) : Left w B p n P' := let ⟨I, D, h1, h2, h3, h4⟩ := h; ⟨I, D, h1, h2, e I h3, h4⟩
theorem open_left (h : Left w B p n P) (hB : B ≤ w.heap.size) (hn : 97 ≤ n) {C : (Nat → Bs) → Prop} (hP : ∀ I, P I → ∃ c, C c ∧ Has n c I) :
    Calls Try.prog 24 #[.pointer (some ⟨p, 0, none⟩)] w fun e w' => ∃ lp c, e = .returned (.tuple #[.pointer (some ⟨lp, 0, none⟩), .int .i64 0]) ∧ C c ∧ QL w' B lp p n c ∧ Below B w w' := by
  obtain ⟨I, D, h1, h2, h3, h4⟩ := h
  obtain ⟨c, hc, l, hi⟩ := hP I h3
  refine (open_in h1 hB h2 hi hn h4.1 (by have := h4.2; omega)).mono ?_
  rintro e w' ⟨⟨lp, D', q1, q2, q3, q4, q5⟩ | ⟨D', _, _, _, q5⟩, hb⟩
  · exact ⟨lp, c, q1, hc, ⟨D', q2, q3, q5 h4⟩, hb⟩
  · exact absurd h4 q5
end Go.Proofs.Ythfncgbkigmmcaa
