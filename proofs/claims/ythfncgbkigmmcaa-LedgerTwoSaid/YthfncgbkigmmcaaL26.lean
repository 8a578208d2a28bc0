/- Rows of puts that are put together here. -/
import Derived.Test.YthfncgbkigmmcaaL25
namespace Go.Proofs.Ythfncgbkigmmcaa
open Go.RowKit

variable {w w' w1 wr : World} {B lp p n : Nat} {d D : DS} {dead : Bool} {c : Nat → Bs}
def putV : List (Nat × Bs) → List Nat → List Value
  | (a, _) :: r, g :: gs => .int .i64 (a : Int) :: .slice (some ⟨g, 0, none⟩) 512 512 :: putV r gs
  | _, _ => []
theorem putV_snoc : ∀ (ps : List (Nat × Bs)) (gs : List Nat) (a : Nat) (x : Bs) (g : Nat), gs.length = ps.length → putV (ps ++ [(a, x)]) (gs ++ [g]) = putV ps gs ++ [.int .i64 (a : Int), .slice (some ⟨g, 0, none⟩) 512 512]
  | [], [], a, x, g, _ => rfl
  | (b, y) :: r, h :: gs, a, x, g, e => by
    rw [List.cons_append, List.cons_append, putV, putV_snoc r gs a x g (by simpa using e), putV]
    rfl
  | [], _ :: _, _, _, _, e => by cases e
  | _ :: _, [], _, _, _, e => by cases e
theorem putV_at : ∀ (ps : List (Nat × Bs)) (gs : List Nat) (k : Nat) (hk : k < ps.length) (hg : k < gs.length), (putV ps gs)[2 * k]? = some (.int .i64 (ps[k].1 : Int)) ∧ (putV ps gs)[2 * k + 1]? = some (.slice (some ⟨gs[k], 0, none⟩) 512 512)
  | (b, y) :: r, h :: gs, 0, _, _ => ⟨rfl, rfl⟩
  | (b, y) :: r, h :: gs, k + 1, hk, hg => by
    have := putV_at r gs k (by simpa using hk) (by simpa using hg)
    rw [show 2 * (k + 1) = 2 * k + 1 + 1 by omega]
    simpa [putV] using this
/-- puts that lie in blocks beyond B, the row's own among them -/
def PutsB (w : World) (B : Nat) (v : Value) (ps : List (Nat × Bs)) : Prop := ∃ gs : List Nat, gs.length = ps.length ∧ w.ownsRow B 26 2 v ps.length (putV ps gs) ∧
  ∀ k (hk : k < ps.length) (hg : k < gs.length), B ≤ gs[k] ∧ v.ownBlock ≠ some gs[k] ∧ Bytes w (.slice (some ⟨gs[k], 0, none⟩) 512 512) ps[k].2
theorem PutsB.nil (w : World) (B : Nat) : PutsB w B (.slice none 0 0) [] := ⟨[], rfl, World.ownsRow_nil _ _ _ _, fun k hk => by cases hk⟩
theorem PutsB.below {v : Value} {ps : List (Nat × Bs)} (h : PutsB w B v ps) (hb : Below w.heap.size w w') : PutsB w' B v ps := by
  obtain ⟨gs, h1, h2, h3⟩ := h
  refine ⟨gs, h1, owns_below h2 hb, fun k hk hg => ?_⟩
  obtain ⟨a, b, x⟩ := h3 k hk hg
  exact ⟨a, b, RowAt.below x hb (Nat.le_refl _)⟩
theorem PutsB.add {v v2 : Value} {ps : List (Nat × Bs)} {gs : List Nat} {w4 : World} {g0 a : Nat} {x : Bs} (hl : gs.length = ps.length) (h3 : ∀ k (hk : k < ps.length) (hg : k < gs.length), B ≤ gs[k] ∧ v.ownBlock ≠ some gs[k] ∧ Bytes w (.slice (some ⟨gs[k], 0, none⟩) 512 512) ps[k].2)
    (hok : ∀ y ∈ ps, y.2.length = 512) (hv : ∀ j, v.ownBlock = some j → j < w.heap.size) (hb : Below w.heap.size w w1) (hB : B ≤ w.heap.size) (hg0 : w.heap.size ≤ g0) (hx : Bytes w1 (.slice (some ⟨g0, 0, none⟩) 512 512) x) (hxl : x.length = 512)
    (hown : w4.ownsRow B 26 2 v2 (ps.length + 1) (putV ps gs ++ [.int .i64 (a : Int), .slice (some ⟨g0, 0, none⟩) 512 512])) (hgrow : w1.grownBy w4 v.ownBlock) (hat : v2.ownBlock = v.ownBlock ∨ v2.ownBlock = some w1.heap.size) :
    PutsB w4 B v2 (ps ++ [(a, x)]) := by
  have hlt0 : g0 < w1.heap.size := World.block_lt_of_cell? _ _ (bytes_cell hx (k := 0) (by omega))
  have hkp : Keeps (fun j => v.ownBlock = some j) w1 w4 := (Keeps.refl _ w1).grown hgrow fun j e => .inl e
  have hkeep : ∀ {g : Nat} {y : Bs}, y.length = 512 → v.ownBlock ≠ some g → Bytes w1 (.slice (some ⟨g, 0, none⟩) 512 512) y → Bytes w4 (.slice (some ⟨g, 0, none⟩) 512 512) y := fun {g y} hy hne hh => by
    exact RowAt.keeps hh hkp (fun k e => by cases e; exact hne)
  refine ⟨gs ++ [g0], by simp [hl], ?_, fun k hk hg => ?_⟩
  · rw [putV_snoc _ _ _ _ _ hl, List.length_append, List.length_singleton]
    exact hown
  · by_cases hlt : k < ps.length
    · obtain ⟨q1, q2, q3⟩ := h3 k hlt (by omega)
      rw [List.getElem_append_left (by omega), List.getElem_append_left hlt]
      have hgl : gs[k] < w.heap.size := World.block_lt_of_cell? _ _ (bytes_cell q3 (k := 0) (by rw [hok _ (List.getElem_mem hlt)]; omega))
      refine ⟨q1, fun e => ?_, hkeep (hok _ (List.getElem_mem hlt)) q2 (RowAt.below q3 hb (Nat.le_refl _))⟩
      rcases hat with h | h
      · exact q2 (h ▸ e)
      · rw [h] at e
        have := Option.some.inj e
        have := hb.size
        omega
    · obtain rfl : k = ps.length := by simp at hk; omega
      rw [List.getElem_append_right (by omega), List.getElem_append_right (Nat.le_refl _)]
      simp only [hl, Nat.sub_self, List.getElem_singleton]
      have hne : v.ownBlock ≠ some g0 := fun e => by have := hv g0 e; omega
      refine ⟨by omega, fun e => ?_, hkeep hxl hne hx⟩
      rcases hat with h | h
      · exact hne (h ▸ e)
      · rw [h] at e
        have := Option.some.inj e
        omega
theorem PutsB.puts {v : Value} {ps : List (Nat × Bs)} (h : PutsB w B v ps) : PutsF w (fun j => j < B) v ps := by
  obtain ⟨gs, h1, h2, h3⟩ := h
  obtain ⟨a, cap, rfl⟩ := row_len h2
  refine ⟨a, cap, rfl, fun k hk => ?_⟩
  obtain ⟨q1, q2, q3⟩ := h3 k hk (by omega)
  obtain ⟨e1, e2⟩ := putV_at ps gs k hk (by omega)
  rcases owns_shape h2 with ⟨e, h0⟩ | ⟨g, cap2, e, _⟩
  · omega
  · cases e
    have hc := h2.cells (g := g) rfl
    have c1 := hc _ _ e1
    have c2 := hc _ _ e2
    rw [addr_add, Nat.zero_add] at c1 c2
    exact ⟨g, 0, gs[k], 0, 512, rfl, fun e => by have := (h2.lt g rfl).1; omega, by rw [show 0 + k * 2 = 2 * k by omega]; exact c1, by rw [show 0 + k * 2 + 1 = 2 * k + 1 by omega]; exact c2, fun e => by omega, q3⟩
theorem infoPut : (Try.prog.info? 26).map (fun i => (i.zero, i.size, i.bytes)) = some (some (.agg #[.int .i64 0, .slice none 0 0]), 2, 32) := by kernel_rfl
end Go.Proofs.Ythfncgbkigmmcaa
