/- Bytes of whatever value, that may be turned; a row of integers that is copied. No condition. -/
import Derived.Test.YthdefaodioapbaaRow
namespace Go.Proofs.Ythdefaodioapbaa
open Go.RowKit

/-- Bytes of whatever value, that may be turned. -/
def Junk (w : World) (va : Option Addr) (n : Nat) : Prop := n = 0 ∨ ∃ g off, va = some ⟨g, off, none⟩ ∧ ∀ i, i < n → (∃ x : Int, w.cell? ⟨g, off + i, none⟩ = some (.int .u8 x)) ∧ w.frozen? ⟨g, off + i, none⟩ = false
theorem Junk.set {w : World} {va : Option Addr} {n : Nat} (h : Junk w va n) (q : Addr) (y : Int) : Junk (w.setCell q (.int .u8 y)) va n := by
  refine h.imp id fun ⟨g, off, h1, h2⟩ => ⟨g, off, h1, fun i hi => ?_⟩
  obtain ⟨⟨x, hx⟩, hf⟩ := h2 i hi
  refine ⟨?_, by rw [World.frozen?_setCell]; exact hf⟩
  by_cases e : q = ⟨g, off + i, none⟩
  · subst e
    exact ⟨y, World.cell?_setCell_same' _ _ _ (by rw [hx]; rfl)⟩
  · exact ⟨x, by rw [World.cell?_setCell_other (h := e)]; exact hx⟩
theorem Junk.of_bytes {w : World} {va : Option Addr} {n c : Nat} {b : List UInt8} (h : Bytes w (.slice va n c) b) (hn : n = b.length) (hf : ∀ k i, (Value.slice va n c).ownBlock = some k → w.frozen? ⟨k, i, none⟩ = false) : Junk w va n := by
  rcases h with ⟨h, hb⟩ | ⟨g, off, cap, h, _, hcell⟩
  · cases h; exact .inl rfl
  · simp only [Value.slice.injEq] at h
    obtain ⟨rfl, h2, _⟩ := h
    refine .inr ⟨g, off, rfl, fun i hi => ⟨⟨_, hcell i (u8 b[i]) (by rw [u8s_getElem?, List.getElem?_eq_getElem (by omega)]; rfl)⟩, hf g _ rfl⟩⟩
theorem Junk.kept {w w' : World} {va : Option Addr} {n : Nat} (h : Junk w va n) (hk : ∀ k, va.map (·.block) = some k → k < w.heap.size → w'.heap[k]? = w.heap[k]?) : Junk w' va n := by
  refine h.imp id fun ⟨g, off, h1, h2⟩ => ⟨g, off, h1, fun i hi => ?_⟩
  obtain ⟨⟨x, hx⟩, hf⟩ := h2 i hi
  have hb := hk g (by rw [h1]; rfl) (World.block_lt_of_cell? _ _ hx)
  exact ⟨⟨x, (World.cell?_of_block (w := w) hb).trans hx⟩, (World.frozen?_of_block (w := w) hb).trans hf⟩
end Go.Proofs.Ythdefaodioapbaa
