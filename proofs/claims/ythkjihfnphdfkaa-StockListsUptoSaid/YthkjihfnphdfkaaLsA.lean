/- Lent, of a list: what is built, and appended as a step of a region. -/
import Derived.Test.YthkjihfnphdfkaaSRefSHA
import Derived.Test.YthkjihfnphdfkaaCheck
import Derived.Test.YthkjihfnphdfkaaFork
import Derived.Deep.DeepMust
import Derived.Deep.DeepFit
import Derived.Maps.AppendAt
namespace Go.Proofs.Ythkjihfnphdfkaa
open Go.RowKit

theorem op_append_rowAt {P : Program} {w : World} {o : Oper} {a : Act} {K : Act → World → Prop} {Q : Exit → Act → World → Prop} (s x : Operand) (t : TypeId)
    (ho : o.op = .call { callee := .builtin .append, args := #[s, x], argTypes := #[t, t] })
    (base : Nat) (e : TypeId) (i : TypeInfo) (z : Value) (bytes : Nat) (ht : P.underlying t = some (.slice e)) (hi : P.info? e = some i) (hz : i.zero = some z)
    (hsize : i.size = 1) (hby : i.bytes = bytes) (hzs : z.cells.size = 1)
    (v : Value) (n : Nat) (xs : List Value) (hs : a.eval s = v) (hown : w.ownsRow base e 1 v n xs)
    (xv : Value) (news : List Value) (hx : a.eval x = xv) (hrow : RowAt w xv news ∨ (news = [] ∧ ∃ ad, xv = .slice (some ad) 0 0)) (h1 : ∀ u ∈ news, u.oneCell' = true)
    (h63 : n + news.length ≤ maxLen) (hbytes : (n + news.length) * bytes ≤ 140737488355328) (hbase : base ≤ w.heap.size)
    (h : ∀ v' w', w'.ownsRow base e 1 v' (n + news.length) (xs ++ news) → w.grownBy w' v.ownBlock → (v'.ownBlock = v.ownBlock ∨ v'.ownBlock = some w.heap.size) → K (a.put o.dst v') w') : Oper.wp P o a w K Q := by
  have key : ∀ (ad : Addr) (c : Nat), xv = .slice (some ad) news.length c → (∀ j u, news[j]? = some u → w.cell? (ad.add j) = some u) → Oper.wp P o a w K Q := by
    intro ad c hxv hn
    obtain ⟨v', w', hr, h2, h3, _, h5⟩ := run_append_own_at (P := P) w base t o.type e i z 1 bytes ht hi hz hsize hby hzs (by decide) v n xs hown ad news.length c news (by simp) hn h1 h63 hbytes hbase
    unfold Oper.wp execOp
    simp only [ho, resolve, invoke, builtin, Sem.run_bind, Sem.run_pure, Result.andThen_ok, List.map_toArray, List.map_cons, List.map_nil, hs, hx, hxv, hr]
    exact h v' w' h2 h3 h5
  rcases hrow with (⟨rfl, rfl⟩ | ⟨b, off, cap, rfl, hc, hcell⟩) | ⟨rfl, ad, rfl⟩
  · have hrun := run_append_owned_none (P := P) (w := w) base t o.type e i 1 ht hi v n xs hown
    unfold Oper.wp execOp
    simp only [ho, resolve, invoke, builtin, Sem.run_bind, Sem.run_pure, Result.andThen_ok, List.map_toArray, List.map_cons, List.map_nil, hs, hx, hrun]
    exact h v w (by simpa using hown) (World.grownBy.refl _ _) (.inl rfl)
  · exact key ⟨b, off, none⟩ cap rfl (fun j u hj => by rw [addr_add]; exact hcell j u hj)
  · exact key ad 0 rfl (fun j u hj => by simp at hj)

/-- Bytes in memory of their own, with 0xA7 behind. -/
def LentAt (w : World) (v : Value) (b : List UInt8) (g cap : Nat) : Prop :=
  v = .slice (some ⟨g, 0, none⟩) b.length cap ∧ b.length + 1 ≤ cap ∧ ∀ i u, (u8s (b ++ [0xA7]))[i]? = some u → w.cell? ⟨g, i, none⟩ = some u
theorem LentAt.bytes {w : World} {v : Value} {b : List UInt8} {g cap : Nat} (h : LentAt w v b g cap) : Bytes w v b := by
  obtain ⟨rfl, hc, hcell⟩ := h
  refine .inr ⟨g, 0, cap, by simp, by simp; omega, fun i u hi => ?_⟩
  rw [Nat.zero_add]
  refine hcell i u ?_
  have hl : i < (u8s b).length := (List.getElem?_eq_some_iff.1 hi).1
  rw [u8s_append, List.getElem?_append_left hl]
  exact hi
theorem LentAt.kept {w w' : World} {v : Value} {b : List UInt8} {g cap : Nat} (h : LentAt w v b g cap) (hb : w'.heap[g]? = w.heap[g]?) : LentAt w' v b g cap := by
  obtain ⟨rfl, hc, hcell⟩ := h
  refine ⟨rfl, hc, fun i u hi => ?_⟩
  have h1 := hcell i u hi
  exact (World.cell?_of_block (w := w) hb).trans h1
theorem LentAt.lt {w : World} {v : Value} {b : List UInt8} {g cap : Nat} (h : LentAt w v b g cap) : g < w.heap.size := by
  obtain ⟨rfl, hc, hcell⟩ := h
  have hl : 0 < (u8s (b ++ [0xA7])).length := by simp
  exact World.block_lt_of_cell? _ _ (hcell 0 _ (List.getElem?_eq_getElem hl))
theorem LentAt.of_owns {w : World} {B g cap : Nat} {b : List UInt8} (h : w.ownsRow B 5 1 (.slice (some ⟨g, 0, none⟩) (b.length + 1) cap) (b.length + 1) (u8s b ++ [.int .u8 167])) : LentAt w (.slice (some ⟨g, 0, none⟩) b.length cap) b g cap := by
  rcases RowAt.of_owns h with ⟨h, _⟩ | ⟨g', off', cap', h, hc, hcell⟩
  · cases h
  · simp only [Value.slice.injEq, Option.some.injEq, Addr.mk.injEq] at h
    obtain ⟨⟨rfl, rfl, _⟩, hl, rfl⟩ := h
    refine ⟨rfl, by simp at hc; omega, fun i u hu => ?_⟩
    rw [u8s_append] at hu
    have := hcell i u (by simpa [u8s, u8] using hu)
    simpa using this

/-- The list as far as it is lent. -/
def OutL (w : World) (B : Nat) (v : Value) (bss : List Bs) : Prop := ∃ vals, w.ownsRow B 28 1 v bss.length vals ∧ ∀ j (h : j < bss.length), ∃ e c, vals[j]? = some (.slice (some ⟨e, 0, none⟩) bss[j].length c) ∧ LentAt w (.slice (some ⟨e, 0, none⟩) bss[j].length c) bss[j] e c ∧ B ≤ e ∧ v.ownBlock ≠ some e
theorem OutL.nil (w : World) (B : Nat) : OutL w B (.slice none 0 0) [] := ⟨[], World.ownsRow_nil _ _ _ _, fun j h => by simp at h⟩
theorem OutL.below {w w' : World} {B : Nat} {v : Value} {bss : List Bs} (h : OutL w B v bss) (hb : Below w.heap.size w w') : OutL w' B v bss := by
  obtain ⟨vals, h1, h2⟩ := h
  refine ⟨vals, owns_below h1 hb, fun j hj => ?_⟩
  obtain ⟨e, c, h3, h4, h5, h6⟩ := h2 j hj
  exact ⟨e, c, h3, h4.kept (hb.block e h4.lt), h5, h6⟩
theorem OutL.shape {w : World} {B : Nat} {v : Value} {bss : List Bs} (h : OutL w B v bss) : ∃ a cap, v = .slice a bss.length cap := by
  obtain ⟨vals, h1, _⟩ := h
  rcases owns_shape h1 with ⟨rfl, h⟩ | ⟨g, cap, rfl, _⟩
  · exact ⟨none, 0, by rw [h]⟩
  · exact ⟨_, cap, rfl⟩

/-- One more is lent. -/
theorem op_append_out {w0 w2 : World} {o : Oper} {a : Act} {K : Act → World → Prop} {Q : Exit → Act → World → Prop} (s x : Operand)
    (ho : o.op = .call { callee := .builtin .append, args := #[s, x], argTypes := #[36, 36] }) {B : Nat} {v : Value} {bss : List Bs} {b : Bs} {e c : Nat}
    (hO : OutL w0 B v bss) (hb : Below w0.heap.size w0 w2) (hE : LentAt w2 (.slice (some ⟨e, 0, none⟩) b.length c) b e c) (he : w0.heap.size ≤ e) (hB : B ≤ w0.heap.size) (hn : bss.length ≤ 100000)
    (hs : a.eval s = v) (hx : a.eval x = .slice (some ⟨w2.heap.size, 0, none⟩) 1 1)
    (h : ∀ v' w4, OutL w4 B v' (bss ++ [b]) → Below B w0 w4 → K (a.put o.dst v') w4) : Oper.wp Try.prog o a (w2.alloc (.cells #[.slice (some ⟨e, 0, none⟩) b.length c] 28 (0, 0))) K Q := by
  obtain ⟨i0, hi, hz0, hz1, hz2⟩ := info_parts info28
  obtain ⟨vals, h1, h2⟩ := hO
  have hel := hE.lt
  have hsz := hb.size
  have hA := hb.alloc hsz (.cells #[.slice (some ⟨e, 0, none⟩) b.length c] 28 (0, 0))
  have hvl : vals.length = bss.length := by have := h1.1; omega
  have hvb : ∀ k, v.ownBlock = some k → B ≤ k ∧ k < w0.heap.size := fun k hk => h1.lt k hk
  refine op_append_rowAt s x 36 ho B 28 i0 (.slice none 0 0) 24 Try.underlying36 hi hz0 hz1 hz2 rfl v bss.length vals hs (owns_below h1 hA) _ [.slice (some ⟨e, 0, none⟩) b.length c] hx (.inl (row_new w2 #[.slice (some ⟨e, 0, none⟩) b.length c] 28 (0, 0) 1 (Nat.le_refl _))) (by simp [Value.oneCell']) (by simp; unfold maxLen; omega) (by simp; omega) (by simp; omega) ?_
  intro v' w4 hown hgr hat
  have hat : v'.ownBlock = v.ownBlock ∨ v'.ownBlock = some (w2.heap.size + 1) := by simpa using hat
  have hblk : ∀ k, k < w2.heap.size → v.ownBlock ≠ some k → w4.heap[k]? = w2.heap[k]? := fun k hk hne => by
    rw [hgr.block k (by simp; omega) (fun e => hne e.symm)]
    exact Below.heap_alloc w2 _ k hk
  have hne : ∀ k, k < w2.heap.size → v.ownBlock ≠ some k → v'.ownBlock ≠ some k := fun k hk h3 h4 => by
    rcases hat with h5 | h5
    · exact h3 (h5 ▸ h4)
    · rw [h5] at h4; simp at h4; omega
  refine h v' w4 ⟨vals ++ [.slice (some ⟨e, 0, none⟩) b.length c], by simpa using hown, fun j hj => ?_⟩ ((hA.mono hB).grown hgr (Nat.le_trans hB hA.size) (fun k hk => (hvb k hk).1))
  simp only [List.length_append, List.length_singleton] at hj
  by_cases hlt : j < bss.length
  · obtain ⟨e', c', h3, h4, h5, h6⟩ := h2 j hlt
    have h7 := h4.lt
    refine ⟨e', c', ?_, ?_, h5, hne e' (by omega) h6⟩
    · rw [List.getElem?_append_left (by omega)]
      simpa [List.getElem_append_left hlt] using h3
    · have h8 : w4.heap[e']? = w0.heap[e']? := (hblk e' (by omega) h6).trans (hb.block e' h7)
      simpa [List.getElem_append_left hlt] using h4.kept h8
  · have hje : j = bss.length := by omega
    subst hje
    have h6 : v.ownBlock ≠ some e := fun hh => by have := (hvb e hh).2; omega
    refine ⟨e, c, ?_, ?_, by omega, hne e hel h6⟩
    · rw [List.getElem?_append_right (by omega)]
      simp [hvl]
    · simpa using hE.kept (hblk e hel h6)
end Go.Proofs.Ythkjihfnphdfkaa
