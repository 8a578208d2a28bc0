/- Words on memory that the proofs of this seat share: what a slice of bytes holds; that all blocks but some are as they were. No condition. -/
import Derived.WalkKit
import Derived.WalkSpells
import Derived.WalkLawsBesides
import Derived.WalkSmall
import Derived.Lib.Hide
import Derived.Laws.BytesArg
import Derived.Laws.AppendOwnNone
import Derived.Laws.CopyOwn
namespace Go.Proofs.Ythkjihfnphdfkaa
open Go.RowKit

/-- Of the blocks that were there only those of S may have turned. -/
structure Keeps (S : Nat → Prop) (w w' : World) : Prop where
  os : w'.os = w.os
  tape : w'.tape = w.tape
  output : w'.output = w.output
  size : w.heap.size ≤ w'.heap.size
  block : ∀ k, k < w.heap.size → ¬ S k → w'.heap[k]? = w.heap[k]?

namespace Keeps
variable {S T : Nat → Prop} {a w w' : World}
theorem refl (S : Nat → Prop) (w : World) : Keeps S w w := ⟨rfl, rfl, rfl, Nat.le_refl _, fun _ _ _ => rfl⟩
theorem mono (h : Keeps S w w') (hs : ∀ k, k < w.heap.size → S k → T k) : Keeps T w w' := ⟨h.os, h.tape, h.output, h.size, fun k hk ht => h.block k hk fun hs' => ht (hs k hk hs')⟩
theorem trans (h : Keeps S a w) (k : Keeps T w w') (ht : ∀ i, T i → S i ∨ a.heap.size ≤ i) : Keeps S a w' :=
  ⟨k.os.trans h.os, k.tape.trans h.tape, k.output.trans h.output, Nat.le_trans h.size k.size, fun i hi hs =>
    (k.block i (Nat.lt_of_lt_of_le hi h.size) fun t => (ht i t).elim hs fun g => absurd hi (by omega)).trans (h.block i hi hs)⟩
theorem trans' (h : Keeps S a w) (k : Keeps S w w') : Keeps S a w' := h.trans k fun _ hs => .inl hs
theorem of_below (h : Below w.heap.size w w') : Keeps S w w' := ⟨h.os, h.tape, h.output, h.size, fun k hk _ => h.block k hk⟩
theorem below (h : Keeps (fun _ => False) w w') : Below w.heap.size w w' := ⟨h.os, h.tape, h.output, h.size, fun k hk => h.block k hk id⟩
theorem below_of {B : Nat} (h : Keeps S a w) (hB : B ≤ a.heap.size) (hs : ∀ k, k < B → ¬ S k) : Below B a w := ⟨h.os, h.tape, h.output, h.size, fun k hk => h.block k (by omega) (hs k hk)⟩
theorem of_grown {row : Option Nat} (h : w.grownBy w' row) (hs : ∀ k, row = some k → S k) : Keeps S w w' :=
  ⟨h.os, h.tape, h.output, h.size, fun k hk hn => h.block k hk fun e => hn (hs k e.symm)⟩
theorem alloc (h : Keeps S a w) (o : Obj) : Keeps S a (w.alloc o) :=
  h.trans (T := fun _ => False) ⟨rfl, rfl, rfl, by simp, fun k hk _ => Below.heap_alloc _ _ _ hk⟩ (fun _ hf => hf.elim)
theorem drewN (h : Keeps S a w) (n : Nat) : Keeps S a (w.drewN n) := ⟨h.os, h.tape, h.output, h.size, h.block⟩
theorem drew (h : Keeps S a w) : Keeps S a w.drew := ⟨h.os, h.tape, h.output, h.size, h.block⟩
theorem setCell (h : Keeps S a w) (p : Addr) (u : Value) (hp : S p.block ∨ a.heap.size ≤ p.block) : Keeps S a (w.setCell p u) :=
  h.trans (T := fun k => k = p.block) ⟨rfl, rfl, rfl, by simp, fun k _ hn => Below.heap_setCell _ _ _ _ hn⟩ (fun i e => by subst e; exact hp)
theorem grown {row : Option Nat} (h : Keeps S a w) (hg : w.grownBy w' row) (hs : ∀ k, row = some k → S k ∨ a.heap.size ≤ k) : Keeps S a w' :=
  h.trans (T := fun k => row = some k) (of_grown hg fun _ e => e) hs
theorem belowT (h : Keeps S a w) (hb : Below w.heap.size w w') : Keeps S a w' := h.trans (T := fun _ => False) (of_below hb) (fun _ hf => hf.elim)
theorem cell (h : Keeps S w w') {p : Addr} (hp : p.block < w.heap.size) (hs : ¬ S p.block) : w'.cell? p = w.cell? p := World.cell?_of_block (w := w) (h.block p.block hp hs)
theorem frozen (h : Keeps S w w') {p : Addr} (hp : p.block < w.heap.size) (hs : ¬ S p.block) : w'.frozen? p = w.frozen? p := World.frozen?_of_block (w := w) (h.block p.block hp hs)
end Keeps

theorem cell_at {w : World} {g i : Nat} {cs : Array Value} {t : TypeId} {fr : Nat × Nat} {v : Value} (h : w.heap[g]? = some (.cells cs t fr)) (hv : cs[i]? = some v) : w.cell? ⟨g, i, none⟩ = some v := (cell_of_row w g i cs t fr h).trans hv

/-- What a value of a slice type of one-cell elements holds: n elements, the cells cs. -/
def RowAt (w : World) (v : Value) (cs : List Value) : Prop :=
  (v = .slice none 0 0 ∧ cs = []) ∨ ∃ b off cap, v = .slice (some ⟨b, off, none⟩) cs.length cap ∧ cs.length ≤ cap ∧ ∀ i u, cs[i]? = some u → w.cell? ⟨b, off + i, none⟩ = some u

/-- The block of a slice is one of B. -/
def InB (v : Value) (B : Nat → Prop) : Prop := ∀ k, v.ownBlock = some k → B k

def u8 (x : UInt8) : Value := .int .u8 x.toNat
def u8s (bs : List UInt8) : List Value := bs.map u8
@[simp] theorem u8s_length (bs : List UInt8) : (u8s bs).length = bs.length := by simp [u8s]
theorem u8s_append (a b : List UInt8) : u8s (a ++ b) = u8s a ++ u8s b := by simp [u8s]
theorem u8s_getElem? (bs : List UInt8) (i : Nat) : (u8s bs)[i]? = bs[i]?.map u8 := by simp [u8s]
theorem u8s_one (bs : List UInt8) : ∀ u ∈ u8s bs, u.oneCell' = true := by
  intro u hu
  simp only [u8s, List.mem_map] at hu
  obtain ⟨x, _, rfl⟩ := hu
  rfl
theorem u8_inj {a b : UInt8} (h : u8 a = u8 b) : a = b := by
  simp only [u8, Value.int.injEq, true_and] at h
  exact UInt8.toNat_inj.1 (by omega)
theorem u8s_inj {a b : List UInt8} (h : u8s a = u8s b) : a = b := by
  induction a generalizing b with
  | nil => cases b with
    | nil => rfl
    | cons _ _ => simp [u8s] at h
  | cons x a ih => cases b with
    | nil => simp [u8s] at h
    | cons y b =>
      simp only [u8s, List.map_cons, List.cons.injEq] at h
      rw [u8_inj h.1, ih h.2]

/-- A slice of bytes holds bs. -/
def Bytes (w : World) (v : Value) (bs : List UInt8) : Prop := RowAt w v (u8s bs)

theorem RowAt.kept {w w' : World} {v : Value} {cs : List Value} (h : RowAt w v cs) (hk : ∀ k, v.ownBlock = some k → k < w.heap.size → w'.heap[k]? = w.heap[k]?) : RowAt w' v cs := by
  rcases h with ⟨rfl, rfl⟩ | ⟨b, off, cap, rfl, hc, hcell⟩
  · exact .inl ⟨rfl, rfl⟩
  · refine .inr ⟨b, off, cap, rfl, hc, fun i u hi => ?_⟩
    have h1 := hcell i u hi
    exact (World.cell?_of_block (w := w) (hk b rfl (World.block_lt_of_cell? _ _ h1))).trans h1
theorem RowAt.below {w w' : World} {B : Nat} {v : Value} {cs : List Value} (h : RowAt w v cs) (hb : Below B w w') (hB : w.heap.size ≤ B) : RowAt w' v cs := h.kept fun k _ hk => hb.block k (by omega)
theorem RowAt.keeps {S : Nat → Prop} {w w' : World} {v : Value} {cs : List Value} (h : RowAt w v cs) (hb : Keeps S w w') (hS : ∀ k, v.ownBlock = some k → ¬ S k) : RowAt w' v cs := h.kept fun k hk hl => hb.block k hl (hS k hk)
theorem RowAt.of_owns {w : World} {base : Nat} {e : TypeId} {v : Value} {n : Nat} {cs : List Value} (h : w.ownsRow base e 1 v n cs) : RowAt w v cs := by
  obtain ⟨hl, h | ⟨g, cap, cur, rfl, _, hg, hn, _, hs, ht⟩⟩ := h
  · obtain ⟨rfl, rfl⟩ := h
    exact .inl ⟨rfl, by simpa using hl⟩
  · simp only [Nat.mul_one] at hl hs ht
    subst hl
    refine .inr ⟨g, 0, cap, rfl, hn, fun i u hi => ?_⟩
    rw [cell_of_row w g (0 + i) cur e (0, 0) hg]
    rw [← ht, List.getElem?_take] at hi
    split at hi
    · simpa using hi
    · cases hi
theorem RowAt.lt {w : World} {v : Value} {cs : List Value} (h : RowAt w v cs) (hne : cs ≠ []) : ∀ k, v.ownBlock = some k → k < w.heap.size := by
  intro k hk
  rcases h with ⟨rfl, rfl⟩ | ⟨b, off, cap, rfl, hc, hcell⟩
  · exact absurd rfl hne
  · simp only [Value.ownBlock, Option.some.injEq] at hk
    subst hk
    have : 0 < cs.length := List.length_pos_iff.2 hne
    exact World.block_lt_of_cell? _ _ (hcell 0 cs[0] (by simp))

theorem owns_kept {w w' : World} {base : Nat} {e : TypeId} {size : Nat} {v : Value} {n : Nat} {xs : List Value} (h : w.ownsRow base e size v n xs) (hk : ∀ k, v.ownBlock = some k → k < w.heap.size → w'.heap[k]? = w.heap[k]?) : w'.ownsRow base e size v n xs := by
  refine ⟨h.1, ?_⟩
  rcases h.2 with hn | ⟨g, cap, cur, hv, hb, hg, rest⟩
  · exact .inl hn
  · refine .inr ⟨g, cap, cur, hv, hb, ?_, rest⟩
    exact (hk g (by rw [hv]; rfl) (Array.getElem?_eq_some_iff.1 hg).1).trans hg
theorem owns_below {w w' : World} {base : Nat} {e : TypeId} {size : Nat} {v : Value} {n : Nat} {xs : List Value} (h : w.ownsRow base e size v n xs) (hb : Below w.heap.size w w') : w'.ownsRow base e size v n xs := owns_kept h fun k _ hk => hb.block k hk
theorem owns_shape {w : World} {base : Nat} {e : TypeId} {size : Nat} {v : Value} {n : Nat} {xs : List Value} (h : w.ownsRow base e size v n xs) :
    (v = .slice none 0 0 ∧ n = 0) ∨ ∃ g cap, v = .slice (some ⟨g, 0, none⟩) n cap ∧ n ≤ cap ∧ cap ≤ maxLen ∧ base ≤ g ∧ g < w.heap.size := by
  rcases h.2 with h' | ⟨g, cap, cur, rfl, hb, hg, hn, hm, _⟩
  · exact .inl h'
  · exact .inr ⟨g, cap, rfl, hn, hm, hb, (Array.getElem?_eq_some_iff.1 hg).1⟩
theorem RowAt.shape {w : World} {v : Value} {cs : List Value} (h : RowAt w v cs) : ∃ a cap, v = .slice a cs.length cap ∧ cs.length ≤ cap := by
  rcases h with ⟨rfl, rfl⟩ | ⟨b, off, cap, rfl, hc, _⟩
  · exact ⟨none, 0, rfl, Nat.le_refl _⟩
  · exact ⟨_, cap, rfl, hc⟩

theorem RowAt.recap {w : World} {b off n cap cap' : Nat} {cs : List Value} (h : RowAt w (.slice (some ⟨b, off, none⟩) n cap) cs) (hc : n ≤ cap') : RowAt w (.slice (some ⟨b, off, none⟩) n cap') cs := by
  rcases h with ⟨h, _⟩ | ⟨b', off', cap'', h, _, hcell⟩
  · cases h
  · cases h
    exact .inr ⟨b, off, cap', rfl, hc, hcell⟩
theorem RowAt.nil (w : World) : RowAt w (.slice none 0 0) [] := .inl ⟨rfl, rfl⟩
theorem InB.nil (B : Nat → Prop) : InB (.slice none 0 0) B := fun _ h => by cases h
theorem InB.at_ {b off l c : Nat} {B : Nat → Prop} (h : B b) : InB (.slice (some ⟨b, off, none⟩) l c) B := fun k e => by cases e; exact h
theorem InB.mono {v : Value} {B C : Nat → Prop} (h : InB v B) (hc : ∀ k, B k → C k) : InB v C := fun k e => hc k (h k e)

theorem row_new (w : World) (cs : Array Value) (t : TypeId) (fr : Nat × Nat) (cap : Nat) (hc : cs.size ≤ cap) : RowAt (w.alloc (.cells cs t fr)) (.slice (some ⟨w.heap.size, 0, none⟩) cs.size cap) cs.toList := by
  refine .inr ⟨w.heap.size, 0, cap, by simp, by simpa using hc, fun i u hi => ?_⟩
  rw [cell_of_row _ _ _ _ _ _ (heap_alloc_new w (.cells cs t fr))]
  simpa using hi

/-- 'string(b)' of bytes. -/
theorem run_string_of {P : Program} (w : World) (src e : TypeId) (hs : P.underlying src = some (.slice e)) (he : P.underlying e = some (.int .u8)) {v : Value} {bs : List UInt8} (h : Bytes w v bs) :
    ∀ dst, P.underlying dst = some .string → (convert src dst v).run P w = .ok (.string ⟨bs.toArray⟩) w := by
  intro dst hd
  rcases h with ⟨rfl, hb⟩ | ⟨b, off, cap, rfl, hc, hcell⟩
  · have : bs = [] := by simpa [u8s] using hb
    subst this
    exact run_convert_bytes_nil w src e hs he 0 0 dst hd
  · have := run_convert_bytes_arg (P := P) w src e hs he b off bs.length cap (bs.map fun x => (x.toNat : Int)) (by simp) (fun i hi => by
      have := hcell i (u8 bs[i]) (by rw [u8s_getElem?]; simp [hi])
      rw [this]
      simp [u8, hi]) dst hd
    rw [u8s_length, this]
    congr 2
    simp only [strOfNums, List.map_map]
    congr 2
    conv => rhs; rw [← List.map_id bs]
    refine List.map_congr_left fun x _ => ?_
    simp

/-- 'append(s, x...)' onto a slice that is nil or the call's own, from whatever slice of one-cell elements. -/
theorem wpList_append_row {P : Program} {w : World} {ops : Array Oper} {rest : List Oper} {o : Oper} {a : Act} {Q : Exit → Act → World → Prop} (hgd : o.guard = none) (s x : Operand) (t : TypeId)
    (ho : o.op = .call { callee := .builtin .append, args := #[s, x], argTypes := #[t, t] })
    (base : Nat) (e : TypeId) (i : TypeInfo) (z : Value) (bytes : Nat) (ht : P.underlying t = some (.slice e)) (hi : P.info? e = some i) (hz : i.zero = some z)
    (hsize : i.size = 1) (hby : i.bytes = bytes) (hzs : z.cells.size = 1)
    (v : Value) (n : Nat) (xs : List Value) (hs : a.eval s = v) (hown : w.ownsRow base e 1 v n xs)
    (xv : Value) (news : List Value) (hx : a.eval x = xv) (hrow : RowAt w xv news) (h1 : ∀ u ∈ news, u.oneCell' = true)
    (h63 : n + news.length ≤ maxLen) (hbytes : (n + news.length) * bytes ≤ 140737488355328) (hbase : base ≤ w.heap.size)
    (h : ∀ v' w', w'.ownsRow base e 1 v' (n + news.length) (xs ++ news) → w.grownBy w' v.ownBlock → (v' = .slice none 0 0 ↔ v = .slice none 0 0 ∧ news = []) → wpList P ops Q rest (a.put o.dst v') w') : wpList P ops Q (o :: rest) a w := by
  rcases hrow with ⟨rfl, rfl⟩ | ⟨b, off, cap, rfl, hc, hcell⟩
  · refine wpList_append_own_none hgd s x t ho base e i 1 ht hi v n xs hs hown hx ?_
    exact h v w (by simpa using hown) (World.grownBy.refl _ _) (by simp)
  · refine wpList_append_own w hgd s x t ho base e i z 1 bytes ht hi hz hsize hby hzs (by decide) v n xs hs hown ⟨b, off, none⟩ news.length cap news hx (by simp) ?_ h1 h63 hbytes hbase ?_
    · intro j u hj
      have := hcell j u hj
      have hadd : (⟨b, off, none⟩ : Addr).add j = ⟨b, off + j, none⟩ := by unfold Addr.add; split <;> simp_all
      rw [hadd]; exact this
    · intro v' w' ho' hg' hn'
      exact h v' w' ho' hg' (by rw [hn']; simp [List.length_eq_zero_iff])

end Go.Proofs.Ythkjihfnphdfkaa
