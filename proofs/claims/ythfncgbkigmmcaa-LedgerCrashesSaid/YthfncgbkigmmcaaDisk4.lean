/- Write. -/
import Derived.Test.YthfncgbkigmmcaaDisk3
import Derived.Test.YthfncgbkigmmcaaLast
import Derived.Maps.AppendAt
namespace Go.Proofs.Ythfncgbkigmmcaa
open Go.RowKit

variable {w w' : World} {O R : Nat → Prop} {p : Nat} {d : DS} {gn gf : Nat} {vb : Value} {vs : List Value}

theorem infoH : (Try.prog.info? 90).map (fun i => (i.zero, i.size, i.bytes)) = some (some (.agg #[.int .i64 0, .slice none 0 0, .int .i64 0]), 3, 40) := by kernel_rfl

/-- bytes are laid over a block. -/
def putAt (l : Bs) (k : Nat) (b : Bs) : Bs := splice l (512 * k) b
theorem putAt_length {l b : Bs} {k n : Nat} (hl : l.length = 512 * n) (hk : k < n) (hb : b.length = 512) : (putAt l k b).length = 512 * n := by
  unfold putAt
  rw [length_splice _ _ _ (by omega), hl]
theorem u8s_splice (l : Bs) (k : Nat) (b : Bs) : splice (u8s l) k (u8s b) = u8s (splice l k b) := by
  unfold splice u8s
  simp

/-- A step of a region: append onto a row that is owned. -/
theorem op_append {P : Program} {w : World} {o : Oper} {a : Act} {K : Act → World → Prop} {Q : Exit → Act → World → Prop} (s x : Operand) (t : TypeId)
    (ho : o.op = .call { callee := .builtin .append, args := #[s, x], argTypes := #[t, t] })
    (base : Nat) (e : TypeId) (i : TypeInfo) (z : Value) (size bytes : Nat) (ht : P.underlying t = some (.slice e)) (hi : P.info? e = some i) (hz : i.zero = some z)
    (hsize : i.size = size) (hby : i.bytes = bytes) (hzs : z.cells.size = size) (hsz : 0 < size)
    (v : Value) (n : Nat) (xs : List Value) (hs : a.eval s = v) (hown : w.ownsRow base e size v n xs)
    (ad : Addr) (m c : Nat) (news : List Value) (hx : a.eval x = .slice (some ad) m c) (hl : news.length = m * size) (hnews : ∀ j u, news[j]? = some u → w.cell? (ad.add j) = some u) (h1 : ∀ u ∈ news, u.oneCell' = true)
    (h63 : n + m ≤ maxLen) (hbytes : (n + m) * bytes ≤ 140737488355328) (hbase : base ≤ w.heap.size)
    (h : ∀ v' w', w'.ownsRow base e size v' (n + m) (xs ++ news) → w.grownBy w' v.ownBlock → (v'.ownBlock = v.ownBlock ∨ v'.ownBlock = some w.heap.size) → K (a.put o.dst v') w') :
    Oper.wp P o a w K Q := by
  obtain ⟨v', w', hr, h2, h3, h4, h5⟩ := run_append_own_at (P := P) w base t o.type e i z size bytes ht hi hz hsize hby hzs hsz v n xs hown ad m c news hl hnews h1 h63 hbytes hbase
  unfold Oper.wp execOp
  simp only [ho, resolve, invoke, builtin, Sem.run_bind, Sem.run_pure, Result.andThen_ok, List.map_toArray, List.map_cons, List.map_nil, hs, hx, hr]
  exact h v' w' h2 h3 h5

theorem row_len {w : World} {base : Nat} {e : TypeId} {size : Nat} {v : Value} {n : Nat} {xs : List Value} (h : w.ownsRow base e size v n xs) : ∃ a cap, v = .slice a n cap := by
  rcases owns_shape h with ⟨rfl, rfl⟩ | ⟨g, cap, rfl, _⟩
  · exact ⟨none, 0, rfl⟩
  · exact ⟨_, cap, rfl⟩

/-- One more write is held back. -/
theorem DiskAt.more (h : DiskAt w O R p d gn gf vb vs) (kp : Keeps (fun b => b = p ∨ vb.ownBlock = some b) w w') (k : Nat) (x : Bs) (hk : k < d.n) (hx : x.length = 512) (hn : d.back.length < 65536) (v1 vb' : Value)
    (hcell : w'.heap[p]? = some (.cells #[.slice (some ⟨gn, 0, none⟩) (512 * d.n) (512 * d.n), .slice (some ⟨gf, 0, none⟩) (512 * d.n) (512 * d.n), vb', .bool d.off, .int .i64 d.left] 83 (0, 0)))
    (hrow : w'.ownsRow 0 90 3 vb' (d.back.length + 1) (heldC 0 d.back vs ++ [.int .i64 (k : Int), v1, .int .i64 (d.back.length : Int)]))
    (hv1 : Bytes w' v1 x) (hf1 : InB v1 (fun j => w.heap.size ≤ j ∧ j < w'.heap.size ∧ vb'.ownBlock ≠ some j)) (hb' : ∀ j, vb'.ownBlock = some j → vb.ownBlock = some j ∨ (w.heap.size ≤ j ∧ j < w'.heap.size)) :
    DiskAt w' (fun j => O j ∨ NewIn w w' j) (fun j => R j ∨ NewIn w w' j) p { d with back := d.back ++ [(k, x)] } gn gf vb' (vs ++ [v1]) := by
  refine ⟨hcell, (kp.block gn h.ltN (fun e => e.elim (fun e => h.pn e.symm) h.bn)).trans h.now, (kp.block gf h.ltF (fun e => e.elim (fun e => h.pf e.symm) h.bf)).trans h.fast, h.nlen, h.flen, h.n1, h.n2, ?_, ?_, by simp [h.vlen], ?_, by simp; omega, .inl h.ownP, .inl h.ownN, .inl h.ownF, ?_, h.nf⟩
  · rw [heldC_append _ _ _ _ _ h.vlen]
    simpa using hrow
  · intro i hi
    simp only [List.length_append, List.length_singleton] at hi
    by_cases hlt : i < d.back.length
    · obtain ⟨v, h1, h2, h3⟩ := h.held i hlt
      refine ⟨v, by rw [List.getElem?_append_left (by rw [h.vlen]; exact hlt)]; exact h1, ?_, ?_⟩
      · simp only [List.getElem_append_left hlt]
        exact RowAt.keeps h2 kp (fun j e => fun hh => hh.elim (h3 j e).2.2.1 (h3 j e).2.2.2.2.2)
      · intro j e
        obtain ⟨a, b, c, e1, e2, e3⟩ := h3 j e
        exact ⟨.inl a, Nat.lt_of_lt_of_le b kp.size, c, e1, e2, fun hh => (hb' j hh).elim e3 (fun hh => by omega)⟩
    · have hie : i = d.back.length := by omega
      subst hie
      refine ⟨v1, by rw [List.getElem?_append_right (by rw [h.vlen]; exact Nat.le_refl _), h.vlen]; simp, by simpa using hv1, fun j e => ?_⟩
      obtain ⟨a, b, c⟩ := hf1 j e
      have hp := h.lt
      have hN := h.ltN
      have hF := h.ltF
      exact ⟨.inr ⟨a, b⟩, b, by omega, by omega, by omega, c⟩
  · intro y hy
    rcases List.mem_append.1 hy with hy | hy
    · exact h.each y hy
    · rw [List.mem_singleton] at hy
      subst hy
      exact ⟨hk, hx⟩
  · intro j e
    exact (hb' j e).elim (fun e => .inl (h.ownB j e)) (fun e => .inr e)

theorem keeps_setRow {S : Nat → Prop} {g : Nat} {w0 w : World} (h : Keeps S w0 w) (hg : S g) (cs : Array Value) : Keeps S w0 (w.setRow g cs) :=
  h.trans (T := fun k => k = g) ⟨rfl, rfl, rfl, by simp [World.setRow], fun k _ hn => setRow_other w g k cs hn⟩ (fun i e => by subst e; exact .inl hg)
/-- The picture as it is turns. -/
theorem DiskAt.setNow (h : DiskAt w O R p d gn gf vb vs) (kp : Keeps (fun b => b = gn) w w') (l : Bs) (hl : l.length = 512 * d.n) (hg : w'.heap[gn]? = some (.cells (u8s l).toArray 5 (0, 0))) : DiskAt w' O R p { d with now := l } gn gf vb vs :=
  { h with
    cell := (kp.block p h.lt h.pn).trans h.cell
    now := hg
    nlen := hl
    fast := (kp.block gf h.ltF (fun e => h.nf e.symm)).trans h.fast
    row := owns_kept h.row (fun b hb hl => kp.block b hl (fun e => h.bn (by rw [hb, e])))
    held := fun i hi => by
      obtain ⟨v, h1, h2, h3⟩ := h.held i hi
      exact ⟨v, h1, RowAt.keeps h2 kp (fun j e => (h3 j e).2.2.2.1), h3.mono fun j ⟨a, b, c⟩ => ⟨a, Nat.lt_of_lt_of_le b kp.size, c⟩⟩ }
/-- The fast picture turns. -/
theorem DiskAt.setFast (h : DiskAt w O R p d gn gf vb vs) (kp : Keeps (fun b => b = gf) w w') (l : Bs) (hl : l.length = 512 * d.n) (hg : w'.heap[gf]? = some (.cells (u8s l).toArray 5 (0, 0))) : DiskAt w' O R p { d with fast := l } gn gf vb vs :=
  { h with
    cell := (kp.block p h.lt h.pf).trans h.cell
    fast := hg
    flen := hl
    now := (kp.block gn h.ltN h.nf).trans h.now
    row := owns_kept h.row (fun b hb hl => kp.block b hl (fun e => h.bf (by rw [hb, e])))
    held := fun i hi => by
      obtain ⟨v, h1, h2, h3⟩ := h.held i hi
      exact ⟨v, h1, RowAt.keeps h2 kp (fun j e => (h3 j e).2.2.2.2.1), h3.mono fun j ⟨a, b, c⟩ => ⟨a, Nat.lt_of_lt_of_le b kp.size, c⟩⟩ }

def DS.held (d : DS) (k : Nat) (x : Bs) : DS := { d with back := d.back ++ [(k, x)] }
def DS.write (d : DS) (k : Nat) (x : Bs) : DS := ({ d with back := d.back ++ [(k, x)], now := putAt d.now k x } : DS).step

theorem write_there (h : DiskAt w O R p d gn gf vb vs) (at_ : Int) (hb : (d.there at_ != 0) = true) (v : Value) :
    Calls Try.prog 74 #[.pointer (some ⟨p, 0, none⟩), .int .i64 at_, v] w fun e w' => e = .returned (.int .i64 (d.there at_)) ∧ w = w' := by
  have HT := Lib.hid (there_any h at_)
  clear h
  generalize d.there at_ = t at *
  go_enter Try.func74, Try.ntmps74
  go_wp2_with fail
  refine HT.out.mono ?_
  rintro e w1 ⟨rfl, rfl⟩
  go_wp2_with fail
  go_ret
  exact ⟨rfl, rfl⟩
theorem write_len (h : DiskAt w O R p d gn gf vb vs) (at_ : Int) (hb : d.there at_ = 0) (a : Option Addr) (len cap : Nat) (hl : len ≠ 512) :
    Calls Try.prog 74 #[.pointer (some ⟨p, 0, none⟩), .int .i64 at_, .slice a len cap] w fun e w' => e = .returned (.int .i64 1) ∧ w = w' := by
  have HT := Lib.hid (there_any h at_)
  rw [hb] at HT
  clear h hb
  have hl' : ¬ (len : Int) = 512 := by omega
  go_enter Try.func74, Try.ntmps74
  go_wp2_with fail
  refine HT.out.mono ?_
  rintro e w1 ⟨rfl, rfl⟩
  go_wp2_with fail
  go_ret
  exact ⟨rfl, rfl⟩
theorem write_full (h : DiskAt w O R p d gn gf vb vs) (at_ : Int) (hb : d.there at_ = 0) (a : Option Addr) (cap : Nat) (hf : d.back.length = 65536) :
    Calls Try.prog 74 #[.pointer (some ⟨p, 0, none⟩), .int .i64 at_, .slice a 512 cap] w fun e w' => e = .returned (.int .i64 2) ∧ w = w' := by
  have HT := Lib.hid (there_any h at_)
  rw [hb] at HT
  have c2 := h.c2
  obtain ⟨a2, cap2, hv⟩ := row_len h.row
  rw [hf] at hv
  rw [hv] at c2
  clear h hb hv
  go_enter Try.func74, Try.ntmps74
  go_wp2_with fail
  refine HT.out.mono ?_
  rintro e w1 ⟨rfl, rfl⟩
  go_wp2_with fail
  go_ret
  exact ⟨rfl, rfl⟩
end Go.Proofs.Ythfncgbkigmmcaa
