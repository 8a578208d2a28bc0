/- Slices of bytes that came in inside a slice; slices of such. No condition. -/
import Derived.Test.YthkjihfnphdfkaaRow
import Derived.Deep.Matrix
import Derived.Deep.AppendLies
import Derived.SizedLaws
import Derived.ProofKit
namespace Go.Proofs.Ythkjihfnphdfkaa
open Go.RowKit

/-- A slice holds bs; an empty one may lead anywhere. -/
def BytesW (w : World) (v : Value) (bs : List UInt8) : Prop := Bytes w v bs ∨ (bs = [] ∧ ∃ a, v = .slice (some a) 0 0)
theorem BytesW.below {w w' : World} {B : Nat} {v : Value} {b : List UInt8} (h : BytesW w v b) (hb : Below B w w') (hB : w.heap.size ≤ B) : BytesW w' v b := h.elim (fun h => .inl (RowAt.below h hb hB)) .inr
theorem BytesW.shape {w : World} {v : Value} {b : List UInt8} (h : BytesW w v b) : ∃ a cap, v = .slice a b.length cap ∧ b.length ≤ cap := by
  rcases h with h | ⟨rfl, a, rfl⟩
  · obtain ⟨a, cap, h1, h2⟩ := RowAt.shape h
    rw [u8s_length] at h1 h2
    exact ⟨a, cap, h1, h2⟩
  · exact ⟨some a, 0, rfl, Nat.le_refl _⟩
theorem run_string_ofW {P : Program} (w : World) (src e : TypeId) (hs : P.underlying src = some (.slice e)) (he : P.underlying e = some (.int .u8)) {v : Value} {bs : List UInt8} (h : BytesW w v bs) :
    ∀ dst, P.underlying dst = some .string → (convert src dst v).run P w = .ok (.string ⟨bs.toArray⟩) w := by
  rcases h with h | ⟨rfl, a, rfl⟩
  · exact run_string_of w src e hs he h
  · intro dst hd
    rw [run_convert_bytes_string w src dst e _ 0 0 hs he hd]
    simp [Conv.bytesToString, loadCells, loadCellsFrom]
    rfl

theorem wpList_append_rowW {P : Program} {w : World} {ops : Array Oper} {rest : List Oper} {o : Oper} {a : Act} {Q : Exit → Act → World → Prop} (hgd : o.guard = none) (s x : Operand) (t : TypeId)
    (ho : o.op = .call { callee := .builtin .append, args := #[s, x], argTypes := #[t, t] })
    (base : Nat) (e : TypeId) (i : TypeInfo) (z : Value) (bytes : Nat) (ht : P.underlying t = some (.slice e)) (hi : P.info? e = some i) (hz : i.zero = some z)
    (hsize : i.size = 1) (hby : i.bytes = bytes) (hzs : z.cells.size = 1)
    (v : Value) (n : Nat) (xs : List Value) (hs : a.eval s = v) (hown : w.ownsRow base e 1 v n xs)
    (xv : Value) (b : List UInt8) (hx : a.eval x = xv) (hrow : BytesW w xv b)
    (h63 : n + b.length ≤ maxLen) (hbytes : (n + b.length) * bytes ≤ 140737488355328) (hbase : base ≤ w.heap.size)
    (h : ∀ v' w', w'.ownsRow base e 1 v' (n + b.length) (xs ++ u8s b) → w.grownBy w' v.ownBlock → (v' = .slice none 0 0 ↔ v = .slice none 0 0 ∧ u8s b = []) → wpList P ops Q rest (a.put o.dst v') w') : wpList P ops Q (o :: rest) a w := by
  rcases hrow with hrow | ⟨rfl, ad, rfl⟩
  · refine wpList_append_row hgd s x t ho base e i z bytes ht hi hz hsize hby hzs v n xs hs hown xv (u8s b) hx hrow (u8s_one b) (by simpa using h63) (by simpa using hbytes) hbase ?_
    intro v' w' h1
    rw [u8s_length] at h1
    exact h v' w' h1
  · refine wpList_append_own w hgd s x t ho base e i z 1 bytes ht hi hz hsize hby hzs (by decide) v n xs hs hown ad 0 0 [] hx rfl (fun j u hj => by simp at hj) (by simp) h63 hbytes hbase ?_
    intro v' w' h1 h2 h3
    exact h v' w' h1 h2 (by rw [h3]; simp [u8s])

theorem wpList_append_rowAt {P : Program} {w : World} {ops : Array Oper} {rest : List Oper} {o : Oper} {a : Act} {Q : Exit → Act → World → Prop} (hgd : o.guard = none) (s x : Operand) (t : TypeId)
    (ho : o.op = .call { callee := .builtin .append, args := #[s, x], argTypes := #[t, t] })
    (base : Nat) (e : TypeId) (i : TypeInfo) (z : Value) (bytes : Nat) (ht : P.underlying t = some (.slice e)) (hi : P.info? e = some i) (hz : i.zero = some z)
    (hsize : i.size = 1) (hby : i.bytes = bytes) (hzs : z.cells.size = 1)
    (v : Value) (n : Nat) (xs : List Value) (hs : a.eval s = v) (hown : w.ownsRow base e 1 v n xs)
    (xv : Value) (news : List Value) (hx : a.eval x = xv) (hrow : RowAt w xv news ∨ (news = [] ∧ ∃ ad, xv = .slice (some ad) 0 0)) (h1 : ∀ u ∈ news, u.oneCell' = true)
    (h63 : n + news.length ≤ maxLen) (hbytes : (n + news.length) * bytes ≤ 140737488355328) (hbase : base ≤ w.heap.size)
    (h : ∀ v' w', w'.ownsRow base e 1 v' (n + news.length) (xs ++ news) → w.grownBy w' v.ownBlock → (v'.ownBlock = v.ownBlock ∨ v'.ownBlock = some w.heap.size) → wpList P ops Q rest (a.put o.dst v') w') : wpList P ops Q (o :: rest) a w := by
  have key : ∀ (ad : Addr) (c : Nat), xv = .slice (some ad) news.length c → (∀ j u, news[j]? = some u → w.cell? (ad.add j) = some u) → wpList P ops Q (o :: rest) a w := by
    intro ad c hxv hn
    refine wpList_plain hgd fun K hK => ?_
    obtain ⟨v', w', hr, h2, h3, _, h5⟩ := run_append_own_at (P := P) w base t o.type e i z 1 bytes ht hi hz hsize hby hzs (by decide) v n xs hown ad news.length c news (by simp) hn h1 h63 hbytes hbase
    unfold Oper.wp execOp
    simp only [ho, resolve, invoke, builtin, Sem.run_bind, Sem.run_pure, Result.andThen_ok, List.map_toArray, List.map_cons, List.map_nil, hs, hx, hxv, hr]
    exact hK _ _ (h v' w' h2 h3 h5)
  rcases hrow with (⟨rfl, rfl⟩ | ⟨b, off, cap, rfl, hc, hcell⟩) | ⟨rfl, ad, rfl⟩
  · refine wpList_append_own_none hgd s x t ho base e i 1 ht hi v n xs hs hown hx ?_
    exact h v w (by simpa using hown) (World.grownBy.refl _ _) (.inl rfl)
  · exact key ⟨b, off, none⟩ cap rfl (fun j u hj => by rw [addr_add]; exact hcell j u hj)
  · exact key ad 0 rfl (fun j u hj => by simp at hj)
theorem BytesW.rowAt {w : World} {v : Value} {b : List UInt8} (h : BytesW w v b) : RowAt w v (u8s b) ∨ (u8s b = [] ∧ ∃ ad, v = .slice (some ad) 0 0) := h.imp id fun ⟨h1, h2⟩ => ⟨by rw [h1]; rfl, h2⟩

/-- A slice of such slices. -/
def RowsW (w : World) (v : Value) (bss : List (List UInt8)) : Prop :=
  (v = .slice none 0 0 ∧ bss = []) ∨ ∃ b off cap, v = .slice (some ⟨b, off, none⟩) bss.length cap ∧ bss.length ≤ cap ∧ cap ≤ 140737488351232 ∧ ∀ i (h : i < bss.length), ∃ u, w.cell? ⟨b, off + i, none⟩ = some u ∧ BytesW w u bss[i] ∧ bss[i].length ≤ 140737488351232
theorem RowsW.below {w w' : World} {B : Nat} {v : Value} {b : List (List UInt8)} (h : RowsW w v b) (hb : Below B w w') (hB : w.heap.size ≤ B) : RowsW w' v b := by
  rcases h with h | ⟨blk, off, cap, rfl, h1, h2, h3⟩
  · exact .inl h
  · refine .inr ⟨blk, off, cap, rfl, h1, h2, fun i hi => ?_⟩
    obtain ⟨u, hc, hu, hl⟩ := h3 i hi
    exact ⟨u, (World.cell?_of_block (w := w) (hb.block blk (Nat.lt_of_lt_of_le (World.block_lt_of_cell? _ _ hc) hB))).trans hc, hu.below hb hB, hl⟩

/-- What 'open_int_rows' tells, in our words. -/
theorem rowsW_of_open {w : World} {a : Addr} {len cap : Nat} {A : Nat → Option Addr} {L C : Nat → Nat} {Z : Nat → List Int} (hs : a.spot = none) (hl : len ≤ cap) (hm : cap ≤ 140737488351232) (hC : ∀ r, r < len → C r ≤ 140737488351232)
    (h : ∀ r, r < cap → w.cell? (a.add r) = some (.slice (A r) (L r) (C r)) ∧ L r ≤ C r ∧ C r ≤ maxLen ∧ (Z r).length = C r ∧ (∀ n ∈ Z r, (Lit.int .u8 n).wf = true) ∧ (A r = none → C r = 0) ∧
      ∀ a', A r = some a' → 0 ≤ a'.block ∧ ∀ c, c < C r → w.cell? (a'.add c) = some (.int .u8 ((Z r).getD c 0))) :
    ∃ bss : List (List UInt8), bss.length = len ∧ RowsW w (.slice (some a) len cap) bss := by
  refine ⟨(List.range len).map (fun r => ((Z r).take (L r)).map (fun n => UInt8.ofNat n.toNat)), by simp, .inr ⟨a.block, a.off, cap, ?_, by simpa using hl, hm, ?_⟩⟩
  · rw [addr_eta a hs]; simp
  · intro i hi
    simp only [List.length_map, List.length_range] at hi
    obtain ⟨h1, h2, h3, h4, h5, h6, h7⟩ := h i (by omega)
    rw [addr_eta a hs, addr_add] at h1
    refine ⟨_, h1, ?_, ?_⟩
    · simp only [List.getElem_map, List.getElem_range]
      cases hA : A i with
      | none =>
        have h0 := h6 hA
        have hL : L i = 0 := by omega
        left; left
        rw [hL]
        exact ⟨by rw [h0], by simp [u8s]⟩
      | some a' =>
        obtain ⟨_, h8⟩ := h7 a' hA
        by_cases hsp : a'.spot = none
        · have hrow : RowIn .u8 w (some a') (L i) (C i) (Z i) := .inr ⟨a', rfl, hsp, h2, h3, h4, fun j hj => h8 j (by omega), h5⟩
          have := bytes_of_rowZ hrow
          exact .inl this
        · have hc0 : C i = 0 := by
            rcases Nat.eq_zero_or_pos (C i) with h0 | h0
            · exact h0
            · exfalso
              have := World.cell?_spot (h8 0 h0)
              exact hsp (by simpa [Addr.add] using this)
          have hL : L i = 0 := by omega
          right
          rw [hL, hc0]
          exact ⟨by simp, a', rfl⟩
    · simp only [List.getElem_map, List.getElem_range, List.length_map, List.length_take]
      have := hC i hi
      omega

theorem weightsAll_mem {H : Type} {P : Program} {e : TypeId} {d : DataW H} {n : Nat} (hn : n ∈ d.weights P e) : ∀ {l : List (DataW H)}, d ∈ l → n ∈ DataW.weightsAll P e l
  | [], h => by cases h
  | x :: l, h => by
    rw [DataW.weightsAll, List.mem_append]
    rcases List.mem_cons.1 h with rfl | h
    · exact .inl hn
    · exact .inr (weightsAll_mem hn h)
theorem inner_sized {H : Type} {P : Program} {ts : List TypeId} {ds : List (DataW H)} (h : (DataW.weightsEach P ts ds).all (· ≤ reachBytes) = true) {j : Nat} {t e e2 : TypeId} {elems spare el2 sp2 : List (DataW H)}
    (ht : ts[j]? = some t) (hd : ds[j]? = some (.slice elems spare)) (hu : P.underlying t = some (.slice e)) (hm : DataW.slice el2 sp2 ∈ elems) (he : P.underlying e = some (.slice e2)) : (el2.length + sp2.length) * P.bytesOf e2 ≤ reachBytes := by
  have := List.all_eq_true.1 h _ (DataW.weights_mem_each ht hd ((el2.length + sp2.length) * P.bytesOf e2) (by
    simp only [DataW.weights, hu, List.mem_cons, List.mem_append]
    exact .inr (.inl (weightsAll_mem (by simp [DataW.weights, he]) hm))))
  simpa using this
open Go.Deep Go.ChangeShapes in
/-- A slice of slices of bytes that a law takes. -/
theorem rowsW_in {H : Type} {enc : TypeId × Value → H} {P : Program} {w : World} {fuel : Nat} {a : Option Addr} {len cap : Nat} {d : DataW H} {pl : List MemPlace} {ts : List TypeId} {ds : List (DataW H)} {j : Nat} {t e q : TypeId} {base : Nat} {r : Reach}
    (ht : P.underlying t = some (.slice e)) (he : P.underlying e = some (.slice q)) (hq : P.underlying q = some (.int .u8)) (ce : P.cellsOf e = 1) (cq : P.cellsOf q = 1) (be : P.bytesOf e = 24) (bq : P.bytesOf q = 1)
    (h : DataW.trod enc P w 0 (fun _ => true) true fuel t [.slice a len cap] = some (d, pl)) (hok : Value.okWide P w r base t (.slice a len cap))
    (hs : (DataW.weightsEach P ts ds).all (· ≤ reachBytes) = true) (htj : ts[j]? = some t) (hdj : ds[j]? = some d) : ∃ bss, RowsW w (.slice a len cap) bss := by
  rcases open_int_rows ht he hq ce cq h with ⟨hcs, _⟩ | ⟨x, l, c, A, L, C, Z, hcs, _, hl, hm, hx, hcell⟩
  · simp at hcs
    obtain ⟨rfl, rfl, rfl⟩ := hcs
    exact ⟨[], .inl ⟨rfl, rfl⟩⟩
  · simp at hcs
    obtain ⟨rfl, rfl, rfl⟩ := hcs
    have hd := congrArg Prod.fst hx
    simp only at hd
    subst hd
    have h24 := sized_slice hs htj hdj ht
    rw [be] at h24
    simp only [List.length_map, List.length_range] at h24
    have hr : reachBytes = 140737488351232 := rfl
    rw [hr] at h24
    obtain ⟨bss, _, hb⟩ := rowsW_of_open (okWide_spot ht hok) hl (by omega) (fun r hrl => by
      obtain ⟨_, _, _, h4, _, h6, _⟩ := hcell r (by omega)
      cases hA : A r with
      | none => rw [h6 hA]; omega
      | some a' =>
        have h1 := inner_sized (el2 := lits .u8 ((Z r).take (L r))) (sp2 := lits .u8 ((Z r).drop (L r))) hs htj hdj ht (by
          rw [List.mem_map]
          exact ⟨r, by simpa using hrl, by rw [hA]; rfl⟩) he
        rw [bq, hr] at h1
        simp [lits] at h1
        omega) hcell
    exact ⟨bss, hb⟩
end Go.Proofs.Ythkjihfnphdfkaa
