/- Slices of structs of one-cell fields that a law takes: element by element, field by field, with their sizes. ('open_slice_fields' began as the guide's own text, extra-structs.) No condition. -/
import Derived.Test.YthfncgbkigmmcaaWide
import Derived.Deep.Slices
import Derived.Deep.Fields
import Derived.ChangeSame
namespace Go.Proofs.Ythfncgbkigmmcaa
open Go.RowKit Go.ChangeShapes Go.WideShapes Go.Deep

section
variable {H : Type} {enc : TypeId × Value → H} {P : Program} {w : World}
theorem open_slice_fields {base : Nat} {spare : Nat → Bool} {held : Bool} {t e : TypeId} {fs : Array Field} {fuel : Nat} {cs : List Value} {x : DataW H × List MemPlace} (ht : P.underlying t = some (.slice e)) (he : P.underlying e = some (.struct fs))
    (hone : oneCellFields P fs = true) (hC : P.cellsOf e = fs.size) (h : DataW.trod enc P w base spare held fuel t cs = some x) :
    (cs = [.slice none 0 0] ∧ x = (.nil, [])) ∨
    ∃ (a : Addr) (len cap m : Nat) (D : Nat → DataW H) (Pl : Nat → List MemPlace), cs = [.slice (some a) len cap] ∧ base ≤ a.block ∧ len ≤ cap ∧ cap ≤ maxLen ∧ m = (if spare a.block then cap else len) ∧
      x = (.slice ((List.range len).map D) ((List.range (m - len)).map fun j => D (len + j)), MemPlace.row a (m * fs.size) ++ (List.range m).flatMap Pl) ∧
      ∀ i, i < m → ∃ (ys : List (DataW H × List MemPlace)) (n : Nat), D i = .agg (ys.map (·.1)) ∧ Pl i = ys.flatMap (·.2) ∧ ys.length = fs.size ∧
        ∀ (j : Nat) (f : Field), fs[j]? = some f → ∃ (v : Value) (y : DataW H × List MemPlace), w.cell? (a.add (i * fs.size + j)) = some v ∧ ys[j]? = some y ∧ DataW.trod enc P w base spare held n f.type [v] = some y := by
  rcases open_slice ht h with h0 | ⟨a, len, cap, m, n, D, Pl, hcs, hb, hl, hm, hmm, hx, hi⟩
  · exact .inl h0
  · refine .inr ⟨a, len, cap, m, D, Pl, hcs, hb, hl, hm, hmm, by rw [hC] at hx; exact hx, fun i him => ?_⟩
    obtain ⟨cs', hc, ht'⟩ := hi i him
    rw [hC] at hc
    obtain ⟨ys, n', hn', hy, hlen, hyl, hf⟩ := DataW.trod_struct he ht'
    obtain ⟨_, hcl, hat⟩ := World.cells?_some hc
    simp only [Prod.mk.injEq] at hy
    refine ⟨ys, n', hy.1, hy.2, hyl, fun j f hj => ?_⟩
    obtain ⟨ho, hk⟩ := hone_of hone j f hj
    have hjl : j < fs.size := (Array.getElem?_eq_some_iff.1 hj).1
    have hcell := hat j hjl
    have hv : cs'[j]? = some (cs'[j]'(by omega)) := List.getElem?_eq_getElem (by omega)
    have h1 := hf j f hj
    rw [ho, hk] at h1
    have hone' : (cs'.drop j).take 1 = [cs'[j]'(by omega)] := by
      rw [List.drop_eq_getElem_cons (by omega)]
      rfl
    rw [hone'] at h1
    have hys : ys[j]? = some (ys[j]'(by omega)) := List.getElem?_eq_getElem (by omega)
    refine ⟨_, _, ?_, hys, h1.trans hys⟩
    rw [← Go.Deep.add_add, hcell, hv]

/-- A row of integers inside: an empty one may lead anywhere. -/
def Inner (k : IntKind) (w : World) (a : Option Addr) (len cap : Nat) (zs : List Int) : Prop :=
  len ≤ cap ∧ cap ≤ maxLen ∧ zs.length = cap ∧ (∀ n ∈ zs, (Lit.int k n).wf = true) ∧ (a = none → cap = 0) ∧ (cap = 0 ∨ ∃ g off, a = some ⟨g, off, none⟩ ∧ ∀ i, i < cap → w.cell? ⟨g, off + i, none⟩ = some (.int k (zs.getD i 0)))

/-- What a field of a struct tells: its value, its reading, its sizes. -/
def Fld (enc : TypeId × Value → H) (P : Program) (w : World) (t : TypeId) (v : Value) : Prop := ∃ (y : DataW H × List MemPlace) (n : Nat), DataW.trod enc P w 0 (fun _ => true) true n t [v] = some y ∧ ∀ x ∈ y.1.weights P t, x ≤ reachBytes
theorem Fld.int {t : TypeId} {k : IntKind} {v : Value} (h : Fld enc P w t v) (ht : P.underlying t = some (.int k)) : ∃ n, v = .int k n ∧ (Lit.int k n).wf = true := by
  obtain ⟨y, m, h, _⟩ := h
  obtain ⟨n, hv, _, hw⟩ := DataW.trod_int ht h
  simp only [List.cons.injEq, and_true] at hv
  exact ⟨n, hv, hw⟩
theorem Fld.ints {t e : TypeId} {k : IntKind} {v : Value} (h : Fld enc P w t v) (ht : P.underlying t = some (.slice e)) (he : P.underlying e = some (.int k)) (hc : P.cellsOf e = 1) : ∃ a len cap zs, v = .slice a len cap ∧ Inner k w a len cap zs ∧ cap * P.bytesOf e ≤ 140737488351232 := by
  obtain ⟨y, m, h, hw⟩ := h
  rcases open_ints ht he hc h with ⟨hv, _⟩ | ⟨a, len, cap, zs, hv, _, hl, hm, hz, hy, hcell, hwf⟩
  · simp only [List.cons.injEq, and_true] at hv
    exact ⟨none, 0, 0, [], hv, ⟨Nat.le_refl _, Nat.zero_le _, rfl, by simp, fun _ => rfl, .inl rfl⟩, by simp⟩
  · simp only [List.cons.injEq, and_true] at hv
    simp only [if_true] at hz
    refine ⟨some a, len, cap, zs, hv, ⟨hl, hm, hz, hwf, fun h => (by cases h), ?_⟩, ?_⟩
    · rcases Nat.eq_zero_or_pos cap with h0 | h0
      · exact .inl h0
      · right
        have hs := World.cell?_spot (hcell 0 (by omega))
        have hs : a.spot = none := by simpa [Addr.add] using hs
        refine ⟨a.block, a.off, by rw [← addr_eta a hs], fun i hi => ?_⟩
        have := hcell i (by omega)
        rwa [addr_eta a hs, addr_add] at this
    · have := hw (cap * P.bytesOf e) (by
        rw [congrArg Prod.fst hy]
        simp only [DataW.weights, ht, List.mem_cons]
        left
        simp [lits]
        congr 1
        omega)
      exact this

theorem weights_agg {d : List (DataW H)} {t : TypeId} {fs : Array Field} (ht : P.underlying t = some (.struct fs)) {j : Nat} {f : Field} (hf : fs[j]? = some f) {y : DataW H} (hy : d[j]? = some y) {n : Nat} (hn : n ∈ y.weights P f.type) : n ∈ (DataW.agg d).weights P t := by
  simp only [DataW.weights, ht]
  refine DataW.weights_mem_each (j := j) ?_ hy n hn
  rw [List.getElem?_map, Array.getElem?_toList, hf]
  rfl

/-- A slice of structs that a law takes. -/
theorem fields_in {fuel : Nat} {a : Option Addr} {len cap : Nat} {d : DataW H} {pl : List MemPlace} {ts : List TypeId} {ds : List (DataW H)} {j : Nat} {t e : TypeId} {fs : Array Field} {base : Nat} {r : Reach}
    (ht : P.underlying t = some (.slice e)) (he : P.underlying e = some (.struct fs)) (hone : oneCellFields P fs = true) (hC : P.cellsOf e = fs.size)
    (h : DataW.trod enc P w 0 (fun _ => true) true fuel t [.slice a len cap] = some (d, pl)) (hok : Value.okWide P w r base t (.slice a len cap))
    (hs : (DataW.weightsEach P ts ds).all (· ≤ reachBytes) = true) (htj : ts[j]? = some t) (hdj : ds[j]? = some d) :
    (a = none ∧ len = 0 ∧ cap = 0) ∨ ∃ b off, a = some ⟨b, off, none⟩ ∧ len ≤ cap ∧ cap * P.bytesOf e ≤ 140737488351232 ∧
      ∀ i, i < len → ∀ (k : Nat) (f : Field), fs[k]? = some f → ∃ v, w.cell? ⟨b, off + (i * fs.size + k), none⟩ = some v ∧ Fld enc P w f.type v := by
  rcases open_slice_fields ht he hone hC h with ⟨hcs, _⟩ | ⟨x, l, c, m, D, Pl, hcs, _, hl, hm, hmm, hx, hf⟩
  · simp only [List.cons.injEq, Value.slice.injEq, and_true] at hcs
    exact .inl hcs
  · simp only [List.cons.injEq, Value.slice.injEq, and_true] at hcs
    obtain ⟨rfl, rfl, rfl⟩ := hcs
    simp only [if_true] at hmm
    subst hmm
    have hsp := okWide_spot ht hok
    have hd := congrArg Prod.fst hx
    simp only at hd
    subst hd
    have hall := fun n hn => List.all_eq_true.1 hs n (DataW.weights_mem_each htj hdj n hn)
    right
    refine ⟨x.block, x.off, by rw [← addr_eta x hsp], hl, ?_, fun i hi k f hk => ?_⟩
    · have := hall (m * P.bytesOf e) (by
        simp only [DataW.weights, ht, List.mem_cons]
        left
        simp
        congr 1
        omega)
      exact (of_decide_eq_true this : _ ≤ reachBytes)
    · obtain ⟨ys, n, hD, _, hyl, hff⟩ := hf i (by omega)
      obtain ⟨v, y, hcell, hy, htr⟩ := hff k f hk
      refine ⟨v, by rwa [addr_eta x hsp, addr_add] at hcell, y, n, htr, fun z hz => ?_⟩
      have h1 : z ∈ (D i).weights P e := by
        rw [hD]
        exact weights_agg he hk (by rw [List.getElem?_map, hy]; rfl) hz
      have := hall z (by
        simp only [DataW.weights, ht, List.mem_cons, List.mem_append]
        refine .inr (.inl (weightsAll_mem h1 ?_))
        rw [List.mem_map]
        exact ⟨i, by simpa using hi, rfl⟩)
      simpa using this
end

/-- Bytes that lie inside. -/
theorem Inner.bytes {w : World} {a : Option Addr} {len cap : Nat} {zs : List Int} (h : Inner .u8 w a len cap zs) : ∃ b : List UInt8, b.length = len ∧ BytesW w (.slice a len cap) b := by
  obtain ⟨hl, hm, hz, hwf, hn, h0⟩ := h
  rcases h0 with rfl | ⟨g, off, rfl, hcell⟩
  · obtain rfl : len = 0 := by omega
    refine ⟨[], rfl, ?_⟩
    cases a with
    | none => exact .inl (.inl ⟨rfl, rfl⟩)
    | some a => exact .inr ⟨rfl, a, rfl⟩
  · obtain ⟨b, hb, _, _, h⟩ := bytes_of_row (w := w) (a := some ⟨g, off, none⟩) (len := len) (cap := cap) (zs := zs) (.inr ⟨_, rfl, rfl, hl, hm, hz, fun i hi => by rw [addr_add]; exact hcell i (by omega), hwf⟩)
    exact ⟨b, hb, .inl h⟩
/-- A row of integers, and what it holds: an empty one may lead anywhere. -/
def IntsW (w : World) (a : Option Addr) (len : Nat) (zs : List Int) : Prop := zs.length = len ∧ (len = 0 ∨ ∃ g off, a = some ⟨g, off, none⟩ ∧ ∀ i (h : i < zs.length), w.cell? ⟨g, off + i, none⟩ = some (.int .i64 zs[i])) ∧ ∀ n ∈ zs, (Lit.int .i64 n).wf = true
theorem Inner.intsW {w : World} {a : Option Addr} {len cap : Nat} {zs : List Int} (h : Inner .i64 w a len cap zs) : IntsW w a len (zs.take len) := by
  obtain ⟨hl, hm, hz, hwf, hn, h0⟩ := h
  have hlen : (zs.take len).length = len := by rw [List.length_take]; omega
  refine ⟨hlen, ?_, fun n hn => hwf n (List.mem_of_mem_take hn)⟩
  rcases h0 with rfl | ⟨g, off, rfl, hcell⟩
  · left; omega
  · right
    refine ⟨g, off, rfl, fun i hi => ?_⟩
    have h1 := hcell i (by omega)
    rw [h1]
    congr 2
    rw [List.getElem_take, List.getD_eq_getElem?_getD, List.getElem?_eq_getElem (by omega)]
    rfl
theorem IntsW.below {w w' : World} {B : Nat} {a : Option Addr} {len : Nat} {zs : List Int} (h : IntsW w a len zs) (hb : Below B w w') (hB : w.heap.size ≤ B) : IntsW w' a len zs := by
  obtain ⟨h1, h2, h3⟩ := h
  refine ⟨h1, h2.imp id fun ⟨g, off, h4, h5⟩ => ⟨g, off, h4, fun i hi => ?_⟩, h3⟩
  have := h5 i hi
  exact (World.cell?_of_block (w := w) (hb.block g (Nat.lt_of_lt_of_le (World.block_lt_of_cell? _ _ this) hB))).trans this
end Go.Proofs.Ythfncgbkigmmcaa
