/- What a stock is in memory; New, Find, Len, Size, Get. -/
import Derived.Test.YthkjihfnphdfkaaCopied
import Derived.Test.YthkjihfnphdfkaaMap
import Derived.Maps.OwnSet
import Derived.StillTailTactics
namespace Go.Proofs.Ythkjihfnphdfkaa
open Go.RowKit Go.Maps
open Go.WideMaps (keyOf_string_mk)

def total (L : List Bs) : Nat := (L.map List.length).sum

theorem keyed9 : Keyed Try.prog 9 := string_keyed Try.underlying9
theorem zero3 (w : World) : (zeroValue 3).run Try.prog w = .ok (.int .i64 0) w := by kernel_rfl

/-- The block p is a stock with the contents L; all that it owns lies in blocks of O. -/
structure StockAt (w : World) (O : Nat → Prop) (p : Nat) (lim : Nat) (L : List Bs) (lv : Value) (m : Nat) (vs : List Value) : Prop where
  cell : w.heap[p]? = some (.cells #[.int .i64 lim, .int .i64 (total L), lv, .map (some m)] 59 (0, 0))
  row : w.ownsRow 0 28 1 lv L.length vs
  at_ : ∀ i (h : i < L.length), ∃ v, vs[i]? = some v ∧ Bytes w v L[i] ∧ InB v (fun k => O k ∧ k < w.heap.size ∧ k ≠ p ∧ k ≠ m ∧ lv.ownBlock ≠ some k)
  map : w.ownsMap Try.prog 9 (plainElem Try.prog 3) m L.length (mapOf L)
  nodup : L.Nodup
  small : total L ≤ lim
  limit : lim ≤ 65536
  ownP : O p
  ownM : O m
  ownL : InB lv O
  each : ∀ b ∈ L, b.length ≤ 8192

theorem length_le_total : ∀ (L : List Bs), L.Nodup → L.length ≤ total L + 1
  | [], _ => by simp [total]
  | x :: L, h => by
    have ih := length_le_total L (List.nodup_cons.1 h).2
    by_cases hx : x = []
    · subst hx
      have hne : ∀ y ∈ L, 1 ≤ y.length := fun y hy => by
        rcases y with _ | ⟨a, y⟩
        · exact absurd hy (List.nodup_cons.1 h).1
        · simp
      have : L.length ≤ total L := by
        clear ih h
        induction L with
        | nil => simp [total]
        | cons y L ih' =>
          have h1 := hne y (by simp)
          have h2 := ih' (fun z hz => hne z (by simp [hz]))
          simp only [total, List.map_cons, List.sum_cons, List.length_cons] at *
          omega
      simp only [total, List.map_cons, List.sum_cons, List.length_cons, List.length_nil] at *
      omega
    · have : 1 ≤ x.length := by
        rcases x with _ | ⟨a, x⟩
        · exact absurd rfl hx
        · simp
      simp only [total, List.map_cons, List.sum_cons, List.length_cons] at *
      omega

def IsStock (w : World) (O : Nat → Prop) (p : Nat) (lim : Nat) (L : List Bs) : Prop := ∃ lv m vs, StockAt w O p lim L lv m vs

variable {w w' : World} {O : Nat → Prop} {p lim : Nat} {L : List Bs} {lv : Value} {m : Nat} {vs : List Value}

theorem StockAt.count (h : StockAt w O p lim L lv m vs) : L.length ≤ 65537 := by
  have := length_le_total L h.nodup
  have := h.small
  have := h.limit
  omega

theorem StockAt.c0 (h : StockAt w O p lim L lv m vs) : w.cell? ⟨p, 0, none⟩ = some (.int .i64 lim) := by rw [cell_of_row w p 0 _ _ _ h.cell]; rfl
theorem StockAt.c1 (h : StockAt w O p lim L lv m vs) : w.cell? ⟨p, 1, none⟩ = some (.int .i64 (total L)) := by rw [cell_of_row w p 1 _ _ _ h.cell]; rfl
theorem StockAt.c2 (h : StockAt w O p lim L lv m vs) : w.cell? ⟨p, 2, none⟩ = some lv := by rw [cell_of_row w p 2 _ _ _ h.cell]; rfl
theorem StockAt.c3 (h : StockAt w O p lim L lv m vs) : w.cell? ⟨p, 3, none⟩ = some (.map (some m)) := by rw [cell_of_row w p 3 _ _ _ h.cell]; rfl
theorem StockAt.fr (h : StockAt w O p lim L lv m vs) (i : Nat) : w.frozen? ⟨p, i, none⟩ = false := frozen_of_row w p i _ _ h.cell
theorem StockAt.lt (h : StockAt w O p lim L lv m vs) : p < w.heap.size := (Array.getElem?_eq_some_iff.1 h.cell).1
theorem StockAt.ltM (h : StockAt w O p lim L lv m vs) : m < w.heap.size := h.map.lt

/-- What lies beyond a stock's blocks does not matter to it. -/
theorem StockAt.keep (h : StockAt w O p lim L lv m vs) {S : Nat → Prop} (k : Keeps S w w') (hS : ∀ i, O i → ¬ S i) : StockAt w' O p lim L lv m vs where
  cell := (k.block p h.lt (hS p h.ownP)).trans h.cell
  row := by
    have ho := h.ownL
    have hl := h.row.lt
    refine ⟨h.row.1, ?_⟩
    rcases h.row.2 with hn | ⟨g, cap, cur, hv, hb, hg, rest⟩
    · exact .inl hn
    · refine .inr ⟨g, cap, cur, hv, hb, ?_, rest⟩
      have e : lv.ownBlock = some g := by rw [hv]; rfl
      exact (k.block g (hl g e).2 (hS g (ho g e))).trans hg
  at_ := fun i hi => by
    obtain ⟨v, h1, h2, h3⟩ := h.at_ i hi
    exact ⟨v, h1, RowAt.keeps h2 k (fun j e => hS j (h3 j e).1), h3.mono fun j ⟨a, b, c⟩ => ⟨a, Nat.lt_of_lt_of_le b k.size, c⟩⟩
  map := by
    obtain ⟨es, clock, hb, F, hs, hD⟩ := h.map
    exact ⟨es, clock, (k.block m h.ltM (hS m h.ownM)).trans hb, F, hs, hD⟩
  nodup := h.nodup
  small := h.small
  limit := h.limit
  ownP := h.ownP
  ownM := h.ownM
  ownL := h.ownL
  each := h.each

theorem StockAt.mono (h : StockAt w O p lim L lv m vs) {O' : Nat → Prop} (ho : ∀ k, O k → O' k) : StockAt w O' p lim L lv m vs :=
  { h with
    at_ := fun i hi => by
      obtain ⟨v, h1, h2, h3⟩ := h.at_ i hi
      exact ⟨v, h1, h2, h3.mono fun j ⟨a, b⟩ => ⟨ho j a, b⟩⟩
    ownP := ho _ h.ownP
    ownM := ho _ h.ownM
    ownL := h.ownL.mono ho }

theorem IsStock.keep (h : IsStock w O p lim L) {S : Nat → Prop} (k : Keeps S w w') (hS : ∀ i, O i → ¬ S i) : IsStock w' O p lim L := let ⟨lv, m, vs, h⟩ := h; ⟨lv, m, vs, h.keep k hS⟩
theorem IsStock.mono (h : IsStock w O p lim L) {O' : Nat → Prop} (ho : ∀ k, O k → O' k) : IsStock w O' p lim L := let ⟨lv, m, vs, h⟩ := h; ⟨lv, m, vs, h.mono ho⟩

set_option maxHeartbeats 400000 in
theorem len_any (h : StockAt w O p lim L lv m vs) : Calls Try.prog 13 #[.pointer (some ⟨p, 0, none⟩)] w fun e w' => e = .returned (.int .i64 L.length) ∧ w = w' := by
  obtain ⟨a, cap, hv, _⟩ := (RowAt.of_owns h.row).shape
  have h2 := h.c2
  rw [hv] at h2
  have hl : vs.length = L.length := by have := h.row.1; omega
  rw [hl] at h2
  clear hv hl
  go_enter Try.func13, Try.ntmps13
  go_wp2
  go_ret
  exact ⟨rfl, rfl⟩

set_option maxHeartbeats 400000 in
theorem size_any (h : StockAt w O p lim L lv m vs) : Calls Try.prog 14 #[.pointer (some ⟨p, 0, none⟩)] w fun e w' => e = .returned (.int .i64 (total L)) ∧ w = w' := by
  have h2 := h.c1
  go_enter Try.func14, Try.ntmps14
  go_wp2
  go_ret
  exact ⟨rfl, rfl⟩

/-- The place of a content; -1: it is not there. -/
def place (L : List Bs) (b : Bs) : Int := if b ∈ L then (L.idxOf b : Int) else -1

set_option maxHeartbeats 400000 in
theorem find_any (h : StockAt w O p lim L lv m vs) (v : Value) (b : Bs) (hv : BytesW w v b) (hb : b.length ≤ 140737488355328) :
    Calls Try.prog 17 #[.pointer (some ⟨p, 0, none⟩), v] w fun e w' => e = .returned (.int .i64 (place L b)) ∧ ∃ k, w' = w.drewN k := by
  have h3 := h.c3
  have hconv : ∀ nq, (convert 28 9 v).run Try.prog (w.drewN nq) = .ok (.string ⟨b.toArray⟩) (w.drewN nq) := fun nq => run_string_ofW (w.drewN nq) 28 5 Try.underlying28 Try.underlying5 hv 9 Try.underlying9
  have hkey : keyOf Try.prog 9 (.string ⟨b.toArray⟩) = some (.string b) := keyOf_string_mk Try.underlying9 (by simp [ByteArray.size, maxLen]; omega)
  obtain ⟨z, ps, hlook, hz⟩ := h.map.look_ok keyed9 Try.underlying57 (zero3 w) (plainElem_int Try.underlying3 (by decide)) hkey
  obtain ⟨c, rfl, hc, hwc⟩ := plainElem_int_inv Try.underlying3 hz
  have hc := congrArg Prod.fst hc
  rw [has_mapOf] at hlook
  have hl : ∀ nq, (Instr.lookup 57 (.map (some m)) (.string ⟨b.toArray⟩) true).run Try.prog (w.drewN nq) = .ok (.tuple #[.int .i64 c, .bool (decide (b ∈ L))]) (w.drewN nq) := fun nq => by
    obtain ⟨z', ps', hlook', hz'⟩ := World.ownsMap.look_ok (w := w.drewN nq) h.map keyed9 Try.underlying57 (zero3 _) (plainElem_int Try.underlying3 (by decide)) hkey
    obtain ⟨c', rfl, hc', _⟩ := plainElem_int_inv Try.underlying3 hz'
    have e : c' = c := by
      have := (congrArg Prod.fst hc').symm.trans hc
      simpa using this
    subst e
    rw [has_mapOf] at hlook'
    exact hlook'
  by_cases hm : b ∈ L
  · have e : place L b = c := by
      rw [at_mapOf h.nodup hm] at hc
      unfold place
      rw [if_pos hm]
      simpa using hc
    rw [e]
    have hd : decide (b ∈ L) = true := by simpa using hm
    rw [hd] at hl
    clear hlook hd hc hz hm e
    go_enter Try.func17, Try.ntmps17
    go_wp2_with fail
    go_quiet (fail)
    go_wp2
    go_ret
    exact ⟨rfl, _, rfl⟩
  · have e : place L b = -1 := by unfold place; rw [if_neg hm]
    rw [e]
    have hd : decide (b ∈ L) = false := by simpa using hm
    rw [hd] at hl
    clear hlook hd hc hz hm e
    go_enter Try.func17, Try.ntmps17
    go_wp2_with fail
    go_quiet (fail)
    go_wp2
    go_ret
    exact ⟨rfl, _, rfl⟩

set_option maxHeartbeats 400000 in
theorem new_no (limit : Int) (w : World) (h : limit < 0 ∨ 65536 < limit) :
    Calls Try.prog 10 #[.int .i64 limit] w fun e w' => e = .returned (.tuple #[.pointer none, .int .i64 1]) ∧ w = w' := by
  rcases h with h | h
  all_goals
    go_enter Try.func10, Try.ntmps10
    go_wp2
    go_ret2
    exact ⟨rfl, rfl⟩

/-- a block laid between w and w'. -/
def NewIn (w w' : World) (k : Nat) : Prop := w.heap.size ≤ k ∧ k < w'.heap.size

def NewPost (n : Nat) (w : World) (e : Ending) (w' : World) : Prop :=
  ∃ p, e = .returned (.tuple #[.pointer (some ⟨p, 0, none⟩), .int .i64 0]) ∧ IsStock w' (NewIn w w') p n [] ∧ Below w.heap.size w w'

theorem new_stock (n : Nat) (w : World) (hn : n ≤ 65536) (o : Obj) (ho : o = .cells #[.int .i64 n, .int .i64 0, .slice none 0 0, .map (some w.heap.size)] 59) :
    IsStock ((w.alloc (.map #[] 0)).alloc o) (NewIn w ((w.alloc (.map #[] 0)).alloc o)) (w.heap.size + 1) n [] := by
  subst ho
  refine ⟨.slice none 0 0, w.heap.size, [], { cell := ?_, row := World.ownsRow_nil _ _ _ _, at_ := ?_, map := ?_, nodup := by simp, small := by simp [total], limit := hn, ownP := by unfold NewIn; simp, ownM := by unfold NewIn; simp; omega, ownL := InB.nil _, each := by simp }⟩
  · have := heap_alloc_new (w.alloc (.map #[] 0)) (.cells #[.int .i64 n, .int .i64 0, .slice none 0 0, .map (some w.heap.size)] 59)
    have e : total [] = 0 := rfl
    rw [e]
    simpa using this
  · intro i hi; simp at hi
  · exact (World.ownsMap_made w Try.prog 9 _).alloc _

set_option maxHeartbeats 400000 in
theorem new_yes (n : Nat) (w : World) (h : n ≤ 65536) :
    Calls Try.prog 10 #[.int .i64 n] w (NewPost n w) := by
  have hmm := @run_makeMap Try.prog
  have h0 : (0 : Int) ≤ n := by omega
  go_enter Try.func10, Try.ntmps10
  go_wp2
  go_ret2
  exact ⟨_, rfl, new_stock n w h _ rfl, ((Below.refl _ _).alloc (Nat.le_refl _) _).alloc (by simp) _⟩
end Go.Proofs.Ythkjihfnphdfkaa
