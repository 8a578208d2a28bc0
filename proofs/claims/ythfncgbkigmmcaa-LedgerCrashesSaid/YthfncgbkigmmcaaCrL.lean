/- LedgerCrashes. -/
import Derived.Test.YthfncgbkigmmcaaCrB
import Derived.Test.YthfncgbkigmmcaaOps
namespace Go.Proofs.Ythfncgbkigmmcaa
open Go.RowKit
set_option linter.unusedVariables false

variable {w w' w1 wr : World} {O R S T : Nat → Prop} {B lp p n : Nat} {d D : DS} {dead : Bool} {c : Nat → Bs} {P : Bs → Prop}
theorem choose_list {α : Type} {n : Nat} {p : Nat → α → Prop} (h : ∀ i, i < n → ∃ x, p i x) : ∃ l : List α, l.length = n ∧ ∀ i (hi : i < l.length), p i l[i] := by
  induction n with
  | zero => exact ⟨[], rfl, fun i hi => by simp at hi⟩
  | succ n ih =>
    obtain ⟨l, h1, h2⟩ := ih (fun i hi => h i (by omega))
    obtain ⟨x, hx⟩ := h n (by omega)
    refine ⟨l ++ [x], by simp [h1], fun i hi => ?_⟩
    by_cases hlt : i < l.length
    · rw [List.getElem_append_left hlt]; exact h2 i hlt
    · have : i = l.length := by simp at hi; omega
      subst this
      rw [List.getElem_append_right (by omega)]
      simpa [h1] using hx
/-- a call that came in -/
structure OpD where
  x1 : Int
  x2 : Int
  aa : Option Addr
  an : Nat
  ac : Nat
  fs : Nat → Int
  da : Option Addr
  dn : Nat
  dc : Nat
  ds : Nat → Int
  ka : Option Addr
  kn : Nat
  kc : Nat
  ks : Nat → Int
def OpAt (w : World) (g off : Nat) (o : OpD) : Prop := w.cell? ⟨g, off, none⟩ = some (.int .i64 o.x1) ∧ w.cell? ⟨g, off + 1, none⟩ = some (.int .i64 o.x2) ∧ w.cell? ⟨g, off + 2, none⟩ = some (.slice o.aa o.an o.ac) ∧ w.cell? ⟨g, off + 3, none⟩ = some (.slice o.da o.dn o.dc) ∧ w.cell? ⟨g, off + 4, none⟩ = some (.slice o.ka o.kn o.kc)
def OpRows (w : World) (o : OpD) : Prop := IntsB w o.aa o.an o.fs ∧ IntsB w o.da o.dn o.ds ∧ IntsB w o.ka o.kn o.ks ∧ o.an ≤ 140737488351232 ∧ o.kn ≤ 140737488351232
theorem OpAt.keep {K : Nat → Prop} {g off : Nat} {o : OpD} (h : OpAt w g off o) (k : Keeps K w w') (hg : ¬ K g) : OpAt w' g off o := by
  obtain ⟨h0, h1, h2, h3, h4⟩ := h
  have hl := World.block_lt_of_cell? _ _ h0
  exact ⟨(k.cell (p := ⟨g, off, none⟩) hl hg).trans h0, (k.cell (p := ⟨g, off + 1, none⟩) hl hg).trans h1, (k.cell (p := ⟨g, off + 2, none⟩) hl hg).trans h2, (k.cell (p := ⟨g, off + 3, none⟩) hl hg).trans h3, (k.cell (p := ⟨g, off + 4, none⟩) hl hg).trans h4⟩
theorem OpAt.below {g off : Nat} {o : OpD} (h : OpAt w g off o) (hb : Below w.heap.size w w') : OpAt w' g off o := h.keep (Keeps.of_below (S := fun _ => False) hb) id
theorem OpAt.new (w : World) (o : OpD) : OpAt (w.alloc (.cells #[.int .i64 o.x1, .int .i64 o.x2, .slice o.aa o.an o.ac, .slice o.da o.dn o.dc, .slice o.ka o.kn o.kc] 52 (0, 0))) w.heap.size 0 o := by
  refine ⟨?_, ?_, ?_, ?_, ?_⟩ <;> (rw [cell_of_row _ _ _ _ _ _ (heap_alloc_new _ _)]; rfl)
theorem OpRows.below {o : OpD} (h : OpRows w o) (hb : Below w.heap.size w w') : OpRows w' o := ⟨h.1.below hb, h.2.1.below hb, h.2.2.1.below hb, h.2.2.2⟩
def OpsC (w : World) (v : Value) (ops : List OpD) : Prop :=
  (v = .slice none 0 0 ∧ ops = []) ∨ ∃ b off cap, v = .slice (some ⟨b, off, none⟩) ops.length cap ∧ ops.length ≤ 140737488351232 ∧ ∀ i (h : i < ops.length), OpAt w b (off + i * 5) ops[i] ∧ OpRows w ops[i]
theorem OpsC.below {v : Value} {ops : List OpD} (h : OpsC w v ops) (hb : Below w.heap.size w w') : OpsC w' v ops := by
  rcases h with h | ⟨b, off, cap, h1, h2, h3⟩
  · exact .inl h
  · exact .inr ⟨b, off, cap, h1, h2, fun i hi => ⟨(h3 i hi).1.below hb, (h3 i hi).2.below hb⟩⟩
theorem OpsC.shape {v : Value} {ops : List OpD} (h : OpsC w v ops) : ∃ a cap, v = .slice a ops.length cap := by
  rcases h with ⟨h1, h2⟩ | ⟨b, off, cap, h1, _⟩
  · exact ⟨none, 0, by rw [h1, h2]; rfl⟩
  · exact ⟨_, _, h1⟩
theorem OpsC.at {a : Option Addr} {len cap : Nat} {ops : List OpD} (h : OpsC w (.slice a len cap) ops) (i : Nat) (hi : i < ops.length) : ∃ b off, a = some ⟨b, off, none⟩ ∧ OpAt w b (off + i * 5) ops[i] ∧ OpRows w ops[i] := by
  rcases h with ⟨_, h2⟩ | ⟨b, off, cap, h1, h2, h3⟩
  · rw [h2] at hi
    simp at hi
  · cases h1
    exact ⟨b, off, rfl, h3 i hi⟩
theorem Inner.ints {a : Option Addr} {len cap : Nat} {zs : List Int} (h : Inner .i64 w a len cap zs) : IntsB w a len (fun i => zs.getD i 0) := by
  obtain ⟨hl, hm, hz, hwf, hn, h0⟩ := h
  rcases h0 with h0 | ⟨g, off, rfl, hcell⟩
  · exact .inl (by omega)
  · exact .inr ⟨g, off, rfl, fun i hi => hcell i (by omega)⟩
theorem opsC_in {H : Type} {enc : TypeId × Value → H} {w : World} {fuel : Nat} {a : Option Addr} {len cap : Nat} {d : DataW H} {pl : List MemPlace} {ts : List TypeId} {ds : List (DataW H)} {j : Nat} {base : Nat} {r : Reach}
    (h : DataW.trod enc Try.prog w 0 (fun _ => true) true fuel 60 [.slice a len cap] = some (d, pl)) (hok : Value.okWide Try.prog w r base 60 (.slice a len cap))
    (hs : (DataW.weightsEach Try.prog ts ds).all (· ≤ reachBytes) = true) (htj : ts[j]? = some 60) (hdj : ds[j]? = some d) : ∃ ops, OpsC w (.slice a len cap) ops := by
  rcases fields_in Try.underlying60 Try.underlying52 (by kernel_rfl) (by kernel_rfl) h hok hs htj hdj with ⟨rfl, rfl, rfl⟩ | ⟨b, off, rfl, hl, hby, hf⟩
  · exact ⟨[], .inl ⟨rfl, rfl⟩⟩
  · have e38 : Try.prog.bytesOf 52 = 88 := by kernel_rfl
    rw [e38] at hby
    obtain ⟨ops, ho, hops⟩ := choose_list (n := len) (p := fun i (o : OpD) => OpAt w b (off + i * 5) o ∧ OpRows w o) (fun i hi => by
        obtain ⟨v0, c0, f0⟩ := hf i hi 0 _ rfl
        obtain ⟨v1, c1, f1⟩ := hf i hi 1 _ rfl
        obtain ⟨v2, c2, f2⟩ := hf i hi 2 _ rfl
        obtain ⟨v3, c3, f3⟩ := hf i hi 3 _ rfl
        obtain ⟨v4, c4, f4⟩ := hf i hi 4 _ rfl
        obtain ⟨n0, rfl, w0⟩ := f0.int Try.underlying3
        obtain ⟨n1, rfl, w1⟩ := f1.int Try.underlying3
        obtain ⟨aa, an, ac, za, rfl, ha, hba⟩ := f2.ints Try.underlying46 Try.underlying3 (by kernel_rfl)
        obtain ⟨da, dn, dc, zd, rfl, hd, hbd⟩ := f3.ints Try.underlying46 Try.underlying3 (by kernel_rfl)
        obtain ⟨ka, kn, kc, zk, rfl, hk, hbk⟩ := f4.ints Try.underlying46 Try.underlying3 (by kernel_rfl)
        have e5 : Try.prog.bytesOf 3 = 8 := by kernel_rfl
        rw [e5] at hba hbk
        have h1 := ha.1
        have h2 := hk.1
        exact ⟨⟨n0, n1, aa, an, ac, fun i => za.getD i 0, da, dn, dc, fun i => zd.getD i 0, ka, kn, kc, fun i => zk.getD i 0⟩, ⟨c0, c1, c2, c3, c4⟩, ha.ints, hd.ints, hk.ints, by show an ≤ _; omega, by show kn ≤ _; omega⟩)
    refine ⟨ops, .inr ⟨b, off, cap, by rw [ho], by omega, hops⟩⟩
def LongPost (ops : List OpD) (w : World) (e : Ending) (w' : World) : Prop := ∃ r : Bool, e = .returned (.bool r) ∧ (r = false → ∀ i (h : i < ops.length), ops[i].kn ≤ 3000) ∧ Below w.heap.size w w'
theorem LongPost.intro {ops : List OpD} {e : Ending} (r : Bool) (h1 : e = .returned (.bool r)) (h2 : r = false → ∀ i (h : i < ops.length), ops[i].kn ≤ 3000) (h3 : Below w.heap.size w w') : LongPost ops w e w' := ⟨r, h1, h2, h3⟩
set_option maxRecDepth 8000 in
set_option maxHeartbeats 1600000 in
theorem long_any (v : Value) (ops : List OpD) (w : World) (ho : OpsC w v ops) : Calls Try.prog 33 #[v] w fun e w' => LongPost ops w e w' := by
  obtain ⟨a, cap, rfl⟩ := ho.shape
  have HO := Lib.hid ho
  have hlen : ops.length ≤ 140737488351232 := by
    rcases ho with ⟨_, h⟩ | ⟨_, _, _, _, h, _⟩
    · rw [h]; simp
    · exact h
  have hl1 : (ops.length : Int) ≤ 140737488351232 := by omega
  clear ho hlen
  go_enter Try.func33, Try.ntmps33
  go_wp2_with fail
  go_loopw [3, 4] (fun n i wr => ∃ (N k : Nat), n = .int .i64 (N : Int) ∧ i = .int .i64 (k : Int) ∧ k ≤ ops.length ∧ (N : Int) ≤ 281474976720000 ∧ Hid (∀ i (h : i < ops.length), i < k → ops[i].kn ≤ N) ∧ Below w.heap.size w wr) (fun _ i _ => ops.length - (intOf i).toNat)
  case atStart => exact ⟨0, 0, rfl, rfl, Nat.zero_le _, by omega, fun i h h2 => by omega, Below.refl _ _⟩
  case round =>
    obtain ⟨N, k, rfl, rfl, hk, hN, HK, hb⟩ := hrel
    have HB := Lib.hid hb
    have k0 : (0 : Int) ≤ (k : Int) := by omega
    have N0 : (0 : Int) ≤ (N : Int) := by omega
    clear hb
    by_cases hlt : k < ops.length
    · have k1 : (k : Int) < (ops.length : Int) := by omega
      by_cases hN3 : (N : Int) ≤ 3000
      · have HWD : Hid (Below w.heap.size w wr.drew) := HB.out.trans ((Below.refl _ _).drew.mono HB.out.size)
        obtain ⟨b, off, e1, ⟨_, _, hc2, _, hc4⟩, hrows⟩ := (HO.out.below HWD.out).at k hlt
        subst e1
        have h4 := hrows.2.2.2.1
        have h5 := hrows.2.2.2.2
        have HKN : Hid (∀ i (h : i < ops.length), i < k + 1 → ops[i].kn ≤ N + 1 + ops[k].an + ops[k].kn) := fun i h hi => by
          rcases Nat.lt_or_ge i k with q | q
          · have := HK.out i h q; omega
          · obtain rfl : i = k := by omega
            omega
        generalize ops[k].an = A at *
        generalize ops[k].kn = Kn at *
        have hw1 : IntKind.i64.wrap ((N : Int) + 1) = (N : Int) + 1 := by rw [IntKind.wrap_i64]; omega
        have hw2 : IntKind.i64.wrap ((N : Int) + 1 + (A : Int)) = (N : Int) + 1 + (A : Int) := by rw [IntKind.wrap_i64]; omega
        have hw3 : IntKind.i64.wrap ((N : Int) + 1 + (A : Int) + (Kn : Int)) = ((N + 1 + A + Kn : Nat) : Int) := by rw [IntKind.wrap_i64]; omega
        have HNB : Hid (((N + 1 + A + Kn : Nat) : Int) ≤ 281474976720000) := by show _ ≤ _; omega
        generalize hNN : N + 1 + A + Kn = NN at *
        clear h4 h5 hrows hNN
        go_wp2_with fail
        refine wp_region_noPanic ?_
        refine wp_region_ord [0, 1, 2, 3, 4, 5, 6, 7, 8, 9, 10, 11, 12, 13, 14, 15, 16] (fun W => W.cell? ⟨b, off + k * 5 + 2, none⟩ = some (.slice ops[k].aa A ops[k].ac) ∧ W.cell? ⟨b, off + k * 5 + 4, none⟩ = some (.slice ops[k].ka Kn ops[k].kc)) (by kernel_rfl) (by kernel_rfl) rfl (by kernel_rfl) (fun _ _ _ _ _ h => h) ⟨hc2, hc4⟩ ?_
        repeat (apply held_run rfl (by rfl) (by rfl); (intro w hSw; go_simp; with_reducible rfl); (try simp only [Act.put, List.setIfInBounds_toArray, List.set_cons_zero, List.set_cons_succ]))
        refine held_nil (NoPanic.normal ?_)
        go_wp2_with fail
        go_roundw
        case rel => exact ⟨NN, k + 1, rfl, by go_num, by omega, HNB.out, HKN.out, HWD.out⟩
        case measure => simp [intOf]; omega
      · have hg : (3000 : Int) < (N : Int) := by omega
        go_wp2_with fail
        go_ret
        exact LongPost.intro true rfl (fun e => by cases e) HB.out
    · obtain rfl : k = ops.length := by omega
      by_cases hg : (3000 : Int) < (N : Int)
      · go_wp2_with fail
        go_ret
        exact LongPost.intro true rfl (fun e => by cases e) HB.out
      · have HKK : Hid (∀ i (h : i < ops.length), ops[i].kn ≤ 3000) := fun i h => by have := HK.out i h h; omega
        go_wp2_with fail
        go_ret
        exact LongPost.intro false rfl (fun _ => HKK.out) HB.out
end Go.Proofs.Ythfncgbkigmmcaa
namespace Go.Proofs.Ythfncgbkigmmcaa
open Go.RowKit
set_option linter.unusedVariables false

variable {w w' w1 wr : World} {O R S T : Nat → Prop} {B lp p n : Nat} {d D : DS} {dead : Bool} {c : Nat → Bs} {P : Bs → Prop}
/-- the states that may be there -/
def CI (w : World) (B : Nat) (T : Nat → Prop) (gS : Nat) (vS : Value) (L : List (Value × (Nat → Int))) : Prop := RowV w gS vS 46 (L.map (·.1)) ∧ ¬ T gS ∧ B ≤ gS ∧ ∀ x ∈ L, ∃ g cap, x.1 = .slice (some ⟨g, 0, none⟩) 20 cap ∧ 20 ≤ cap ∧ g ≠ gS ∧ ¬ T g ∧ ∀ i, i < 20 → w.cell? ⟨g, i, none⟩ = some (.int .i64 (x.2 i))
theorem CI.since {T' : Nat → Prop} {gS : Nat} {vS : Value} {L : List (Value × (Nat → Int))} (h : CI w B T gS vS L) (s : Since w w' T T') : CI w' B T' gS vS L := by
  obtain ⟨h1, h2, h3, h4⟩ := h
  refine ⟨h1.kept s.2.2 h2, s.not h1.lt h2, h3, fun x hx => ?_⟩
  obtain ⟨g, cap, q1, q2, q3, q4, q5⟩ := h4 x hx
  have hl : g < w.heap.size := World.block_lt_of_cell? _ _ (q5 0 (by omega))
  exact ⟨g, cap, q1, q2, q3, s.not hl q4, fun i hi => (s.2.2.cell (p := ⟨g, i, none⟩) hl q4).trans (q5 i hi)⟩
theorem CI.below {gS : Nat} {vS : Value} {L : List (Value × (Nat → Int))} (h : CI w B T gS vS L) (hb : Below w.heap.size w w') : CI w' B T gS vS L := by
  obtain ⟨h1, h2, h3, h4⟩ := h
  refine ⟨h1.kept (Keeps.of_below (S := fun _ => False) hb) id, h2, h3, fun x hx => ?_⟩
  obtain ⟨g, cap, q1, q2, q3, q4, q5⟩ := h4 x hx
  have hl : g < w.heap.size := World.block_lt_of_cell? _ _ (q5 0 (by omega))
  exact ⟨g, cap, q1, q2, q3, q4, fun i hi => (hb.cell (p := ⟨g, i, none⟩) hl).trans (q5 i hi)⟩
/-- one state more -/
theorem CI.add {gS g' : Nat} {vS v' : Value} {L : List (Value × (Nat → Int))} {x : Value × (Nat → Int)} (h : CI w B T gS vS L) (hr : RowV w' g' v' 46 (L.map (·.1) ++ [x.1])) (k : Keeps (fun j => j = gS) w w') (hg : g' = gS ∨ g' = w.heap.size) (hT : ∀ j, T j → j < w.heap.size) (hB : B ≤ w.heap.size)
    (hx : ∃ g cap, x.1 = .slice (some ⟨g, 0, none⟩) 20 cap ∧ 20 ≤ cap ∧ g ≠ gS ∧ ¬ T g ∧ ∀ i, i < 20 → w.cell? ⟨g, i, none⟩ = some (.int .i64 (x.2 i))) : CI w' B T g' v' (L ++ [x]) := by
  obtain ⟨h1, h2, h3, h4⟩ := h
  refine ⟨by rw [List.map_append]; exact hr, ?_, by rcases hg with rfl | rfl; exact h3; exact hB, fun y hy => ?_⟩
  · rcases hg with rfl | rfl
    · exact h2
    · exact fun e => by have := hT _ e; omega
  · have hq : ∃ g cap, y.1 = .slice (some ⟨g, 0, none⟩) 20 cap ∧ 20 ≤ cap ∧ g ≠ gS ∧ ¬ T g ∧ ∀ i, i < 20 → w.cell? ⟨g, i, none⟩ = some (.int .i64 (y.2 i)) := by
      rcases List.mem_append.1 hy with hy | hy
      · exact h4 y hy
      · rw [List.mem_singleton] at hy
        rw [hy]
        exact hx
    obtain ⟨g, cap, q1, q2, q3, q4, q5⟩ := hq
    have hl : g < w.heap.size := World.block_lt_of_cell? _ _ (q5 0 (by omega))
    exact ⟨g, cap, q1, q2, by rcases hg with rfl | rfl; exact q3; omega, q4, fun i hi => (k.cell (p := ⟨g, i, none⟩) hl q3).trans (q5 i hi)⟩
theorem RowV.at {g : Nat} {v : Value} {e : TypeId} {xs : List Value} (h : RowV w g v e xs) : ∃ off cap, v = .slice (some ⟨g, off, none⟩) xs.length cap ∧ xs.length ≤ cap ∧ ∀ j (h : j < xs.length), w.cell? ⟨g, off + j, none⟩ = some xs[j] := by
  obtain ⟨off, cap, cur, h1, h2, h3, h4, h5⟩ := h
  exact ⟨off, cap, h1, h2, fun j hj => by rw [cell_of_row _ _ _ _ _ _ h3]; exact h5 j hj⟩
/-- the last alone -/
theorem RowV.last {g off cap : Nat} {e : TypeId} {xs : List Value} {x : Value} (h : RowV w g (.slice (some ⟨g, off, none⟩) (xs.length + 1) cap) e (xs ++ [x])) : RowV w g (.slice (some ⟨g, off + xs.length, none⟩) 1 (cap - xs.length)) e [x] := by
  obtain ⟨off2, cap2, cur, h1, h2, h3, h4, h5⟩ := h
  simp only [Value.slice.injEq, Option.some.injEq, Addr.mk.injEq] at h1
  obtain ⟨⟨_, rfl, _⟩, _, rfl⟩ := h1
  rw [List.length_append, List.length_singleton] at h2
  refine ⟨off + xs.length, cap - xs.length, cur, rfl, by simp; omega, h3, by omega, fun j hj => ?_⟩
  have : j = 0 := by simpa using hj
  subst this
  have := h5 xs.length (by simp)
  rw [List.getElem_append_right (Nat.le_refl _)] at this
  simpa using this
def CofL (L : List (Value × (Nat → Int))) (c : Nat → Bs) : Prop := ∃ x ∈ L, c = fun j => blk (x.2 j)
def PofL (L : List (Value × (Nat → Int))) (I : Bs) : Prop := ∃ c, CofL L c ∧ Has (96 + 20) c I
theorem and3 (x : Int) : ∃ z : Int, bits .and .i64 x 3 = z ∧ (z = 0 ∨ z = 1 ∨ z = 2 ∨ z = 3) := by
  obtain ⟨m, h1, h2⟩ := and_low x 3 (by omega)
  exact ⟨_, h2, by omega⟩
theorem OpAt.zero {G : Nat} {o : OpD} (h : OpAt w G 0 o) : w.cell? ⟨G, 0, none⟩ = some (.int .i64 o.x1) ∧ w.cell? ⟨G, 1, none⟩ = some (.int .i64 o.x2) ∧ w.cell? ⟨G, 2, none⟩ = some (.slice o.aa o.an o.ac) ∧ w.cell? ⟨G, 3, none⟩ = some (.slice o.da o.dn o.dc) ∧ w.cell? ⟨G, 4, none⟩ = some (.slice o.ka o.kn o.kc) := h
theorem clear_of {a : Option Addr} {m : Nat} {fs : Nat → Int} (h : IntsB w a m fs) (hb : w.heap.size ≤ w'.heap.size) (hT : ∀ j, T j → w.heap.size ≤ j) : Clear w' T a m := by
  intro x hx h0
  rcases h with h | ⟨g, off, h1, h2⟩
  · omega
  · rw [hx] at h1
    cases h1
    have hl := World.block_lt_of_cell? _ _ (h2 0 h0)
    have hl : g < w.heap.size := hl
    exact ⟨by show g < _; omega, fun e => by have : w.heap.size ≤ g := hT _ e; omega⟩
/-- behind the switch -/
def Mid (w w' : World) (B G lp p k : Nat) (o : OpD) (st : Value) : Prop := ∃ T L0 x gS, CI w' B T gS st (L0 ++ [x]) ∧ L0.length ≤ k + 1 ∧ (∀ j, T j → B ≤ j ∧ j < w'.heap.size) ∧ OpAt w' G 0 o ∧ ¬ T G ∧ Below w.heap.size w w' ∧ B ≤ w'.heap.size ∧ (AS w' T lp p (96 + 20) (fun j => blk (x.2 j)) ∨ DarkS w' T p (96 + 20) (PofL (L0 ++ [x])))
theorem since_low {T' : Nat → Prop} (s : Since w w' T T') (hT : ∀ j, T j → B ≤ j ∧ j < w.heap.size) (hB : B ≤ w.heap.size) : ∀ j, T' j → B ≤ j ∧ j < w'.heap.size := fun j hj => ⟨by rcases s.2.1 j hj with h | h; exact (hT j h).1; omega, s.1 j hj⟩
theorem since_below {W T' : World} {T1 T2 : Nat → Prop} (s : Since w w' T1 T2) (hT : ∀ j, T1 j → B ≤ j ∧ j < w.heap.size) (hB : B ≤ w.heap.size) : Below B w w' := s.2.2.below_of hB (fun k hk e => by have := hT k e; omega)
theorem make_20 : ∃ X : Obj, (∀ w : World, (Instr.makeSlice 46 (.int .i64 20) (.int .i64 20)).run Try.prog w = .ok (.slice (some ⟨w.heap.size, 0, none⟩) 20 20) (w.alloc X)) ∧ ∀ w : World, ∀ i, i < 20 → (w.alloc X).cell? ⟨w.heap.size, i, none⟩ = some (.int .i64 0) := by
  refine ⟨Obj.cells (madeCells #[Value.int .i64 0] 20) 3 (0, 0), fun w => ?_, fun w i hi => ?_⟩
  · exact run_make_row' (P := Try.prog) 46 3 (.int .i64 0) 8 Try.underlying46 infoI rfl .i64 .i64 20 (by omega) (by omega) w
  · rw [cell_of_row _ _ _ _ _ _ (heap_alloc_new _ _)]
    have : (madeCells #[Value.int .i64 0] 20).toList[i]? = some (.int .i64 0) := by
      rw [toList_madeCells_one, List.getElem?_replicate, if_pos hi]
    simpa using this
theorem infoIs : (Try.prog.info? 46).map (fun i => (i.zero, i.size, i.bytes)) = some (some (.slice none 0 0), 1, 24) := by kernel_rfl
set_option maxRecDepth 8000 in
set_option maxHeartbeats 6400000 in
theorem crashes_law (v : Value) (ops : List OpD) (w : World) (ho : OpsC w v ops) :
    Calls Try.prog 10 #[v] w fun e w' => e = .returned (.bool true) ∧ Below w.heap.size w w' := by
  obtain ⟨a, cap, rfl⟩ := ho.shape
  have HO := Lib.hid ho
  obtain ⟨X, hmk, hst⟩ := make_20
  have HST := Lib.hid hst
  clear ho hst
  go_enter Try.func10, Try.ntmps10
  go_wp2_with fail
  refine (alive_any _).mono ?_
  rintro e w0 ⟨rfl, hb0⟩
  have HB0 := Lib.hid hb0
  have HLG := Lib.hid (long_any _ ops w0 (HO.out.below hb0))
  clear hb0
  go_wp2_with fail
  refine (HLG.out).mono ?_
  rintro e w1 ⟨r, rfl, hr, hb1⟩
  have HB1 := Lib.hid (HB0.out.trans (hb1.mono HB0.out.size))
  clear hb1 HLG HB0
  cases r with
  | true =>
    go_wp2_with fail
    go_ret
    exact ⟨rfl, HB1.out⟩
  | false =>
  have HKN := Lib.hid (hr rfl)
  clear hr
  by_cases h60 : 60 < ops.length
  · have h60' : (60 : Int) < (ops.length : Int) := by omega
    go_wp2_with fail
    go_ret
    exact ⟨rfl, HB1.out⟩
  have h60' : ¬ (60 : Int) < (ops.length : Int) := by omega
  have HFR := Lib.hid (fresh_in 20 w1 (by omega) (by omega))
  go_wp2_with fail
  refine (HFR.out).mono ?_
  rintro e w2 ⟨p, lp, rfl, hq2, hb2⟩
  obtain ⟨i0, hi, hz0, hz1, hz2⟩ := info_parts infoIs
  have HI := Lib.hid (And.intro hi (And.intro hz0 (And.intro hz1 hz2)))
  have HZ2 := Lib.hid hb2.size
  have HBW := Lib.hid HB1.out.size
  obtain ⟨Y, hY⟩ : ∃ Y, Y = Obj.cells #[Value.slice (some ⟨w2.heap.size, 0, none⟩) 20 20] 46 (0, 0) := ⟨_, rfl⟩
  have HB4 : Hid (Below w1.heap.size w1 ((w2.alloc X).alloc Y)) := (hb2.alloc hb2.size _).alloc (by have := hb2.size; simp; omega) _
  obtain ⟨T0, hT0⟩ : ∃ T0 : Nat → Prop, T0 = fun j => w1.heap.size ≤ j ∧ j < w2.heap.size := ⟨_, rfl⟩
  have hS2 : QO w2 T0 lp p (96 + 20) (fun j => blk ((fun _ => (0 : Int)) j)) := by
    rw [hT0]
    exact ((hq2.s.qo).sub (fun j hj h => ⟨h, hj⟩)).ext (fun j _ => (if_pos rfl).symm)
  have hal : Below w2.heap.size w2 ((w2.alloc X).alloc Y) := ((Below.refl _ w2).alloc (Nat.le_refl _) X).alloc (by simp) Y
  have HQ4 := Lib.hid (hS2.below hal)
  have HC4 : Hid (CI ((w2.alloc X).alloc Y) w1.heap.size T0 (w2.heap.size + 1) (.slice (some ⟨w2.heap.size + 1, 0, none⟩) 1 1) ([] ++ [(Value.slice (some ⟨w2.heap.size, 0, none⟩) 20 20, fun _ => (0 : Int))])) := by
    rw [hT0]
    have hsz : (w2.alloc X).heap.size = w2.heap.size + 1 := by simp
    have hyy := heap_alloc_new (w2.alloc X) Y
    rw [hsz] at hyy
    refine ⟨⟨0, 1, #[Value.slice (some ⟨w2.heap.size, 0, none⟩) 20 20], rfl, Nat.le_refl _, by rw [hyy, hY], Nat.le_refl _, fun j hj => ?_⟩, fun e => by have := e.2; omega, by have := hb2.size; omega, fun x hx => ?_⟩
    · have : j = 0 := by simpa using hj
      subst this
      rfl
    · have hx : x = (Value.slice (some ⟨w2.heap.size, 0, none⟩) 20 20, fun _ => (0 : Int)) := by simpa using hx
      subst hx
      refine ⟨w2.heap.size, 20, rfl, Nat.le_refl _, by omega, fun e => by have := e.2; omega, fun i hi => ?_⟩
      rw [((Below.refl _ (w2.alloc X)).alloc (Nat.le_refl _) Y).cell (p := ⟨w2.heap.size, i, none⟩) (by simp only; omega)]
      exact HST.out w2 i hi
  have HT4 : Hid (∀ j, T0 j → w1.heap.size ≤ j ∧ j < ((w2.alloc X).alloc Y).heap.size) := by rw [hT0]; exact fun j h => ⟨h.1, by simp; omega⟩
  have HZ4 : Hid (w1.heap.size ≤ ((w2.alloc X).alloc Y).heap.size) := HB4.out.size
  have HBW4 := Lib.hid (HB1.out.trans (HB4.out.mono HB1.out.size))
  clear hq2 hb2 hS2 hal HFR hi hz0 hz1 hz2 HST hT0
  go_wp2_with fail
  rw [← hY]
  go_loopw [6, 8, 9] (fun l st i wr => ∃ (lp k : Nat) (T : Nat → Prop) (L0 : List (Value × (Nat → Int))) (x : Value × (Nat → Int)) (gS : Nat), l = .pointer (some ⟨lp, 0, none⟩) ∧ i = .int .i64 (k : Int) ∧ k ≤ ops.length ∧ L0.length ≤ k ∧ CI wr w1.heap.size T gS st (L0 ++ [x]) ∧ QO wr T lp p (96 + 20) (fun j => blk (x.2 j)) ∧ (∀ j, T j → w1.heap.size ≤ j ∧ j < wr.heap.size) ∧ w1.heap.size ≤ wr.heap.size ∧ Below w.heap.size w wr) (fun _ _ i _ => ops.length - (intOf i).toNat)
  case atStart => exact ⟨lp, 0, T0, [], _, _, rfl, rfl, Nat.zero_le _, Nat.le_refl _, HC4.out, HQ4.out, HT4.out, HZ4.out, HBW4.out⟩
  case round =>
    obtain ⟨lp, k, T, L0, x, gS, rfl, rfl, hk, hL, hci, hq, hT, hz, hb⟩ := hrel
    have HCI := Lib.hid hci
    have HQ := Lib.hid hq
    have HT := Lib.hid hT
    have HZ := Lib.hid hz
    have HB := Lib.hid hb
    have HL := Lib.hid hL
    have k0 : (0 : Int) ≤ (k : Int) := by omega
    clear hci hq hT hz hb hL HC4 HQ4 HT4 HZ4 HBW4 HB4 HZ2
    by_cases hlt : k < ops.length
    · have k1 : (k : Int) < (ops.length : Int) := by omega
      obtain ⟨b, off, e1, hop, hrows⟩ := (HO.out.below HB.out).at k hlt
      subst e1
      have HKK := Lib.hid (HKN.out k hlt)
      have HRW0 : Hid (OpRows w ops[k]) := (HO.out.at k hlt).choose_spec.choose_spec.2.2
      generalize ops[k] = o at *
      obtain ⟨x1, x2, aa, an, ac, fs, da, dn, dc, ds, ka, kn, kc, ks⟩ := o
      obtain ⟨hc0, hc1, hc2, hc3, hc4⟩ := hop
      simp only at hc0 hc1 hc2 hc3 hc4
      obtain ⟨z, hz, hz4⟩ := and3 x1
      have hz : bits BinOp.and IntKind.i64 x1 3 = z := hz
      obtain ⟨X5, hX5⟩ : ∃ X5, X5 = Obj.cells #[.int .i64 x1, .int .i64 x2, .slice aa an ac, .slice da dn dc, .slice ka kn kc] 52 (0, 0) := ⟨_, rfl⟩
      have HOP : Hid (OpAt (wr.alloc X5) wr.heap.size 0 ⟨x1, x2, aa, an, ac, fs, da, dn, dc, ds, ka, kn, kc, ks⟩) := by rw [hX5]; exact OpAt.new wr ⟨x1, x2, aa, an, ac, fs, da, dn, dc, ds, ka, kn, kc, ks⟩
      have hal : Below wr.heap.size wr (wr.alloc X5) := (Below.refl _ wr).alloc (Nat.le_refl _) _
      have HCI5G : Hid (gS < wr.heap.size) := HCI.out.1.lt
      have HCI5 := Lib.hid (HCI.out.below hal)
      have HQ5 := Lib.hid (HQ.out.below hal)
      have HT5 : Hid (∀ j, T j → w1.heap.size ≤ j ∧ j < (wr.alloc X5).heap.size) := fun j h => ⟨(HT.out j h).1, Nat.lt_of_lt_of_le (HT.out j h).2 hal.size⟩
      have HG5 : Hid (¬ T wr.heap.size ∧ wr.heap.size < (wr.alloc X5).heap.size) := ⟨fun e => by have := (HT.out _ e).2; omega, by simp⟩
      have HZ5 := Lib.hid (Nat.le_trans HZ.out hal.size)
      have HB5 := Lib.hid (HB.out.trans (hal.mono HB.out.size))
      have HRW := Lib.hid (hrows.below hal)
      clear hal HCI HQ HT HZ hrows HB
      have HOPG : Hid (¬ wr.heap.size = gS) := fun e => by have := HCI5G.out; omega
      go_upto_block 2 with fail
      rw [← hX5]
      clear hX5 hc0 hc1 hc2 hc3 hc4
      generalize wr.alloc X5 = w5 at *
      generalize wr.heap.size = G at *
      have HZZ := Lib.hid hz4
      go_cut [8] from 40 to 142 (fun s8 wx => Hid (Mid w wx w1.heap.size G lp p k ⟨x1, x2, aa, an, ac, fs, da, dn, dc, ds, ka, kn, kc, ks⟩ s8))
      case first =>
        obtain ⟨ho0, ho1, ho2, ho3, ho4⟩ := HOP.out.zero
        simp only at ho0 ho1 ho2 ho3 ho4
        rcases hz4 with rfl | rfl | rfl | rfl
        · have HR := Lib.hid (refused_any x1 x2 aa an ac fs (.slice da dn dc) (.slice ka kn kc) 20 w5 HRW.out.1 (by omega))
          go_wp2_with fail
          refine (HR.out).mono ?_
          rintro e w6 ⟨r, rfl, hr, hb6⟩
          have HB6 := Lib.hid hb6
          clear hb6 HR ho0 ho1 ho2 ho3 ho4
          by_cases hr0 : r = 0
          · subst hr0
            have HGA := Lib.hid (hr rfl)
            clear hr
            have HCI6 := Lib.hid (HCI5.out.below HB6.out)
            have HRW6 := Lib.hid (HRW.out.below HB6.out)
            have HOP6 := Lib.hid (HOP.out.below HB6.out)
            obtain ⟨soff, scap, hst, hsc, hscell⟩ := HCI6.out.1.at
            obtain ⟨gx, cx, hxv, hcx, hgx, hTx, hxcell⟩ := HCI6.out.2.2.2 x (by simp)
            have hlastc := hscell L0.length (by simp)
            have hlx : ((L0 ++ [x]).map (·.1))[L0.length]'(by simp) = .slice (some ⟨gx, 0, none⟩) 20 cx := by simp [hxv]
            rw [hlx] at hlastc
            clear hlx
            obtain ⟨N, hN⟩ : ∃ N, N = ((L0 ++ [x]).map (·.1)).length := ⟨_, rfl⟩
            rw [← hN] at hst
            have hN2 : N = L0.length + 1 := by rw [hN]; simp
            have HNN := Lib.hid hN2
            obtain ⟨m0, hm0⟩ : ∃ m0, L0.length = m0 := ⟨_, rfl⟩
            have HM0 := Lib.hid hm0
            rw [hm0] at hlastc hN2
            have hw1 : IntKind.i64.wrap ((N : Int) - 1) = (m0 : Int) := by rw [IntKind.wrap_i64]; have := HL.out; have := HNN.out; have := HM0.out; omega
            have m00 : (0 : Int) ≤ (m0 : Int) := by omega
            have m01 : (m0 : Int) < (N : Int) := by omega
            subst hst
            have HSS : Hid (∀ W, Below w6.heap.size w6 W → W.cell? ⟨gS, soff + m0, none⟩ = some (.slice (some ⟨gx, 0, none⟩) 20 cx) ∧ W.cell? ⟨G, 0, none⟩ = some (.int .i64 x1) ∧ W.cell? ⟨G, 1, none⟩ = some (.int .i64 x2) ∧ W.cell? ⟨G, 2, none⟩ = some (.slice aa an ac) ∧ W.cell? ⟨G, 3, none⟩ = some (.slice da dn dc) ∧ W.cell? ⟨G, 4, none⟩ = some (.slice ka kn kc)) := fun W hW =>
              ⟨(hW.cell (p := ⟨gS, soff + m0, none⟩) HCI6.out.1.lt).trans hlastc, (HOP6.out.below hW).zero⟩
            have HSD : Hid (Below w6.heap.size w6 w6.drew) := (Below.refl _ _).drew
            have HST : Hid (StAt w6.drew (.slice (some ⟨gx, 0, none⟩) 20 cx) 20 x.2) := ⟨gx, cx, rfl, hcx, fun i hi => hxcell i hi⟩
            have HPT := Lib.hid (put_any x1 x2 aa an ac fs da dn dc ds (.slice ka kn kc) HST.out (HRW6.out.1.below HSD.out) (HRW6.out.2.1.below HSD.out) HGA.out.2.2.1 HGA.out.2.1 (by omega) (by omega))
            clear hscell hxcell hlastc hxv hcx hgx hTx hN hN2 hsc hm0
            go_wp2_with fail
            refine wp_region_noPanic ?_
            refine wp_region_ordL 8 [8] [0, 1, 2, 3, 4, 5, 6, 7, 8] (fun W => W.cell? ⟨gS, soff + m0, none⟩ = some (.slice (some ⟨gx, 0, none⟩) 20 cx) ∧ W.cell? ⟨G, 0, none⟩ = some (.int .i64 x1) ∧ W.cell? ⟨G, 1, none⟩ = some (.int .i64 x2) ∧ W.cell? ⟨G, 2, none⟩ = some (.slice aa an ac) ∧ W.cell? ⟨G, 3, none⟩ = some (.slice da dn dc) ∧ W.cell? ⟨G, 4, none⟩ = some (.slice ka kn kc)) (by kernel_rfl) (by kernel_rfl) rfl (by kernel_rfl) (fun _ _ _ _ _ h => h) (HSS.out _ HSD.out) ?_
            repeat (apply heldL_run rfl (by rfl) (by rfl); (intro w hSw; go_simp; with_reducible rfl); (try simp only [Act.put, List.setIfInBounds_toArray, List.set_cons_zero, List.set_cons_succ]))
            refine heldL_step rfl (by rfl) (by rfl) (fun K hK => ?_)
            go_simp
            refine (HPT.out).mono ?_
            rintro e w7 ⟨v7, rfl, hst7, ⟨g7, c7, rfl, hg7⟩, hb7⟩
            have HB7 : Hid (Below w6.heap.size w6 w7) := HSD.out.trans hb7
            have HST7 := Lib.hid hst7
            have HG7 : Hid (w6.heap.size ≤ g7) := hg7
            clear hst7 hg7 hb7 HPT
            refine hK.out _ _ (.inr (HSS.out _ HB7.out)) ?_
            clear hK K
            (try simp only [Act.put, List.setIfInBounds_toArray, List.set_cons_zero, List.set_cons_succ])
            repeat (apply heldL_run rfl (by rfl) (by rfl); (intro w hSw; go_simp; with_reducible rfl); (try simp only [Act.put, List.setIfInBounds_toArray, List.set_cons_zero, List.set_cons_succ]))
            refine heldL_step rfl (by rfl) (by rfl) (fun K hK => ?_)
            go_simp
            refine hK.out _ _ (.inl rfl) ?_
            clear hK K
            (try simp only [Act.put, List.setIfInBounds_toArray, List.set_cons_zero, List.set_cons_succ])
            refine heldL_nil (NoPanic.normal ?_)
            have HB57 := Lib.hid (HB6.out.trans (HB7.out.mono HB6.out.size))
            obtain ⟨ho0, ho1, ho2, ho3, ho4⟩ := (HOP6.out.below HB7.out).zero
            simp only at ho0 ho1 ho2 ho3 ho4
            have HP := Lib.hid (puts_any x1 x2 aa an ac fs da dn dc ds (.slice ka kn kc) w7 (HRW6.out.1.below HB7.out) (HRW6.out.2.1.below HB7.out) (fun i hi => by have := HGA.out.2.2.1 i hi; omega) HGA.out.2.1)
            go_wp2_with fail
            refine (HP.out).mono ?_
            rintro e w8 ⟨v8, rfl, hpf, hb8⟩
            have HC := Lib.hid (commit_fo (HQ5.out.below HB57.out) hb8 _ v8 hpf (opPs_ok HGA.out dn ds))
            clear hpf hb8 HP ho0 ho1 ho2 ho3 ho4
            go_wp2_with fail
            refine (HC.out).mono ?_
            rintro e w9 ⟨T', hs9, hh⟩
            have HS9 := Lib.hid hs9
            have HH : Hid (AS w9 T' lp p (96 + 20) (fun j => blk (stPut x.2 fs dn ds an j)) ∨ DarkS w9 T' p (96 + 20) (PofL ((L0 ++ [x]) ++ [(Value.slice (some ⟨g7, 0, none⟩) 20 c7, stPut x.2 fs dn ds an)]))) := by
              rcases hh with ⟨_, q⟩ | ⟨_, q⟩
              · exact .inl (q.ext (fun j _ => stPut_blk _ _ _ _ _ _))
              · refine .inr (q.mono (fun I hI => ?_))
                rcases hI with hI | hI
                · exact ⟨_, ⟨x, by simp, rfl⟩, hI⟩
                · exact ⟨_, ⟨(Value.slice (some ⟨g7, 0, none⟩) 20 c7, stPut x.2 fs dn ds an), by simp, rfl⟩, hI.ext (fun j _ => stPut_blk _ _ _ _ _ _)⟩
            have he : e = .returned (.int .i64 0) ∨ e = .returned (.int .i64 11) := hh.imp (·.1) (·.1)
            have HCI9 := Lib.hid ((HCI6.out.below HB7.out).since hs9)
            have HT9 := Lib.hid (since_low (B := w1.heap.size) hs9 (fun j h => ⟨(HT5.out j h).1, Nat.lt_of_lt_of_le (HT5.out j h).2 HB57.out.size⟩) (Nat.le_trans HZ5.out HB57.out.size))
            have HOP9 := Lib.hid ((HOP6.out.below HB7.out).keep hs9.2.2 HG5.out.1)
            have HG9 : Hid (¬ T' G ∧ G < w9.heap.size) := ⟨hs9.not (Nat.lt_of_lt_of_le HG5.out.2 HB57.out.size) HG5.out.1, by have := HG5.out.2; have := HB57.out.size; have := hs9.2.2.size; omega⟩
            have HBB9 : Hid (Below w.heap.size w w9) := (HB5.out.trans (HB57.out.mono HB5.out.size)).trans ((since_below (W := w) (T' := w) hs9 (fun j h => ⟨(HT5.out j h).1, Nat.lt_of_lt_of_le (HT5.out j h).2 HB57.out.size⟩) (Nat.le_trans HZ5.out HB57.out.size)).mono HBW.out)
            have HZ9 : Hid (w1.heap.size ≤ w9.heap.size) := by have := HZ5.out; have := HB57.out.size; have := hs9.2.2.size; show _ ≤ _; omega
            have HX9 : Hid (∃ g cap, Value.slice (some ⟨g7, 0, none⟩) 20 c7 = .slice (some ⟨g, 0, none⟩) 20 cap ∧ 20 ≤ cap ∧ g ≠ gS ∧ ¬ T' g ∧ ∀ i, i < 20 → w9.cell? ⟨g, i, none⟩ = some (.int .i64 (stPut x.2 fs dn ds an i))) := by
              obtain ⟨g, cap, e1, e2, e3⟩ := HST7.out
              cases e1
              have hl : g7 < w7.heap.size := World.block_lt_of_cell? _ _ (e3 0 (by omega))
              have hTg : ¬ T g7 := fun e => by have := (HT5.out g7 e).2; have := HB6.out.size; have := HG7.out; omega
              exact ⟨g7, c7, rfl, e2, fun e => by have h1 := HCI6.out.1.lt; have h2 := HG7.out; rw [e] at h2; omega, hs9.not hl hTg, fun i hi => (hs9.2.2.cell (p := ⟨g7, i, none⟩) hl hTg).trans (e3 i hi)⟩
            clear hh hs9 HC HSS HST
            obtain ⟨Y9, hY9⟩ : ∃ Y9, Y9 = Obj.cells #[Value.slice (some ⟨g7, 0, none⟩) 20 c7] 46 (0, 0) := ⟨_, rfl⟩
            have HAL : Hid (Below w9.heap.size w9 (w9.alloc Y9)) := (Below.refl _ _).alloc (Nat.le_refl _) _
            have HRV : Hid (RowV (w9.alloc Y9) gS (.slice (some ⟨gS, soff, none⟩) N scap) 46 ((L0 ++ [x]).map (·.1))) := HCI9.out.1.kept (Keeps.of_below (S := fun _ => False) HAL.out) id
            have HUC : Hid ((w9.alloc Y9).cell? ⟨w9.heap.size, 0, none⟩ = some (.slice (some ⟨g7, 0, none⟩) 20 c7)) := by show _ = _; rw [cell_of_row _ _ _ _ _ _ (by rw [heap_alloc_new, hY9])]; rfl
            have HLN : Hid (((L0 ++ [x]).map (·.1)).length ≤ 1000000) := by show _ ≤ _; rw [List.length_map, List.length_append, List.length_singleton]; have := HL.out; omega
            rcases he with rfl | rfl
            all_goals
              rw [hY9] at HRV HUC
              go_wp2_with (at_builtin; refine wpList_append_rowV rfl (.tmp 70) (.tmp 72) 62 rfl 46 i0 (.slice none 0 0) Try.underlying62 HI.out.1 HI.out.2.1 HI.out.2.2.1 HI.out.2.2.2 rfl gS _ _ rfl HRV.out ⟨w9.heap.size, 0, none⟩ 1 rfl (.slice (some ⟨g7, 0, none⟩) 20 c7) HUC.out rfl HLN.out ?_)
              intro v10 w10 g10 hrow10 hk10 hg10
              rw [← hY9] at hk10
              have hg10 : g10 = gS ∨ g10 = (w9.alloc Y9).heap.size := by simpa using hg10
              have HCI10 : Hid (CI w10 w1.heap.size T' g10 v10 ((L0 ++ [x]) ++ [(Value.slice (some ⟨g7, 0, none⟩) 20 c7, stPut x.2 fs dn ds an)])) := by
                refine (HCI9.out.below HAL.out).add (x := (Value.slice (some ⟨g7, 0, none⟩) 20 c7, stPut x.2 fs dn ds an)) (by simpa using hrow10) hk10 hg10 (fun j h => Nat.lt_of_lt_of_le (HT9.out j h).2 HAL.out.size) (Nat.le_trans HZ9.out HAL.out.size) ?_
                obtain ⟨g, cap, e1, e2, e3, e4, e5⟩ := HX9.out
                have hl : g < w9.heap.size := World.block_lt_of_cell? _ _ (e5 0 (by omega))
                exact ⟨g, cap, e1, e2, e3, e4, fun i hi => (HAL.out.cell (p := ⟨g, i, none⟩) hl).trans (e5 i hi)⟩
              have HMID : Hid (Mid w w10 w1.heap.size G lp p k ⟨x1, x2, aa, an, ac, fs, da, dn, dc, ds, ka, kn, kc, ks⟩ v10) := by
                have hTS : ∀ j, T' j → ¬ j = gS := fun j h e => HCI9.out.2.1 (e ▸ h)
                have hsz : w9.heap.size ≤ w10.heap.size := Nat.le_trans HAL.out.size hk10.size
                have hgS : w1.heap.size ≤ gS := HCI9.out.2.2.1
                refine ⟨T', L0 ++ [x], _, g10, HCI10.out, by rw [List.length_append, List.length_singleton]; have := HL.out; have := HNN.out; omega, fun j h => ⟨(HT9.out j h).1, Nat.lt_of_lt_of_le (HT9.out j h).2 hsz⟩, (HOP9.out.below HAL.out).keep hk10 (fun e => ?_), HG9.out.1, HBB9.out.trans ((HAL.out.mono HBB9.out.size).trans (hk10.below_of (by have := HBB9.out.size; have := HAL.out.size; omega) (fun j hj e => by have := HBW.out; omega))), Nat.le_trans HZ9.out hsz, ?_⟩
                · have := HOPG.out
                  exact this e
                · rcases HH.out with q | q
                  · exact .inl ((q.below HAL.out).keep hk10 (fun j _ h => hTS j h))
                  · exact .inr ((q.below HAL.out).keep hk10 (fun j _ h => hTS j h))
              clear hrow10 hk10 hg10
              go_wp2_with fail
              refine (num_any _ _).mono ?_
              rintro e w11 ⟨rfl, rfl⟩
              go_wp2_with fail
              first
              | (go_meet; exact HMID.out)
              | (refine (num_any _ _).mono ?_
                 rintro e w11 ⟨rfl, rfl⟩
                 go_wp2_with fail
                 go_meet
                 exact HMID.out)
          · have hr1 : (r != 0) = true := by simpa using hr0
            clear hr hr0
            have HRN : Hid (CI w6 w1.heap.size T gS u8 (L0 ++ [x]) ∧ QO w6 T lp p (96 + 20) (fun j => blk (x.2 j)) ∧ (∀ j, T j → w1.heap.size ≤ j ∧ j < w6.heap.size) ∧ w1.heap.size ≤ w6.heap.size ∧ Below w.heap.size w w6) :=
              ⟨HCI5.out.below HB6.out, HQ5.out.below HB6.out, fun j h => ⟨(HT5.out j h).1, Nat.lt_of_lt_of_le (HT5.out j h).2 HB6.out.size⟩, Nat.le_trans HZ5.out HB6.out.size, HB5.out.trans (HB6.out.mono HB5.out.size)⟩
            go_wp2_with fail
            go_roundw
            case rel => exact ⟨lp, k + 1, T, L0, x, gS, rfl, by go_num, by omega, by have := HL.out; omega, HRN.out.1, HRN.out.2.1, HRN.out.2.2.1, HRN.out.2.2.2.1, HRN.out.2.2.2.2⟩
            case measure => simp [intOf]; omega
        · have HSY := Lib.hid (sync_fo HQ5.out (by omega))
          obtain ⟨soff, scap, hst, hsc, _⟩ := HCI5.out.1.at
          obtain ⟨m0, hm0⟩ : ∃ m0, L0.length = m0 := ⟨_, rfl⟩
          have HM0 := Lib.hid hm0
          obtain ⟨N, hN⟩ : ∃ N, N = ((L0 ++ [x]).map (·.1)).length := ⟨_, rfl⟩
          rw [← hN] at hst hsc
          have hN2 : N = m0 + 1 := by rw [hN]; simp [hm0]
          have hN3 : (N : Int) - 1 = (m0 : Int) := by omega
          have hN4 : N - m0 = 1 := by omega
          have hN5 : m0 < scap := by omega
          have hN6 : m0 ≤ N := by omega
          have m00 : (0 : Int) ≤ (m0 : Int) := by omega
          have m01 : (m0 : Int) ≤ (N : Int) := by omega
          have HN2 := Lib.hid hN2
          have hNb : (N : Int) ≤ 1000 := by have := HL.out; have := HM0.out; have := HN2.out; omega
          have HROW : Hid (RowV w5 gS (.slice (some ⟨gS, soff, none⟩) (L0.map (·.1)).length.succ scap) 46 (L0.map (·.1) ++ [x.1])) := by
            have := HCI5.out.1
            rw [hst, List.map_append, hN] at this
            show RowV _ _ _ _ _
            simpa using this
          subst hst
          clear hm0 hN hN2 hsc
          go_wp2_with fail
          refine (HSY.out).mono ?_
          rintro e w6 ⟨rfl, hq6, hb6⟩
          have HQ6 := Lib.hid hq6
          have HB6 := Lib.hid hb6
          clear hq6 hb6 HSY
          go_wp2_with fail
          refine (num_any _ _).mono ?_
          rintro e w7 ⟨rfl, rfl⟩
          have HMID : Hid (Mid w w6 w1.heap.size G lp p k ⟨x1, x2, aa, an, ac, fs, da, dn, dc, ds, ka, kn, kc, ks⟩ (.slice (some ⟨gS, soff + m0, none⟩) 1 (scap - m0))) := by
            have hci := HCI5.out.below HB6.out
            have hr := (HROW.out.kept (Keeps.of_below (S := fun _ => False) HB6.out) id).last
            rw [List.length_map, HM0.out] at hr
            refine ⟨T, [], x, gS, ⟨hr, hci.2.1, hci.2.2.1, fun y hy => hci.2.2.2 y (by simp at hy; subst hy; simp)⟩, Nat.zero_le _, fun j h => ⟨(HT5.out j h).1, Nat.lt_of_lt_of_le (HT5.out j h).2 HB6.out.size⟩, HOP.out.below HB6.out, HG5.out.1, HB5.out.trans (HB6.out.mono HB5.out.size), Nat.le_trans HZ5.out HB6.out.size, .inl HQ6.out.as⟩
          go_wp2_with fail
          go_meet
          exact HMID.out
        · have HMID : Hid (Mid w w5 w1.heap.size G lp p k ⟨x1, x2, aa, an, ac, fs, da, dn, dc, ds, ka, kn, kc, ks⟩ u8) :=
            ⟨T, L0, x, gS, HCI5.out, by have := HL.out; omega, HT5.out, HOP.out, HG5.out.1, HB5.out, HZ5.out, .inl HQ5.out.as⟩
          go_wp2_with fail
          go_meet
          exact HMID.out
        · obtain ⟨m, hm, hbits⟩ := and_low x2 63 (by omega)
          have hbits : bits BinOp.and IntKind.i64 x2 63 = (m : Int) := hbits
          have HFU := Lib.hid (fuse_fo HQ5.out (m : Int) (by omega) (by omega))
          go_wp2_with fail
          refine (HFU.out).mono ?_
          rintro e w6 ⟨rfl, T', hs6, ha6⟩
          have HMID : Hid (Mid w w6 w1.heap.size G lp p k ⟨x1, x2, aa, an, ac, fs, da, dn, dc, ds, ka, kn, kc, ks⟩ u8) := by
            refine ⟨T', L0, x, gS, HCI5.out.since hs6, by have := HL.out; omega, since_low hs6 HT5.out HZ5.out, HOP.out.keep hs6.2.2 HG5.out.1, hs6.not HG5.out.2 HG5.out.1, ?_, Nat.le_trans HZ5.out hs6.2.2.size, .inl ha6⟩
            exact HB5.out.trans ((since_below (W := w) (T' := w) hs6 HT5.out HZ5.out).mono HBW.out)
          clear hs6 ha6 HFU
          go_wp2_with fail
          go_meet
          exact HMID.out
      case rest =>
      obtain ⟨w6, hw6⟩ : ∃ x, x = wc := ⟨_, rfl⟩
      subst hw6
      obtain ⟨T2, L1, x3, gS2, hci, hL, hT, hop, hG, hb, hz6, hstt⟩ := hcut.out
      have HCI6 := Lib.hid hci
      have HL6 := Lib.hid hL
      have HT6 := Lib.hid hT
      have HB6 := Lib.hid hb
      have HZ6 := Lib.hid hz6
      have HSTT := Lib.hid hstt
      have HCRS : Hid (CrS w6 T2 p (96 + 20) (fun I => ∃ c, CofL (L1 ++ [x3]) c ∧ Has (96 + 20) c I)) := by
        rcases hstt with q | q
        · exact q.crS.mono (fun I hI => ⟨_, ⟨x3, by simp, rfl⟩, hI⟩)
        · exact q.crS
      obtain ⟨ho0, ho1, ho2, ho3, ho4⟩ := hop.zero
      simp only at ho0 ho1 ho2 ho3 ho4
      clear hcut hci hL hT hop hG hb hz6 hstt HCI5 HQ5 HT5 HG5 HZ5 HB5 HOP HRW HOPG HCI5G
      go_upto_region 25 with fail
      go_cut [108] from 40 to 142 (fun s108 wx => (∃ bb : Bool, s108 = .bool bb ∧ Hid (bb = true → QO w6 T2 lp p (96 + 20) (fun j => blk (x3.2 j)))) ∧ w6 = wx)
      case first =>
        rcases HSTT.out with ha | hd
        · have HON := Lib.hid (on_as ha)
          clear ha
          go_wp2_with fail
          refine (HON.out).mono ?_
          rintro e w7 ⟨⟨bb, rfl, hbb⟩, rfl⟩
          have HBB := Lib.hid hbb
          clear hbb
          cases bb with
          | false =>
            go_wp2_with fail
            go_meet
            exact ⟨⟨false, rfl, fun e => by cases e⟩, rfl⟩
          | true =>
            have HQO := Lib.hid (HBB.out rfl)
            clear HBB
            rcases HZZ.out with h | h | h | h
            all_goals
              subst h
              go_wp2_with fail
              go_meet
              first
              | exact ⟨⟨true, rfl, fun _ => HQO.out⟩, rfl⟩
              | exact ⟨⟨false, rfl, fun e => by cases e⟩, rfl⟩
        · have HON := Lib.hid (on_dark hd)
          clear hd
          go_wp2_with fail
          refine (HON.out).mono ?_
          rintro e w7 ⟨rfl, rfl⟩
          go_wp2_with fail
          go_meet
          exact ⟨⟨false, rfl, fun e => by cases e⟩, rfl⟩
      case rest =>
      obtain ⟨⟨bb, rfl, HBB⟩, rfl⟩ := hcut
      clear HSTT
      cases bb with
      | true =>
        have HQO := Lib.hid (HBB.out rfl)
        clear HBB
        go_wp2_with fail
        go_roundw
        case rel => exact ⟨lp, k + 1, T2, L1, x3, gS2, rfl, by go_num, by omega, HL6.out, HCI6.out, HQO.out, HT6.out, HZ6.out, HB6.out⟩
        case measure => simp [intOf]; omega
      | false =>
        have hRW := HRW0.out.below HB6.out
        have hTw : ∀ j, T2 j → w.heap.size ≤ j := fun j h => Nat.le_trans HBW.out (HT6.out j h).1
        have HOPN := Lib.hid (opened_fo (C := CofL (L1 ++ [x3])) HCRS.out (by omega) x1 x2 aa an ac fs (.slice da dn dc) ka kn kc ks hRW.1 (clear_of HRW0.out.1 HB6.out.size hTw) ⟨by have : kn ≤ 3000 := HKK.out; omega, hRW.2.2.1⟩ (clear_of HRW0.out.2.2.1 HB6.out.size hTw))
        clear hRW hTw
        go_wp2_with fail
        refine (HOPN.out).mono ?_
        rintro e w7 ⟨lp2, c, T3, rfl, hc7, hq7, hs7⟩
        have HC7 := Lib.hid hc7
        have HQ7 := Lib.hid hq7
        have HCI7 := Lib.hid (HCI6.out.since hs7)
        have HT7 := Lib.hid (since_low hs7 HT6.out HZ6.out)
        have HZ7 := Lib.hid (Nat.le_trans HZ6.out hs7.2.2.size)
        have HB7 : Hid (Below w.heap.size w w7) := HB6.out.trans ((since_below (W := w) (T' := w) hs7 HT6.out HZ6.out).mono HBW.out)
        have HLL : Hid ((L1 ++ [x3]).length ≤ 100) := by show _ ≤ _; rw [List.length_append, List.length_singleton]; have := HL6.out; omega
        clear hc7 hq7 hs7 HOPN HCI6 HT6 HZ6 HB6 HCRS HBB ho0 ho1 ho2 ho3 ho4
        generalize L1 ++ [x3] = L at *
        obtain ⟨soff, scap, hst, hsc, hscell⟩ := HCI7.out.1.at
        obtain ⟨N, hN⟩ : ∃ N, N = (L.map (·.1)).length := ⟨_, rfl⟩
        rw [← hN] at hst
        have HN : Hid (N = L.length) := by show _ = _; rw [hN]; simp
        have HSC : Hid (∀ t (h : t < L.length), w7.cell? ⟨gS2, soff + t, none⟩ = some (L[t].1)) := fun t h => by
          have := hscell t (by simpa using h)
          rw [this]
          simp
        have hN100 : (N : Int) ≤ 100 := by have := HN.out; have := HLL.out; omega
        subst hst
        clear hscell hsc hN
        go_upto_block 3 with fail
        go_cut [16] from 117 to 134 (fun s16 wx => (∃ (f : Nat) (hf : f < L.length), s16 = .int .i64 (f : Int) ∧ Hid (∀ i, i < 20 → c i = blk (L[f].2 i))) ∧ Below w7.heap.size w7 wx)
        case first =>
          go_wp2_with fail
          go_loopw [16, 17] (fun fd q wr => ∃ (z : Int) (t : Nat), fd = .int .i64 z ∧ q = .int .i64 (t : Int) ∧ t ≤ L.length ∧ Hid ((z = -1 ∧ ∀ u (h : u < L.length), u < t → ¬ ∀ i, i < 20 → c i = blk (L[u].2 i)) ∨ ∃ (f : Nat) (hf : f < L.length), z = (f : Int) ∧ ∀ i, i < 20 → c i = blk (L[f].2 i)) ∧ Below w7.heap.size w7 wr) (fun _ q _ => L.length - (intOf q).toNat)
          case atStart => exact ⟨-1, 0, rfl, rfl, Nat.zero_le _, .inl ⟨rfl, fun u h hu => by omega⟩, Below.refl _ _⟩
          case round =>
            obtain ⟨z9, t, rfl, rfl, ht, HF, hbt⟩ := hrel
            have HBT := Lib.hid hbt
            have t0 : (0 : Int) ≤ (t : Int) := by omega
            clear hbt
            by_cases htl : t < L.length
            · have t1 : (t : Int) < (N : Int) := by have := HN.out; omega
              rcases HF.out with ⟨rfl, hno⟩ | ⟨f, hf, rfl, hm⟩
              · have HNO := Lib.hid hno
                obtain ⟨gx, cx, hxv, hcx, _, _, hxcell⟩ := (HCI7.out.below HBT.out).2.2.2 L[t] (List.getElem_mem htl)
                have hsc := (HBT.out.cell (p := ⟨gS2, soff + t, none⟩) HCI7.out.1.lt).trans (HSC.out t htl)
                rw [hxv] at hsc
                have HIS := Lib.hid (is_qo (HQ7.out.below HBT.out) (⟨gx, cx, rfl, hcx, hxcell⟩ : StAt wr (.slice (some ⟨gx, 0, none⟩) 20 cx) 20 L[t].2) (by omega) (by omega))
                have HTL := Lib.hid htl
                clear hno hxv hcx hxcell
                go_wp2_with fail
                refine (HIS.out).mono ?_
                rintro e w8 ⟨r8, rfl, hr8, hb8⟩
                have HB8 := Lib.hid (HBT.out.trans (hb8.mono HBT.out.size))
                have HR8 := Lib.hid hr8
                clear hr8 hb8 HIS
                cases r8 with
                | true =>
                  have HF2 : Hid (((t : Int) = -1 ∧ ∀ u (h : u < L.length), u < t + 1 → ¬ ∀ i, i < 20 → c i = blk (L[u].2 i)) ∨ ∃ (f : Nat) (hf : f < L.length), (t : Int) = (f : Int) ∧ ∀ i, i < 20 → c i = blk (L[f].2 i)) := .inr ⟨t, HTL.out, rfl, HR8.out.1 rfl⟩
                  go_wp2_with fail
                  go_roundw
                  case rel => exact ⟨_, t + 1, rfl, by go_num, HTL.out, HF2.out, HB8.out⟩
                  case measure => simp [intOf]; have := HTL.out; omega
                | false =>
                  have HF2 : Hid (∀ u (h : u < L.length), u < t + 1 → ¬ ∀ i, i < 20 → c i = blk (L[u].2 i)) := fun u h hu e => by
                    rcases Nat.lt_or_ge u t with q | q
                    · exact HNO.out u h q e
                    · obtain rfl : u = t := by omega
                      have := HR8.out.2 e
                      cases this
                  go_wp2_with fail
                  go_roundw
                  case rel => exact ⟨_, t + 1, rfl, by go_num, HTL.out, .inl ⟨rfl, HF2.out⟩, HB8.out⟩
                  case measure => simp [intOf]; have := HTL.out; omega
              · have HM := Lib.hid hm
                have HFF := Lib.hid hf
                have f0 : (0 : Int) ≤ (f : Int) := by omega
                clear hm
                go_wp2_with fail
                go_meet
                exact ⟨⟨f, HFF.out, rfl, HM.out⟩, HBT.out⟩
            · have t1 : ¬ (t : Int) < (N : Int) := by have := HN.out; omega
              rcases HF.out with ⟨rfl, hno⟩ | ⟨f, hf, rfl, hm⟩
              · exfalso
                obtain ⟨y, hy, hcy⟩ := HC7.out
                obtain ⟨u, hu, huy⟩ := List.mem_iff_getElem.1 hy
                exact hno u hu (by omega) (fun i _ => by rw [hcy, huy])
              · have HM := Lib.hid hm
                have HFF := Lib.hid hf
                have f0 : (0 : Int) ≤ (f : Int) := by omega
                clear hm
                go_wp2_with fail
                go_meet
                exact ⟨⟨f, HFF.out, rfl, HM.out⟩, HBT.out⟩
        case rest =>
        obtain ⟨⟨f, hf, rfl, HM⟩, hb8⟩ := hcut
        obtain ⟨w8, hw8⟩ : ∃ x, x = wc := ⟨_, rfl⟩
        subst hw8
        have HB8 := Lib.hid hb8
        have f0 : (0 : Int) ≤ (f : Int) := by omega
        have f1 : (f : Int) < (N : Int) := by have := HN.out; omega
        obtain ⟨gx, cx, hxv, hcx, _, hTx, hxcell⟩ := (HCI7.out.below hb8).2.2.2 L[f] (List.getElem_mem hf)
        have hsc := (hb8.cell (p := ⟨gS2, soff + f, none⟩) HCI7.out.1.lt).trans (HSC.out f hf)
        rw [hxv] at hsc
        obtain ⟨Y9, hY9⟩ : ∃ Y9, Y9 = Obj.cells #[Value.slice (some ⟨gx, 0, none⟩) 20 cx] 46 (0, 0) := ⟨_, rfl⟩
        have HAL : Hid (Below w8.heap.size w8 (w8.alloc Y9)) := (Below.refl _ _).alloc (Nat.le_refl _) _
        have HT8 : Hid (∀ j, T3 j → w1.heap.size ≤ j ∧ j < w8.heap.size) := fun j h => ⟨(HT7.out j h).1, Nat.lt_of_lt_of_le (HT7.out j h).2 hb8.size⟩
        have HCI9 : Hid (CI (w8.alloc Y9) w1.heap.size T3 w8.heap.size (.slice (some ⟨w8.heap.size, 0, none⟩) 1 1) ([] ++ [L[f]])) := by
          have hyy := heap_alloc_new w8 Y9
          have hlx : gx < w8.heap.size := World.block_lt_of_cell? _ _ (hxcell 0 (by omega))
          refine ⟨⟨0, 1, #[Value.slice (some ⟨gx, 0, none⟩) 20 cx], rfl, Nat.le_refl _, by rw [hyy, hY9], Nat.le_refl _, fun j hj => ?_⟩, fun e => by have := (HT8.out _ e).2; omega, Nat.le_trans HZ7.out hb8.size, fun y hy => ?_⟩
          · have : j = 0 := by simpa using hj
            subst this
            simp [hxv]
          · have hy : y = L[f] := by simpa using hy
            subst hy
            exact ⟨gx, cx, hxv, hcx, by omega, hTx, fun i hi => (HAL.out.cell (p := ⟨gx, i, none⟩) hlx).trans (hxcell i hi)⟩
        have HQ9 : Hid (QO (w8.alloc Y9) T3 lp2 p (96 + 20) (fun j => blk (L[f].2 j))) := ((HQ7.out.below hb8).below HAL.out).ext (fun j hj => HM.out j (by omega))
        have HT9 : Hid (∀ j, T3 j → w1.heap.size ≤ j ∧ j < (w8.alloc Y9).heap.size) := fun j h => ⟨(HT8.out j h).1, Nat.lt_of_lt_of_le (HT8.out j h).2 HAL.out.size⟩
        have HZ9 := Lib.hid (Nat.le_trans HZ7.out (Nat.le_trans hb8.size HAL.out.size))
        have HB9 : Hid (Below w.heap.size w (w8.alloc Y9)) := HB7.out.trans ((hb8.trans (HAL.out.mono hb8.size)).mono HB7.out.size)
        rw [hY9] at HCI9 HQ9 HT9 HZ9 HB9
        clear hb8 hxv hcx hTx hxcell
        go_wp2_with fail
        go_roundw
        case rel => exact ⟨lp2, k + 1, T3, [], _, _, rfl, by go_num, by omega, Nat.zero_le _, HCI9.out, HQ9.out, HT9.out, HZ9.out, HB9.out⟩
        case measure => simp [intOf]; omega
    · obtain rfl : k = ops.length := by omega
      go_wp2_with fail
      go_ret
      exact ⟨rfl, HB.out⟩
theorem crashes_walk (a : Option Addr) (len cap : Nat) (ops : List OpD) (w : World) (ho : OpsC w (.slice a len cap) ops) :
    Calls Try.prog 10 #[.slice a len cap] w fun e w' => e = .returned (.bool true) ∧ Below w.heap.size w w' := crashes_law _ ops w ho
end Go.Proofs.Ythfncgbkigmmcaa
