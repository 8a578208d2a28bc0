/- LedgerMade. -/
import Derived.Test.YthfncgbkigmmcaaMadeA
import Derived.Test.YthfncgbkigmmcaaOps
import Derived.Deep.CutBlock
namespace Go.Proofs.Ythfncgbkigmmcaa
open Go.RowKit Go.Maps
set_option linter.unusedVariables false

variable {w w' w1 wr : World} {O R O1 R1 S T : Nat → Prop} {B lp p n : Nat} {d D : DS} {dead : Bool} {c : Nat → Bs} {P : Bs → Prop}
theorem choose_list {α : Type} {n : Nat} {p : Nat → α → Prop} (h : ∀ i, i < n → ∃ x, p i x) : ∃ l : List α, l.length = n ∧ ∀ i (hi : i < l.length), p i l[i] := by
  induction n with
  | zero => exact ⟨[], rfl, fun i hi => by simp at hi⟩
  | succ n ih =>
    obtain ⟨l, h1, h2⟩ := ih (fun i hi => h i (by omega))
    obtain ⟨x, hx⟩ := h n (by omega)
    refine ⟨l ++ [x], by simp [h1], fun i hi => ?_⟩
    by_cases hlt : i < l.length
    · rw [List.getElem_append_left hlt]; exact h2 i hlt
    · have : i = l.length := by simp at hi; omega
      subst this
      rw [List.getElem_append_right (by omega)]
      simpa [h1] using hx
theorem putsM_in {H : Type} {enc : TypeId × Value → H} {w : World} {fuel : Nat} {a : Option Addr} {len cap : Nat} {d : DataW H} {pl : List MemPlace} {ts : List TypeId} {ds : List (DataW H)} {j : Nat} {base : Nat} {r : Reach}
    (h : DataW.trod enc Try.prog w 0 (fun _ => true) true fuel 22 [.slice a len cap] = some (d, pl)) (hok : Value.okWide Try.prog w r base 22 (.slice a len cap))
    (hs : (DataW.weightsEach Try.prog ts ds).all (· ≤ reachBytes) = true) (htj : ts[j]? = some 22) (hdj : ds[j]? = some d) : ∃ ops, PutsM w (.slice a len cap) ops := by
  rcases fields_in Try.underlying22 Try.underlying26 (by kernel_rfl) (by kernel_rfl) h hok hs htj hdj with ⟨rfl, rfl, rfl⟩ | ⟨b, off, rfl, hl, hby, hf⟩
  · exact ⟨[], .inl ⟨rfl, rfl⟩⟩
  · have e38 : Try.prog.bytesOf 26 = 32 := by kernel_rfl
    rw [e38] at hby
    obtain ⟨ops, ho, hops⟩ := choose_list (n := len) (p := fun i (o : Int × Bs) => w.cell? ⟨b, off + i * 2, none⟩ = some (.int .i64 o.1) ∧ (Lit.int .i64 o.1).wf = true ∧ o.2.length ≤ 140737488351232 ∧
      ∃ ua uc, w.cell? ⟨b, off + i * 2 + 1, none⟩ = some (.slice ua o.2.length uc) ∧ BytesW w (.slice ua o.2.length uc) o.2) (fun i hi => by
        obtain ⟨v0, c0, f0⟩ := hf i hi 0 _ rfl
        obtain ⟨v1, c1, f1⟩ := hf i hi 1 _ rfl
        obtain ⟨n0, rfl, w0⟩ := f0.int Try.underlying3
        obtain ⟨ua, ul, uc, zs, rfl, hin, hby2⟩ := f1.ints Try.underlying24 Try.underlying5 (by kernel_rfl)
        have e5 : Try.prog.bytesOf 5 = 1 := by kernel_rfl
        rw [e5] at hby2
        obtain ⟨bs, hb1, hb2⟩ := hin.bytes
        have := hin.1
        refine ⟨(n0, bs), c0, w0, by show bs.length ≤ _; omega, ua, uc, ?_, ?_⟩
        · show w.cell? ⟨b, off + i * 2 + 1, none⟩ = some (Value.slice ua bs.length uc)
          rw [hb1]; exact c1
        · show BytesW w (.slice ua bs.length uc) bs
          rw [hb1]; exact hb2)
    refine ⟨ops, .inr ⟨b, off, cap, by rw [ho], by omega, hops⟩⟩
/-- what makes it ErrArg -/
def Bad1 (ps : List (Int × Bs)) : Prop := (ps.length < 1 ∨ 40 < ps.length) ∨ (1 ≤ ps.length ∧ ps.length ≤ 40 ∧ ∃ b, ∃ hb : b < ps.length, GoodM ps b ∧ (ps[b].2.length ≠ 512 ∨ ps[b].1 ∈ (ps.map (·.1)).take b))
def LowM (ps : List (Int × Bs)) (k : Nat) : Prop := ∀ a (h : a < ps.length), a < k → 0 ≤ ps[a].1 ∧ ps[a].1 < 20
/-- what makes it ErrBlock -/
def Bad2 (ps : List (Int × Bs)) : Prop := 1 ≤ ps.length ∧ ps.length ≤ 40 ∧ GoodM ps ps.length ∧ ∃ k, ∃ hk : k < ps.length, LowM ps k ∧ (ps[k].1 < 0 ∨ 20 ≤ ps[k].1)
def GoodAll (ps : List (Int × Bs)) : Prop := 1 ≤ ps.length ∧ ps.length ≤ 40 ∧ GoodM ps ps.length ∧ LowM ps ps.length
theorem commit_bad1 (v : Value) (ps : List (Int × Bs)) (w : World) (hp : PutsM w v ps) (h : Bad1 ps) : Calls Try.prog 15 #[.pointer (some ⟨lp, 0, none⟩), v] w fun e w' => e = .returned (.int .i64 1) ∧ Below w.heap.size w w' := by
  rcases h with h | ⟨h1, h2, b, hb, h3, h4⟩
  · obtain ⟨a, cap, rfl⟩ := hp.shape
    exact commit_len ps a cap w h
  · exact commit_arg ps v b w hp h1 h2 hb h3 h4
theorem commit_bad2 (v : Value) (ps : List (Int × Bs)) (w : World) (h0 : QL w B lp p (96 + 20) c) (hp : PutsM w v ps) (h : Bad2 ps) : Calls Try.prog 15 #[.pointer (some ⟨lp, 0, none⟩), v] w fun e w' => e = .returned (.int .i64 10) ∧ Below w.heap.size w w' := by
  obtain ⟨h1, h2, h3, k, hk, h4, h5⟩ := h
  obtain ⟨D, q1, q2, q3⟩ := h0
  obtain ⟨O, R, q4, q5⟩ := q1
  have hn : D.n = 96 + 20 := q2.n
  exact commit_block q4 (by omega) (by omega) ps v k hp h1 h2 h3 hk (fun a ha hl => by have := h4 a ha hl; rw [hn]; omega) (by rw [hn]; omega)
def natPs (ps : List (Int × Bs)) : List (Nat × Bs) := ps.map fun x => (x.1.toNat, x.2)
theorem natPs_ok {ps : List (Int × Bs)} (h : GoodAll ps) : PutOk (96 + 20) (natPs ps) := by
  obtain ⟨h1, h2, h3, h4⟩ := h
  refine ⟨by simpa [natPs] using h1, by simpa [natPs] using h2, ?_, fun x hx => ?_⟩
  · rw [List.nodup_iff_pairwise_ne, List.pairwise_iff_getElem]
    intro i j hi hj hij e
    have hj2 : j < ps.length := by simpa [natPs] using hj
    have hi2 : i < ps.length := by omega
    simp only [natPs, List.getElem_map] at e
    have q1 := h4 i hi2 hi2
    have q2 := h4 j hj2 hj2
    refine (h3 j hj2 hj2).2 ?_
    rw [List.mem_take_iff_getElem]
    refine ⟨i, by simp; omega, ?_⟩
    rw [List.getElem_map]
    omega
  · obtain ⟨y, hy, rfl⟩ := List.mem_map.1 hx
    obtain ⟨i, hi, rfl⟩ := List.mem_iff_getElem.1 hy
    have q1 := h4 i hi hi
    exact ⟨by show ps[i].1.toNat + 96 < _; omega, (h3 i hi hi).1⟩
theorem PutsM.good {v : Value} {ps : List (Int × Bs)} (h : PutsM w v ps) (hg : GoodAll ps) (hB : w.heap.size ≤ B) (hb : Below w.heap.size w w') : PutsF w' (fun j => B ≤ j) v (natPs ps) := by
  obtain ⟨a, cap, rfl⟩ := h.shape
  refine ⟨a, cap, by simp [natPs], fun k hk => ?_⟩
  have hk2 : k < ps.length := by simpa [natPs] using hk
  obtain ⟨g, off, ua, uc, rfl, c1, _, _, c2, hbw⟩ := h.at k hk2
  have hl := (hg.2.2.1 k hk2 hk2).1
  have q1 := hg.2.2.2 k hk2 hk2
  have hlt := World.block_lt_of_cell? _ _ c1
  rw [hl] at c2 hbw
  rcases hbw with hx | ⟨e, _⟩
  · rcases id hx with ⟨e, _⟩ | ⟨g0, o0, c0, e, _, _⟩
    · cases e
    · have e1 : ua = some ⟨g0, o0, none⟩ := by injection e
      subst e1
      clear e
      have hlt0 : g0 < w.heap.size := World.block_lt_of_cell? _ _ (bytes_cell hx (k := 0) (by omega))
      refine ⟨g, off, g0, o0, uc, rfl, by show ¬ B ≤ g; have : g < w.heap.size := hlt; omega, ?_, ?_, by show ¬ B ≤ g0; omega, ?_⟩
      · rw [hb.cell (p := ⟨g, off + k * 2, none⟩) hlt, c1]
        congr 2
        simp only [natPs, List.getElem_map]
        omega
      · exact (hb.cell (p := ⟨g, off + k * 2 + 1, none⟩) hlt).trans c2
      · simp only [natPs, List.getElem_map]
        exact RowAt.below hx hb (Nat.le_refl _)
  · rw [e] at hl
    simp at hl
theorem commit_good (v : Value) (ps : List (Nat × Bs)) (w : World) (h : QL w B lp p n c) (hB : B ≤ w.heap.size) (hp : PutsF w (fun j => B ≤ j) v ps) (hok : PutOk n ps) :
    Calls Try.prog 15 #[.pointer (some ⟨lp, 0, none⟩), v] w fun e w' => e = .returned (.int .i64 0) ∧ QL w' B lp p n (putC c ps) ∧ Below B w w' := by
  obtain ⟨D, h1, h2, h3⟩ := h
  have hn2 := h1.n2
  obtain ⟨O, R, h4, h5⟩ := h1
  rw [h2.n] at hn2
  refine (commit_any h4 ps v (hp.weaken h5) (by rw [h2.n]; exact hok) (by rw [h2.n]; exact hn2) (h2.room (by have := h3.2; omega) (by omega))).mono ?_
  obtain ⟨l1, l2⟩ := runL_live (commOps ps) h3
  rintro e w2 (⟨q1, q2, O', R', q3, q4⟩ | ⟨q1, q2, O', R', q3, q4⟩)
  · have := LedIn.of_turned h5 hB q3 q4
    rcases comm_done h2 hn2 hok with ⟨D', e1, _⟩ | ⟨D', e1, e2⟩
    · rw [e1] at q1
      cases q1
    · rw [e1] at this l2
      exact ⟨q2, ⟨D', this.1, e2, l2⟩, this.2⟩
  · rw [l1] at q1
    cases q1
/-- so far: twice one block, another length -/
def W1 (ps : List (Int × Bs)) (q : Int) (k : Nat) : Prop := (q = 1 ∧ Bad1 ps) ∨ (q = 0 ∧ 1 ≤ ps.length ∧ ps.length ≤ 40 ∧ GoodM ps k)
def W3 (ps : List (Int × Bs)) (i : Nat) (q : Int) (k : Nat) : Prop := (q = 1 ∧ Bad1 ps) ∨ (q = 0 ∧ ∃ h : i < ps.length, ps[i].2.length = 512 ∧ ∀ b (hb : b < ps.length), b < k → ps[i].1 ≠ ps[b].1)
def W2 (ps : List (Int × Bs)) (q : Int) (k : Nat) : Prop := (q = 1 ∧ Bad1 ps) ∨ (q = 10 ∧ Bad2 ps) ∨ (q = 0 ∧ 1 ≤ ps.length ∧ ps.length ≤ 40 ∧ GoodM ps ps.length ∧ LowM ps k)
theorem W1.len {ps : List (Int × Bs)} {k : Nat} (h : W1 ps 0 k) (hk : k < ps.length) (hl : ps[k].2.length ≠ 512) : W3 ps k 1 0 := by
  rcases h with ⟨h, _⟩ | ⟨_, h1, h2, h3⟩
  · cases h
  · exact .inl ⟨rfl, .inr ⟨h1, h2, k, hk, h3, .inl hl⟩⟩
theorem W3.dup {ps : List (Int × Bs)} {i k : Nat} {q : Int} (h0 : W1 ps 0 i) (h : W3 ps i q k) (hi : i < ps.length) (hk : k < ps.length) (hki : k < i) (e : ps[i].1 = ps[k].1) : W3 ps i 1 (k + 1) := by
  rcases h0 with ⟨h, _⟩ | ⟨_, h1, h2, h3⟩
  · cases h
  · refine .inl ⟨rfl, .inr ⟨h1, h2, i, hi, h3, .inr ?_⟩⟩
    rw [e, List.mem_take_iff_getElem]
    exact ⟨k, by simp; omega, by simp⟩
theorem W3.next {ps : List (Int × Bs)} {i k : Nat} {q : Int} (h : W3 ps i q k) (hi : i < ps.length) (hk : k < ps.length) (e : ps[i].1 ≠ ps[k].1) : W3 ps i q (k + 1) := by
  rcases h with h | ⟨h1, h2, h3, h4⟩
  · exact .inl h
  · refine .inr ⟨h1, h2, h3, fun b hb hbk => ?_⟩
    rcases Nat.lt_or_ge b k with h | h
    · exact h4 b hb h
    · obtain rfl : b = k := by omega
      exact e
theorem W3.done {ps : List (Int × Bs)} {i : Nat} {q : Int} (h0 : W1 ps 0 i) (h : W3 ps i q i) : W1 ps q (i + 1) := by
  rcases h with h | ⟨h1, h2, h3, h4⟩
  · exact .inl h
  · rcases h0 with ⟨h, _⟩ | ⟨_, q1, q2, q3⟩
    · cases h
    · refine .inr ⟨h1, q1, q2, fun a ha hai => ?_⟩
      rcases Nat.lt_or_ge a i with h | h
      · exact q3 a ha h
      · obtain rfl : a = i := by omega
        refine ⟨h3, fun hin => ?_⟩
        rw [List.mem_take_iff_getElem] at hin
        obtain ⟨j, hj, e⟩ := hin
        have hj2 : j < a := by simp at hj; omega
        rw [List.getElem_map] at e
        exact h4 j (by omega) hj2 e.symm
theorem W1.w2 {ps : List (Int × Bs)} {q : Int} (h : W1 ps q ps.length) : W2 ps q 0 := h.imp id (fun ⟨h1, h2, h3, h4⟩ => .inr ⟨h1, h2, h3, h4, fun a _ h => by omega⟩)
theorem W1.w2' {ps : List (Int × Bs)} {q : Int} {k : Nat} (h : W1 ps q k) (hq : q ≠ 0) : W2 ps q 0 := h.imp id (fun ⟨h1, _⟩ => absurd h1 hq)
theorem W2.bad {ps : List (Int × Bs)} {k : Nat} (h : W2 ps 0 k) (hk : k < ps.length) (hb : ps[k].1 < 0 ∨ 20 ≤ ps[k].1) : W2 ps 10 (k + 1) := by
  rcases h with ⟨h, _⟩ | ⟨h, _⟩ | ⟨_, h1, h2, h3, h4⟩
  · cases h
  · cases h
  · exact .inr (.inl ⟨rfl, h1, h2, h3, k, hk, h4, hb⟩)
theorem W2.next {ps : List (Int × Bs)} {k : Nat} (h : W2 ps 0 k) (hk : k < ps.length) (hb : ¬ ps[k].1 < 0) (hb2 : ¬ 20 ≤ ps[k].1) : W2 ps 0 (k + 1) := by
  rcases h with ⟨h, _⟩ | ⟨h, _⟩ | ⟨_, h1, h2, h3, h4⟩
  · cases h
  · cases h
  · refine .inr (.inr ⟨rfl, h1, h2, h3, fun a ha hak => ?_⟩)
    rcases Nat.lt_or_ge a k with h | h
    · exact h4 a ha h
    · obtain rfl : a = k := by omega
      omega
/-- what the law's own reckoning comes to -/
def Want (ps : List (Int × Bs)) (q : Int) : Prop := (q = 1 ∧ Bad1 ps) ∨ (q = 10 ∧ Bad2 ps) ∨ (q = 0 ∧ GoodAll ps)
theorem W2.want {ps : List (Int × Bs)} {q : Int} (h : W2 ps q ps.length) : Want ps q := h.imp id (fun h => h.imp id (fun ⟨h1, h2, h3, h4, h5⟩ => ⟨h1, h2, h3, h4, h5⟩))
theorem W2.want' {ps : List (Int × Bs)} {q : Int} {k : Nat} (h : W2 ps q k) (hq : q ≠ 0) : Want ps q := h.imp id (fun h => h.imp id (fun ⟨h1, _⟩ => absurd h1 hq))
/-- the blocks behind it -/
def madeC (ps : List (Int × Bs)) (q : Int) (j : Nat) : Bs := if q = 0 then (lastW (natPs ps) j).getD (blk 0) else blk 0
theorem commit_made (v : Value) (ps : List (Int × Bs)) (q : Int) (w0 w : World) (h : QL w B lp p (96 + 20) (fun _ => zeroB)) (hB : B ≤ w.heap.size) (hp : PutsM w0 v ps) (hB0 : w0.heap.size ≤ B) (hb : Below w0.heap.size w0 w) (hw : Want ps q) :
    Calls Try.prog 15 #[.pointer (some ⟨lp, 0, none⟩), v] w fun e w' => e = .returned (.int .i64 q) ∧ QL w' B lp p (96 + 20) (madeC ps q) ∧ Below B w w' := by
  have hz : zeroB = blk 0 := (if_pos rfl).symm
  rcases hw with ⟨rfl, h1⟩ | ⟨rfl, h1⟩ | ⟨rfl, h1⟩
  · exact (commit_bad1 v ps w (hp.below hb) h1).mono fun e w' ⟨q1, q2⟩ => ⟨q1, (h.below q2).ext (fun j _ => hz), q2.mono hB⟩
  · exact (commit_bad2 v ps w h (hp.below hb) h1).mono fun e w' ⟨q1, q2⟩ => ⟨q1, (h.below q2).ext (fun j _ => hz), q2.mono hB⟩
  · exact (commit_good v _ w h hB (hp.good h1 hB0 hb) (natPs_ok h1)).mono fun e w' ⟨q1, q2, q3⟩ => ⟨q1, q2.ext (fun j _ => by unfold putC; rw [hz]; rfl), q3⟩
/-- the last of the first k puts at j, or noughts -/
def lastC (ps : List (Int × Bs)) (k j : Nat) : Bs := (lastW ((natPs ps).take k) j).getD (blk 0)
theorem lastC_next {ps : List (Int × Bs)} {k : Nat} (hk : k < ps.length) (j : Nat) : lastC ps (k + 1) j = if ps[k].1.toNat = j then ps[k].2 else lastC ps k j := by
  unfold lastC
  have hk2 : k < (natPs ps).length := by simpa [natPs] using hk
  rw [List.take_succ_eq_append_getElem hk2]
  have : (natPs ps)[k] = (ps[k].1.toNat, ps[k].2) := by simp [natPs]
  rw [this, lastW_snoc]
  split <;> rfl
theorem lastC_all {ps : List (Int × Bs)} (j : Nat) : lastC ps ps.length j = madeC ps 0 j := by
  unfold lastC madeC
  rw [if_pos rfl, List.take_of_length_le (by simp [natPs])]
set_option maxRecDepth 8000 in
set_option maxHeartbeats 6400000 in
theorem made_law (v : Value) (ps : List (Int × Bs)) (w : World) (hp : PutsM w v ps) :
    Calls Try.prog 3 #[v] w fun e w' => e = .returned (.bool true) ∧ Below w.heap.size w w' := by
  obtain ⟨a, cap, rfl⟩ := hp.shape
  have HP := Lib.hid hp
  clear hp
  have HLEN : Hid (ps.length ≤ 140737488351232) := by
    rcases HP.out with ⟨_, h⟩ | ⟨_, _, _, _, h, _⟩
    · show _ ≤ _; rw [h]; simp
    · exact h
  have hlen : (ps.length : Int) ≤ 140737488351232 := by have := HLEN.out; omega
  go_enter Try.func3, Try.ntmps3
  go_wp2_with fail
  refine (alive_any _).mono ?_
  rintro e w0 ⟨rfl, hb0⟩
  have HB0 := Lib.hid hb0
  have HP0 := Lib.hid (HP.out.below hb0)
  clear hb0
  go_upto_block 0 with fail
  go_cut [4] from 20 to 38 (fun s4 wx => (∃ N : Int, s4 = .int .i64 N ∧ 0 ≤ N ∧ N ≤ 140737488411300) ∧ w0 = wx)
  case first =>
    go_wp2_with fail
    go_loopw [4, 5] (fun n i wr => ∃ (N : Int) (k : Nat), n = .int .i64 N ∧ i = .int .i64 (k : Int) ∧ k ≤ ps.length ∧ 0 ≤ N ∧ N ≤ 140737488411300 ∧ Hid (wr = w0)) (fun _ i _ => ps.length - (intOf i).toNat)
    case atStart => exact ⟨0, 0, rfl, rfl, Nat.zero_le _, Int.le_refl _, by omega, rfl⟩
    case round =>
      obtain ⟨N, k, rfl, rfl, hk, hN0, hN1, hw⟩ := hrel
      obtain rfl : wr = w0 := hw
      have k0 : (0 : Int) ≤ (k : Int) := by omega
      by_cases hlt : k < ps.length
      · have k1 : (k : Int) < (ps.length : Int) := by omega
        by_cases hN : N ≤ 60000
        · obtain ⟨g, off, ua, uc, e1, hc1, hwf, hl, hc2, _⟩ := HP0.out.at k hlt
          subst e1
          generalize ps[k].1 = x at *
          generalize ps[k].2.length = L at *
          have l0 : (0 : Int) ≤ (L : Int) := by omega
          have l1 : (L : Int) ≤ 140737488351232 := by omega
          have HN2 : Hid (0 ≤ N + (L : Int) + 1 ∧ N + (L : Int) + 1 ≤ 140737488411300) := ⟨by omega, by omega⟩
          clear hl
          go_wp2_with fail
          go_roundw
          case rel => exact ⟨_, k + 1, rfl, by go_num, by omega, HN2.out.1, HN2.out.2, trivial⟩
          case measure => simp [intOf]; omega
        · go_wp2_with fail
          go_meet
          exact ⟨⟨N, rfl, hN0, hN1⟩, rfl⟩
      · obtain rfl : k = ps.length := by omega
        go_wp2_with fail
        go_meet
        exact ⟨⟨N, rfl, hN0, hN1⟩, rfl⟩
  case rest =>
  obtain ⟨⟨N, rfl, hN0, hN1⟩, rfl⟩ := hcut
  by_cases hN : 60000 < N
  · go_wp2_with fail
    go_ret
    exact ⟨rfl, HB0.out⟩
  by_cases h60 : 60 < ps.length
  · have h60' : (60 : Int) < (ps.length : Int) := by omega
    go_wp2_with fail
    go_ret
    exact ⟨rfl, HB0.out⟩
  have h60' : ¬ (60 : Int) < (ps.length : Int) := by omega
  have HFR := Lib.hid (fresh_in 20 w0 (by omega) (by omega))
  go_wp2_with fail
  refine (HFR.out).mono ?_
  rintro e w3 ⟨p, lp, rfl, hq3, hb3⟩
  have HQ3 := Lib.hid hq3
  have HB3 := Lib.hid hb3
  have HP3 := Lib.hid (HP0.out.below hb3)
  clear hq3 hb3 HFR hN hN0 hN1
  go_upto_region 11 with fail
  go_cut [63] from 56 to 62 (fun s63 wx => (∃ bb : Bool, s63 = .bool bb ∧ Hid (W1 ps (if bb = true then 1 else 0) 0)) ∧ w3 = wx)
  case first =>
    by_cases a1 : ps.length < 1
    · have i1 : (ps.length : Int) < 1 := by omega
      have HW : Hid (W1 ps 1 0) := .inl ⟨rfl, .inl (.inl a1)⟩
      clear a1
      go_wp2_with fail
      go_meet
      exact ⟨⟨true, rfl, HW.out⟩, rfl⟩
    · have i1 : ¬ (ps.length : Int) < 1 := by omega
      by_cases a2 : 40 < ps.length
      · have i2 : (40 : Int) < (ps.length : Int) := by omega
        have HW : Hid (W1 ps 1 0) := .inl ⟨rfl, .inl (.inr a2)⟩
        clear a1 a2
        go_wp2_with fail
        go_meet
        exact ⟨⟨true, rfl, HW.out⟩, rfl⟩
      · have i2 : ¬ (40 : Int) < (ps.length : Int) := by omega
        have HW : Hid (W1 ps 0 0) := .inr ⟨rfl, by omega, by omega, fun a _ h => by omega⟩
        clear a1 a2
        go_wp2_with fail
        go_meet
        exact ⟨⟨false, rfl, HW.out⟩, rfl⟩
  case rest =>
  obtain ⟨⟨bb, rfl, HW⟩, rfl⟩ := hcut
  go_upto_if 63 with fail
  go_cut [9] from 56 to 63 (fun s9 wx => (∃ q : Int, s9 = .int .i64 q ∧ Hid (W1 ps q 0)) ∧ w3 = wx)
  case first =>
    cases bb with
    | true =>
      go_wp2_with fail
      go_meet
      exact ⟨⟨1, rfl, HW.out⟩, rfl⟩
    | false =>
      go_wp2_with fail
      go_meet
      exact ⟨⟨0, rfl, HW.out⟩, rfl⟩
  case rest =>
  obtain ⟨⟨q, rfl, HW⟩, hwc⟩ := hcut
  subst hwc
  go_upto_block 2 with fail
  go_cut [9] from 64 to 96 (fun s9 wx => (∃ q : Int, s9 = .int .i64 q ∧ Hid (W2 ps q 0)) ∧ Below w3.heap.size w3 wx)
  case first =>
    go_wp2_with fail
    go_loopw [9, 10] (fun n i wr => ∃ (q : Int) (k : Nat), n = .int .i64 q ∧ i = .int .i64 (k : Int) ∧ k ≤ ps.length ∧ Hid (W1 ps q k) ∧ Below w3.heap.size w3 wr) (fun _ i _ => ps.length - (intOf i).toNat)
    case atStart => exact ⟨q, 0, rfl, rfl, Nat.zero_le _, HW.out, Below.refl _ _⟩
    case round =>
      obtain ⟨q, k, rfl, rfl, hk, HW1, hb⟩ := hrel
      have HB := Lib.hid hb
      have k0 : (0 : Int) ≤ (k : Int) := by omega
      clear hb
      by_cases hlt : k < ps.length
      · have k1 : (k : Int) < (ps.length : Int) := by omega
        by_cases hq : q = 0
        · subst hq
          obtain ⟨g, off, ua, uc, e1, hc1, hwf, hl, hc2, _⟩ := (HP3.out.below HB.out).at k hlt
          subst e1
          have HLT := Lib.hid hlt
          go_upto_if 80 with fail
          go_cut [9] from 64 to 96 (fun s9 wx => (∃ q : Int, s9 = .int .i64 q ∧ Hid (W3 ps k q 0)) ∧ wr = wx)
          case first =>
            by_cases h512 : ps[k].2.length = 512
            · have HW3 : Hid (W3 ps k 0 0) := .inr ⟨rfl, hlt, h512, fun b _ h => by omega⟩
              have hne : ((ps[k].2.length : Int) != 512) = false := by simp; omega
              clear h512 hl hc2 hc1 hwf
              generalize ((ps[k].2.length : Int) != 512) = bb at *
              subst hne
              go_wp2_with fail
              go_meet
              exact ⟨⟨0, rfl, HW3.out⟩, rfl⟩
            · have HW3 : Hid (W3 ps k 1 0) := HW1.out.len hlt h512
              have hne : ((ps[k].2.length : Int) != 512) = true := by simp; omega
              clear h512 hl hc2 hc1 hwf
              generalize ((ps[k].2.length : Int) != 512) = bb at *
              subst hne
              go_wp2_with fail
              go_meet
              exact ⟨⟨1, rfl, HW3.out⟩, rfl⟩
          case rest =>
          obtain ⟨⟨q, rfl, HW3⟩, rfl⟩ := hcut
          clear hl hc2
          go_wp2_with fail
          go_loopw [9, 11] (fun n i wx => ∃ (q : Int) (j : Nat), n = .int .i64 q ∧ i = .int .i64 (j : Int) ∧ j ≤ k ∧ Hid (W3 ps k q j) ∧ Below w3.heap.size w3 wx) (fun _ i _ => k - (intOf i).toNat)
          case atStart => exact ⟨q, 0, rfl, rfl, Nat.zero_le _, HW3.out, HB.out⟩
          case round =>
            obtain ⟨q, j, rfl, rfl, hj, HWJ, hbj⟩ := hrel
            have HBJ := Lib.hid hbj
            have j0 : (0 : Int) ≤ (j : Int) := by omega
            clear hbj
            by_cases hjk : j < k
            · have j1 : (j : Int) < (k : Int) := by omega
              have hjl : j < ps.length := by have := HLT.out; omega
              have j2 : (j : Int) < (ps.length : Int) := by omega
              have HWD : Hid (Below w3.heap.size w3 wr.drew) := HBJ.out.trans ((Below.refl _ _).drew.mono HBJ.out.size)
              obtain ⟨g1, off1, _, _, e1, hck, _⟩ := (HP3.out.below HWD.out).at k HLT.out
              obtain ⟨g2, off2, _, _, e2, hcj, _⟩ := (HP3.out.below HWD.out).at j hjl
              cases e1
              cases e2
              obtain ⟨x, hx⟩ : ∃ x, ps[k].1 = x := ⟨_, rfl⟩
              obtain ⟨y, hy⟩ : ∃ y, ps[j].1 = y := ⟨_, rfl⟩
              have hck : wr.drew.cell? ⟨g, off + k * 2, none⟩ = some (.int .i64 x) := by rw [← hx]; exact hck
              have hcj : wr.drew.cell? ⟨g, off + j * 2, none⟩ = some (.int .i64 y) := by rw [← hy]; exact hcj
              by_cases hf : x = y
              · have HWN : Hid (W3 ps k 1 (j + 1)) := W3.dup HW1.out HWJ.out HLT.out hjl hjk (hx.trans (hf.trans hy.symm))
                subst hf
                clear hx hy
                go_wp2_with fail
                refine wp_region_noPanic ?_
                refine wp_region_ord [0, 1, 2, 3, 4, 5, 6, 7, 8, 9, 10] (fun W => W.cell? ⟨g, off + k * 2, none⟩ = some (.int .i64 x) ∧ W.cell? ⟨g, off + j * 2, none⟩ = some (.int .i64 x)) (by kernel_rfl) (by kernel_rfl) rfl (by kernel_rfl) (fun _ _ _ _ _ h => h) ⟨hck, hcj⟩ ?_
                repeat (apply held_run rfl (by rfl) (by rfl); (intro w hSw; go_simp; with_reducible rfl); (try simp only [Act.put, List.setIfInBounds_toArray, List.set_cons_zero, List.set_cons_succ]))
                refine held_nil (NoPanic.normal ?_)
                go_wp2_with fail
                go_roundw
                case rel => exact ⟨1, j + 1, rfl, by go_num, by omega, HWN.out, HWD.out⟩
                case measure => simp [intOf]; omega
              · have HWN : Hid (W3 ps k q (j + 1)) := HWJ.out.next HLT.out hjl (fun e => hf (hx.symm.trans (e.trans hy)))
                have hbe : (x == y) = false := by simpa using hf
                clear hf hx hy
                go_wp2_with fail
                refine wp_region_noPanic ?_
                refine wp_region_ord [0, 1, 2, 3, 4, 5, 6, 7, 8, 9, 10] (fun W => W.cell? ⟨g, off + k * 2, none⟩ = some (.int .i64 x) ∧ W.cell? ⟨g, off + j * 2, none⟩ = some (.int .i64 y)) (by kernel_rfl) (by kernel_rfl) rfl (by kernel_rfl) (fun _ _ _ _ _ h => h) ⟨hck, hcj⟩ ?_
                repeat (apply held_run rfl (by rfl) (by rfl); (intro w hSw; go_simp; with_reducible rfl); (try simp only [Act.put, List.setIfInBounds_toArray, List.set_cons_zero, List.set_cons_succ]))
                refine held_nil (NoPanic.normal ?_)
                go_wp2_with fail
                go_roundw
                case rel => exact ⟨q, j + 1, rfl, by go_num, by omega, HWN.out, HWD.out⟩
                case measure => simp [intOf]; omega
            · obtain rfl : j = k := by omega
              have HWN : Hid (W1 ps q (j + 1)) := W3.done HW1.out HWJ.out
              go_wp2_with fail
              go_roundw
              case rel => exact ⟨q, j + 1, rfl, by go_num, by have := HLT.out; omega, HWN.out, HBJ.out⟩
              case measure => simp [intOf]; omega
        · go_wp2_with fail
          go_meet
          exact ⟨⟨q, rfl, HW1.out.w2' hq⟩, HB.out⟩
      · obtain rfl : k = ps.length := by omega
        by_cases hq : q = 0
        · subst hq
          go_wp2_with fail
          go_meet
          exact ⟨⟨0, rfl, HW1.out.w2⟩, HB.out⟩
        · go_wp2_with fail
          go_meet
          exact ⟨⟨q, rfl, HW1.out.w2' hq⟩, HB.out⟩
  case rest =>
  obtain ⟨⟨q, rfl, HW2⟩, hb4⟩ := hcut
  obtain ⟨w4, hw4⟩ : ∃ x, x = wc := ⟨_, rfl⟩
  subst hw4
  have HB4 := Lib.hid hb4
  clear hb4
  go_upto_block 6 with fail
  go_cut [9] from 97 to 120 (fun s9 wx => (∃ q : Int, s9 = .int .i64 q ∧ Hid (Want ps q)) ∧ w4 = wx)
  case first =>
    go_wp2_with fail
    go_loopw [9, 12] (fun n i wr => ∃ (q : Int) (k : Nat), n = .int .i64 q ∧ i = .int .i64 (k : Int) ∧ k ≤ ps.length ∧ Hid (W2 ps q k) ∧ Hid (w4 = wr)) (fun _ i _ => ps.length - (intOf i).toNat)
    case atStart => exact ⟨q, 0, rfl, rfl, Nat.zero_le _, HW2.out, rfl⟩
    case round =>
      obtain ⟨q, k, rfl, rfl, hk, HWK, hw⟩ := hrel
      obtain rfl : w4 = wr := hw
      have k0 : (0 : Int) ≤ (k : Int) := by omega
      by_cases hlt : k < ps.length
      · have k1 : (k : Int) < (ps.length : Int) := by omega
        by_cases hq : q = 0
        · subst hq
          obtain ⟨g, off, ua, uc, e1, hc1, hwf, hl, hc2, _⟩ := (HP3.out.below HB4.out).at k hlt
          subst e1
          by_cases hx0 : ps[k].1 < 0
          · have HWN : Hid (W2 ps 10 (k + 1)) := HWK.out.bad hlt (.inl hx0)
            generalize ps[k].1 = x at *
            clear hl hc2
            go_wp2_with fail
            go_roundw
            case rel => exact ⟨10, k + 1, rfl, by go_num, by omega, HWN.out, trivial⟩
            case measure => simp [intOf]; omega
          by_cases hx1 : 20 ≤ ps[k].1
          · have HWN : Hid (W2 ps 10 (k + 1)) := HWK.out.bad hlt (.inr hx1)
            generalize ps[k].1 = x at *
            clear hl hc2
            go_wp2_with fail
            go_roundw
            case rel => exact ⟨10, k + 1, rfl, by go_num, by omega, HWN.out, trivial⟩
            case measure => simp [intOf]; omega
          · have HWN : Hid (W2 ps 0 (k + 1)) := HWK.out.next hlt hx0 hx1
            generalize ps[k].1 = x at *
            clear hl hc2
            go_wp2_with fail
            go_roundw
            case rel => exact ⟨0, k + 1, rfl, by go_num, by omega, HWN.out, trivial⟩
            case measure => simp [intOf]; omega
        · go_wp2_with fail
          go_meet
          exact ⟨⟨q, rfl, HWK.out.want' hq⟩, rfl⟩
      · obtain rfl : k = ps.length := by omega
        by_cases hq : q = 0
        · subst hq
          go_wp2_with fail
          go_meet
          exact ⟨⟨0, rfl, HWK.out.want⟩, rfl⟩
        · go_wp2_with fail
          go_meet
          exact ⟨⟨q, rfl, HWK.out.want' hq⟩, rfl⟩
  case rest =>
  obtain ⟨⟨q, rfl, HWA⟩, rfl⟩ := hcut
  have HC := Lib.hid (commit_made _ ps q w0 w4 (HQ3.out.below HB4.out) (by have := HB3.out.size; have := HB4.out.size; omega) HP0.out (Nat.le_refl _) (HB3.out.trans (HB4.out.mono HB3.out.size)) HWA.out)
  go_wp2_with fail
  refine (HC.out).mono ?_
  rintro e w5 ⟨rfl, hq5, hb5⟩
  have HQ5 := Lib.hid hq5
  have HB5 := Lib.hid ((HB3.out.trans (HB4.out.mono HB3.out.size)).trans hb5)
  have HP5 := Lib.hid (HP0.out.below HB5.out)
  clear hq5 hb5 HC HB4 HW2 HW HQ3 HP3 HB3
  go_wp2_with fail
  refine (num_any _ _).mono ?_
  rintro e w6 ⟨rfl, rfl⟩
  go_wp2_with fail
  go_loopw [14] (fun i wr => ∃ k : Nat, i = .int .i64 (k : Int) ∧ k ≤ 20 ∧ Below w5.heap.size w5 wr) (fun i _ => 20 - (intOf i).toNat)
  case atStart => exact ⟨0, rfl, Nat.zero_le _, Below.refl _ _⟩
  case round =>
    obtain ⟨i, rfl, hi, hb⟩ := hrel
    have HB := Lib.hid hb
    have i0 : (0 : Int) ≤ (i : Int) := by omega
    clear hb
    by_cases hlt : i < 20
    · have i1 : (i : Int) < 20 := by omega
      have HRD := Lib.hid (read_quiet (HQ5.out.below HB.out) i (by omega))
      go_wp2_with fail
      refine (HRD.out).mono ?_
      rintro e w7 ⟨gb, cb, rfl, hx7, _, hb7⟩
      have HX7 := Lib.hid hx7
      have HB7 := Lib.hid (HB.out.trans (hb7.mono HB.out.size))
      clear hx7 hb7 HRD
      go_wp2_with fail
      refine (block_any 0 _).mono ?_
      rintro e w8 ⟨rfl, hx8, hb8⟩
      have HX8 := Lib.hid hx8
      have HB8 := Lib.hid (HB7.out.trans (hb8.mono HB7.out.size))
      have HX78 : Hid (Bytes w8 (.slice (some ⟨gb, 0, none⟩) 512 cb) (madeC ps q i)) := RowAt.below HX7.out hb8 (Nat.le_refl _)
      clear hx8 hb8 HX7
      go_upto_block 10 with fail
      go_cut [17] from 128 to 165 (fun s17 wx => (∃ v, s17 = v ∧ (∃ x n c, v = .slice x n c) ∧ Bytes w8 v (madeC ps q i)) ∧ w8 = wx)
      case first =>
        by_cases hq : q = 0
        · subst hq
          go_wp2_with fail
          go_loopw [17, 18] (fun v j wr => ∃ k : Nat, j = .int .i64 (k : Int) ∧ k ≤ ps.length ∧ Hid ((∃ x n c, v = .slice x n c) ∧ Bytes w8 v (lastC ps k i)) ∧ Hid (w8 = wr)) (fun _ j _ => ps.length - (intOf j).toNat)
          case atStart => exact ⟨0, rfl, Nat.zero_le _, ⟨⟨_, _, _, rfl⟩, HX8.out⟩, rfl⟩
          case round =>
            obtain ⟨k, rfl, hk, HV, hw⟩ := hrel
            obtain rfl : w8 = wr := hw
            have k0 : (0 : Int) ≤ (k : Int) := by omega
            by_cases hkl : k < ps.length
            · have k1 : (k : Int) < (ps.length : Int) := by omega
              have hga : GoodAll ps := by
                rcases HWA.out with ⟨h, _⟩ | ⟨h, _⟩ | ⟨_, h⟩
                · cases h
                · cases h
                · exact h
              obtain ⟨g, off, ua, uc, e1, hc1, hwf, hl, hc2, hbw⟩ := (HP5.out.below HB8.out).at k hkl
              subst e1
              have hl5 := (hga.2.2.1 k hkl hkl).1
              have hx0 := (hga.2.2.2 k hkl hkl).1
              have hnx := lastC_next hkl i
              obtain ⟨x, hx⟩ := Int.eq_ofNat_of_zero_le hx0
              rw [hx] at hc1 hnx
              have hbw2 : Bytes w8 (.slice ua ps[k].2.length uc) ps[k].2 := by
                rcases hbw with h | ⟨h, _⟩
                · exact h
                · rw [h] at hl5; simp at hl5
              by_cases hxi : x = i
              · subst hxi
                rw [if_pos (by simp)] at hnx
                have hbw2 : Bytes w8 (.slice ua ps[k].2.length uc) (lastC ps (k + 1) x) := by rw [hnx]; exact hbw2
                have HV2 : Hid ((∃ y n c, Value.slice ua ps[k].2.length uc = .slice y n c) ∧ Bytes w8 (Value.slice ua ps[k].2.length uc) (lastC ps (k + 1) x)) := ⟨⟨_, _, _, rfl⟩, hbw2⟩
                generalize ps[k].2.length = L at *
                clear hnx hbw hbw2 hl hl5 hx0 hx hga hwf
                go_wp2_with fail
                go_roundw
                case rel => exact ⟨k + 1, by go_num, by omega, HV2.out, trivial⟩
                case measure => simp [intOf]; omega
              · rw [if_neg (by omega)] at hnx
                have HV2 := HV.out
                rw [← hnx] at HV2
                have HV3 := Lib.hid HV2
                have hbe : ((x : Int) == (i : Int)) = false := beq_false_of_ne (by omega)
                clear hnx hbw hbw2 hl hl5 hx0 hx hga hwf HV2 hxi hc2
                go_wp2_with fail
                go_roundw
                case rel => exact ⟨k + 1, by go_num, by omega, HV3.out, trivial⟩
                case measure => simp [intOf]; omega
            · obtain rfl : k = ps.length := by omega
              have HV2 := HV.out
              rw [lastC_all] at HV2
              have HV3 := Lib.hid HV2
              clear HV2
              go_wp2_with fail
              go_meet
              exact ⟨⟨_, rfl, HV3.out.1, HV3.out.2⟩, rfl⟩
        · have hbe : (q == 0) = false := by simpa using hq
          have HX9 : Hid (Bytes w8 (.slice (some ⟨w7.heap.size, 0, none⟩) 512 512) (madeC ps q i)) := by
            have : madeC ps q i = blk 0 := if_neg hq
            show Bytes _ _ _
            rw [this]
            exact HX8.out
          by_cases hl0 : ps.length = 0
          · have i2 : ¬ (0 : Int) < (ps.length : Int) := by omega
            clear hq hl0
            go_wp2_with fail
            go_loopw [17, 18] (fun v j wr => Hid (v = .slice (some ⟨w7.heap.size, 0, none⟩) 512 512 ∧ j = .int .i64 0 ∧ wr = w8)) (fun _ _ _ => 0)
            case atStart => exact ⟨rfl, rfl, rfl⟩
            case round =>
              obtain ⟨rfl, rfl, rfl⟩ := hrel
              go_wp2_with fail
              go_meet
              exact ⟨⟨_, rfl, ⟨_, _, _, rfl⟩, HX9.out⟩, rfl⟩
          · have i2 : (0 : Int) < (ps.length : Int) := by omega
            clear hq hl0
            go_wp2_with fail
            go_loopw [17, 18] (fun v j wr => Hid (v = .slice (some ⟨w7.heap.size, 0, none⟩) 512 512 ∧ j = .int .i64 0 ∧ wr = w8)) (fun _ _ _ => 0)
            case atStart => exact ⟨rfl, rfl, rfl⟩
            case round =>
              obtain ⟨rfl, rfl, rfl⟩ := hrel
              go_wp2_with fail
              go_meet
              exact ⟨⟨_, rfl, ⟨_, _, _, rfl⟩, HX9.out⟩, rfl⟩
      case rest =>
      obtain ⟨⟨v, rfl, ⟨x9, n9, c9, rfl⟩, hv9⟩, rfl⟩ := hcut
      have hcb := run_string_of w8 24 5 Try.underlying24 Try.underlying5 HX78.out 9 Try.underlying9
      have hcc := run_string_of w8 24 5 Try.underlying24 Try.underlying5 hv9 9 Try.underlying9
      clear hv9
      go_wp2_with fail
      go_roundw
      case rel => exact ⟨i + 1, by go_num, by omega, HB8.out⟩
      case measure => simp [intOf]; omega
    · obtain rfl : i = 20 := by omega
      have HBE := Lib.hid (HB0.out.trans ((HB5.out.trans (HB.out.mono HB5.out.size)).mono HB0.out.size))
      go_wp2_with fail
      go_ret
      exact ⟨rfl, HBE.out⟩
theorem made_walk (a : Option Addr) (len cap : Nat) (ps : List (Int × Bs)) (w : World) (hp : PutsM w (.slice a len cap) ps) :
    Calls Try.prog 3 #[.slice a len cap] w fun e w' => e = .returned (.bool true) ∧ Below w.heap.size w w' := made_law _ ps w hp
end Go.Proofs.Ythfncgbkigmmcaa
