/- The calls that come in; long. -/
import Derived.Test.YthdefaodioapbaaOps
import Derived.Test.YthdefaodioapbaaDisk10
namespace Go.Proofs.Ythdefaodioapbaa
open Go.RowKit

structure OpD where
  kind : Int
  a : Int
  b : Int
  ka : Option Addr
  kn : Nat
  kc : Nat
  keep : List Int
def OpOk (w : World) (g off : Nat) (o : OpD) : Prop :=
  w.cell? ⟨g, off, none⟩ = some (.int .i64 o.kind) ∧ w.cell? ⟨g, off + 1, none⟩ = some (.int .i64 o.a) ∧ w.cell? ⟨g, off + 2, none⟩ = some (.int .i64 o.b) ∧ w.cell? ⟨g, off + 3, none⟩ = some (.slice o.ka o.kn o.kc) ∧
  (Lit.int .i64 o.kind).wf = true ∧ (Lit.int .i64 o.a).wf = true ∧ (Lit.int .i64 o.b).wf = true ∧ o.kn ≤ o.kc ∧ o.kc ≤ 17592186044416 ∧ (o.ka = none → o.kc = 0) ∧ IntsW w o.ka o.kn o.keep
/-- A row of calls that came in. -/
def OpsD (w : World) (v : Value) (ops : List OpD) : Prop :=
  (v = .slice none 0 0 ∧ ops = []) ∨ ∃ b off cap, v = .slice (some ⟨b, off, none⟩) ops.length cap ∧ ops.length ≤ 140737488351232 ∧ ∀ i (h : i < ops.length), OpOk w b (off + i * 4) ops[i]
theorem choose_list {α : Type} {n : Nat} {p : Nat → α → Prop} (h : ∀ i, i < n → ∃ x, p i x) : ∃ l : List α, l.length = n ∧ ∀ i (hi : i < l.length), p i l[i] := by
  induction n with
  | zero => exact ⟨[], rfl, fun i hi => by simp at hi⟩
  | succ n ih =>
    obtain ⟨l, h1, h2⟩ := ih (fun i hi => h i (by omega))
    obtain ⟨x, hx⟩ := h n (by omega)
    refine ⟨l ++ [x], by simp [h1], fun i hi => ?_⟩
    by_cases hlt : i < l.length
    · rw [List.getElem_append_left hlt]; exact h2 i hlt
    · have : i = l.length := by simp at hi; omega
      subst this
      rw [List.getElem_append_right (by omega)]
      simpa [h1] using hx
theorem opsD_in {H : Type} {enc : TypeId × Value → H} {w : World} {fuel : Nat} {a : Option Addr} {len cap : Nat} {d : DataW H} {pl : List MemPlace} {ts : List TypeId} {ds : List (DataW H)} {j : Nat} {base : Nat} {r : Reach}
    (h : DataW.trod enc Try.prog w 0 (fun _ => true) true fuel 45 [.slice a len cap] = some (d, pl)) (hok : Value.okWide Try.prog w r base 45 (.slice a len cap))
    (hs : (DataW.weightsEach Try.prog ts ds).all (· ≤ reachBytes) = true) (htj : ts[j]? = some 45) (hdj : ds[j]? = some d) : ∃ ops, OpsD w (.slice a len cap) ops := by
  rcases fields_in Try.underlying45 Try.underlying51 (by kernel_rfl) (by kernel_rfl) h hok hs htj hdj with ⟨rfl, rfl, rfl⟩ | ⟨b, off, rfl, hl, hby, hf⟩
  · exact ⟨[], .inl ⟨rfl, rfl⟩⟩
  · have e48 : Try.prog.bytesOf 51 = 48 := by kernel_rfl
    rw [e48] at hby
    obtain ⟨ops, ho, hops⟩ := choose_list (n := len) (p := fun i (o : OpD) => OpOk w b (off + i * 4) o) (fun i hi => by
        obtain ⟨v0, c0, f0⟩ := hf i hi 0 _ rfl
        obtain ⟨v1, c1, f1⟩ := hf i hi 1 _ rfl
        obtain ⟨v2, c2, f2⟩ := hf i hi 2 _ rfl
        obtain ⟨v3, c3, f3⟩ := hf i hi 3 _ rfl
        obtain ⟨n0, rfl, w0⟩ := f0.int Try.underlying3
        obtain ⟨n1, rfl, w1⟩ := f1.int Try.underlying3
        obtain ⟨n2, rfl, w2⟩ := f2.int Try.underlying3
        obtain ⟨ua, ul, uc, zs, rfl, hin, hby2⟩ := f3.ints Try.underlying22 Try.underlying3 (by kernel_rfl)
        have e3 : Try.prog.bytesOf 3 = 8 := by kernel_rfl
        rw [e3] at hby2
        exact ⟨⟨n0, n1, n2, ua, ul, uc, zs.take ul⟩, c0, c1, c2, c3, w0, w1, w2, hin.1, by show uc ≤ _; omega, hin.2.2.2.2.1, hin.intsW⟩)
    exact ⟨ops, .inr ⟨b, off, cap, by rw [ho], by omega, hops⟩⟩
theorem OpOk.below {w w' : World} {g off : Nat} {o : OpD} (h : OpOk w g off o) (hb : Below w.heap.size w w') : OpOk w' g off o := by
  obtain ⟨h1, h2, h3, h4, h5, h6, h7, h8, h9, h10, h11⟩ := h
  have hg := World.block_lt_of_cell? _ _ h1
  exact ⟨(hb.cell (p := ⟨g, off, none⟩) hg).trans h1, (hb.cell (p := ⟨g, off + 1, none⟩) hg).trans h2, (hb.cell (p := ⟨g, off + 2, none⟩) hg).trans h3, (hb.cell (p := ⟨g, off + 3, none⟩) hg).trans h4, h5, h6, h7, h8, h9, h10, h11.below hb (Nat.le_refl _)⟩
theorem OpsD.below {w w' : World} {v : Value} {ops : List OpD} (h : OpsD w v ops) (hb : Below w.heap.size w w') : OpsD w' v ops := h.imp id fun ⟨g, off, cap, h1, h2, h3⟩ => ⟨g, off, cap, h1, h2, fun i hi => (h3 i hi).below hb⟩
theorem OpsD.get {w : World} {a : Option Addr} {n c : Nat} {ops : List OpD} (h : OpsD w (.slice a n c) ops) : n = ops.length ∧ ops.length ≤ 140737488351232 ∧ ∀ i (h : i < ops.length), ∃ g off, a = some ⟨g, off, none⟩ ∧ OpOk w g (off + i * 4) ops[i] := by
  rcases h with ⟨h, rfl⟩ | ⟨g, off, cap, h, hl, hc⟩
  · cases h
    exact ⟨rfl, by simp, fun i hi => by simp at hi⟩
  · cases h
    exact ⟨rfl, hl, fun i hi => ⟨g, off, rfl, hc i hi⟩⟩

/-- the calls and what they keep, so far; the law stops at 2000 -/
def LongE (ops : List OpD) (w : World) (e : Ending) (w' : World) : Prop := (∃ b : Bool, e = .returned (.bool b) ∧ (b = false → ∀ o ∈ ops, o.kn ≤ 2000)) ∧ w = w'
set_option maxHeartbeats 400000 in
theorem long_any (v : Value) (ops : List OpD) (w : World) (h : OpsD w v ops) : Calls Try.prog 25 #[v] w (LongE ops w) := by
  rcases h with ⟨rfl, rfl⟩ | ⟨g, off, cap, rfl, hl, hc⟩
  · go_enter Try.func25, Try.ntmps25
    go_wp2_with fail
    go_loop [3, 4] (fun n i => i = .int .i64 0 ∧ n = .int .i64 0) (fun _ _ => 0)
    case atStart => exact ⟨rfl, rfl⟩
    case round =>
      obtain ⟨rfl, rfl⟩ := hrel
      go_wp2_with fail
      go_ret
      exact ⟨⟨_, rfl, fun _ o ho => by cases ho⟩, rfl⟩
  · have HC := Lib.hid hc
    clear hc
    go_enter Try.func25, Try.ntmps25
    go_wp2_with fail
    go_loop [3, 4] (fun n i => ∃ k N : Nat, k ≤ ops.length ∧ i = .int .i64 k ∧ n = .int .i64 N ∧ N ≤ 17592186046418 ∧ Hid (N ≤ 2000 → ∀ o ∈ ops.take k, o.kn ≤ 2000)) (fun _ i => ops.length - (intOf i).toNat)
    case atStart => exact ⟨0, 0, by omega, rfl, rfl, by omega, fun _ o ho => by simp at ho⟩
    case round =>
      obtain ⟨k, N, hk, rfl, rfl, hle, HN⟩ := hrel
      have k0 : (0 : Int) ≤ (k : Int) := by omega
      by_cases hgo : k < ops.length ∧ N ≤ 2000
      · obtain ⟨hlt, hc⟩ := hgo
        have k1 : (k : Int) < (ops.length : Int) := by omega
        obtain ⟨_, _, _, h4, _, _, _, h8, h9, _, _⟩ := HC.out k hlt
        have HT : Hid (ops.take (k + 1) = ops.take k ++ [ops[k]]) := List.take_succ_eq_append_getElem hlt
        have HKN : Hid (N + 1 + ops[k].kn ≤ 2000 → ∀ o ∈ ops.take (k + 1), o.kn ≤ 2000) := fun h o ho => by
          rw [HT.out] at ho
          rcases List.mem_append.1 ho with h1 | h1
          · exact HN.out hc o h1
          · rw [List.mem_singleton] at h1
            subst h1
            omega
        have hb : ops[k].kn ≤ 17592186044416 := by omega
        clear h8 h9
        generalize ops[k].kn = bl at *
        have c1 : (N : Int) ≤ 2000 := by omega
        go_wp2_with fail
        go_round
        case rel => exact ⟨k + 1, N + 1 + bl, by omega, by go_num, by go_num, by omega, HKN⟩
        case measure => simp [intOf]; omega
      · have hx : (k < ops.length ∧ 2000 < N) ∨ (k = ops.length ∧ 2000 < N) ∨ (k = ops.length ∧ N ≤ 2000) := by omega
        clear hgo
        rcases hx with ⟨h1, h2⟩ | ⟨rfl, h2⟩ | ⟨rfl, h2⟩
        · have k1 : (k : Int) < (ops.length : Int) := by omega
          have c2 : (2000 : Int) < (N : Int) := by omega
          go_wp2_with fail
          go_ret
          exact ⟨⟨true, rfl, fun h => by cases h⟩, rfl⟩
        · have c2 : (2000 : Int) < (N : Int) := by omega
          go_wp2_with fail
          go_ret
          exact ⟨⟨true, rfl, fun h => by cases h⟩, rfl⟩
        · have c2 : (N : Int) ≤ 2000 := by omega
          have c3 : ¬ (2000 : Int) < (N : Int) := by omega
          have HF : Hid (∀ o ∈ ops, o.kn ≤ 2000) := fun o ho => HN.out h2 o (by rw [List.take_length]; exact ho)
          go_wp2_with fail
          go_ret
          exact ⟨⟨false, rfl, fun _ => HF.out⟩, rfl⟩
end Go.Proofs.Ythdefaodioapbaa
