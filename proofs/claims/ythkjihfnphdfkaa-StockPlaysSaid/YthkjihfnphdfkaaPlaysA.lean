/- StockPlays: the calls that come in, what the law calls. -/
import Derived.Test.YthkjihfnphdfkaaFindsL
import Derived.Test.YthkjihfnphdfkaaOps
namespace Go.Proofs.Ythkjihfnphdfkaa
open Go.RowKit Go.Maps

/-- A row of calls that came in. -/
def OpsW (w : World) (v : Value) (ops : List (Int × Int × Bs)) : Prop :=
  (v = .slice none 0 0 ∧ ops = []) ∨ ∃ b off cap, v = .slice (some ⟨b, off, none⟩) ops.length cap ∧ ops.length ≤ 140737488351232 ∧ ∀ i (h : i < ops.length),
    w.cell? ⟨b, off + i * 3, none⟩ = some (.int .i64 ops[i].1) ∧ w.cell? ⟨b, off + i * 3 + 1, none⟩ = some (.int .i64 ops[i].2.1) ∧ (Lit.int .i64 ops[i].1).wf = true ∧ (Lit.int .i64 ops[i].2.1).wf = true ∧ ops[i].2.2.length ≤ 140737488351232 ∧
    ∃ ua uc, w.cell? ⟨b, off + i * 3 + 2, none⟩ = some (.slice ua ops[i].2.2.length uc) ∧ BytesW w (.slice ua ops[i].2.2.length uc) ops[i].2.2

theorem choose_list {α : Type} {n : Nat} {p : Nat → α → Prop} (h : ∀ i, i < n → ∃ x, p i x) : ∃ l : List α, l.length = n ∧ ∀ i (hi : i < l.length), p i l[i] := by
  induction n with
  | zero => exact ⟨[], rfl, fun i hi => by simp at hi⟩
  | succ n ih =>
    obtain ⟨l, h1, h2⟩ := ih (fun i hi => h i (by omega))
    obtain ⟨x, hx⟩ := h n (by omega)
    refine ⟨l ++ [x], by simp [h1], fun i hi => ?_⟩
    by_cases hlt : i < l.length
    · rw [List.getElem_append_left hlt]; exact h2 i hlt
    · have : i = l.length := by simp at hi; omega
      subst this
      rw [List.getElem_append_right (by omega)]
      simpa [h1] using hx

theorem opsW_in {H : Type} {enc : TypeId × Value → H} {w : World} {fuel : Nat} {a : Option Addr} {len cap : Nat} {d : DataW H} {pl : List MemPlace} {ts : List TypeId} {ds : List (DataW H)} {j : Nat} {base : Nat} {r : Reach}
    (h : DataW.trod enc Try.prog w 0 (fun _ => true) true fuel 34 [.slice a len cap] = some (d, pl)) (hok : Value.okWide Try.prog w r base 34 (.slice a len cap))
    (hs : (DataW.weightsEach Try.prog ts ds).all (· ≤ reachBytes) = true) (htj : ts[j]? = some 34) (hdj : ds[j]? = some d) : ∃ ops, OpsW w (.slice a len cap) ops := by
  rcases fields_in Try.underlying34 Try.underlying38 (by kernel_rfl) (by kernel_rfl) h hok hs htj hdj with ⟨rfl, rfl, rfl⟩ | ⟨b, off, rfl, hl, hby, hf⟩
  · exact ⟨[], .inl ⟨rfl, rfl⟩⟩
  · have e38 : Try.prog.bytesOf 38 = 40 := by kernel_rfl
    rw [e38] at hby
    obtain ⟨ops, ho, hops⟩ := choose_list (n := len) (p := fun i (o : Int × Int × Bs) => w.cell? ⟨b, off + i * 3, none⟩ = some (.int .i64 o.1) ∧ w.cell? ⟨b, off + i * 3 + 1, none⟩ = some (.int .i64 o.2.1) ∧ (Lit.int .i64 o.1).wf = true ∧ (Lit.int .i64 o.2.1).wf = true ∧ o.2.2.length ≤ 140737488351232 ∧
      ∃ ua uc, w.cell? ⟨b, off + i * 3 + 2, none⟩ = some (.slice ua o.2.2.length uc) ∧ BytesW w (.slice ua o.2.2.length uc) o.2.2) (fun i hi => by
        obtain ⟨v0, c0, f0⟩ := hf i hi 0 _ rfl
        obtain ⟨v1, c1, f1⟩ := hf i hi 1 _ rfl
        obtain ⟨v2, c2, f2⟩ := hf i hi 2 _ rfl
        obtain ⟨n0, rfl, w0⟩ := f0.int Try.underlying3
        obtain ⟨n1, rfl, w1⟩ := f1.int Try.underlying3
        obtain ⟨ua, ul, uc, zs, rfl, hin, hby2⟩ := f2.ints Try.underlying28 Try.underlying5 (by kernel_rfl)
        have e5 : Try.prog.bytesOf 5 = 1 := by kernel_rfl
        rw [e5] at hby2
        obtain ⟨bs, hb1, hb2⟩ := hin.bytes
        have := hin.1
        refine ⟨(n0, n1, bs), c0, c1, w0, w1, by show bs.length ≤ _; omega, ua, uc, ?_, ?_⟩
        · show w.cell? ⟨b, off + i * 3 + 2, none⟩ = some (Value.slice ua bs.length uc)
          rw [hb1]; exact c2
        · show BytesW w (.slice ua bs.length uc) bs
          rw [hb1]; exact hb2)
    refine ⟨ops, .inr ⟨b, off, cap, by rw [ho], by omega, hops⟩⟩
end Go.Proofs.Ythkjihfnphdfkaa
