/- Whole rows in a walk: a load of a digest or of the keys, two digests compared. No condition. -/
import Derived.Test.YthkjihfnphdfkaaSHsh
import Derived.ChangeKeysEq
namespace Go.Proofs.Ythkjihfnphdfkaa.Sha
open Go.RowKit

/-- v leads to a row of type ty. -/
def OkRow (W : World) (ty : TypeId) (v : Value) : Prop := ∃ g cs t n e, v = .pointer (some ⟨g, 0, none⟩) ∧ W.heap[g]? = some (.cells cs t (0, 0)) ∧ Try.prog.underlying ty = some (.array n e) ∧ (Try.prog.info? ty).map (·.size) = some cs.size
def rowOf (W : World) (v : Value) : Array Value :=
  match v with
  | .pointer (some a) => match W.heap[a.block]? with
    | some (.cells cs _ _) => cs
    | _ => #[]
  | _ => #[]
theorem rowOf_eq {W : World} {g : Nat} {cs : Array Value} {t : TypeId} (h : W.heap[g]? = some (.cells cs t (0, 0))) : rowOf W (.pointer (some ⟨g, 0, none⟩)) = cs := by
  unfold rowOf; simp [h]
theorem run_load_row (ty : TypeId) (ev : Operand → Value) (x : Operand) (W : World) (dst : Option Tmp) (rt : TypeId) (pos : String) (after : Array Edge) (guard : Option (Nat × Bool)) (h : OkRow W ty (ev x)) :
    (execOp ev ⟨dst, .load ty x, rt, pos, after, guard⟩).run Try.prog W = .ok (.value (.agg (rowOf W (ev x)))) W := by
  obtain ⟨g, cs, t, n, e, hv, hg, hu, hi⟩ := h
  unfold execOp
  simp only [hv, Instr.loadAt, Instr.sureAddr, Sem.run_bind, Sem.run_pure, Result.andThen_ok, run_loadVar_row W g t ty cs (0, 0) (.array n e) hg hu rfl hi, rowOf_eq hg]
theorem load30 (ev : Operand → Value) (x : Operand) (W : World) (dst : Option Tmp) (rt : TypeId) (pos : String) (after : Array Edge) (guard : Option (Nat × Bool)) (h : OkRow W 54 (ev x)) :
    (execOp ev ⟨dst, .load 54 x, rt, pos, after, guard⟩).run Try.prog W = .ok (.value (.agg (rowOf W (ev x)))) W := run_load_row 54 ev x W dst rt pos after guard h
theorem load50 (ev : Operand → Value) (x : Operand) (W : World) (dst : Option Tmp) (rt : TypeId) (pos : String) (after : Array Edge) (guard : Option (Nat × Bool)) (h : OkRow W 70 (ev x)) :
    (execOp ev ⟨dst, .load 70 x, rt, pos, after, guard⟩).run Try.prog W = .ok (.value (.agg (rowOf W (ev x)))) W := run_load_row 70 ev x W dst rt pos after guard h

/-- A digest: 32 bytes. -/
def IsDig (v : Value) : Prop := ∃ L : List Int, v = .agg (L.map b8).toArray ∧ L.length = 32
theorem isDig_sha (m : List UInt8) : IsDig (.agg (shaOf m)) := ⟨_, rfl, digTo_length _ _⟩
theorem run_equalIn_u8 (d : Nat) (a : Int) (W : World) : (Op.equalIn (d + 1) 5 (.int .u8 a) (.int .u8 a)).run Try.prog W = .ok true W := by
  unfold Op.equalIn
  simp [Sem.run_bind, run_underlying Try.underlying5]
theorem run_loop_true {σ : Type} (f : Nat → σ → Sem (ForInStep σ)) (s : σ) (W : World) (l : List Nat) (h : ∀ i ∈ l, (f i s).run Try.prog W = .ok (.yield s) W) :
    (forIn l s f : Sem σ).run Try.prog W = .ok s W := by
  induction l with
  | nil => simp
  | cons i l ih =>
    simp only [List.forIn_cons, Sem.run_bind, h i (by simp), Result.andThen_ok]
    exact ih fun j hj => h j (by simp [hj])
theorem run_equalIn_dig (d : Nat) (L : List Int) (hl : L.length = 32) (W : World) : (Op.equalIn (d + 2) 54 (.agg (L.map b8).toArray) (.agg (L.map b8).toArray)).run Try.prog W = .ok true W := by
  obtain ⟨i0, hi, hz0, hz1, hz2⟩ := info_parts info5
  have hpk : Try.prog.plainKey 5 = true := by kernel_rfl
  have hs : (sizeOf 5).run Try.prog W = .ok 1 W := by simp [sizeOf, typeInfo, hi, hz1]
  unfold Op.equalIn
  simp only [Sem.run_bind, run_underlying Try.underlying54, Result.andThen_ok, Std.Legacy.Range.forIn_eq_forIn_range', hs]
  rw [run_loop_true]
  · simp
  · intro i hi'
    have h32 : i < 32 := by
      simp [List.mem_range'] at hi'
      omega
    have hp : (part 5 (L.map b8).toArray (i * 1)).run Try.prog W = .ok (b8 (L[i]'(by omega))) W := by
      refine run_part_plain W hpk ?_
      simp [hl, h32]
    simp only [Sem.run_bind, hp, Result.andThen_ok, b8, run_equalIn_u8]
    simp
set_option maxHeartbeats 800000 in
theorem eql30 (ev : Operand → Value) (x y : Operand) (W : World) (dst : Option Tmp) (rt : TypeId) (pos : String) (after : Array Edge) (guard : Option (Nat × Bool)) (h : IsDig (ev x)) (he : ev x = ev y) :
    (execOp ev ⟨dst, .binOp .eql 54 x y 54, rt, pos, after, guard⟩).run Try.prog W = .ok (.value (.bool true)) W := by
  obtain ⟨L, hv, hl⟩ := h
  have h10 : (Op.equalIn 10000 54 (.agg (L.map b8).toArray) (.agg (L.map b8).toArray)).run Try.prog W = .ok true W := run_equalIn_dig 9998 L hl W
  unfold execOp
  simp only [← he, hv]
  generalize (L.map b8).toArray = D at *
  go_simp
end Go.Proofs.Ythkjihfnphdfkaa.Sha
