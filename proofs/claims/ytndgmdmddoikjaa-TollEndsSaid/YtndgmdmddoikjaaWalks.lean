/- TollEnds, the walks of package toll: each call gives what a closed reckoning gives, where that gives anything. -/
import Derived.Test.YtndgmdmddoikjaaRows
import Derived.WalkKit
import Derived.WalkSpells
import Derived.WalkLawsBesides
import Derived.WalkSmall
import Derived.Lib.Hide
import Derived.Handy
import Derived.Laws.ComplexQuo
namespace Go.Proofs.Ytndgmdmddoikjaa
open Go.RowKit

def ord (a b : Nat) : Option Ordering := FloatKind.f64.format.order a b
def geM (b : Nat) : Bool := ord b 14010698440749613056 == some .gt || ord b 14010698440749613056 == some .eq
def leM (b : Nat) : Bool := ord b 4787326403894837248 == some .lt || ord b 4787326403894837248 == some .eq
def wholeV (b : Nat) : Option Bool :=
  if geM b then if leM b then (floatToIntVal .f64 b .i64).map fun n => ord b (floatOfInt .f64 n) == some .eq else some false else some false

set_option maxHeartbeats 400000 in
theorem whole_any (b : Nat) (r : Bool) (w : World) (h : wholeV b = some r) :
    Calls Try.prog 20 #[.float .f64 b] w fun e w' => e = .returned (.bool r) ∧ w = w' := by
  unfold wholeV at h
  by_cases h1 : geM b = true
  · by_cases h2 : leM b = true
    · rw [if_pos h1, if_pos h2] at h
      cases hc : floatToIntVal .f64 b .i64 with
      | none => rw [hc] at h; cases h
      | some n =>
        rw [hc] at h
        simp only [Option.map_some, Option.some.injEq] at h
        have H := Lib.hid h
        clear h
        have hconv := fun w => run_convert_float_int (P := Try.prog) w 29 3 .f64 .i64 b n (by kernel_rfl) (by kernel_rfl) hc
        have H3 := Lib.hid hc
        clear hc
        unfold geM ord at h1
        unfold leM ord at h2
        go_enter Try.func20, Try.ntmps20
        go_wp2
        go_ret
        exact ⟨by rw [← H.out]; rfl, rfl⟩
    · rw [if_pos h1, if_neg h2] at h
      cases h
      have h2 : leM b = false := by simpa using h2
      unfold geM ord at h1
      unfold leM ord at h2
      go_enter Try.func20, Try.ntmps20
      go_wp2
      go_ret
      exact ⟨rfl, rfl⟩
  · rw [if_neg h1] at h
    cases h
    have h1 : geM b = false := by simpa using h1
    unfold geM ord at h1
    go_enter Try.func20, Try.ntmps20
    go_wp2
    go_ret
    exact ⟨rfl, rfl⟩

def isV (a b : Nat) : Option Bool := (wholeV a).bind fun x => if x then wholeV b else some false
def is2V (a b c d : Nat) : Option Bool := (isV a b).bind fun x => if x then isV c d else some false

theorem isV_cases {a b : Nat} {r : Bool} (h : isV a b = some r) : (wholeV a = some false ∧ r = false) ∨ (wholeV a = some true ∧ wholeV b = some r) := by
  unfold isV at h
  cases h1 : wholeV a with
  | none => rw [h1] at h; cases h
  | some x =>
    cases x with
    | false => rw [h1] at h; left; exact ⟨rfl, by simpa using h.symm⟩
    | true => rw [h1] at h; right; exact ⟨rfl, by simpa using h⟩
theorem is2V_cases {a b c d : Nat} {r : Bool} (h : is2V a b c d = some r) : (isV a b = some false ∧ r = false) ∨ (isV a b = some true ∧ isV c d = some r) := by
  unfold is2V at h
  cases h1 : isV a b with
  | none => rw [h1] at h; cases h
  | some x =>
    cases x with
    | false => rw [h1] at h; left; exact ⟨rfl, by simpa using h.symm⟩
    | true => rw [h1] at h; right; exact ⟨rfl, by simpa using h⟩

set_option maxHeartbeats 400000 in
theorem is1_any (a b : Nat) (r : Bool) (w : World) (h : isV a b = some r) :
    Calls Try.prog 14 #[.slice (some ⟨w.heap.size, 0, none⟩) 1 1] (w.alloc (.cells #[.complex .f64 a b] 23)) fun e w' => e = .returned (.bool r) ∧ w.alloc (.cells #[.complex .f64 a b] 23) = w' := by
  rcases isV_cases h with ⟨h1, rfl⟩ | ⟨h1, h2⟩
  · go_enter Try.func14, Try.ntmps14
    go_wp2_with fail
    refine wp_loop_rounds 1 ?_
    rw [rounds_succ]
    go_wp2_with fail
    refine (whole_any _ _ _ h1).mono ?_
    rintro e w' ⟨rfl, rfl⟩
    go_wp2_with fail
    go_ret
    exact ⟨rfl, rfl⟩
  · cases r with
    | false =>
      go_enter Try.func14, Try.ntmps14
      go_wp2_with fail
      refine wp_loop_rounds 1 ?_
      rw [rounds_succ]
      go_wp2_with fail
      refine (whole_any _ _ _ h1).mono ?_
      rintro e w' ⟨rfl, rfl⟩
      go_wp2_with fail
      refine (whole_any _ _ _ h2).mono ?_
      rintro e w' ⟨rfl, rfl⟩
      go_wp2_with fail
      go_ret
      exact ⟨rfl, rfl⟩
    | true =>
      go_enter Try.func14, Try.ntmps14
      go_wp2_with fail
      refine wp_loop_rounds 2 ?_
      rw [rounds_succ]
      go_wp2_with fail
      refine (whole_any _ _ _ h1).mono ?_
      rintro e w' ⟨rfl, rfl⟩
      go_wp2_with fail
      refine (whole_any _ _ _ h2).mono ?_
      rintro e w' ⟨rfl, rfl⟩
      go_wp2_with fail
      rw [rounds_succ]
      go_wp2_with fail
      go_ret
      exact ⟨rfl, rfl⟩

set_option maxHeartbeats 400000 in
theorem is2_any (a b c d : Nat) (r : Bool) (w : World) (h : is2V a b c d = some r) :
    Calls Try.prog 14 #[.slice (some ⟨w.heap.size, 0, none⟩) 2 2] (w.alloc (.cells #[.complex .f64 a b, .complex .f64 c d] 23)) fun e w' => e = .returned (.bool r) ∧ w.alloc (.cells #[.complex .f64 a b, .complex .f64 c d] 23) = w' := by
  rcases is2V_cases h with ⟨h1, rfl⟩ | ⟨h1, h2⟩
  · rcases isV_cases h1 with ⟨h1, _⟩ | ⟨h1, h2⟩
    · go_enter Try.func14, Try.ntmps14
      go_wp2_with fail
      refine wp_loop_rounds 1 ?_
      rw [rounds_succ]
      go_wp2_with fail
      refine (whole_any _ _ _ h1).mono ?_
      rintro e w' ⟨rfl, rfl⟩
      go_wp2_with fail
      go_ret
      exact ⟨rfl, rfl⟩
    · go_enter Try.func14, Try.ntmps14
      go_wp2_with fail
      refine wp_loop_rounds 1 ?_
      rw [rounds_succ]
      go_wp2_with fail
      refine (whole_any _ _ _ h1).mono ?_
      rintro e w' ⟨rfl, rfl⟩
      go_wp2_with fail
      refine (whole_any _ _ _ h2).mono ?_
      rintro e w' ⟨rfl, rfl⟩
      go_wp2_with fail
      go_ret
      exact ⟨rfl, rfl⟩
  · rcases isV_cases h1 with ⟨_, h1⟩ | ⟨h1, h1'⟩
    · cases h1
    · rcases isV_cases h2 with ⟨h4, rfl⟩ | ⟨h4, h3⟩
      · go_enter Try.func14, Try.ntmps14
        go_wp2_with fail
        refine wp_loop_rounds 2 ?_
        rw [rounds_succ]
        go_wp2_with fail
        refine (whole_any _ _ _ h1).mono ?_
        rintro e w' ⟨rfl, rfl⟩
        go_wp2_with fail
        refine (whole_any _ _ _ h1').mono ?_
        rintro e w' ⟨rfl, rfl⟩
        go_wp2_with fail
        rw [rounds_succ]
        go_wp2_with fail
        refine (whole_any _ _ _ h4).mono ?_
        rintro e w' ⟨rfl, rfl⟩
        go_wp2_with fail
        go_ret
        exact ⟨rfl, rfl⟩
      · cases r with
        | false =>
          go_enter Try.func14, Try.ntmps14
          go_wp2_with fail
          refine wp_loop_rounds 2 ?_
          rw [rounds_succ]
          go_wp2_with fail
          refine (whole_any _ _ _ h1).mono ?_
          rintro e w' ⟨rfl, rfl⟩
          go_wp2_with fail
          refine (whole_any _ _ _ h1').mono ?_
          rintro e w' ⟨rfl, rfl⟩
          go_wp2_with fail
          rw [rounds_succ]
          go_wp2_with fail
          refine (whole_any _ _ _ h4).mono ?_
          rintro e w' ⟨rfl, rfl⟩
          go_wp2_with fail
          refine (whole_any _ _ _ h3).mono ?_
          rintro e w' ⟨rfl, rfl⟩
          go_wp2_with fail
          go_ret
          exact ⟨rfl, rfl⟩
        | true =>
          go_enter Try.func14, Try.ntmps14
          go_wp2_with fail
          refine wp_loop_rounds 3 ?_
          rw [rounds_succ]
          go_wp2_with fail
          refine (whole_any _ _ _ h1).mono ?_
          rintro e w' ⟨rfl, rfl⟩
          go_wp2_with fail
          refine (whole_any _ _ _ h1').mono ?_
          rintro e w' ⟨rfl, rfl⟩
          go_wp2_with fail
          rw [rounds_succ]
          go_wp2_with fail
          refine (whole_any _ _ _ h4).mono ?_
          rintro e w' ⟨rfl, rfl⟩
          go_wp2_with fail
          refine (whole_any _ _ _ h3).mono ?_
          rintro e w' ⟨rfl, rfl⟩
          go_wp2_with fail
          rw [rounds_succ]
          go_wp2_with fail
          go_ret
          exact ⟨rfl, rfl⟩

/-- 'told': the parts' bits and the error. -/
def toldV (a b : Nat) : Option (Nat × Nat × Int) :=
  (isV a b).bind fun x => if x then (floatBits .add .f64 a 0).bind fun r => (floatBits .add .f64 b 0).bind fun i => some (r, i, 0) else some (0, 0, 3)

def ansV (p : Nat × Nat × Int) : Ending := .returned (.tuple #[.complex .f64 p.1 p.2.1, .int .i64 p.2.2])

set_option maxHeartbeats 400000 in
theorem told_any (a b : Nat) (p : Nat × Nat × Int) (w : World) (h : toldV a b = some p) :
    Calls Try.prog 15 #[.complex .f64 a b] w fun e w' => e = ansV p ∧ Below w.heap.size w w' := by
  unfold toldV at h
  cases h1 : isV a b with
  | none => rw [h1] at h; cases h
  | some x =>
    rw [h1] at h
    cases x with
    | false =>
      cases h
      go_enter Try.func15, Try.ntmps15
      go_wp2_with fail
      refine (is1_any _ _ _ _ h1).mono ?_
      rintro e w' ⟨rfl, rfl⟩
      go_wp2_with fail
      go_ret2
      exact ⟨rfl, (Below.refl _ _).alloc (Nat.le_refl _) _⟩
    | true =>
      simp only [Option.bind_some, if_true] at h
      obtain ⟨r, h2, h⟩ := bind_some h
      obtain ⟨i, h3, h⟩ := bind_some h
      cases h
      have k2 := fun w => run_float_arith (P := Try.prog) w .add 29 .f64 a 0 r h2
      have k3 := fun w => run_float_arith (P := Try.prog) w .add 29 .f64 b 0 i h3
      have H1 := Lib.hid h1
      clear h1 h2 h3
      go_enter Try.func15, Try.ntmps15
      go_wp2_with fail
      refine (is1_any _ _ _ _ H1.out).mono ?_
      rintro e w' ⟨rfl, rfl⟩
      go_wp2_with fail
      go_ret2
      exact ⟨rfl, (Below.refl _ _).alloc (Nat.le_refl _) _⟩

/-- 'Add', 'Sub'. -/
def sumV (op : BinOp) (a b c d : Nat) : Option (Nat × Nat × Int) :=
  (is2V a b c d).bind fun x => if x then (cSumBits op .f64 a b c d).bind fun q => toldV q.1 q.2 else some (0, 0, 3)

set_option maxHeartbeats 400000 in
theorem add_any (a b c d : Nat) (p : Nat × Nat × Int) (w : World) (h : sumV .add a b c d = some p) :
    Calls Try.prog 7 #[.complex .f64 a b, .complex .f64 c d] w fun e w' => e = ansV p ∧ Below w.heap.size w w' := by
  unfold sumV at h
  cases h1 : is2V a b c d with
  | none => rw [h1] at h; cases h
  | some x =>
    rw [h1] at h
    cases x with
    | false =>
      cases h
      go_enter Try.func7, Try.ntmps7
      go_wp2_with fail
      refine (is2_any _ _ _ _ _ _ h1).mono ?_
      rintro e w' ⟨rfl, rfl⟩
      go_wp2_with fail
      go_ret2
      exact ⟨rfl, (Below.refl _ _).alloc (Nat.le_refl _) _⟩
    | true =>
      simp only [Option.bind_some, if_true] at h
      obtain ⟨⟨r, i⟩, h2, h⟩ := bind_some h
      have k2 := fun w => run_complex_sum (P := Try.prog) w .add (.inl rfl) 23 .f64 a b c d r i h2
      have H1 := Lib.hid h1
      have H := Lib.hid h
      clear h1 h2 h
      go_enter Try.func7, Try.ntmps7
      go_wp2_with fail
      refine (is2_any _ _ _ _ _ _ H1.out).mono ?_
      rintro e w' ⟨rfl, rfl⟩
      go_wp2_with fail
      refine (told_any _ _ _ _ H.out).mono ?_
      rintro e w1 ⟨rfl, hb⟩
      unfold ansV
      go_wp2_with fail
      go_ret2
      exact ⟨rfl, ((Below.refl _ _).alloc (Nat.le_refl _) _).trans (hb.mono (by simp))⟩

set_option maxHeartbeats 400000 in
theorem sub_any (a b c d : Nat) (p : Nat × Nat × Int) (w : World) (h : sumV .sub a b c d = some p) :
    Calls Try.prog 8 #[.complex .f64 a b, .complex .f64 c d] w fun e w' => e = ansV p ∧ Below w.heap.size w w' := by
  unfold sumV at h
  cases h1 : is2V a b c d with
  | none => rw [h1] at h; cases h
  | some x =>
    rw [h1] at h
    cases x with
    | false =>
      cases h
      go_enter Try.func8, Try.ntmps8
      go_wp2_with fail
      refine (is2_any _ _ _ _ _ _ h1).mono ?_
      rintro e w' ⟨rfl, rfl⟩
      go_wp2_with fail
      go_ret2
      exact ⟨rfl, (Below.refl _ _).alloc (Nat.le_refl _) _⟩
    | true =>
      simp only [Option.bind_some, if_true] at h
      obtain ⟨⟨r, i⟩, h2, h⟩ := bind_some h
      have k2 := fun w => run_complex_sum (P := Try.prog) w .sub (.inr rfl) 23 .f64 a b c d r i h2
      have H1 := Lib.hid h1
      have H := Lib.hid h
      clear h1 h2 h
      go_enter Try.func8, Try.ntmps8
      go_wp2_with fail
      refine (is2_any _ _ _ _ _ _ H1.out).mono ?_
      rintro e w' ⟨rfl, rfl⟩
      go_wp2_with fail
      refine (told_any _ _ _ _ H.out).mono ?_
      rintro e w1 ⟨rfl, hb⟩
      unfold ansV
      go_wp2_with fail
      go_ret2
      exact ⟨rfl, ((Below.refl _ _).alloc (Nat.le_refl _) _).trans (hb.mono (by simp))⟩

/-- 'Times', |n| at most 2^40, the toll one. -/
def timesV (a b : Nat) (n : Int) : Option (Nat × Nat × Int) :=
  (isV a b).bind fun x => if x then (if ((ord a 0 == some .eq) && (ord b 0 == some .eq)) then some (0, 0, 0) else
    (floatBits .mul .f64 a (floatOfInt .f64 n)).bind fun r => (floatBits .mul .f64 b (floatOfInt .f64 n)).bind fun i => toldV r i) else none

set_option maxHeartbeats 400000 in
theorem times_any (a b : Nat) (n : Int) (p : Nat × Nat × Int) (w : World) (hn1 : -1099511627776 ≤ n) (hn2 : n ≤ 1099511627776) (h : timesV a b n = some p) :
    Calls Try.prog 9 #[.complex .f64 a b, .int .i64 n] w fun e w' => e = ansV p ∧ Below w.heap.size w w' := by
  unfold timesV at h
  cases h1 : isV a b with
  | none => rw [h1] at h; cases h
  | some x =>
    rw [h1] at h
    cases x with
    | false => cases h
    | true =>
      simp only [Option.bind_some, if_true] at h
      by_cases h0 : ((ord a 0 == some .eq) && (ord b 0 == some .eq)) = true
      · rw [if_pos h0] at h
        cases h
        unfold ord at h0
        have H1 := Lib.hid h1
        clear h1
        go_enter Try.func9, Try.ntmps9
        go_wp2_with fail
        refine (is1_any _ _ _ _ H1.out).mono ?_
        rintro e w' ⟨rfl, rfl⟩
        go_wp2_with fail
        go_ret2
        exact ⟨rfl, (Below.refl _ _).alloc (Nat.le_refl _) _⟩
      · rw [if_neg h0] at h
        have h0 : ((ord a 0 == some .eq) && (ord b 0 == some .eq)) = false := by simpa using h0
        unfold ord at h0
        obtain ⟨r, h2, h⟩ := bind_some h
        obtain ⟨i, h3, h⟩ := bind_some h
        have k2 := fun w => run_float_arith (P := Try.prog) w .mul 29 .f64 a (floatOfInt .f64 n) r h2
        have k3 := fun w => run_float_arith (P := Try.prog) w .mul 29 .f64 b (floatOfInt .f64 n) i h3
        have H1 := Lib.hid h1
        have H := Lib.hid h
        clear h1 h2 h3 h
        go_enter Try.func9, Try.ntmps9
        go_wp2_with fail
        refine (is1_any _ _ _ _ H1.out).mono ?_
        rintro e w' ⟨rfl, rfl⟩
        go_wp2_with fail
        refine (told_any _ _ _ _ H.out).mono ?_
        rintro e w1 ⟨rfl, hb⟩
        unfold ansV
        go_wp2_with fail
        go_ret2
        exact ⟨rfl, ((Below.refl _ _).alloc (Nat.le_refl _) _).trans (hb.mono (by simp))⟩
end Go.Proofs.Ytndgmdmddoikjaa
