/- TollEnds, the walks of the document's own answer: each call gives what a closed reckoning gives. -/
import Derived.Test.YtndgmdmddoikjaaWalks
namespace Go.Proofs.Ytndgmdmddoikjaa
open Go.RowKit

def partV (a : Nat) (B : Int) : Bool := geM a && leM a && (floatToIntVal .f64 a .i64 == some B) && (ord (floatOfInt .f64 B) a == some .eq)
def posV (a : Nat) : Bool := match floatBits .quo .f64 4607182418800017408 a with | some q => ord q 0 == some .gt | none => false
def isRefV (a b : Nat) (B I : Int) : Bool := partV a B && partV b I && (B != 0 || posV a) && (I != 0 || posV b)

theorem partV_parts {a : Nat} {B : Int} (h : partV a B = true) : geM a = true ∧ leM a = true ∧ floatToIntVal .f64 a .i64 = some B ∧ (ord (floatOfInt .f64 B) a == some .eq) = true := by
  unfold partV at h
  simp only [Bool.and_eq_true] at h
  exact ⟨h.1.1.1, h.1.1.2, by simpa using h.1.2, h.2⟩

set_option maxHeartbeats 400000 in
theorem part_any (a : Nat) (B : Int) (w : World) (h : partV a B = true) :
    Calls Try.prog 22 #[.float .f64 a] w fun e w' => e = .returned (.tuple #[.int .i64 B, .bool true]) ∧ w = w' := by
  obtain ⟨h1, h2, h3, h4⟩ := partV_parts h
  have hconv := fun w => run_convert_float_int (P := Try.prog) w 29 3 .f64 .i64 a B (by kernel_rfl) (by kernel_rfl) h3
  clear h h3
  unfold geM ord at h1
  unfold leM ord at h2
  unfold ord at h4
  go_enter Try.func22, Try.ntmps22
  go_wp2
  go_ret2
  exact ⟨rfl, rfl⟩

set_option maxHeartbeats 400000 in
theorem of_any (a b : Nat) (B I : Int) (w : World) (h1 : partV a B = true) (h2 : partV b I = true) :
    Calls Try.prog 21 #[.complex .f64 a b] w fun e w' => e = .returned (.tuple #[.agg #[.int .i64 B, .int .i64 I], .bool true]) ∧ ∃ x, w' = w.alloc x := by
  have H1 := Lib.hid h1
  have H2 := Lib.hid h2
  clear h1 h2
  go_enter Try.func21, Try.ntmps21
  go_wp2_with fail
  refine (part_any _ _ _ H1.out).mono ?_
  rintro e w' ⟨rfl, rfl⟩
  go_wp2_with fail
  refine (part_any _ _ _ H2.out).mono ?_
  rintro e w' ⟨rfl, rfl⟩
  go_wp2
  refine bodyPost_ret (v := .tuple #[.agg #[.int .i64 B, .int .i64 I], .bool true]) (by simp [results, Try.results21, go_sem]) rfl ⟨rfl, ?_⟩
  exact ⟨_, rfl⟩

theorem posV_parts {a : Nat} (h : posV a = true) : ∃ q, floatBits .quo .f64 4607182418800017408 a = some q ∧ (FloatKind.f64.format.order q 0 == some .gt) = true := by
  unfold posV at h
  split at h
  · rename_i q hq
    exact ⟨q, hq, h⟩
  · cases h

set_option maxHeartbeats 400000 in
theorem isRef_any (a b : Nat) (B I : Int) (w : World) (h : isRefV a b B I = true) :
    Calls Try.prog 17 #[.complex .f64 a b, .agg #[.int .i64 B, .int .i64 I]] w fun e w' => e = .returned (.bool true) ∧ Below w.heap.size w w' := by
  unfold isRefV at h
  simp only [Bool.and_eq_true] at h
  obtain ⟨⟨⟨h1, h2⟩, h3⟩, h4⟩ := h
  have H1 := Lib.hid h1
  have H2 := Lib.hid h2
  clear h1 h2
  by_cases hB : B = 0
  · have ha : posV a = true := by simpa [hB] using h3
    obtain ⟨q, hq, hg⟩ := posV_parts ha
    have k1 := fun w => run_float_arith (P := Try.prog) w .quo 29 .f64 4607182418800017408 a q hq
    by_cases hI : I = 0
    · have hb : posV b = true := by simpa [hI] using h4
      obtain ⟨q', hq', hg'⟩ := posV_parts hb
      have k2 := fun w => run_float_arith (P := Try.prog) w .quo 29 .f64 4607182418800017408 b q' hq'
      clear h3 h4 ha hb hq hq'
      subst hB hI
      go_enter Try.func17, Try.ntmps17
      go_wp2_with fail
      refine (of_any _ _ _ _ _ H1.out H2.out).mono ?_
      rintro e w' ⟨rfl, x, rfl⟩
      go_wp2
      go_ret
      exact ⟨rfl, (((Below.refl _ _).alloc (Nat.le_refl _) _).alloc (by simp) _).alloc (by simp; omega) _⟩
    · clear h3 h4 ha hq
      have hI' : (I == 0) = false := by simpa using hI
      have hI'' : (I != 0) = true := by simpa using hI
      clear hI
      subst hB
      go_enter Try.func17, Try.ntmps17
      go_wp2_with fail
      refine (of_any _ _ _ _ _ H1.out H2.out).mono ?_
      rintro e w' ⟨rfl, x, rfl⟩
      go_wp2
      go_ret
      exact ⟨rfl, (((Below.refl _ _).alloc (Nat.le_refl _) _).alloc (by simp) _).alloc (by simp; omega) _⟩
  · have hB' : (B == 0) = false := by simpa using hB
    have hB'' : (B != 0) = true := by simpa using hB
    by_cases hI : I = 0
    · have hb : posV b = true := by simpa [hI] using h4
      obtain ⟨q', hq', hg'⟩ := posV_parts hb
      have k2 := fun w => run_float_arith (P := Try.prog) w .quo 29 .f64 4607182418800017408 b q' hq'
      clear h3 h4 hb hq' hB
      subst hI
      go_enter Try.func17, Try.ntmps17
      go_wp2_with fail
      refine (of_any _ _ _ _ _ H1.out H2.out).mono ?_
      rintro e w' ⟨rfl, x, rfl⟩
      go_wp2
      go_ret
      exact ⟨rfl, (((Below.refl _ _).alloc (Nat.le_refl _) _).alloc (by simp) _).alloc (by simp; omega) _⟩
    · clear h3 h4 hB
      have hI' : (I == 0) = false := by simpa using hI
      have hI'' : (I != 0) = true := by simpa using hI
      clear hI
      go_enter Try.func17, Try.ntmps17
      go_wp2_with fail
      refine (of_any _ _ _ _ _ H1.out H2.out).mono ?_
      rintro e w' ⟨rfl, x, rfl⟩
      go_wp2
      go_ret
      exact ⟨rfl, (((Below.refl _ _).alloc (Nat.le_refl _) _).alloc (by simp) _).alloc (by simp; omega) _⟩

/-- the law's 'told'. -/
def toldLawV (p : Nat × Nat × Int) (B I : Int) (ok : Bool) : Bool :=
  if ok then (p.2.2 == 0) && isRefV p.1 p.2.1 B I else (p.2.2 == 3) && ((ord p.1 0 == some .eq) && (ord p.2.1 0 == some .eq))

set_option maxHeartbeats 400000 in
theorem toldLaw_any (p : Nat × Nat × Int) (B I : Int) (ok : Bool) (w : World) (h : toldLawV p B I ok = true) :
    Calls Try.prog 11 #[.complex .f64 p.1 p.2.1, .int .i64 p.2.2, .agg #[.int .i64 B, .int .i64 I], .bool ok] w fun e w' => e = .returned (.bool true) ∧ Below w.heap.size w w' := by
  obtain ⟨a, b, e⟩ := p
  unfold toldLawV at h
  cases ok with
  | true =>
    simp only [if_true, Bool.and_eq_true] at h
    obtain ⟨h1, h2⟩ := h
    have : e = 0 := by simpa using h1
    subst this
    have H2 := Lib.hid h2
    clear h1 h2
    go_enter Try.func11, Try.ntmps11
    go_wp2_with (first | (go_at_call 17; refine (isRef_any _ _ _ _ _ H2.out).mono ?_; rintro e w' ⟨rfl, hb⟩) | go_in)
    go_ret
    exact ⟨rfl, ((Below.refl _ _).alloc (Nat.le_refl _) _).trans (hb.mono (by simp))⟩
  | false =>
    simp only [Bool.false_eq_true, if_false, Bool.and_eq_true] at h
    obtain ⟨h1, h2, h3⟩ := h
    have : e = 3 := by simpa using h1
    subst this
    unfold ord at h2 h3
    go_enter Try.func11, Try.ntmps11
    go_wp2
    go_ret
    exact ⟨rfl, (Below.refl _ _).alloc (Nat.le_refl _) _⟩

/-- the document's 'times'. -/
def tmV (a n : Int) : Int × Bool := if a = 0 ∨ n = 0 then (0, true) else if 1099511627776 / a.natAbs < (n.natAbs : Int) then (0, false) else (a * n, true)

set_option maxHeartbeats 400000 in
theorem tm_zero (a n : Int) (w : World) (h : a = 0 ∨ n = 0) :
    Calls Try.prog 16 #[.int .i64 a, .int .i64 n] w fun e w' => e = .returned (.tuple #[.int .i64 0, .bool true]) ∧ w = w' := by
  by_cases ha : a = 0
  · subst ha
    go_enter Try.func16, Try.ntmps16
    go_wp2
    go_ret2
    exact ⟨rfl, rfl⟩
  · have hn : n = 0 := h.resolve_left ha
    subst hn
    have ha' : (a == 0) = false := by simpa using ha
    go_enter Try.func16, Try.ntmps16
    go_wp2
    go_ret2
    exact ⟨rfl, rfl⟩

set_option maxHeartbeats 400000 in
theorem tm_pos (a n : Int) (w : World) (ha : 0 < a) (ha' : a ≤ 1099511627776) (hn : 0 < n) (hn' : n ≤ 1099511627776) (p : Int) (ok : Bool) (h : (1099511627776 / a < n ∧ p = 0 ∧ ok = false) ∨ (n ≤ 1099511627776 / a ∧ p = a * n ∧ ok = true)) :
    Calls Try.prog 16 #[.int .i64 a, .int .i64 n] w fun e w' => e = .returned (.tuple #[.int .i64 p, .bool ok]) ∧ w = w' := by
  have a0 : (a == 0) = false := by simp; omega
  have n0 : (n == 0) = false := by simp; omega
  rcases h with ⟨h, rfl, rfl⟩ | ⟨h, rfl, rfl⟩
  · go_enter Try.func16, Try.ntmps16
    go_wp2
    go_ret2
    exact ⟨rfl, rfl⟩
  · have hm1 : 0 ≤ a * n := Int.mul_nonneg (by omega) (by omega)
    have hm2 : a * n ≤ 1099511627776 := by
      have := Int.mul_le_mul_of_nonneg_left h (show 0 ≤ a by omega)
      have := Int.mul_ediv_self_le (x := 1099511627776) (k := a) (by omega)
      omega
    go_enter Try.func16, Try.ntmps16
    go_wp2
    go_ret2
    exact ⟨rfl, rfl⟩

/-- what 'times' gives of two positive numbers. -/
theorem tm_posV (a n : Int) (w : World) (ha : 0 < a) (ha' : a ≤ 1099511627776) (hn : 0 < n) (hn' : n ≤ 1099511627776) :
    Calls Try.prog 16 #[.int .i64 a, .int .i64 n] w fun e w' => e = .returned (.tuple #[.int .i64 (tmV a n).1, .bool (tmV a n).2]) ∧ w = w' := by
  refine tm_pos a n w ha ha' hn hn' _ _ ?_
  unfold tmV
  rw [if_neg (by omega)]
  have e1 : (a.natAbs : Int) = a := by omega
  have e2 : (n.natAbs : Int) = n := by omega
  rw [e1, e2]
  by_cases h : 1099511627776 / a < n
  · rw [if_pos h]; exact .inl ⟨h, rfl, rfl⟩
  · rw [if_neg h]; exact .inr ⟨by omega, rfl, rfl⟩
theorem tmV_bd (a n : Int) (ha : -1099511627776 ≤ a) (ha' : a ≤ 1099511627776) (hn : -1099511627776 ≤ n) (hn' : n ≤ 1099511627776) : -1099511627776 ≤ (tmV a n).1 ∧ (tmV a n).1 ≤ 1099511627776 := by
  unfold tmV
  split
  · simp
  · rename_i h0
    split
    · simp
    · rename_i h
      have h : (n.natAbs : Int) ≤ 1099511627776 / (a.natAbs : Int) := by omega
      have hm := Int.mul_le_mul_of_nonneg_left h (show (0 : Int) ≤ a.natAbs by omega)
      have hd := Int.mul_ediv_self_le (x := 1099511627776) (k := (a.natAbs : Int)) (by omega)
      have he : ((a * n).natAbs : Int) = (a.natAbs : Int) * (n.natAbs : Int) := by rw [Int.natAbs_mul]; simp
      show -1099511627776 ≤ a * n ∧ a * n ≤ 1099511627776
      omega
theorem tmV_negn (a n : Int) : (tmV a n).1 = -(tmV a (-n)).1 ∧ (tmV a n).2 = (tmV a (-n)).2 := by
  unfold tmV
  have e : ((-n).natAbs) = n.natAbs := by omega
  rw [e]
  by_cases h : a = 0 ∨ n = 0
  · rw [if_pos h, if_pos (show a = 0 ∨ -n = 0 by omega)]; simp
  · rw [if_neg h, if_neg (show ¬ (a = 0 ∨ -n = 0) by omega)]
    split
    · simp
    · simp [Int.mul_neg]
theorem tmV_nega (a n : Int) : (tmV a n).1 = -(tmV (-a) n).1 ∧ (tmV a n).2 = (tmV (-a) n).2 := by
  unfold tmV
  have e : ((-a).natAbs) = a.natAbs := by omega
  rw [e]
  by_cases h : a = 0 ∨ n = 0
  · rw [if_pos h, if_pos (show -a = 0 ∨ n = 0 by omega)]; simp
  · rw [if_neg h, if_neg (show ¬ (-a = 0 ∨ n = 0) by omega)]
    split
    · simp
    · simp [Int.neg_mul]

set_option maxHeartbeats 400000 in
theorem tm_apos (a n : Int) (w : World) (ha : 0 < a) (ha' : a ≤ 1099511627776) (hn : -1099511627776 ≤ n) (hn' : n ≤ 1099511627776) (hz : n ≠ 0) :
    Calls Try.prog 16 #[.int .i64 a, .int .i64 n] w fun e w' => e = .returned (.tuple #[.int .i64 (tmV a n).1, .bool (tmV a n).2]) ∧ w = w' := by
  by_cases h : 0 < n
  · exact tm_posV a n w ha ha' h hn'
  · have hneg := tmV_negn a n
    have hbd := tmV_bd a (-n) (by omega) ha' (by omega) (by omega)
    rw [hneg.1, hneg.2]
    clear hneg
    generalize hp : tmV a (-n) = p at hbd
    have HP := Lib.hid hp
    clear hp
    obtain ⟨b1, b2⟩ := hbd
    have a0 : (a == 0) = false := by simp; omega
    have n0 : (n == 0) = false := by simp; omega
    go_enter Try.func16, Try.ntmps16
    go_wp2_with fail
    refine (tm_posV a (-n) _ ha ha' (by omega) (by omega)).mono ?_
    rw [HP.out]
    rintro e w' ⟨rfl, rfl⟩
    go_wp2_with fail
    go_ret2
    exact ⟨rfl, rfl⟩

set_option maxHeartbeats 400000 in
theorem tm_any (a n : Int) (w : World) (ha : -1099511627776 ≤ a) (ha' : a ≤ 1099511627776) (hn : -1099511627776 ≤ n) (hn' : n ≤ 1099511627776) :
    Calls Try.prog 16 #[.int .i64 a, .int .i64 n] w fun e w' => e = .returned (.tuple #[.int .i64 (tmV a n).1, .bool (tmV a n).2]) ∧ w = w' := by
  by_cases hz : a = 0 ∨ n = 0
  · have e : tmV a n = (0, true) := by unfold tmV; rw [if_pos hz]
    rw [e]
    exact tm_zero a n w hz
  · by_cases h : 0 < a
    · exact tm_apos a n w h ha' hn hn' (by omega)
    · have hneg := tmV_nega a n
      have hbd := tmV_bd (-a) n (by omega) (by omega) hn hn'
      rw [hneg.1, hneg.2]
      clear hneg
      generalize hp : tmV (-a) n = p at hbd
      have HP := Lib.hid hp
      clear hp
      obtain ⟨b1, b2⟩ := hbd
      have a0 : (a == 0) = false := by simp; omega
      have n0 : (n == 0) = false := by simp; omega
      go_enter Try.func16, Try.ntmps16
      go_wp2_with fail
      refine (tm_apos (-a) n _ (by omega) (by omega) hn hn' (by omega)).mono ?_
      rw [HP.out]
      rintro e w' ⟨rfl, rfl⟩
      go_wp2_with fail
      go_ret2
      exact ⟨rfl, rfl⟩

def TMV (B I n : Int) : Int × Int × Bool := if (tmV B n).2 && (tmV I n).2 then ((tmV B n).1, (tmV I n).1, true) else (0, 0, false)

set_option maxHeartbeats 400000 in
theorem Times_any (B I n : Int) (w : World) (ha : -1099511627776 ≤ B) (ha' : B ≤ 1099511627776) (hb : -1099511627776 ≤ I) (hb' : I ≤ 1099511627776) (hn : -1099511627776 ≤ n) (hn' : n ≤ 1099511627776) :
    Calls Try.prog 10 #[.agg #[.int .i64 B, .int .i64 I], .int .i64 n] w fun e w' => e = .returned (.tuple #[.agg #[.int .i64 (TMV B I n).1, .int .i64 (TMV B I n).2.1], .bool (TMV B I n).2.2]) ∧ Below w.heap.size w w' := by
  unfold TMV
  generalize hp : tmV B n = p
  generalize hq : tmV I n = q
  have HP := Lib.hid hp
  have HQ := Lib.hid hq
  clear hp hq
  obtain ⟨x, y⟩ := p
  obtain ⟨x', y'⟩ := q
  cases y <;> cases y'
  all_goals
    go_enter Try.func10, Try.ntmps10
    go_wp2_with fail
    refine (tm_any B n _ ha ha' hn hn').mono ?_
    rw [HP.out]
    rintro e w' ⟨rfl, rfl⟩
    go_wp2_with fail
    refine (tm_any I n _ hb hb' hn hn').mono ?_
    rw [HQ.out]
    rintro e w' ⟨rfl, rfl⟩
    go_wp2_with fail
  · refine bodyPost_ret (v := .tuple #[.agg #[.int .i64 0, .int .i64 0], .bool false]) (by simp [results, Try.results10, go_sem]) rfl ⟨rfl, ?_⟩
    exact ((Below.refl _ _).alloc (Nat.le_refl _) _).alloc (by simp) _
  · refine bodyPost_ret (v := .tuple #[.agg #[.int .i64 0, .int .i64 0], .bool false]) (by simp [results, Try.results10, go_sem]) rfl ⟨rfl, ?_⟩
    exact ((Below.refl _ _).alloc (Nat.le_refl _) _).alloc (by simp) _
  · refine bodyPost_ret (v := .tuple #[.agg #[.int .i64 0, .int .i64 0], .bool false]) (by simp [results, Try.results10, go_sem]) rfl ⟨rfl, ?_⟩
    exact ((Below.refl _ _).alloc (Nat.le_refl _) _).alloc (by simp) _
  · refine bodyPost_ret (v := .tuple #[.agg #[.int .i64 x, .int .i64 x'], .bool true]) (by simp [results, Try.results10, go_sem]) rfl ⟨rfl, ?_⟩
    exact ((Below.refl _ _).alloc (Nat.le_refl _) _).alloc (by simp) _

def fairV (n : Int) : Bool := decide (-1099511627776 ≤ n) && decide (n ≤ 1099511627776)
set_option maxHeartbeats 400000 in
theorem fair_any (n : Int) (w : World) : Calls Try.prog 18 #[.int .i64 n] w fun e w' => e = .returned (.bool (fairV n)) ∧ w = w' := by
  unfold fairV
  by_cases h1 : -1099511627776 ≤ n
  · by_cases h2 : n ≤ 1099511627776
    · go_enter Try.func18, Try.ntmps18
      go_wp2
      go_ret
      exact ⟨by simp [h1, h2], rfl⟩
    · go_enter Try.func18, Try.ntmps18
      go_wp2
      go_ret
      exact ⟨by simp [h2], rfl⟩
  · go_enter Try.func18, Try.ntmps18
    go_wp2
    go_ret
    exact ⟨by simp; omega, rfl⟩

set_option maxHeartbeats 400000 in
theorem good_any (B I : Int) (w : World) : Calls Try.prog 12 #[.agg #[.int .i64 B, .int .i64 I]] w fun e w' => e = .returned (.bool (fairV B && fairV I)) ∧ ∃ x, w.alloc x = w' := by
  cases h1 : fairV B with
  | false =>
    go_enter Try.func12, Try.ntmps12
    go_wp2_with fail
    refine (fair_any B _).mono ?_
    rw [h1]
    rintro e w' ⟨rfl, rfl⟩
    go_wp2_with fail
    go_ret
    exact ⟨rfl, _, rfl⟩
  | true =>
    go_enter Try.func12, Try.ntmps12
    go_wp2_with fail
    refine (fair_any B _).mono ?_
    rw [h1]
    rintro e w' ⟨rfl, rfl⟩
    clear h1
    go_wp2_with fail
    refine (fair_any I _).mono ?_
    rintro e w' ⟨rfl, rfl⟩
    go_wp2_with fail
    go_ret
    exact ⟨rfl, _, rfl⟩

set_option maxHeartbeats 400000 in
theorem swap_any (w : World) : Calls Try.prog 13 #[.complex .f64 4613937818241073152 4607182418800017408] w fun e w' => e = ansV (4607182418800017408, 4613937818241073152, 0) ∧ Below w.heap.size w w' := by
  have k0 : ∀ w, (Op.unary .neg (.float .f64 4607182418800017408)).run Try.prog w = .ok (.float .f64 13830554455654793216) w := fun _ => by kernel_rfl
  have k1 := fun w => run_complex_mul (P := Try.prog) w 23 4613937818241073152 13830554455654793216 0 4607182418800017408 4607182418800017408 4613937818241073152 (by decide +kernel)
  go_enter Try.func13, Try.ntmps13
  go_wp2_with fail
  refine (is1_any _ _ true _ (by decide +kernel)).mono ?_
  rintro e w' ⟨rfl, rfl⟩
  go_wp2_with (go_at_call 19; go_in)
  refine (told_any 4607182418800017408 4613937818241073152 (4607182418800017408, 4613937818241073152, 0) _ (by decide +kernel)).mono ?_
  rintro e w1 ⟨rfl, hb⟩
  unfold ansV
  go_wp2_with fail
  go_ret2
  exact ⟨rfl, ((Below.refl _ _).alloc (Nat.le_refl _) _).trans (hb.mono (by simp))⟩

set_option maxHeartbeats 400000 in
theorem alive_any (w : World) : Calls Try.prog 4 #[] w fun e w' => e = .returned (.bool true) ∧ Below w.heap.size w w' := by
  have k1 : (FloatKind.f64.format.order 4607182418800017408 4607182418800017408 == some .eq) = true := by decide +kernel
  have k2 : (FloatKind.f64.format.order 4613937818241073152 4613937818241073152 == some .eq) = true := by decide +kernel
  go_enter Try.func4, Try.ntmps4
  go_wp2_with fail
  refine (swap_any _).mono ?_
  rintro e w' ⟨rfl, hb⟩
  unfold ansV
  go_wp2
  go_ret
  exact ⟨rfl, hb⟩
end Go.Proofs.Ytndgmdmddoikjaa
