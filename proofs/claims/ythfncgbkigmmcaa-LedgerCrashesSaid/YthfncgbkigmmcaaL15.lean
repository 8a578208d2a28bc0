/- Open. (PRINTED by gen15.py.) -/
import Derived.Test.YthfncgbkigmmcaaL14
import Derived.ScopeJumps
namespace Go.Proofs.Ythfncgbkigmmcaa
open Go.RowKit

variable {w w' w1 wr : World} {O R O1 R1 : Nat → Prop} {lp p : Nat} {d D : DS} {dead dead1 : Bool}
/-- at the label 'raw' -/
def AtRaw (w : World) (O R : Nat → Prop) (p : Nat) (d : DS) (a : Act) (wr : World) : Prop := At0 w O R p d.n 60 d (startO w O) R wr ∧ ∃ v0 v1 v4 v5 v6 v7 v8 v9 v10 v11 v12 v13 v14 v15 v16 v17 v18 v19 v20 v21 v22 v23 v24 v25 v26 v27 v28 v29 v30 v31 v32 v33 v34 v35 v36 v37 v38 v39 v40 v41 v42 v43 v44 v45 v46 v47 v48 v49 v50 v51 v52 v53 v54 v55 : Value, a = ⟨(v0 :: v1 :: .pointer (some ⟨w.heap.size, 0, none⟩) :: .pointer (some ⟨w.heap.size + 1, 0, none⟩) :: v4 :: v5 :: v6 :: v7 :: v8 :: v9 :: v10 :: v11 :: v12 :: v13 :: v14 :: v15 :: v16 :: v17 :: v18 :: v19 :: v20 :: v21 :: v22 :: v23 :: v24 :: v25 :: v26 :: v27 :: v28 :: v29 :: v30 :: v31 :: v32 :: v33 :: v34 :: v35 :: v36 :: v37 :: v38 :: v39 :: v40 :: v41 :: v42 :: v43 :: v44 :: v45 :: v46 :: v47 :: v48 :: v49 :: v50 :: v51 :: v52 :: v53 :: v54 :: v55 :: []).toArray, [defd (w.heap.size + 1 + 1) (w.heap.size + 1), clos 47 (w.heap.size + 1) w.heap.size]⟩
/-- is there no ledger? -/
def rawB (d : DS) : Prop := d.n ≤ 96 ∨ (97 ≤ d.n ∧ (wayB (blockAt d.now 0) = none ∨ ∃ l, wayB (blockAt d.now 0) = some l ∧ ∃ k, ∃ (h : k < l.length), (∀ j (hj : j < k), (l[j]'(Nat.lt_trans hj h)) + 96 < d.n) ∧ d.n ≤ l[k] + 96))
theorem way_len {b : Bs} {l : List Nat} (h : wayB b = some l) : l.length ≤ 40 := by
  unfold wayB at h
  split at h
  · rename_i hc
    cases h
    rw [listB_length]
    exact hc.2.2
  · cases h
/-- what Open does -/
def openOps (d : DS) (ps : List Nat) : List LOp := .f :: (if ps = [] then [] else settleOps d.now ps)

set_option maxRecDepth 10000 in
set_option maxHeartbeats 1600000 in
theorem open_off (h : DiskO w O R p d) (hr : Room 60 d) (ho : d.off = true) :
    Calls Try.prog 24 #[.pointer (some ⟨p, 0, none⟩)] w fun e w' => Opened w O R p (d, false) 11 e w' := by
  have hmf : ∀ (fn : Fn) (first cap : Array Value) (w : World), (Instr.makeFunc fn first cap).run Try.prog w = .ok (.func fn first cap) w := fun _ _ _ _ => rfl
  have HD := Lib.hid h
  have A0 : Hid (At0 w O R p d.n 60 d (startO w O) R (startW w p)) := ⟨start_led h, Turned.refl _ _ _, rfl, hr⟩
  clear h hr
  obtain ⟨W1, hW1⟩ : ∃ W1, W1 = startW w p := ⟨_, rfl⟩
  rw [← hW1] at A0
  unfold startW at hW1
  have HON := Lib.hid (on_led A0.out.1)
  have HBL := Lib.hid (blocks_led A0.out.1)
  rw [ho] at HON
  have hlc := A0.out.lc HD.out
  go_enter_defers Try.func24, Try.ntmps24
  go_wp2_with fail
  refine wp_scope_jumps 0 (fun _ _ => False) (fun _ _ => 0) rfl ?_ (fun _ _ h => h.elim)
  go_wp2_with fail
  rw [← hW1]
  clear hW1
  refine (HON.out).mono ?_
  rintro e w1 ⟨rfl, rfl⟩
  go_wp2_with fail
  exact A0.out.bad HD.out shutO rfl rfl rfl rfl
set_option maxRecDepth 10000 in
set_option maxHeartbeats 3200000 in
theorem open_raw (h : DiskO w O R p d) (hr : Room 60 d) (ho : d.off = false) (hn2 : d.n ≤ 4096) (hraw : rawB d) :
    Calls Try.prog 24 #[.pointer (some ⟨p, 0, none⟩)] w fun e w' => Opened w O R p (d, false) 12 e w' := by
  have hmf : ∀ (fn : Fn) (first cap : Array Value) (w : World), (Instr.makeFunc fn first cap).run Try.prog w = .ok (.func fn first cap) w := fun _ _ _ _ => rfl
  have HD := Lib.hid h
  have A0 : Hid (At0 w O R p d.n 60 d (startO w O) R (startW w p)) := ⟨start_led h, Turned.refl _ _ _, rfl, hr⟩
  clear h hr
  obtain ⟨W1, hW1⟩ : ∃ W1, W1 = startW w p := ⟨_, rfl⟩
  rw [← hW1] at A0
  unfold startW at hW1
  have HON := Lib.hid (on_led A0.out.1)
  have HBL := Lib.hid (blocks_led A0.out.1)
  rw [ho] at HON
  have hlc := A0.out.lc HD.out
  have HRAW := Lib.hid hraw
  clear hraw
  go_enter_defers Try.func24, Try.ntmps24
  go_wp2_with fail
  refine wp_scope_jumps 0 (AtRaw w O R p d) (fun _ _ => 0) rfl ?_ ?_
  · go_wp2_with fail
    rw [← hW1]
    clear hW1
    refine (HON.out).mono ?_
    rintro e w1 ⟨rfl, rfl⟩
    go_wp2_with fail
    refine (HBL.out).mono ?_
    rintro e w1 ⟨rfl, rfl⟩
    rcases HRAW.out with h96 | ⟨h97, hway⟩
    · have n1 : (d.n : Int) ≤ 96 := by omega
      go_wp2_with fail
      go_step3
      exact ⟨rfl, A0.out, _, _, _, _, _, _, _, _, _, _, _, _, _, _, _, _, _, _, _, _, _, _, _, _, _, _, _, _, _, _, _, _, _, _, _, _, _, _, _, _, _, _, _, _, _, _, _, _, _, _, _, _, _, _, rfl⟩
    · have n1 : ¬ (d.n : Int) ≤ 96 := by omega
      have HRD := Lib.hid (lread_any A0.out.1 0 (by omega))
      have HNL := Lib.hid (nlen_of A0.out.1)
      go_wp2_with fail
      refine (HRD.out).mono ?_
      rintro e w2 (⟨ho2, _⟩ | ⟨_, g, cap, rfl, q1, q2, q3, q4⟩)
      · rw [ho] at ho2
        cases ho2
      have HWY := Lib.hid (way_any g cap _ w2 q1 (blockAt_length HNL.out (by omega)) q3)
      have A2 : Hid (At0 w O R p d.n 60 d (startO w O) R w2) := A0.out.below q4
      clear q1 q2 q3 q4
      go_wp2_with fail
      refine (HWY.out).mono ?_
      rintro e w3 ⟨⟨hno, rfl⟩ | ⟨l, v, hl, rfl, hv⟩, hb⟩
      · have A3 : Hid (At0 w O R p d.n 60 d (startO w O) R w3) := A2.out.below hb
        clear hb hway
        go_wp2_with fail
        go_step3
        exact ⟨rfl, A3.out, _, _, _, _, _, _, _, _, _, _, _, _, _, _, _, _, _, _, _, _, _, _, _, _, _, _, _, _, _, _, _, _, _, _, _, _, _, _, _, _, _, _, _, _, _, _, _, _, _, _, _, _, _, _, rfl⟩
      · have A3 : Hid (At0 w O R p d.n 60 d (startO w O) R w3) := A2.out.below hb
        obtain ⟨kb, hkb, hbefore, hbad⟩ : ∃ k, ∃ (h : k < l.length), (∀ j (hj : j < k), (l[j]'(Nat.lt_trans hj h)) + 96 < d.n) ∧ d.n ≤ l[k] + 96 := by
          rcases hway with hway | ⟨l', hl', hk'⟩
          · rw [hl] at hway
            cases hway
          · rw [hl] at hl'
            cases hl'
            exact hk'
        have hl40 := way_len hl
        have HBF := Lib.hid (And.intro hkb (And.intro hbefore hbad))
        have HV := Lib.hid hv
        have hlc3 := A3.out.lc HD.out
        obtain ⟨a, cv, rfl, _⟩ := id hv
        clear hb hway hbefore hbad hv
        go_wp2_with fail
        go_loopw [32] (fun i wr => ∃ k : Nat, k ≤ kb ∧ i = .int .i64 k ∧ Hid (wr = w3)) (fun i _ => l.length - (intOf i).toNat)
        case atStart => exact ⟨0, Nat.zero_le _, rfl, rfl⟩
        case round =>
          obtain ⟨k, hk, rfl, hw⟩ := hrel
          have hw' : wr = w3 := hw
          subst hw'
          clear hw
          have k0 : (0 : Int) ≤ (k : Int) := by omega
          have hlt : k < l.length := by omega
          have k1 : (k : Int) < (l.length : Int) := by omega
          obtain ⟨g2, off, e2, hcell⟩ := HV.out.at k hlt
          subst e2
          have hlb := Lib.hid (lblocks_any A3.out.1)
          by_cases hkk : kb ≤ k
          · obtain rfl : k = kb := by omega
            have hx : (d.n : Int) - 96 ≤ (l[k] : Int) := by have := HBF.out.2.2; omega
            generalize l[k] = x at *
            have x0 : ¬ (x : Int) < 0 := by omega
            go_wp2_with fail
            refine (hlb.out).mono ?_
            rintro e w4 ⟨rfl, rfl⟩
            go_wp2_with fail
            go_step3
            exact ⟨rfl, A3.out, _, _, _, _, _, _, _, _, _, _, _, _, _, _, _, _, _, _, _, _, _, _, _, _, _, _, _, _, _, _, _, _, _, _, _, _, _, _, _, _, _, _, _, _, _, _, _, _, _, _, _, _, _, _, rfl⟩
          · have hx : ¬ (d.n : Int) - 96 ≤ (l[k] : Int) := by have := HBF.out.2.1 k (by omega); omega
            generalize l[k] = x at *
            have x0 : ¬ (x : Int) < 0 := by omega
            go_wp2_with fail
            refine (hlb.out).mono ?_
            rintro e w4 ⟨rfl, rfl⟩
            go_wp2_with fail
            go_roundw
            case rel => exact ⟨k + 1, by omega, by go_num, (by first | exact trivial | rfl : _)⟩
            case measure => simp [intOf]; omega
  · rintro a wr ⟨hat, v0, v1, v4, v5, v6, v7, v8, v9, v10, v11, v12, v13, v14, v15, v16, v17, v18, v19, v20, v21, v22, v23, v24, v25, v26, v27, v28, v29, v30, v31, v32, v33, v34, v35, v36, v37, v38, v39, v40, v41, v42, v43, v44, v45, v46, v47, v48, v49, v50, v51, v52, v53, v54, v55, rfl⟩
    have HAT := Lib.hid hat
    clear hat hW1
    go_wp2_with fail
    exact door_bad shutO HD.out HAT.out.1 HAT.out.2.1 12 rfl rfl rfl rfl

end Go.Proofs.Ythfncgbkigmmcaa
