/- PathParts. -/
import Derived.Test.YtpnbmfibooglgaaDoorPlain
namespace Go.Proofs.YtpnbmfibooglgaaDoor
open Go.RowKit

set_option maxHeartbeats 1600000 in
theorem parts_walk (s : ByteArray) (w : World) (_ : s.size ≤ maxLen) : Calls Tryd.prog 8 #[.string s] w fun e w' => e = .returned (.bool true) ∧ Below w.heap.size w w' := by
  go_enter Tryd.func8, Tryd.ntmps8
  go_wp2_with fail
  refine (alive_any w).mono ?_
  rintro e w1 ⟨rfl, hb1⟩
  have HB1 := Lib.hid hb1
  clear hb1
  by_cases h1 : s.size ≤ 2000
  · have n1 : ¬ (2000 : Int) < (s.size : Int) := by omega
    have hs : s.size ≤ 1000000 := by omega
    have HSH := Lib.hid (names_short s)
    have HNA := Lib.hid (fun w => names_any s w hs)
    have HRN := Lib.hid (fun w => rnames_any s w hs)
    have HV := Lib.hid (fun w => valid_any s w hs)
    have HRV := Lib.hid (fun w => rvalid_any s w hs)
    have HP := Lib.hid (fun w => parent_any s w hs)
    have HRP := Lib.hid (fun w => rparent_any s w hs)
    have HBS := Lib.hid (fun w => base_any s w hs)
    have HRB := Lib.hid (fun w => rbase_any s w hs)
    have HK := Lib.hid (fun w => kept_any s w hs)
    have HRK := Lib.hid (fun w => rkept_any s w hs)
    rw [parent_eq] at HP
    rw [base_eq] at HBS
    rw [valid_eq] at HV
    generalize (⟨(lastB (namesB s.data.toList)).toArray⟩ : ByteArray) = bs at *
    generalize rparentS s = ps at *
    generalize keptB s.data.toList = kb at *
    generalize rvalidB s.data.toList = vb at *
    generalize namesB s.data.toList = L at *
    go_wp2_with fail
    refine (HNA.out w1).mono ?_
    rintro e w2 ⟨v4, rfl, hr4, hb2⟩
    have HB2 := Lib.hid (HB1.out.trans (hb2.mono HB1.out.size))
    have HR4 := Lib.hid hr4
    have HZ1 := Lib.hid HB1.out.size
    have HG4 : Hid (∀ j, v4.ownBlock = some j → w1.heap.size ≤ j ∧ j < w2.heap.size) := fun j e => hr4.lt j e
    clear hr4 hb2 HB1
    go_wp2_with fail
    refine (HRN.out w2).mono ?_
    rintro e w3 ⟨v5, rfl, hr5, hb3⟩
    have HB3 := Lib.hid (HB2.out.trans (hb3.mono HB2.out.size))
    have HR4 := Lib.hid (owns_below HR4.out hb3)
    have HR5 := Lib.hid hr5
    have HZ2 := Lib.hid HB2.out.size
    clear hr5 hb3 HB2
    go_wp2_with fail
    refine (HV.out w3).mono ?_
    rintro e w4 ⟨rfl, hb4⟩
    have HB4 := Lib.hid (HB3.out.trans (hb4.mono HB3.out.size))
    have HR4 := Lib.hid (owns_below HR4.out hb4)
    have HR5 := Lib.hid (owns_below HR5.out hb4)
    clear hb4 HB3
    go_wp2_with fail
    refine (HRV.out w4).mono ?_
    rintro e w5 ⟨rfl, hb5⟩
    have HB5 := Lib.hid (HB4.out.trans (hb5.mono HB4.out.size))
    have HR4 := Lib.hid (owns_below HR4.out hb5)
    have HR5 := Lib.hid (owns_below HR5.out hb5)
    clear hb5 HB4
    have hll : L.length ≤ 1000000 := by have := HSH.out; omega
    have HSA := Lib.hid (same_any L L v4 v5 _ _ w5 HR4.out HR5.out hll hll)
    rw [beq_self_eq_true] at HSA
    cases vb
    all_goals
      go_wp2_with fail
      refine (HSA.out).mono ?_
      rintro e w6 ⟨rfl, m, rfl⟩
      go_wp2_with fail
      have HR4 := Lib.hid (owns_below HR4.out (below_drewN (Below.refl w5.heap.size w5) m))
      have HR5 := Lib.hid (owns_below HR5.out (below_drewN (Below.refl w5.heap.size w5) m))
      have HB6 := Lib.hid (below_drewN HB5.out m)
      generalize w5.drewN m = w6 at *
      clear HSA HB5
      obtain ⟨a4, c4, e4⟩ := row_len' HR4.out
      subst e4
      go_loopw [7] (fun i wr => ∃ (k : Nat) (xs : List Value), k ≤ L.length ∧ i = .int .i64 k ∧ wr.ownsRow w1.heap.size 9 1 (.slice a4 L.length c4) L.length xs ∧ wr.ownsRow w2.heap.size 9 1 v5 L.length (strs L) ∧ Below w.heap.size w wr) (fun i _ => L.length - (intOf i).toNat)
      case atStart => exact ⟨0, _, Nat.zero_le _, rfl, HR4.out, HR5.out, HB6.out⟩
      case round =>
        obtain ⟨k, xs, hk, rfl, hr4, hr5, hb⟩ := hrel
        have k0 : (0 : Int) ≤ (k : Int) := by omega
        have HR4 := Lib.hid hr4
        have HR5 := Lib.hid hr5
        have HB := Lib.hid hb
        clear hr4 hr5 hb
        by_cases hlt : k < L.length
        · have k1 : (k : Int) < (L.length : Int) := by omega
          rcases owns_shape HR4.out with ⟨_, h0⟩ | ⟨g, cap, hv, _, _, _, _⟩
          · omega
          · cases hv
            have hf := HR4.out.frozenAt k
            have hcell := HR4.out.cellAt k (by omega)
            obtain ⟨g1, g2⟩ := HG4.out g rfl
            have HST := Lib.hid (HR4.out.stored k (.string ⟨#[45]⟩))
            have H5 : Hid ((wr.setCell ⟨g, k, none⟩ (.string ⟨#[45]⟩)).ownsRow w2.heap.size 9 1 v5 L.length (strs L)) := HR5.out.kept HST.out.2 (.inr (fun e => by have := (HR5.out.lt g (by first | exact e | exact e.symm)).1; omega))
            have H6 : Hid (Below w.heap.size w (wr.setCell ⟨g, k, none⟩ (.string ⟨#[45]⟩))) := HB.out.setCell (p := ⟨g, k, none⟩) (Nat.le_trans HZ1.out g1) _
            rw [List.getElem?_eq_getElem (by have := HR4.out.1; omega)] at hcell
            go_wp2_with fail
            go_roundw
            case rel => exact ⟨k + 1, _, by omega, by go_num, HST.out.1, H5.out, H6.out⟩
            case measure => simp [intOf]; omega
        · obtain rfl : k = L.length := by omega
          go_wp2_with fail
          refine (HNA.out wr).mono ?_
          rintro e w7 ⟨v7, rfl, hr7, hb7⟩
          have HB7 := Lib.hid (HB.out.trans (hb7.mono HB.out.size))
          have HSA := Lib.hid (same_any L L v7 v5 _ _ w7 hr7 (owns_below HR5.out hb7) hll hll)
          rw [beq_self_eq_true] at HSA
          clear hr7 hb7
          go_wp2_with fail
          refine (HSA.out).mono ?_
          rintro e w8 ⟨rfl, m8, rfl⟩
          have HB8 := Lib.hid (below_drewN HB7.out m8)
          go_wp2_with fail
          refine (HP.out _).mono ?_
          rintro e w9 ⟨rfl, hb9⟩
          have HB9 := Lib.hid (HB8.out.trans (hb9.mono HB8.out.size))
          clear hb9
          go_wp2_with fail
          refine (HRP.out _).mono ?_
          rintro e w10 ⟨rfl, hb10⟩
          have HB10 := Lib.hid (HB9.out.trans (hb10.mono HB9.out.size))
          clear hb10
          go_wp2_with fail
          refine (HBS.out _).mono ?_
          rintro e w11 ⟨rfl, hb11⟩
          have HB11 := Lib.hid (HB10.out.trans (hb11.mono HB10.out.size))
          clear hb11
          go_wp2_with fail
          refine (HRB.out _).mono ?_
          rintro e w12 ⟨rfl, hb12⟩
          have HB12 := Lib.hid (HB11.out.trans (hb12.mono HB11.out.size))
          clear hb12
          cases kb
          all_goals
            go_wp2_with fail
            refine (HK.out _).mono ?_
            rintro e w13 ⟨rfl, hb13⟩
            have HB13 := Lib.hid (HB12.out.trans (hb13.mono HB12.out.size))
            clear hb13
            go_wp2_with fail
            refine (HRK.out _).mono ?_
            rintro e w14 ⟨rfl, hb14⟩
            have HB14 := Lib.hid (HB13.out.trans (hb14.mono HB13.out.size))
            clear hb14
            go_wp2_with fail
            go_ret
            exact ⟨by first | rfl | simp, HB14.out⟩
  · have n1 : (2000 : Int) < (s.size : Int) := by omega
    go_wp2_with fail
    go_ret
    exact ⟨rfl, HB1.out⟩
end Go.Proofs.YtpnbmfibooglgaaDoor
