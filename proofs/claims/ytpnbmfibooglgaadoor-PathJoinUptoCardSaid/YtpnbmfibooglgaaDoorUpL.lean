/- PathUp. -/
import Derived.Test.YtpnbmfibooglgaaDoorUpB
import Derived.Test.YtpnbmfibooglgaaDoorLongL
import Derived.Test.YtpnbmfibooglgaaDoorText
namespace Go.Proofs.YtpnbmfibooglgaaDoor
open Go.RowKit

theorem isB_eq {t : ByteArray} {l : Bs} (h : IsB t l) : t = ⟨l.toArray⟩ := by
  subst h
  rfl
theorem take_short {s : Bs} (k : Nat) : (joinL ((splitB s).take k)).length ≤ s.length := by
  have hs := parts_all s
  by_cases h0 : k = 0
  · subst h0; simp [joinL]
  by_cases h1 : k < (splitB s).length
  · have : joinL (splitB s) = joinL ((splitB s).take k) ++ 47 :: joinL ((splitB s).drop k) := by
      rw [← joinL_append _ _ (take_some (by omega) (by omega)) (drop_some h1), List.take_append_drop]
    rw [hs] at this
    have := congrArg List.length this
    simp at this
    omega
  · rw [List.take_of_length_le (by omega), hs]
    omega
theorem take_next {s : Bs} (k : Nat) (h : k < (splitB s).length) : joinL ((splitB s).take (k + 1)) = if k = 0 then (splitB s)[k] else joinL ((splitB s).take k) ++ [47] ++ (splitB s)[k] := by
  rw [List.take_succ_eq_append_getElem h]
  split
  · rename_i h0
    subst h0
    simp [joinL]
  · rw [joinL_append _ _ (take_some (by omega) (by omega)) (by simp)]
    simp [joinL]
theorem tail_in (la : ByteArray) (h : validB la.data.toList = true) (m : Nat) (hm : (splitB la.data.toList).length = m + 1) (t : ByteArray) (ht : t = ⟨((splitB la.data.toList)[m]'(by omega)).toArray⟩) :
    t.size ≤ la.size ∧ (m = 0 → parentS la = ⟨#[]⟩) ∧ (0 < m → ∃ v : ByteArray, parentS la = v ∧ (v.toList == []) = false ∧ v ++ ⟨#[47]⟩ ++ t = la ∧ v.size ≤ la.size ∧ underB v.data.toList la.data.toList = true) := by
  obtain ⟨hE1, hE2, hE3⟩ := ends la h m hm
  have h4 : la.data.toList.length = la.size := by simp
  have hut := fun h0 => under_take h m h0 (by omega)
  have h3 : joinL (splitB la.data.toList) = la.data.toList := parts_all _
  have hsh := take_short (s := la.data.toList) m
  have hx : m = 0 → splitB la.data.toList = [(splitB la.data.toList)[m]'(by omega)] := fun h0 => by
    apply List.ext_getElem
    · rw [List.length_singleton]
      omega
    · intro i a b
      rw [List.length_singleton] at b
      have : i = m := by omega
      subst this
      simp
  generalize hx' : (splitB la.data.toList)[m]'(by omega) = x at *
  generalize joinL ((splitB la.data.toList).take m) = v at *
  have hts : t.size = x.length := by
    rw [ht]
    exact List.size_toArray
  refine ⟨?_, hE2, fun h0 => ?_⟩
  · by_cases h0 : 0 < m
    · have h5 := congrArg List.length (hE3 h0).2.2
      simp at h5
      have : la.size = la.data.size := rfl
      omega
    · have h5 := hx (by omega)
      rw [h5, joinL] at h3
      rw [hts, h3]
      omega
  · obtain ⟨q1, q2, q3⟩ := hE3 h0
    refine ⟨_, q1, ?_, ?_, ?_, hut h0⟩
    · rw [bytes_list]
      simpa using q2
    · rw [ht]
      apply ByteArray.ext
      rw [← Array.toList_inj, ← q3]
      simp [ByteArray.data_append]
    · show (List.toArray _).size ≤ _
      rw [List.size_toArray]
      omega
set_option maxHeartbeats 1600000 in
theorem up_walk (s : ByteArray) (w : World) (_ : s.size ≤ maxLen) : Calls Tryd.prog 7 #[.string s] w fun e w' => e = .returned (.bool true) ∧ Below w.heap.size w w' := by
  go_enter Tryd.func7, Tryd.ntmps7
  go_wp2_with fail
  refine (alive_any w).mono ?_
  rintro e w1 ⟨rfl, hb1⟩
  have HB1 := Lib.hid hb1
  clear hb1
  by_cases h1 : s.size ≤ 2000
  · have n1 : ¬ (2000 : Int) < (s.size : Int) := by omega
    have HV := Lib.hid (fun w => valid_any s w (by omega))
    cases hv : validB s.data.toList with
    | false =>
      rw [hv] at HV
      clear hv
      go_wp2_with fail
      refine (HV.out w1).mono ?_
      rintro e w2 ⟨rfl, hb⟩
      have HB2 := Lib.hid (HB1.out.trans (hb.mono HB1.out.size))
      clear hb
      go_wp2_with fail
      go_ret
      exact ⟨rfl, HB2.out⟩
    | true =>
      rw [hv] at HV
      have HVV := Lib.hid hv
      clear hv
      go_wp2_with fail
      refine (HV.out w1).mono ?_
      rintro e w2 ⟨rfl, hb⟩
      have HB2 := Lib.hid (HB1.out.trans (hb.mono HB1.out.size))
      clear hb
      have HN := Lib.hid (names_any s w2 (by omega))
      rw [namesB, if_pos HVV.out] at HN
      have hsh : (splitB s.data.toList).length ≤ s.size + 1 := by
        have := names_short s
        rwa [namesB, if_pos HVV.out] at this
      obtain ⟨m, hm⟩ : ∃ m, (splitB s.data.toList).length = m + 1 := ⟨(splitB s.data.toList).length - 1, by have : 0 < (splitB s.data.toList).length := split_pos _ _; omega⟩
      have HM := Lib.hid hm
      clear hm
      go_wp2_with fail
      refine (HN.out).mono ?_
      rintro e w3 ⟨v4, rfl, hr, hb⟩
      have HB3 := Lib.hid (HB2.out.trans (hb.mono HB2.out.size))
      have HR := Lib.hid hr
      have HZ := Lib.hid HB2.out.size
      clear hb hr
      obtain ⟨a4, c4, e4⟩ := row_len' HR.out
      subst e4
      go_wp2_with fail
      go_loopw [5, 6] (fun al i wr => ∃ (k : Nat) (la : ByteArray), k ≤ (splitB s.data.toList).length ∧ i = .int .i64 k ∧ al = .string la ∧ Hid (IsB la (joinL ((splitB s.data.toList).take k))) ∧ wr.ownsRow w2.heap.size 9 1 (.slice a4 (splitB s.data.toList).length c4) (splitB s.data.toList).length (strs (splitB s.data.toList)) ∧ Below w.heap.size w wr) (fun _ i _ => (splitB s.data.toList).length - (intOf i).toNat)
      case atStart => exact ⟨0, ⟨#[]⟩, Nat.zero_le _, rfl, rfl, rfl, HR.out, HB3.out⟩
      case round =>
        obtain ⟨k, la, hk, rfl, rfl, HA, hr, hb⟩ := hrel
        have HR := Lib.hid hr
        have HB := Lib.hid hb
        clear hr hb
        have k0 : (0 : Int) ≤ (k : Int) := by omega
        have hla : la.size ≤ 2000 := by
          have h2 : la.size = la.data.toList.length := by simp
          have h3 := take_short (s := s.data.toList) k
          have h4 : s.data.toList.length = s.size := by simp
          rw [h2, show la.data.toList = _ from HA.out]
          omega
        by_cases hlt : k < (splitB s.data.toList).length
        · have k1 : (k : Int) < ((splitB s.data.toList).length : Int) := by omega
          obtain ⟨g, c', e1, hcell⟩ := strs_at HR.out k hlt
          cases e1
          have hnx := take_next k hlt
          have hsh2 := take_short (s := s.data.toList) (k + 1)
          have h4 : s.data.toList.length = s.size := by simp
          have hvn := valid_take HVV.out (k + 1) (by omega)
          have hun := fun h => under_take HVV.out (k + 1) (by omega) h
          obtain ⟨t, ht⟩ : ∃ t : ByteArray, t = ⟨((splitB s.data.toList)[k]).toArray⟩ := ⟨_, rfl⟩
          have htB : IsB t (splitB s.data.toList)[k] := by rw [ht]; rfl
          rw [← ht] at hcell
          clear ht
          by_cases hk0 : k = 0
          · rw [if_pos hk0] at hnx
            have k2 : ¬ (0 : Int) < (k : Int) := by omega
            have HNA : Hid (IsB (la ++ t) (joinL ((splitB s.data.toList).take (k + 1)))) := by
              show IsB _ _
              rw [hnx]
              have h0 := HA.out
              rw [hk0] at h0
              exact h0.add htB
            have hsz : (la ++ t).size ≤ 2000 := by
              rw [HNA.out.size]
              omega
            have hts : t.size ≤ 2000 := by
              simp only [ByteArray.size_append] at hsz
              omega
            have HV1 : Hid (∀ w, Calls Tryd.prog 11 #[.string (la ++ t)] w fun e w' => e = .returned (.bool true) ∧ Below w.heap.size w w') := fun w => by
              have := valid_any (la ++ t) w (by omega)
              rw [show (la ++ t).data.toList = _ from HNA.out, hvn] at this
              exact this
            have HU1 : Hid (k + 1 < (splitB s.data.toList).length → ∀ w, Calls Tryd.prog 12 #[.string (la ++ t), .string s] w fun e w' => e = .returned (.bool true) ∧ Below w.heap.size w w') := fun h w => by
              have := under_any (la ++ t) s w (by omega) (by omega)
              rw [show (la ++ t).data.toList = _ from HNA.out, hun h] at this
              exact this
            clear hnx hvn hun htB hsh2 h4 hk0
            go_wp2_with fail
            refine (HV1.out _).mono ?_
            rintro e w4 ⟨rfl, hb⟩
            have HB4 := Lib.hid (HB.out.trans (hb.mono HB.out.size))
            have HR4 := Lib.hid (owns_below HR.out hb)
            clear hb
            by_cases hend : k + 1 < (splitB s.data.toList).length
            · have q1 : ¬ ((k : Int) + 1 = ((splitB s.data.toList).length : Int)) := by omega
              go_wp2_with fail
              refine (HU1.out hend _).mono ?_
              rintro e w5 ⟨rfl, hb⟩
              have HB5 := Lib.hid (HB4.out.trans (hb.mono HB4.out.size))
              have HR5 := Lib.hid (owns_below HR4.out hb)
              clear hb
              go_wp2_with fail
              go_roundw
              case rel => exact ⟨k + 1, _, by omega, by go_num, rfl, HNA, HR5.out, HB5.out⟩
              case measure => simp [intOf]; omega
            · have q1 : (k : Int) + 1 = ((splitB s.data.toList).length : Int) := by omega
              go_wp2_with fail
              go_roundw
              case rel => exact ⟨k + 1, _, by omega, by go_num, rfl, HNA, HR4.out, HB4.out⟩
              case measure => simp [intOf]; omega
          · rw [if_neg hk0] at hnx
            have k2 : (0 : Int) < (k : Int) := by omega
            have HNA : Hid (IsB (la ++ ⟨#[47]⟩ ++ t) (joinL ((splitB s.data.toList).take (k + 1)))) := by
              show IsB _ _
              rw [hnx]
              exact (HA.out.add (b := ⟨#[47]⟩) (y := [47]) rfl).add htB
            have hsz : (la ++ ⟨#[47]⟩ ++ t).size ≤ 2000 := by
              rw [HNA.out.size]
              omega
            have hts : t.size ≤ 2000 := by
              simp only [ByteArray.size_append] at hsz
              omega
            have HV1 : Hid (∀ w, Calls Tryd.prog 11 #[.string (la ++ ⟨#[47]⟩ ++ t)] w fun e w' => e = .returned (.bool true) ∧ Below w.heap.size w w') := fun w => by
              have := valid_any (la ++ ⟨#[47]⟩ ++ t) w (by omega)
              rw [show (la ++ ⟨#[47]⟩ ++ t).data.toList = _ from HNA.out, hvn] at this
              exact this
            have HU1 : Hid (k + 1 < (splitB s.data.toList).length → ∀ w, Calls Tryd.prog 12 #[.string (la ++ ⟨#[47]⟩ ++ t), .string s] w fun e w' => e = .returned (.bool true) ∧ Below w.heap.size w w') := fun h w => by
              have := under_any (la ++ ⟨#[47]⟩ ++ t) s w (by omega) (by omega)
              rw [show (la ++ ⟨#[47]⟩ ++ t).data.toList = _ from HNA.out, hun h] at this
              exact this
            clear hnx hvn hun htB hsh2 h4 hk0
            go_wp2_with fail
            refine (HV1.out _).mono ?_
            rintro e w4 ⟨rfl, hb⟩
            have HB4 := Lib.hid (HB.out.trans (hb.mono HB.out.size))
            have HR4 := Lib.hid (owns_below HR.out hb)
            clear hb
            by_cases hend : k + 1 < (splitB s.data.toList).length
            · have q1 : ¬ ((k : Int) + 1 = ((splitB s.data.toList).length : Int)) := by omega
              go_wp2_with fail
              refine (HU1.out hend _).mono ?_
              rintro e w5 ⟨rfl, hb⟩
              have HB5 := Lib.hid (HB4.out.trans (hb.mono HB4.out.size))
              have HR5 := Lib.hid (owns_below HR4.out hb)
              clear hb
              go_wp2_with fail
              go_roundw
              case rel => exact ⟨k + 1, _, by omega, by go_num, rfl, HNA, HR5.out, HB5.out⟩
              case measure => simp [intOf]; omega
            · have q1 : (k : Int) + 1 = ((splitB s.data.toList).length : Int) := by omega
              go_wp2_with fail
              go_roundw
              case rel => exact ⟨k + 1, _, by omega, by go_num, rfl, HNA, HR4.out, HB4.out⟩
              case measure => simp [intOf]; omega
        · obtain rfl : k = (splitB s.data.toList).length := by omega
          have HLA : Hid (la = s) := by
            have h0 := isB_eq HA.out
            rw [List.take_of_length_le (Nat.le_refl _), parts_all] at h0
            exact h0
          have e0 := HLA.out
          subst e0
          have hm := HM.out
          obtain ⟨hE1, _⟩ := ends la HVV.out m hm
          obtain ⟨g, c', e1, hcell⟩ := strs_at HR.out m (by omega)
          cases e1
          have HP := Lib.hid (fun w => parent_any la w (by omega))
          have HBA := Lib.hid (fun w => base_any la w (by omega))
          have HUS := Lib.hid (fun w => under_any la la w (by omega) (by omega))
          rw [under_self HVV.out] at HUS
          have HUN := Lib.hid (fun w => under_any ⟨#[]⟩ la w (by show 0 ≤ 100000; omega) (by omega))
          rw [show (⟨#[]⟩ : ByteArray).data.toList = [] from rfl, under_nil HVV.out] at HUN
          rw [hE1] at HBA
          obtain ⟨t, ht⟩ : ∃ t : ByteArray, t = ⟨((splitB la.data.toList)[m]).toArray⟩ := ⟨_, rfl⟩
          obtain ⟨hts, hP0, hP1⟩ := tail_in la HVV.out m hm t ht
          have HP0 := Lib.hid hP0
          have HP1 := Lib.hid hP1
          rw [← ht] at HBA hcell
          clear ht hE1 hP0 hP1
          have HLT := Lib.hid (show g < wr.heap.size from (HR.out.lt g rfl).2)
          rw [hm]
          have m1 : (m : Int) < (m : Int) + 1 := by omega
          have m2 : ¬ (m : Int) + 1 < 1 := by omega
          have m0 : (0 : Int) ≤ (m : Int) := by omega
          go_wp2_with fail
          refine (HP.out _).mono ?_
          rintro e w4 ⟨rfl, hb⟩
          have HB4 := Lib.hid (HB.out.trans (hb.mono HB.out.size))
          have hsz4 := Lib.hid hb.size
          have hc4 : Hid (w4.cell? ⟨g, m, none⟩ = some (.string t)) := (hb.cell (p := ⟨g, m, none⟩) HLT.out).trans hcell
          clear hb hcell
          go_wp2_with fail
          have HC4 : Hid (∀ W, Below w4.heap.size w4 W → W.cell? ⟨g, m, none⟩ = some (.string t)) := fun W h => (h.cell (p := ⟨g, m, none⟩) (Nat.lt_of_lt_of_le HLT.out hsz4.out)).trans hc4.out
          refine wp_region_noPanic ?_
          refine wp_region_ord [0, 1, 2, 3, 4, 5, 6, 7, 8, 9, 10, 11, 12, 13, 14, 15, 16, 17, 18, 19, 21, 22, 23, 24, 25, 26, 20, 27, 28] (fun W => W.cell? ⟨g, m, none⟩ = some (.string t) ∧ Below w4.heap.size w4 W) (by kernel_rfl) (by kernel_rfl) rfl (by kernel_rfl) (fun _ _ _ _ _ h => h) ⟨HC4.out _ (Below.refl _ _).drew, (Below.refl _ _).drew⟩ ?_
          repeat (apply held_run rfl (by rfl) (by rfl); (intro w hSw; go_simp; with_reducible rfl); (try simp only [Act.put, List.setIfInBounds_toArray, List.set_cons_zero, List.set_cons_succ]))
          refine held_step rfl (by rfl) (by rfl) (fun K hK => ?_)
          go_simp
          refine (HUS.out _).mono ?_
          rintro e w5 ⟨rfl, hb⟩
          have HB5 : Hid (Below w4.heap.size w4 w5) := (Below.refl _ _).drew.trans hb
          clear hb
          refine hK.out _ _ (⟨HC4.out _ HB5.out, HB5.out⟩) (fun _ => ?_)
          clear hK K
          (try simp only [Act.put, List.setIfInBounds_toArray, List.set_cons_zero, List.set_cons_succ])
          repeat (apply held_run rfl (by rfl) (by rfl); (intro w hSw; go_simp; with_reducible rfl); (try simp only [Act.put, List.setIfInBounds_toArray, List.set_cons_zero, List.set_cons_succ]))
          refine held_step rfl (by rfl) (by rfl) (fun K hK => ?_)
          go_simp
          refine (HUN.out _).mono ?_
          rintro e w6 ⟨rfl, hb⟩
          have HB6 : Hid (Below w4.heap.size w4 w6) := HB5.out.trans (hb.mono HB5.out.size)
          clear hb
          refine hK.out _ _ (⟨HC4.out _ HB6.out, HB6.out⟩) (fun _ => ?_)
          clear hK K
          (try simp only [Act.put, List.setIfInBounds_toArray, List.set_cons_zero, List.set_cons_succ])
          repeat (apply held_run rfl (by rfl) (by rfl); (intro w hSw; go_simp; with_reducible rfl); (try simp only [Act.put, List.setIfInBounds_toArray, List.set_cons_zero, List.set_cons_succ]))
          have hwm : IntKind.i64.wrap (m : Int) = (m : Int) := IntWalk.i64_in _ (by omega)
          refine held_run rfl (by rfl) (by rfl) (v := .pointer (some ⟨g, m, none⟩)) (fun w' hSw => ?_) ?_
          · go_simp
          (try simp only [Act.put, List.setIfInBounds_toArray, List.set_cons_zero, List.set_cons_succ])
          repeat (apply held_run rfl (by rfl) (by rfl); (intro w hSw; go_simp; with_reducible rfl); (try simp only [Act.put, List.setIfInBounds_toArray, List.set_cons_zero, List.set_cons_succ]))
          refine held_step rfl (by rfl) (by rfl) (fun K hK => ?_)
          go_simp
          refine (HBA.out _).mono ?_
          rintro e w7 ⟨rfl, hb⟩
          have HB7 : Hid (Below w4.heap.size w4 w7) := HB6.out.trans (hb.mono HB6.out.size)
          clear hb
          refine hK.out _ _ (⟨HC4.out _ HB7.out, HB7.out⟩) (fun _ => ?_)
          clear hK K
          (try simp only [Act.put, List.setIfInBounds_toArray, List.set_cons_zero, List.set_cons_succ])
          repeat (apply held_run rfl (by rfl) (by rfl); (intro w hSw; go_simp; with_reducible rfl); (try simp only [Act.put, List.setIfInBounds_toArray, List.set_cons_zero, List.set_cons_succ]))
          refine held_nil (NoPanic.normal ?_)
          have HB8 := Lib.hid (HB4.out.trans (HB7.out.mono HB4.out.size))
          by_cases hz : m = 0
          · rw [HP0.out hz]
            have q1 : (m : Int) + 1 = 1 := by omega
            go_wp2_with fail
            go_ret
            exact ⟨rfl, HB8.out⟩
          · obtain ⟨v, e1, e2, e3, e4, e5⟩ := HP1.out (by omega)
            rw [e1]
            have HU := Lib.hid (fun w => under_any v la w (by omega) (by omega))
            rw [e5] at HU
            have E3 : ((v ++ ⟨#[47]⟩ ++ t).toList == la.toList) = true := by rw [e3]; simp
            clear e1 e5 e3
            go_wp2_with fail
            refine (HBA.out _).mono ?_
            rintro e w8 ⟨rfl, hb⟩
            have HB9 := Lib.hid (HB8.out.trans (hb.mono HB8.out.size))
            clear hb
            go_wp2_with fail
            refine (HU.out _).mono ?_
            rintro e w9 ⟨rfl, hb⟩
            have HB10 := Lib.hid (HB9.out.trans (hb.mono HB9.out.size))
            clear hb
            go_wp2_with fail
            go_ret
            exact ⟨rfl, HB10.out⟩
  · have n1 : (2000 : Int) < (s.size : Int) := by omega
    go_wp2_with fail
    go_ret
    exact ⟨rfl, HB1.out⟩
end Go.Proofs.YtpnbmfibooglgaaDoor
