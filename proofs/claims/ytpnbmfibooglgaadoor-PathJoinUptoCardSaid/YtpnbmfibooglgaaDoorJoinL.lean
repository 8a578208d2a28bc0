/- PathJoin. (PRINTED by genjoin.py.) -/
import Derived.Test.YtpnbmfibooglgaaDoorStrsW
import Derived.Deep.CutRange
namespace Go.Proofs.YtpnbmfibooglgaaDoor
open Go.RowKit

/-- what stands in 'ok' behind k names -/
def okAt (L : List Bs) (k : Nat) : Bool := decide (1 ≤ L.length) && decide (L.length ≤ 6) && (L.take k).all validB
theorem okAt_next {L : List Bs} {k : Nat} (h : k < L.length) : okAt L (k + 1) = (okAt L k && validB L[k]) := by
  unfold okAt
  rw [List.take_succ_eq_append_getElem h, List.all_append]
  simp [Bool.and_assoc]
theorem any_next {L : List Bs} {k : Nat} (h : k < L.length) : (L.take (k + 1)).any isTs = ((L.take k).any isTs || isTs L[k]) := by
  rw [List.take_succ_eq_append_getElem h, List.any_append]
  simp
theorem valid_one {x : Bs} (h : ∀ c ∈ x, c ≠ 47) : validB x = nameB x := by
  have := valid_joinL [x] (by simp) (fun y hy => by rw [List.mem_singleton] at hy; rw [hy]; exact h)
  rw [joinL] at this
  rw [this]
  simp
theorem okAt_all {L : List Bs} (h : ∀ x ∈ L, ∀ c ∈ x, c ≠ 47) : validB (joinL L) = okAt L L.length := by
  unfold okAt
  rw [List.take_length]
  by_cases h0 : L = []
  · subst h0
    decide
  · rw [valid_joinL L h0 h, show L.all validB = L.all nameB from ?_]
    · have : 0 < L.length := List.length_pos_iff.2 h0
      rw [decide_eq_true (show 1 ≤ L.length by omega)]
      simp
    · rw [Bool.eq_iff_iff, List.all_eq_true, List.all_eq_true]
      exact ⟨fun k x hx => by rw [← valid_one (h x hx)]; exact k x hx, fun k x hx => by rw [valid_one (h x hx)]; exact k x hx⟩
theorem take_next' {L : List Bs} (k : Nat) (h : k < L.length) : joinL (L.take (k + 1)) = if k = 0 then L[k] else joinL (L.take k) ++ [47] ++ L[k] := by
  rw [List.take_succ_eq_append_getElem h]
  split
  · rename_i h0
    subst h0
    simp [joinL]
  · rw [joinL_append _ _ (take_some (by omega) (by omega)) (by simp)]
    simp [joinL]
theorem join_names {L : List Bs} (h : ∀ x ∈ L, ∀ c ∈ x, c ≠ 47) (hv : validB (joinL L) = true) (h0 : L ≠ []) : namesB (joinL L) = L := by
  rw [namesB, if_pos hv, split_joinL L h0 h]
def JoinAt (w : World) (L : List Bs) (p ok kept i : Value) (wr : World) : Prop := ∃ (k : Nat) (la : ByteArray) (b5 b6 : Bool), k ≤ L.length ∧ i = .int .i64 k ∧ p = .string la ∧ ok = .bool b5 ∧ kept = .bool b6 ∧
  la.size ≤ 102 * k ∧ Hid (IsB la (joinL (L.take k))) ∧ Hid (okAt L k = b5) ∧ Hid ((L.take k).any isTs = b6) ∧ Hid (∀ x ∈ L.take k, ∀ c ∈ x, c ≠ 47) ∧ Below w.heap.size w wr

set_option maxHeartbeats 4000000 in
set_option maxRecDepth 8000 in
theorem join_walk (a : Option Addr) (len cap : Nat) (L : List Bs) (w : World) (hL : StrsW w (.slice a len cap) L) (_ : ∀ x ∈ L, x.length ≤ maxLen) : Calls Tryd.prog 9 #[.slice a len cap] w fun e w' => e = .returned (.bool true) ∧ Below w.heap.size w w' := by
  have hlen : len = L.length := by
    obtain ⟨_, _, h1, _⟩ := hL
    cases h1
    rfl
  subst hlen
  have HL := Lib.hid hL
  clear hL
  go_enter Tryd.func9, Tryd.ntmps9
  go_wp2_with fail
  refine (alive_any w).mono ?_
  rintro e w1 ⟨rfl, hb1⟩
  have HB1 := Lib.hid hb1
  clear hb1
  by_cases h10 : 10 < L.length
  · have n1 : (10 : Int) < (L.length : Int) := by omega
    go_wp2_with fail
    go_ret
    exact ⟨rfl, HB1.out⟩
  have n1 : ¬ (10 : Int) < (L.length : Int) := by omega
  obtain ⟨b0, hb0⟩ : ∃ b0, okAt L 0 = b0 := ⟨_, rfl⟩
  have HB0 := Lib.hid hb0
  have hok : Hid (b0 = (decide (1 ≤ L.length) && decide (L.length ≤ 6))) := by
    show _ = _
    rw [← hb0]
    simp [okAt]
  clear hb0
  go_upto_region 5 with fail
  go_cut [5] from 18 to 25 (fun s5 wx => s5 = .bool b0 ∧ wx = w1)
  case first =>
    by_cases a1 : 1 ≤ L.length
    · have i1 : (1 : Int) ≤ (L.length : Int) := by omega
      by_cases a2 : L.length ≤ 6
      · have i2 : (L.length : Int) ≤ 6 := by omega
        have h0 := hok.out
        simp only [a1, a2, decide_true, Bool.and_true] at h0
        subst h0
        clear a1 a2
        go_wp2_with fail
        go_meet
        exact ⟨rfl, rfl⟩
      · have i2 : ¬ (L.length : Int) ≤ 6 := by omega
        have h0 := hok.out
        simp only [a2, decide_false, Bool.and_false] at h0
        subst h0
        clear a1 a2
        go_wp2_with fail
        go_meet
        exact ⟨rfl, rfl⟩
    · have i1 : ¬ (1 : Int) ≤ (L.length : Int) := by omega
      have h0 := hok.out
      simp only [a1, decide_false, Bool.false_and] at h0
      subst h0
      clear a1
      go_wp2_with fail
      go_meet
      exact ⟨rfl, rfl⟩
  case rest =>
  obtain ⟨rfl, rfl⟩ := hcut
  go_wp2_with fail
  go_loopw [4, 5, 6, 7] (fun p ok kept i wr => JoinAt w L p ok kept i wr) (fun _ _ _ i _ => L.length - (intOf i).toNat)
  case atStart => exact ⟨0, ⟨#[]⟩, _, false, Nat.zero_le _, rfl, rfl, rfl, rfl, Nat.zero_le _, rfl, HB0.out, rfl, fun x hx => by simp at hx, HB1.out⟩
  case round =>
    obtain ⟨k, la, b5, b6, hk, rfl, rfl, rfl, rfl, hz, HA, H5, H6, HS, hb⟩ := hrel
    have HB := Lib.hid hb
    have HZ := Lib.hid hz
    replace hz : la.size ≤ 1020 := by omega
    clear hb HB0 hok
    have k0 : (0 : Int) ≤ (k : Int) := by omega
    by_cases hlt : k < L.length
    · have k1 : (k : Int) < (L.length : Int) := by omega
      obtain ⟨g, off, e1, hcell⟩ := (HL.out.below HB.out (Nat.le_refl _)).at k hlt
      subst e1
      have HN5 := Lib.hid (okAt_next hlt)
      have HN6 := Lib.hid (any_next hlt)
      have HNJ := Lib.hid (take_next' k hlt)
      rw [show okAt L k = b5 from H5.out] at HN5
      rw [show (L.take k).any isTs = b6 from H6.out] at HN6
      have HNS : Hid ((∀ c ∈ L[k], c ≠ 47) → ∀ x ∈ L.take (k + 1), ∀ c ∈ x, c ≠ 47) := fun h x hx => by
        rw [List.take_succ_eq_append_getElem hlt] at hx
        rcases List.mem_append.1 hx with h' | h'
        · exact HS.out x h'
        · rw [List.mem_singleton] at h'
          rw [h']
          exact h
      generalize L[k] = x at *
      obtain ⟨t, ht⟩ : ∃ t : ByteArray, t = ⟨x.toArray⟩ := ⟨_, rfl⟩
      have hx : x = t.data.toList := by rw [ht]
      rw [← ht] at hcell
      clear ht
      subst hx
      have hts : t.data.toList.length = t.size := by simp
      by_cases h100 : t.size ≤ 100
      · have i3 : ¬ (100 : Int) < (t.size : Int) := by omega
        obtain ⟨V, hV⟩ : ∃ V, validB t.data.toList = V := ⟨_, rfl⟩
        obtain ⟨T, hT⟩ : ∃ T, isTs t.data.toList = T := ⟨_, rfl⟩
        rw [hV] at HN5
        rw [hT] at HN6
        have HT1 : Hid (¬ 3 ≤ t.size → T = false) := fun h => by rw [← hT]; exact isTs_short (by omega)
        have HT2 : Hid (3 ≤ t.size → T = ((t.extract 0 3).toList == [46, 116, 115])) := fun h => by
          rw [← hT, isTs_long (by omega), Lib.extract_toList]
          rfl
        have HVX := Lib.hid (fun w => valid_any t w (by omega))
        rw [hV] at HVX
        clear hV hT
        go_wp2_with fail
        go_loop [8] (fun j => ∃ q : Nat, q ≤ t.size ∧ j = .int .i64 q ∧ Hid (∀ c ∈ t.data.toList.take q, c ≠ 47)) (fun j => t.size - (intOf j).toNat)
        case atStart => exact ⟨0, Nat.zero_le _, rfl, fun c hc => by simp at hc⟩
        case round =>
          obtain ⟨q, hq, rfl, HQ⟩ := hrel
          have q0 : (0 : Int) ≤ (q : Int) := by omega
          by_cases hql : q < t.size
          · have q1 : (q : Int) < (t.size : Int) := by omega
            have hqd : q < t.data.toList.length := by omega
            have HQN : Hid (t[q] ≠ 47 → ∀ c ∈ t.data.toList.take (q + 1), c ≠ 47) := fun h c hc => by
              rw [List.take_succ_eq_append_getElem hqd] at hc
              rcases List.mem_append.1 hc with h' | h'
              · exact HQ.out c h'
              · rw [List.mem_singleton] at h'
                rw [h']
                exact h
            have HQC : Hid ((((t[q]'hql).toNat : Int) == 47) = false → t[q] ≠ 47) := fun h e => by
              rw [e] at h
              revert h
              decide
            cases hcc : (((t[q]'hql).toNat : Int) == 47) with
            | true =>
              go_wp2_with fail
              go_ret
              exact ⟨rfl, HB.out⟩
            | false =>
              have HQ' := Lib.hid (HQN.out (HQC.out hcc))
              clear HQN HQC
              go_wp2_with fail
              go_round
              case rel => exact ⟨q + 1, by omega, by go_num, HQ'⟩
              case measure => simp [intOf]; omega
          · obtain rfl : q = t.size := by omega
            have HXS : Hid (∀ c ∈ t.data.toList, c ≠ 47) := by
              have := HQ.out
              rw [List.take_of_length_le (by omega)] at this
              exact this
            have HSN := Lib.hid (HNS.out HXS.out)
            clear HNS HQ hql
            by_cases hk0 : k = 0
            · have k2 : ¬ (0 : Int) < (k : Int) := by omega
              have HNA : Hid (IsB (la ++ t) (joinL (L.take (k + 1)))) := by
                show IsB _ _
                rw [HNJ.out, if_pos hk0]
                have h0 := HA.out
                rw [hk0] at h0
                exact h0.add rfl
              have hsz : (la ++ t).size ≤ 102 * (k + 1) := by
                rw [ByteArray.size_append]
                have := HZ.out
                omega
              have HSZ := Lib.hid hsz
              replace hsz : (la ++ t).size ≤ 2000 := by omega
              clear hk0
              cases b5 with
              | true =>
                go_wp2_with fail
                refine (HVX.out _).mono ?_
                rintro e w2 ⟨rfl, hb⟩
                have HBN := Lib.hid (HB.out.trans (hb.mono HB.out.size))
                have hcell := (hb.cell (p := ⟨g, off + k, none⟩) (World.block_lt_of_cell? _ _ hcell)).trans hcell
                clear hb
                cases b6 with
                | true =>
                  clear HT1 HT2
                  go_wp2_with fail
                  go_roundw
                  case rel => exact ⟨k + 1, _, _, _, by omega, by go_num, rfl, rfl, rfl, HSZ.out, HNA, HN5.out, HN6.out, HSN, HBN.out⟩
                  case measure => simp [intOf]; omega
                | false =>
                  by_cases h3 : 3 ≤ t.size
                  · have i4 : (3 : Int) ≤ (t.size : Int) := by omega
                    have hT := HT2.out h3
                    cases hT3 : ((t.extract 0 3).toList == [46, 116, 115]) with
                    | true =>
                      rw [hT3] at hT
                      subst hT
                      clear HT1 HT2
                      go_wp2_with fail
                      go_roundw
                      case rel => exact ⟨k + 1, _, _, _, by omega, by go_num, rfl, rfl, rfl, HSZ.out, HNA, HN5.out, HN6.out, HSN, HBN.out⟩
                      case measure => simp [intOf]; omega
                    | false =>
                      rw [hT3] at hT
                      subst hT
                      clear HT1 HT2
                      go_wp2_with fail
                      go_roundw
                      case rel => exact ⟨k + 1, _, _, _, by omega, by go_num, rfl, rfl, rfl, HSZ.out, HNA, HN5.out, HN6.out, HSN, HBN.out⟩
                      case measure => simp [intOf]; omega
                  · have i4 : ¬ (3 : Int) ≤ (t.size : Int) := by omega
                    have hT := HT1.out h3
                    subst hT
                    clear HT1 HT2
                    go_wp2_with fail
                    go_roundw
                    case rel => exact ⟨k + 1, _, _, _, by omega, by go_num, rfl, rfl, rfl, HSZ.out, HNA, HN5.out, HN6.out, HSN, HBN.out⟩
                    case measure => simp [intOf]; omega
              | false =>
                have HBN := HB
                cases b6 with
                | true =>
                  clear HT1 HT2
                  go_wp2_with fail
                  go_roundw
                  case rel => exact ⟨k + 1, _, _, _, by omega, by go_num, rfl, rfl, rfl, HSZ.out, HNA, HN5.out, HN6.out, HSN, HBN.out⟩
                  case measure => simp [intOf]; omega
                | false =>
                  by_cases h3 : 3 ≤ t.size
                  · have i4 : (3 : Int) ≤ (t.size : Int) := by omega
                    have hT := HT2.out h3
                    cases hT3 : ((t.extract 0 3).toList == [46, 116, 115]) with
                    | true =>
                      rw [hT3] at hT
                      subst hT
                      clear HT1 HT2
                      go_wp2_with fail
                      go_roundw
                      case rel => exact ⟨k + 1, _, _, _, by omega, by go_num, rfl, rfl, rfl, HSZ.out, HNA, HN5.out, HN6.out, HSN, HBN.out⟩
                      case measure => simp [intOf]; omega
                    | false =>
                      rw [hT3] at hT
                      subst hT
                      clear HT1 HT2
                      go_wp2_with fail
                      go_roundw
                      case rel => exact ⟨k + 1, _, _, _, by omega, by go_num, rfl, rfl, rfl, HSZ.out, HNA, HN5.out, HN6.out, HSN, HBN.out⟩
                      case measure => simp [intOf]; omega
                  · have i4 : ¬ (3 : Int) ≤ (t.size : Int) := by omega
                    have hT := HT1.out h3
                    subst hT
                    clear HT1 HT2
                    go_wp2_with fail
                    go_roundw
                    case rel => exact ⟨k + 1, _, _, _, by omega, by go_num, rfl, rfl, rfl, HSZ.out, HNA, HN5.out, HN6.out, HSN, HBN.out⟩
                    case measure => simp [intOf]; omega
            · have k2 : (0 : Int) < (k : Int) := by omega
              have HNA : Hid (IsB (la ++ ⟨#[47]⟩ ++ t) (joinL (L.take (k + 1)))) := by
                show IsB _ _
                rw [HNJ.out, if_neg hk0]
                exact (HA.out.add (b := ⟨#[47]⟩) (y := [47]) rfl).add rfl
              have hsz : (la ++ ⟨#[47]⟩ ++ t).size ≤ 102 * (k + 1) := by
                rw [ByteArray.size_append, ByteArray.size_append]
                have := HZ.out
                have : (⟨#[47]⟩ : ByteArray).size = 1 := rfl
                omega
              have HSZ := Lib.hid hsz
              replace hsz : (la ++ ⟨#[47]⟩ ++ t).size ≤ 2000 := by omega
              clear hk0
              cases b5 with
              | true =>
                go_wp2_with fail
                refine (HVX.out _).mono ?_
                rintro e w2 ⟨rfl, hb⟩
                have HBN := Lib.hid (HB.out.trans (hb.mono HB.out.size))
                have hcell := (hb.cell (p := ⟨g, off + k, none⟩) (World.block_lt_of_cell? _ _ hcell)).trans hcell
                clear hb
                cases b6 with
                | true =>
                  clear HT1 HT2
                  go_wp2_with fail
                  go_roundw
                  case rel => exact ⟨k + 1, _, _, _, by omega, by go_num, rfl, rfl, rfl, HSZ.out, HNA, HN5.out, HN6.out, HSN, HBN.out⟩
                  case measure => simp [intOf]; omega
                | false =>
                  by_cases h3 : 3 ≤ t.size
                  · have i4 : (3 : Int) ≤ (t.size : Int) := by omega
                    have hT := HT2.out h3
                    cases hT3 : ((t.extract 0 3).toList == [46, 116, 115]) with
                    | true =>
                      rw [hT3] at hT
                      subst hT
                      clear HT1 HT2
                      go_wp2_with fail
                      go_roundw
                      case rel => exact ⟨k + 1, _, _, _, by omega, by go_num, rfl, rfl, rfl, HSZ.out, HNA, HN5.out, HN6.out, HSN, HBN.out⟩
                      case measure => simp [intOf]; omega
                    | false =>
                      rw [hT3] at hT
                      subst hT
                      clear HT1 HT2
                      go_wp2_with fail
                      go_roundw
                      case rel => exact ⟨k + 1, _, _, _, by omega, by go_num, rfl, rfl, rfl, HSZ.out, HNA, HN5.out, HN6.out, HSN, HBN.out⟩
                      case measure => simp [intOf]; omega
                  · have i4 : ¬ (3 : Int) ≤ (t.size : Int) := by omega
                    have hT := HT1.out h3
                    subst hT
                    clear HT1 HT2
                    go_wp2_with fail
                    go_roundw
                    case rel => exact ⟨k + 1, _, _, _, by omega, by go_num, rfl, rfl, rfl, HSZ.out, HNA, HN5.out, HN6.out, HSN, HBN.out⟩
                    case measure => simp [intOf]; omega
              | false =>
                have HBN := HB
                cases b6 with
                | true =>
                  clear HT1 HT2
                  go_wp2_with fail
                  go_roundw
                  case rel => exact ⟨k + 1, _, _, _, by omega, by go_num, rfl, rfl, rfl, HSZ.out, HNA, HN5.out, HN6.out, HSN, HBN.out⟩
                  case measure => simp [intOf]; omega
                | false =>
                  by_cases h3 : 3 ≤ t.size
                  · have i4 : (3 : Int) ≤ (t.size : Int) := by omega
                    have hT := HT2.out h3
                    cases hT3 : ((t.extract 0 3).toList == [46, 116, 115]) with
                    | true =>
                      rw [hT3] at hT
                      subst hT
                      clear HT1 HT2
                      go_wp2_with fail
                      go_roundw
                      case rel => exact ⟨k + 1, _, _, _, by omega, by go_num, rfl, rfl, rfl, HSZ.out, HNA, HN5.out, HN6.out, HSN, HBN.out⟩
                      case measure => simp [intOf]; omega
                    | false =>
                      rw [hT3] at hT
                      subst hT
                      clear HT1 HT2
                      go_wp2_with fail
                      go_roundw
                      case rel => exact ⟨k + 1, _, _, _, by omega, by go_num, rfl, rfl, rfl, HSZ.out, HNA, HN5.out, HN6.out, HSN, HBN.out⟩
                      case measure => simp [intOf]; omega
                  · have i4 : ¬ (3 : Int) ≤ (t.size : Int) := by omega
                    have hT := HT1.out h3
                    subst hT
                    clear HT1 HT2
                    go_wp2_with fail
                    go_roundw
                    case rel => exact ⟨k + 1, _, _, _, by omega, by go_num, rfl, rfl, rfl, HSZ.out, HNA, HN5.out, HN6.out, HSN, HBN.out⟩
                    case measure => simp [intOf]; omega
      · have i3 : (100 : Int) < (t.size : Int) := by omega
        go_wp2_with fail
        go_ret
        exact ⟨rfl, HB.out⟩
    · obtain rfl : k = L.length := by omega
      have hla := isB_eq HA.out
      rw [List.take_of_length_le (Nat.le_refl _)] at hla
      have hld : la.data.toList = joinL L := by rw [hla]
      have hns : ∀ x ∈ L, ∀ c ∈ x, c ≠ 47 := fun x hx => HS.out x (by rw [List.take_of_length_le (Nat.le_refl _)]; exact hx)
      have hv := okAt_all hns
      rw [show okAt L L.length = b5 from H5.out] at hv
      have h6 : L.any isTs = b6 := by
        have := H6.out
        rwa [List.take_of_length_le (Nat.le_refl _)] at this
      have HVA := Lib.hid (fun w => valid_any la w (by omega))
      rw [hld, hv] at HVA
      cases b5 with
      | false =>
        clear hv h6 hla hld
        go_wp2_with fail
        refine (HVA.out _).mono ?_
        rintro e w2 ⟨rfl, hb⟩
        have HB2 := Lib.hid (HB.out.trans (hb.mono HB.out.size))
        clear hb
        go_wp2_with fail
        go_quiet (fail)
        go_wp2_with fail
        go_ret
        exact ⟨rfl, below_drewN HB2.out _⟩
      | true =>
        have hne : L ≠ [] := by
          rintro rfl
          revert hv
          decide
        have hnm := join_names hns hv hne
        obtain ⟨m, hm⟩ : ∃ m, L.length = m + 1 := ⟨L.length - 1, by have := List.length_pos_iff.2 hne; omega⟩
        have HNM := Lib.hid (fun w => names_any la w (by omega))
        have HKP := Lib.hid (fun w => kept_any la w (by omega))
        have HBS := Lib.hid (fun w => base_any la w (by omega))
        rw [keptB_names, hld, hnm, h6] at HKP
        rw [base_eq, hld, hnm] at HBS
        rw [hld, hnm] at HNM
        replace HNM : Hid (∀ w, Calls Tryd.prog 18 #[.string la] w fun e w' => ∃ v, e = .returned v ∧ StrsW w' v L ∧ Below w.heap.size w w') := fun w => (HNM.out w).mono fun e w' ⟨v, h1, h2, h3⟩ => ⟨v, h1, StrsW.own h2, h3⟩
        obtain ⟨g, off, e1, hcell⟩ := (HL.out.below HB.out (Nat.le_refl _)).at m (by omega)
        subst e1
        have hlast : lastB L = L[m]'(by omega) := by
          unfold lastB
          rw [List.getLastD_eq_getLast?, List.getLast?_eq_getElem?, show L.length - 1 = m by omega, List.getElem?_eq_getElem (by omega)]
          rfl
        rw [hlast] at HBS
        generalize L[m]'(by omega) = x at *
        obtain ⟨t, ht⟩ : ∃ t : ByteArray, t = ⟨x.toArray⟩ := ⟨_, rfl⟩
        rw [← ht] at hcell HBS
        clear ht hlast hnm hne hv h6 hla hld hns
        have HM := Lib.hid hm
        have HSL := Lib.hid (fun w' (h : Below w.heap.size w w') => HL.out.below h (Nat.le_refl _))
        have m0 : (0 : Int) ≤ (m : Int) := by omega
        have m1 : (m : Int) < (m : Int) + 1 := by omega
        have hwm : IntKind.i64.wrap (m : Int) = (m : Int) := IntWalk.i64_in _ (by omega)
        clear hk hlt HL
        rw [hm] at *
        have HSA : Hid (∀ (v : Value) (W : World), StrsW W v L → Below w.heap.size w W → Calls Tryd.prog 23 #[v, .slice (some ⟨g, off, none⟩) (m + 1) cap] W fun e w' => e = .returned (.bool true) ∧ ∃ n, w' = W.drewN n) := fun v W h1 h2 => by
          have := same_at L L v _ W h1 (HSL.out W h2) (by omega) (by omega)
          rw [beq_self_eq_true] at this
          exact this
        clear hm HSL
        go_wp2_with fail
        refine (HVA.out _).mono ?_
        rintro e w2 ⟨rfl, hb⟩
        have HB2 := Lib.hid (HB.out.trans (hb.mono HB.out.size))
        have hc2 : Hid (w2.cell? ⟨g, off + m, none⟩ = some (.string t)) := (hb.cell (p := ⟨g, off + m, none⟩) (World.block_lt_of_cell? _ _ hcell)).trans hcell
        clear hb hcell
        have HC2 : Hid (∀ W, Below w2.heap.size w2 W → W.cell? ⟨g, off + m, none⟩ = some (.string t)) := fun W h => (h.cell (p := ⟨g, off + m, none⟩) (World.block_lt_of_cell? _ _ hc2.out)).trans hc2.out
        clear hc2
        go_wp2_with fail
        refine wp_region_noPanic ?_
        refine wp_region_ord [0, 1, 2, 3, 5, 4, 6, 7, 8, 10, 9, 11, 12, 13, 14, 16, 17, 18, 19, 20, 21, 15, 22, 23, 24, 25] (fun W => W.cell? ⟨g, off + m, none⟩ = some (.string t) ∧ Below w2.heap.size w2 W) (by kernel_rfl) (by kernel_rfl) rfl (by kernel_rfl) (fun _ _ _ _ _ h => h) ⟨HC2.out _ (Below.refl _ _).drew, (Below.refl _ _).drew⟩ ?_
        repeat (apply held_run rfl (by rfl) (by rfl); (intro w hSw; go_simp; with_reducible rfl); (try simp only [Act.put, List.setIfInBounds_toArray, List.set_cons_zero, List.set_cons_succ]))
        refine held_step rfl (by rfl) (by rfl) (fun K hK => ?_)
        go_simp
        refine (HNM.out _).mono ?_
        rintro e w3 ⟨v, rfl, hrow, hb⟩
        have HB3 : Hid (Below w2.heap.size w2 w3) := (Below.refl _ _).drew.trans hb
        have HRW := Lib.hid hrow
        clear hb hrow
        refine hK.out _ _ (⟨HC2.out _ HB3.out, HB3.out⟩) (fun _ => ?_)
        clear hK K
        (try simp only [Act.put, List.setIfInBounds_toArray, List.set_cons_zero, List.set_cons_succ])
        repeat (apply held_run rfl (by rfl) (by rfl); (intro w hSw; go_simp; with_reducible rfl); (try simp only [Act.put, List.setIfInBounds_toArray, List.set_cons_zero, List.set_cons_succ]))
        refine held_step rfl (by rfl) (by rfl) (fun K hK => ?_)
        go_simp
        refine (HSA.out v w3 HRW.out (HB2.out.trans (HB3.out.mono HB2.out.size))).mono ?_
        rintro e w4 ⟨rfl, n4, rfl⟩
        have HB4 : Hid (Below w2.heap.size w2 (w3.drewN n4)) := below_drewN HB3.out n4
        refine hK.out _ _ (⟨HC2.out _ HB4.out, HB4.out⟩) (fun _ => ?_)
        clear hK K
        (try simp only [Act.put, List.setIfInBounds_toArray, List.set_cons_zero, List.set_cons_succ])
        repeat (apply held_run rfl (by rfl) (by rfl); (intro w hSw; go_simp; with_reducible rfl); (try simp only [Act.put, List.setIfInBounds_toArray, List.set_cons_zero, List.set_cons_succ]))
        refine held_step rfl (by rfl) (by rfl) (fun K hK => ?_)
        go_simp
        refine (HKP.out _).mono ?_
        rintro e w5 ⟨rfl, hb⟩
        have HB5 : Hid (Below w2.heap.size w2 w5) := HB4.out.trans (hb.mono HB4.out.size)
        clear hb
        refine hK.out _ _ (⟨HC2.out _ HB5.out, HB5.out⟩) (fun _ => ?_)
        clear hK K
        (try simp only [Act.put, List.setIfInBounds_toArray, List.set_cons_zero, List.set_cons_succ])
        have hbb : (b6 == b6) = true := beq_self_eq_true _
        repeat (apply held_run rfl (by rfl) (by rfl); (intro w hSw; go_simp; with_reducible rfl); (try simp only [Act.put, List.setIfInBounds_toArray, List.set_cons_zero, List.set_cons_succ]))
        refine held_step rfl (by rfl) (by rfl) (fun K hK => ?_)
        go_simp
        refine (HBS.out _).mono ?_
        rintro e w6 ⟨rfl, hb⟩
        have HB6 : Hid (Below w2.heap.size w2 w6) := HB5.out.trans (hb.mono HB5.out.size)
        clear hb
        refine hK.out _ _ (⟨HC2.out _ HB6.out, HB6.out⟩) (fun _ => ?_)
        clear hK K
        (try simp only [Act.put, List.setIfInBounds_toArray, List.set_cons_zero, List.set_cons_succ])
        repeat (apply held_run rfl (by rfl) (by rfl); (intro w hSw; go_simp; with_reducible rfl); (try simp only [Act.put, List.setIfInBounds_toArray, List.set_cons_zero, List.set_cons_succ]))
        refine held_nil (NoPanic.normal ?_)
        go_wp2_with fail
        go_ret
        exact ⟨rfl, HB2.out.trans (HB6.out.mono HB2.out.size)⟩
end Go.Proofs.YtpnbmfibooglgaaDoor
