/- the document's Valid, Names, Under. -/
import Derived.Test.YtpnbmfibooglgaaDoorRNm
namespace Go.Proofs.YtpnbmfibooglgaaDoor
open Go.RowKit

theorem strs_at {w : World} {base : Nat} {v : Value} {L : List Bs} (h : w.ownsRow base 9 1 v L.length (strs L)) (k : Nat) (hk : k < L.length) : ∃ g c, v = .slice (some ⟨g, 0, none⟩) L.length c ∧ w.cell? ⟨g, k, none⟩ = some (.string ⟨(L[k]).toArray⟩) := by
  rcases h.2 with ⟨_, h0⟩ | ⟨g, cap, cur, hv, _, hg, hn, hm, hs, ht⟩
  · omega
  · refine ⟨g, cap, hv, ?_⟩
    rw [cell_of_row w g k cur _ _ hg]
    have : (strs L)[k]? = some (.string ⟨(L[k]).toArray⟩) := by unfold strs; rw [List.getElem?_map, List.getElem?_eq_getElem hk]; rfl
    rw [← ht, List.getElem?_take] at this
    split at this
    · simpa using this
    · cases this
set_option maxHeartbeats 800000 in
theorem rvalid_any (s : ByteArray) (w : World) (hs : s.size ≤ 1000000) : Calls Tryd.prog 22 #[.string s] w fun e w' => e = .returned (.bool (rvalidB s.data.toList)) ∧ Below w.heap.size w w' := by
  have hsl : s.data.toList.length = s.size := by simp
  obtain ⟨V, HV⟩ : ∃ V, Hid (rvalidB s.data.toList = V) := ⟨_, rfl⟩
  rw [HV.out]
  have hv := HV.out
  unfold rvalidB at hv
  rw [hsl] at hv
  have HV := Lib.hid hv
  clear hv
  have HSPL := Lib.hid (split_any s w hs)
  generalize splitB s.data.toList = L at *
  by_cases h1 : s.size ≤ 100
  · have n1 : ¬ (100 : Int) < (s.size : Int) := by omega
    go_enter Tryd.func22, Tryd.ntmps22
    go_wp2_with fail
    refine (HSPL.out).mono ?_
    rintro e w1 ⟨v, rfl, hrow, hb⟩
    have HR := Lib.hid hrow
    have HB := Lib.hid hb
    obtain ⟨va, vc, hvv⟩ := row_len' hrow
    subst hvv
    clear hrow hb
    by_cases h2 : L.length ≤ 6
    · have n2 : ¬ (6 : Int) < (L.length : Int) := by omega
      go_wp2_with fail
      go_loop [4] (fun i => ∃ k : Nat, k ≤ L.length ∧ i = .int .i64 k ∧ Hid ((L.take k).all nameB = true)) (fun i => L.length - (intOf i).toNat)
      case atStart => exact ⟨0, Nat.zero_le _, rfl, rfl⟩
      case round =>
        obtain ⟨k, hk, rfl, HA⟩ := hrel
        have k0 : (0 : Int) ≤ (k : Int) := by omega
        by_cases hlt : k < L.length
        · have k1 : (k : Int) < (L.length : Int) := by omega
          obtain ⟨g, c, hge, hcell⟩ := strs_at HR.out k hlt
          cases hge
          have HNX : Hid (nameB L[k] = true → (L.take (k + 1)).all nameB = true) := fun h => by rw [List.take_succ_eq_append_getElem hlt, List.all_append, HA.out]; simp [h]
          have HNO : Hid (nameB L[k] = false → V = false) := fun h => by
            have : L.all nameB = false := by rw [List.all_eq_false]; exact ⟨L[k], List.getElem_mem hlt, by simp [h]⟩
            rw [← HV.out, this, Bool.and_false]
          have hn := name_any ⟨(L[k]).toArray⟩
          change ∀ w, Calls Tryd.prog 33 #[.string ⟨(L[k]).toArray⟩] w fun e w' => e = .returned (.bool (nameB L[k])) ∧ w = w' at hn
          have HN := Lib.hid hn
          clear hn
          generalize nameB L[k] = b at *
          generalize (⟨(L[k]).toArray⟩ : ByteArray) = t at *
          go_wp2_with fail
          refine (HN.out w1).mono ?_
          rintro e w2 ⟨rfl, rfl⟩
          cases b with
          | true =>
            have HT := Lib.hid (HNX.out rfl)
            clear HNX HNO
            go_wp2_with fail
            go_round
            case rel => exact ⟨k + 1, by omega, by go_num, HT⟩
            case measure => simp [intOf]; omega
          | false =>
            have HT := Lib.hid (HNO.out rfl)
            clear HNX HNO
            go_wp2_with fail
            go_ret
            exact ⟨by rw [HT.out]; rfl, HB.out⟩
        · obtain rfl : k = L.length := by omega
          have HT : Hid (V = true) := by
            show _ = _
            have := HA.out
            rw [List.take_length] at this
            rw [← HV.out, this]
            simp [h1, h2]
          go_wp2_with fail
          go_ret
          exact ⟨by rw [HT.out]; rfl, HB.out⟩
    · have n2 : (6 : Int) < (L.length : Int) := by omega
      have HT : Hid (V = false) := by
        show _ = _
        rw [← HV.out]
        simp [h2]
      go_wp2_with fail
      go_ret
      exact ⟨by rw [HT.out]; rfl, HB.out⟩
  · have n1 : (100 : Int) < (s.size : Int) := by omega
    have HT : Hid (V = false) := by
      show _ = _
      rw [← HV.out]
      simp [h1]
    go_enter Tryd.func22, Tryd.ntmps22
    go_wp2_with fail
    go_ret
    exact ⟨by rw [HT.out]; rfl, Below.refl _ _⟩

/-- what Under answers -/
def underB (p q : Bs) : Bool := validB q && (p == [] || (validB p && Lib.hasPrefix q (p ++ [47])))
set_option maxHeartbeats 800000 in
theorem under_any (p q : ByteArray) (w : World) (hp : p.size ≤ 100000) (hq : q.size ≤ 100000) : Calls Tryd.prog 12 #[.string p, .string q] w fun e w' => e = .returned (.bool (underB p.data.toList q.data.toList)) ∧ Below w.heap.size w w' := by
  have HQ := Lib.hid (fun w => valid_any q w (by omega))
  have HP := Lib.hid (fun w => valid_any p w (by omega))
  have hh := fun w => Tryd.strings_HasPrefix q (p ++ ⟨#[47]⟩) w
  rw [show (p ++ ⟨#[47]⟩ : ByteArray).data.toList = p.data.toList ++ [47] by rw [ByteArray.data_append, Array.toList_append]] at hh
  have HH := Lib.hid hh
  clear hh
  unfold underB
  generalize Lib.hasPrefix q.data.toList (p.data.toList ++ [47]) = b3 at *
  generalize validB q.data.toList = b1 at *
  generalize validB p.data.toList = b2 at *
  rw [← bytes_list p]
  cases b1 with
  | false =>
    go_enter Tryd.func12, Tryd.ntmps12
    go_wp2_with fail
    refine (HQ.out w).mono ?_
    rintro e w1 ⟨rfl, hb⟩
    go_wp2_with fail
    go_ret
    exact ⟨rfl, hb⟩
  | true =>
    cases he : (p.toList == []) with
    | true =>
      go_enter Tryd.func12, Tryd.ntmps12
      go_wp2_with fail
      refine (HQ.out w).mono ?_
      rintro e w1 ⟨rfl, hb⟩
      go_wp2_with fail
      go_ret
      exact ⟨rfl, hb⟩
    | false =>
      cases b2 with
      | false =>
        go_enter Tryd.func12, Tryd.ntmps12
        go_wp2_with fail
        refine (HQ.out w).mono ?_
        rintro e w1 ⟨rfl, hb⟩
        have HB := Lib.hid hb
        clear hb
        go_wp2_with fail
        refine (HP.out w1).mono ?_
        rintro e w2 ⟨rfl, hb2⟩
        have HB2 := Lib.hid (HB.out.trans (hb2.mono HB.out.size))
        clear hb2
        go_wp2_with fail
        go_ret
        exact ⟨rfl, HB2.out⟩
      | true =>
        go_enter Tryd.func12, Tryd.ntmps12
        go_wp2_with fail
        refine (HQ.out w).mono ?_
        rintro e w1 ⟨rfl, hb⟩
        have HB := Lib.hid hb
        clear hb
        go_wp2_with fail
        refine (HP.out w1).mono ?_
        rintro e w2 ⟨rfl, hb2⟩
        have HB2 := Lib.hid (HB.out.trans (hb2.mono HB.out.size))
        clear hb2
        go_wp2_with fail
        refine (HH.out w2).mono ?_
        rintro e w3 ⟨rfl, rfl⟩
        go_wp2_with fail
        go_ret
        exact ⟨by simp, HB2.out⟩
end Go.Proofs.YtpnbmfibooglgaaDoor
