/- Slices of texts, whose ever they are; sameTexts of such. -/
import Derived.Test.YtpnbmfibooglgaaDoorUpL
import Derived.Deep.Strs
namespace Go.Proofs.YtpnbmfibooglgaaDoor
open Go.RowKit

/-- The slice v holds these texts. -/
def StrsW (w : World) (v : Value) (L : List Bs) : Prop := ∃ a cap, v = .slice a L.length cap ∧ ∀ k (h : k < L.length), ∃ g off, a = some ⟨g, off, none⟩ ∧ w.cell? ⟨g, off + k, none⟩ = some (.string ⟨(L[k]).toArray⟩)
theorem StrsW.at {w : World} {a : Option Addr} {n cap : Nat} {L : List Bs} (h : StrsW w (.slice a n cap) L) (k : Nat) (hk : k < L.length) : ∃ g off, a = some ⟨g, off, none⟩ ∧ w.cell? ⟨g, off + k, none⟩ = some (.string ⟨(L[k]).toArray⟩) := by
  obtain ⟨a', cap', h1, h2⟩ := h
  cases h1
  exact h2 k hk
theorem StrsW.below {w w' : World} {B : Nat} {v : Value} {L : List Bs} (h : StrsW w v L) (hb : Below B w w') (hB : w.heap.size ≤ B) : StrsW w' v L := by
  obtain ⟨a, cap, h1, h2⟩ := h
  refine ⟨a, cap, h1, fun k hk => ?_⟩
  obtain ⟨g, off, e, c⟩ := h2 k hk
  exact ⟨g, off, e, (hb.cell (p := ⟨g, off + k, none⟩) (Nat.lt_of_lt_of_le (World.block_lt_of_cell? _ _ c) hB)).trans c⟩
theorem StrsW.own {w : World} {b : Nat} {v : Value} {L : List Bs} (h : w.ownsRow b 9 1 v L.length (strs L)) : StrsW w v L := by
  obtain ⟨a, cap, rfl⟩ := row_len' h
  refine ⟨a, cap, rfl, fun k hk => ?_⟩
  obtain ⟨g, c, e, hc⟩ := strs_at h k hk
  cases e
  exact ⟨g, 0, rfl, by rw [Nat.zero_add]; exact hc⟩
open Go.Deep Go.ChangeShapes in
/-- a slice of texts that a law takes -/
theorem strsW_in {H : Type} {enc : TypeId × Value → H} {P : Program} {w : World} {fuel : Nat} {a : Option Addr} {len cap : Nat} {x : DataW H × List MemPlace} {t e : TypeId} {base : Nat} {r : Reach}
    (ht : P.underlying t = some (.slice e)) (he : P.underlying e = some .string) (ce : P.cellsOf e = 1)
    (h : DataW.trod enc P w 0 (fun _ => true) true fuel t [.slice a len cap] = some x) (hok : Value.okWide P w r base t (.slice a len cap)) : ∃ L, StrsW w (.slice a len cap) L ∧ ∀ x ∈ L, x.length ≤ maxLen := by
  rcases open_strs ht he ce h with ⟨hcs, _⟩ | ⟨ad, l, c, m, Sx, hcs, _, hl, hm, hmm, _, hcell⟩
  · simp at hcs
    obtain ⟨rfl, rfl, rfl⟩ := hcs
    exact ⟨[], ⟨_, _, rfl, fun k hk => by cases hk⟩, fun x hx => by cases hx⟩
  · simp at hcs
    obtain ⟨rfl, rfl, rfl⟩ := hcs
    simp at hmm
    refine ⟨(List.range len).map fun i => (Sx i).data.toList, ⟨some ad, cap, by simp, fun k hk => ?_⟩, fun x hx => ?_⟩
    · simp at hk
      refine ⟨ad.block, ad.off, by rw [addr_eta ad (okWide_spot ht hok)], ?_⟩
      have := (hcell k (by omega)).1
      rw [addr_eta ad (okWide_spot ht hok), addr_add] at this
      rw [this]
      simp
    · rw [List.mem_map] at hx
      obtain ⟨i, hi, rfl⟩ := hx
      have := (hcell i (by have := List.mem_range.1 hi; omega)).2
      simpa using this

set_option maxHeartbeats 800000 in
theorem same_at (A B : List Bs) (va vb : Value) (w : World) (ha : StrsW w va A) (hb : StrsW w vb B) (hA : A.length ≤ 1000000) (hB : B.length ≤ 1000000) :
    Calls Tryd.prog 23 #[va, vb] w fun e w' => e = .returned (.bool (A == B)) ∧ ∃ m, w' = w.drewN m := by
  have HA := Lib.hid ha
  have HB := Lib.hid hb
  obtain ⟨aa, ca, h1, _⟩ := id ha
  obtain ⟨ab, cb, h2, _⟩ := id hb
  subst h1 h2
  clear ha hb
  by_cases hl : A.length = B.length
  · have l1 : ((A.length : Int) == (B.length : Int)) = true := by simp; omega
    have l2 : ((A.length : Int) != (B.length : Int)) = false := by simp; omega
    go_enter Tryd.func23, Tryd.ntmps23
    go_wp2_with fail
    go_loopw [5] (fun i wr => ∃ k m : Nat, k ≤ A.length ∧ i = .int .i64 k ∧ wr = w.drewN m ∧ Hid (A.take k = B.take k)) (fun i _ => A.length - (intOf i).toNat)
    case atStart => exact ⟨0, 0, Nat.zero_le _, rfl, rfl, rfl⟩
    case round =>
      obtain ⟨k, m, hk, rfl, rfl, HT⟩ := hrel
      have k0 : (0 : Int) ≤ (k : Int) := by omega
      by_cases hlt : k < A.length
      · have k1 : (k : Int) < (A.length : Int) := by omega
        have k2 : (k : Int) < (B.length : Int) := by omega
        obtain ⟨g, off, e1, c1⟩ := HA.out.at k hlt
        obtain ⟨g2, off2, e2, c2'⟩ := HB.out.at k (by omega)
        subst e1
        subst e2
        have HNX : Hid (A[k] = B[k]'(by omega) → A.take (k + 1) = B.take (k + 1)) := fun h => by rw [List.take_succ_eq_append_getElem hlt, List.take_succ_eq_append_getElem (show k < B.length by omega), HT.out, h]
        have HNO : Hid (A[k] ≠ B[k]'(by omega) → (A == B) = false) := fun h => by
          rw [beq_eq_false_iff_ne]
          intro e
          subst e
          exact h rfl
        generalize A[k] = x at *
        generalize B[k]'(by omega) = y at *
        by_cases hxy : x = y
        · subst hxy
          have HN := Lib.hid (HNX.out rfl)
          have hee : ((⟨x.toArray⟩ : ByteArray).toList == (⟨x.toArray⟩ : ByteArray).toList) = true := beq_self_eq_true _
          clear HNX HNO
          go_wp2_with fail
          go_quiet (fail)
          go_wp2_with fail
          all_goals
            go_roundw
            case rel => exact ⟨k + 1, _, by omega, by go_num, rfl, HN⟩
            case measure => simp [intOf]; omega
        · have HN := Lib.hid (HNO.out hxy)
          have hne : (x == y) = false := by simpa using hxy
          clear HNX HNO
          go_wp2_with fail
          go_quiet (fail)
          go_wp2_with fail
          go_ret
          exact ⟨by rw [HN.out]; rfl, _, by first | rfl | exact World.drewN_drewN _ _ _⟩
      · obtain rfl : k = A.length := by omega
        have HE : Hid ((A == B) = true) := by
          have := HT.out
          rw [List.take_length, hl, List.take_length] at this
          show _ = _
          rw [this]
          exact beq_self_eq_true B
        go_wp2_with fail
        go_ret
        exact ⟨by rw [HE.out]; rfl, _, rfl⟩
  · have l1 : ((A.length : Int) == (B.length : Int)) = false := by simp; omega
    have HE : Hid ((A == B) = false) := by
      show _ = _
      rw [beq_eq_false_iff_ne]
      intro e
      exact hl (by rw [e])
    go_enter Tryd.func23, Tryd.ntmps23
    go_wp2_with fail
    go_ret
    exact ⟨by rw [HE.out]; rfl, 0, rfl⟩

end Go.Proofs.YtpnbmfibooglgaaDoor
