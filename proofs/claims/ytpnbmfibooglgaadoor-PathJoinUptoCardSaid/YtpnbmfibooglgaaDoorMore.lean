/- Kept, whatever comes; the document's Names. -/
import Derived.Test.YtpnbmfibooglgaaDoorKept
namespace Go.Proofs.YtpnbmfibooglgaaDoor
open Go.RowKit

set_option maxHeartbeats 400000 in
theorem kept_no (s : ByteArray) (w : World) (hs : s.size ≤ 1000000) (hv : validB s.data.toList = false) : Calls Tryd.prog 17 #[.string s] w fun e w' => e = .returned (.bool false) ∧ Below w.heap.size w w' := by
  have HVAL := Lib.hid (fun w => valid_any s w hs)
  rw [hv] at HVAL
  clear hv
  go_enter Tryd.func17, Tryd.ntmps17
  go_wp2_with fail
  refine (HVAL.out _).mono ?_
  rintro e w1 ⟨rfl, hb⟩
  have hz1 := hb.size
  rw [World.size_alloc] at hz1
  have bR : Boxed w1 w.heap.size 4 (.bool false) := (hb.block _ (by simp)).trans (Boxed.new w 4 (.bool false))
  have hB : Below w.heap.size w w1 := ((Below.refl _ w).alloc (Nat.le_refl _) _).trans (hb.mono (by simp))
  have hc := bR.cell
  have hf := bR.frozen
  have HBR := Lib.hid bR
  have HB := Lib.hid hB
  clear bR hB hb
  go_wp2_with fail
  refine bodyPost_ret (results_bool rfl _ _ w.heap.size false rfl ?_) rfl ?_
  · exact (HBR.out.set (.bool false)).cell
  · exact ⟨rfl, HB.out.setCell (p := ⟨w.heap.size, 0, none⟩) (Nat.le_refl _) _⟩
theorem kept_any (s : ByteArray) (w : World) (hs : s.size ≤ 1000000) : Calls Tryd.prog 17 #[.string s] w fun e w' => e = .returned (.bool (keptB s.data.toList)) ∧ Below w.heap.size w w' := by
  unfold keptB
  cases hv : validB s.data.toList with
  | true => exact kept_yes s w hs hv _ rfl
  | false => exact kept_no s w hs hv

set_option maxHeartbeats 400000 in
theorem rnames_any (s : ByteArray) (w : World) (hs : s.size ≤ 1000000) : Calls Tryd.prog 21 #[.string s] w fun e w' => ∃ v, e = .returned v ∧ w'.ownsRow w.heap.size 9 1 v (namesB s.data.toList).length (strs (namesB s.data.toList)) ∧ Below w.heap.size w w' := by
  have HVAL := Lib.hid (rvalid_any s w hs)
  have HSP := Lib.hid (fun w => split_any s w hs)
  unfold namesB
  rw [valid_eq]
  generalize rvalidB s.data.toList = b at *
  generalize splitB s.data.toList = L at *
  cases b with
  | true =>
    rw [if_pos rfl]
    go_enter Tryd.func21, Tryd.ntmps21
    go_wp2_with fail
    refine (HVAL.out).mono ?_
    rintro e w1 ⟨rfl, hb⟩
    have HB := Lib.hid hb
    clear hb
    go_wp2_with fail
    refine (HSP.out w1).mono ?_
    rintro e w2 ⟨v, rfl, hrow, hb2⟩
    have HR := Lib.hid (owns_base hrow HB.out.size)
    have HB2 := Lib.hid (HB.out.trans (hb2.mono HB.out.size))
    clear hrow hb2
    go_wp2_with fail
    go_ret
    exact ⟨_, rfl, HR.out, HB2.out⟩
  | false =>
    rw [if_neg (by simp)]
    go_enter Tryd.func21, Tryd.ntmps21
    go_wp2_with fail
    refine (HVAL.out).mono ?_
    rintro e w1 ⟨rfl, hb⟩
    go_wp2_with fail
    go_ret
    exact ⟨_, rfl, World.ownsRow_nil _ _ _ _, hb⟩
end Go.Proofs.YtpnbmfibooglgaaDoor
