/- lent, stays at slices that lie inside a slice; the cells of what is lent can be written. -/
import Derived.Test.YtgeagbhfpjhonaaLent
import Derived.Test.YtgeagbhfpjhonaaWide
namespace Go.Proofs.Ytgeagbhfpjhonaa
open Go.RowKit

set_option maxHeartbeats 400000 in
theorem lentW_any (v : Value) (b : List UInt8) (w : World) (hv : BytesW w v b) (hn : b.length ≤ 70368744177664) :
    Calls Try.prog 12 #[v] w fun e w' => ∃ g cap, e = .returned (.slice (some ⟨g, 0, none⟩) b.length cap) ∧ LentAt w' (.slice (some ⟨g, 0, none⟩) b.length cap) b g cap ∧ w.heap.size ≤ g ∧ Below w.heap.size w w' ∧ (∀ i, w'.frozen? ⟨g, i, none⟩ = false) := by
  obtain ⟨i0, hi, hz0, hz1, hz2⟩ := info_parts info5
  have b1 : 0 + b.length ≤ maxLen := by unfold maxLen; omega
  have b2 : (0 + b.length) * 1 ≤ 140737488355328 := by omega
  have b3 : b.length + [Value.int .u8 167].length ≤ maxLen := by simp only [List.length_singleton]; unfold maxLen; omega
  have b4 : (b.length + [Value.int .u8 167].length) * 1 ≤ 140737488355328 := by simp only [List.length_singleton]; omega
  have B1 := Lib.hid b1
  have B2 := Lib.hid b2
  have B3 := Lib.hid b3
  have B4 := Lib.hid b4
  clear b1 b2 b3 b4
  obtain ⟨av, cv, hs, _⟩ := BytesW.shape hv
  subst hs
  have HV := Lib.hid hv
  clear hv
  go_enter Try.func12, Try.ntmps12
  go_wp2_with (at_builtin; refine wpList_append_rowW rfl (.const (.slice none 0 0)) (.tmp 3) 22 rfl w.heap.size 5 i0 (.int .u8 0) 1 Try.underlying22 hi hz0 hz1 hz2 rfl (.slice none 0 0) 0 [] rfl (World.ownsRow_nil _ _ _ _) _ b rfl HV.out B1.out B2.out (Nat.le_refl _) ?_)
  intro v' w' hown hgrow hnil
  have HO := Lib.hid hown
  have HG := Lib.hid hgrow
  clear hown hgrow hnil
  have hsz : w.heap.size ≤ w'.heap.size := HG.out.size
  go_wp2_with (at_builtin; refine wpList_append_row rfl (.tmp 4) (.tmp 5) 22 rfl w.heap.size 5 i0 (.int .u8 0) 1 Try.underlying22 hi hz0 hz1 hz2 rfl v' _ _ rfl (owns_below HO.out ((Below.refl w'.heap.size w').alloc (Nat.le_refl _) _)) _ [.int .u8 167] rfl (row_new w' #[.int .u8 167] 5 (0, 0) 1 (Nat.le_refl _)) (by simp [Value.oneCell']) (by simpa using B3.out) (by simpa using B4.out) (by simp; omega) ?_)
  intro v2 w2 hown2 hgrow2 hnil2
  replace hown2 : w2.ownsRow w.heap.size 5 1 v2 (b.length + 1) (u8s b ++ [.int .u8 167]) := by simpa using hown2
  have HS := owns_shape hown2
  rcases HS with ⟨_, hz⟩ | ⟨g, cap, rfl, hle, hm, hb, hlt⟩
  · omega
  have hfz : ∀ i, w2.frozen? ⟨g, i, none⟩ = false := fun i => by
    rcases hown2.2 with ⟨h, _⟩ | ⟨g', cap', cur, h, _, hg, _⟩
    · cases h
    · cases h; exact frozen_of_row w2 _ _ _ _ hg
  have HO3 := Lib.hid hown2
  have HG2 := Lib.hid hgrow2
  have HFZ := Lib.hid hfz
  clear hown2 hgrow2 hnil2 hfz
  have hle' : b.length ≤ cap := by omega
  go_wp2_with fail
  go_ret
  refine ⟨g, cap, rfl, ⟨rfl, hle, ?_⟩, hb, ?_, HFZ.out⟩
  · have := RowAt.of_owns HO3.out
    rcases this with ⟨h, _⟩ | ⟨g', off', cap', h, _, hcell⟩
    · cases h
    · simp only [Value.slice.injEq, Option.some.injEq, Addr.mk.injEq] at h
      obtain ⟨⟨rfl, rfl, _⟩, _, rfl⟩ := h
      intro i u hu
      rw [u8s_append] at hu
      have := hcell i u (by simpa [u8s, u8] using hu)
      simpa using this
  · have h1 := ((Below.refl w.heap.size w).grown HG.out (Nat.le_refl _) (by simp [Value.ownBlock])).alloc hsz (.cells #[.int .u8 167] 5 (0, 0))
    refine h1.grown HG2.out (by simp; omega) ?_
    rcases owns_shape HO.out with ⟨rfl, _⟩ | ⟨g', cap', rfl, _, _, hb', _⟩
    · simp [Value.ownBlock]
    · simp [Value.ownBlock, hb']

set_option maxHeartbeats 400000 in
theorem staysW_any (full v : Value) (b : List UInt8) (g cap : Nat) (w : World) (hf : LentAt w full b g cap) (hv : BytesW w v b) (hn : b.length ≤ 70368744177664) :
    Calls Try.prog 15 #[full, v] w fun e w' => e = .returned (.bool true) ∧ w = w' := by
  have k1 := run_string_of (P := Try.prog) w 22 5 Try.underlying22 Try.underlying5 hf.bytes 9 Try.underlying9
  have k2 := run_string_ofW (P := Try.prog) w 22 5 Try.underlying22 Try.underlying5 hv 9 Try.underlying9
  obtain ⟨rfl, hc, hcell⟩ := hf
  have hl := hcell b.length (.int .u8 167) (by rw [u8s_append, List.getElem?_append_right (by simp)]; simp [u8s, u8])
  obtain ⟨av, cv, hs, _⟩ := BytesW.shape hv
  subst hs
  clear hcell hv
  have c0 : b.length + 1 ≤ cap := hc
  have c1 : (0 : Int) ≤ (b.length : Int) := by omega
  have c2 : (b.length : Int) < (b.length : Int) + 1 := by omega
  go_enter Try.func15, Try.ntmps15
  go_wp2_with fail
  go_ret
  exact ⟨rfl, rfl⟩
end Go.Proofs.Ytgeagbhfpjhonaa
