/- lent, stays: the walks. Condition: the slice holds bytes; fewer than 2^47. -/
import Derived.Test.YtgeagbhfpjhonaaMore
import Derived.Deep.DeepMust
import Derived.Deep.DeepFit
namespace Go.Proofs.Ytgeagbhfpjhonaa
open Go.RowKit

theorem info5 : (Try.prog.info? 5).map (fun i => (i.zero, i.size, i.bytes)) = some (some (.int .u8 0), 1, 1) := by kernel_rfl

/-- Bytes in memory of their own, with one more behind. -/
def LentAt (w : World) (v : Value) (b : List UInt8) (g cap : Nat) : Prop :=
  v = .slice (some ⟨g, 0, none⟩) b.length cap ∧ b.length + 1 ≤ cap ∧ ∀ i u, (u8s (b ++ [0xA7]))[i]? = some u → w.cell? ⟨g, i, none⟩ = some u
theorem LentAt.bytes {w : World} {v : Value} {b : List UInt8} {g cap : Nat} (h : LentAt w v b g cap) : Bytes w v b := by
  obtain ⟨rfl, hc, hcell⟩ := h
  refine .inr ⟨g, 0, cap, by simp, by simp; omega, fun i u hi => ?_⟩
  rw [Nat.zero_add]
  refine hcell i u ?_
  have hl : i < (u8s b).length := (List.getElem?_eq_some_iff.1 hi).1
  rw [u8s_append, List.getElem?_append_left hl]
  exact hi
theorem LentAt.below {w w' : World} {v : Value} {b : List UInt8} {g cap B : Nat} (h : LentAt w v b g cap) (hb : Below B w w') (hg : g < B) : LentAt w' v b g cap := by
  obtain ⟨rfl, hc, hcell⟩ := h
  refine ⟨rfl, hc, fun i u hi => ?_⟩
  have h1 := hcell i u hi
  exact (World.cell?_of_block (w := w) (hb.block g hg)).trans h1
theorem LentAt.lt {w : World} {v : Value} {b : List UInt8} {g cap : Nat} (h : LentAt w v b g cap) : g < w.heap.size := by
  obtain ⟨rfl, hc, hcell⟩ := h
  have hl : 0 < (u8s (b ++ [0xA7])).length := by simp
  exact World.block_lt_of_cell? _ _ (hcell 0 _ (List.getElem?_eq_getElem hl))

set_option maxHeartbeats 400000 in
theorem lent_any (v : Value) (b : List UInt8) (w : World) (hv : Bytes w v b) (hn : b.length ≤ 70368744177664) :
    Calls Try.prog 12 #[v] w fun e w' => ∃ g cap, e = .returned (.slice (some ⟨g, 0, none⟩) b.length cap) ∧ LentAt w' (.slice (some ⟨g, 0, none⟩) b.length cap) b g cap ∧ w.heap.size ≤ g ∧ Below w.heap.size w w' := by
  obtain ⟨i0, hi, hz0, hz1, hz2⟩ := info_parts info5
  have b1 : 0 + (u8s b).length ≤ maxLen := by simp only [u8s_length]; unfold maxLen; omega
  have b2 : (0 + (u8s b).length) * 1 ≤ 140737488355328 := by simp only [u8s_length]; omega
  have b3 : b.length + [Value.int .u8 167].length ≤ maxLen := by simp only [List.length_singleton]; unfold maxLen; omega
  have b4 : (b.length + [Value.int .u8 167].length) * 1 ≤ 140737488355328 := by simp only [List.length_singleton]; omega
  have B1 := Lib.hid b1
  have B2 := Lib.hid b2
  have B3 := Lib.hid b3
  have B4 := Lib.hid b4
  clear b1 b2 b3 b4
  obtain ⟨av, cv, hs, _⟩ := RowAt.shape hv
  rw [u8s_length] at hs
  subst hs
  have HV := Lib.hid hv
  clear hv
  go_enter Try.func12, Try.ntmps12
  go_wp2_with (at_builtin; refine wpList_append_row rfl (.const (.slice none 0 0)) (.tmp 3) 22 rfl w.heap.size 5 i0 (.int .u8 0) 1 Try.underlying22 hi hz0 hz1 hz2 rfl (.slice none 0 0) 0 [] rfl (World.ownsRow_nil _ _ _ _) _ (u8s b) rfl HV.out (u8s_one b) B1.out B2.out (Nat.le_refl _) ?_)
  intro v' w' hown hgrow hnil
  have HO := Lib.hid hown
  have HG := Lib.hid hgrow
  clear hown hgrow hnil
  have hsz : w.heap.size ≤ w'.heap.size := HG.out.size
  have HO2 := Lib.hid (owns_below HO.out ((Below.refl w'.heap.size w').alloc (Nat.le_refl _) (.cells #[.int .u8 167] 5 (0, 0))))
  clear HO2
  go_wp2_with (at_builtin; go_loud (refine wpList_append_row rfl (.tmp 4) (.tmp 5) 22 rfl w.heap.size 5 i0 (.int .u8 0) 1 Try.underlying22 hi hz0 hz1 hz2 rfl v' _ _ rfl (owns_below HO.out ((Below.refl w'.heap.size w').alloc (Nat.le_refl _) _)) _ [.int .u8 167] rfl (row_new w' #[.int .u8 167] 5 (0, 0) 1 (Nat.le_refl _)) (by simp [Value.oneCell']) B3.out B4.out (by simp; omega) ?_))
  intro v2 w2 hown2 hgrow2 hnil2
  have HS := owns_shape hown2
  try simp only [List.length_singleton] at HS hown2
  rcases HS with ⟨_, hz⟩ | ⟨g, cap, rfl, hle, hm, hb, hlt⟩
  · omega
  have HO3 := Lib.hid hown2
  have HG2 := Lib.hid hgrow2
  clear hown2 hgrow2 hnil2
  have hle' : b.length ≤ cap := by omega
  go_wp2_with fail
  go_ret
  refine ⟨g, cap, rfl, ⟨rfl, hle, ?_⟩, hb, ?_⟩
  · have := RowAt.of_owns HO3.out
    rcases this with ⟨h, _⟩ | ⟨g', off', cap', h, _, hcell⟩
    · cases h
    · simp only [Value.slice.injEq, Option.some.injEq, Addr.mk.injEq] at h
      obtain ⟨⟨rfl, rfl, _⟩, _, rfl⟩ := h
      intro i u hu
      rw [u8s_append] at hu
      have := hcell i u (by simpa [u8s, u8] using hu)
      simpa using this
  · have h1 := ((Below.refl w.heap.size w).grown HG.out (Nat.le_refl _) (by simp [Value.ownBlock])).alloc hsz (.cells #[.int .u8 167] 5 (0, 0))
    refine h1.grown HG2.out (by simp; omega) ?_
    rcases owns_shape HO.out with ⟨rfl, _⟩ | ⟨g', cap', rfl, _, _, hb', _⟩
    · simp [Value.ownBlock]
    · simp [Value.ownBlock, hb']

set_option maxHeartbeats 400000 in
theorem stays_any (full v : Value) (b : List UInt8) (g cap : Nat) (w : World) (hf : LentAt w full b g cap) (hv : Bytes w v b) (hn : b.length ≤ 70368744177664) :
    Calls Try.prog 15 #[full, v] w fun e w' => e = .returned (.bool true) ∧ w = w' := by
  have k1 := run_string_of (P := Try.prog) w 22 5 Try.underlying22 Try.underlying5 hf.bytes 9 Try.underlying9
  have k2 := run_string_of (P := Try.prog) w 22 5 Try.underlying22 Try.underlying5 hv 9 Try.underlying9
  obtain ⟨rfl, hc, hcell⟩ := hf
  have hl := hcell b.length (.int .u8 167) (by rw [u8s_append, List.getElem?_append_right (by simp)]; simp [u8s, u8])
  obtain ⟨av, cv, hs, _⟩ := RowAt.shape hv
  rw [u8s_length] at hs
  subst hs
  clear hcell hv
  have c0 : b.length + 1 ≤ cap := hc
  have c1 : (0 : Int) ≤ (b.length : Int) := by omega
  have c2 : (b.length : Int) < (b.length : Int) + 1 := by omega
  go_enter Try.func15, Try.ntmps15
  go_wp2_with fail
  go_ret
  exact ⟨rfl, rfl⟩
end Go.Proofs.Ytgeagbhfpjhonaa
