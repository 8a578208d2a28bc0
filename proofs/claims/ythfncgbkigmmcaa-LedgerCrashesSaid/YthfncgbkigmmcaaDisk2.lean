/- step, Fuse, On; num, block. -/
import Derived.Test.YthfncgbkigmmcaaDisk
namespace Go.Proofs.Ythfncgbkigmmcaa
open Go.RowKit

variable {w w' : World} {O R : Nat → Prop} {p : Nat} {d : DS} {gn gf : Nat} {vb : Value} {vs : List Value}

def DS.step (d : DS) : DS := if 0 < d.left then { d with left := d.left - 1, off := d.left - 1 == 0 } else d

set_option maxHeartbeats 400000 in
theorem step_any (h : DiskAt w O R p d gn gf vb vs) (hl : d.left ≤ 9223372036854775807) : Calls Try.prog 46 #[.pointer (some ⟨p, 0, none⟩)] w fun e w' => e = .returned (.int .i64 0) ∧ DiskAt w' O R p d.step gn gf vb vs ∧ Keeps (fun b => b = p) w w' := by
  have c4 := h.c4
  have c3 := h.c3
  have f4 := h.fr 4
  have f3 := h.fr 3
  have HD := Lib.hid h
  unfold DS.step
  by_cases h0 : 0 < d.left
  · rw [if_pos h0]
    clear h
    generalize hL : d.left = L at *
    have HL := Lib.hid hL
    clear hL
    go_enter Try.func46, Try.ntmps46
    go_wp2_with fail
    go_ret
    refine ⟨rfl, HD.out.turn (((Keeps.refl (fun b => b = p) w).setCell ⟨p, 4, none⟩ _ (.inl rfl)).setCell ⟨p, 3, none⟩ _ (.inl rfl)) _ _ ?_, (((Keeps.refl (fun b => b = p) w).setCell ⟨p, 4, none⟩ _ (.inl rfl)).setCell ⟨p, 3, none⟩ _ (.inl rfl))⟩
    rw [heap_setCell_same _ p 3 _ 83 _ (heap_setCell_same w p 4 _ 83 _ HD.out.cell)]
    rfl
  · rw [if_neg h0]
    have h0' : d.left ≤ 0 := by omega
    clear h h0
    generalize hL : d.left = L at *
    clear hL
    go_enter Try.func46, Try.ntmps46
    go_wp2_with fail
    go_ret
    exact ⟨rfl, HD.out, Keeps.refl _ _⟩

set_option maxHeartbeats 400000 in
theorem fuse_any (h : DiskAt w O R p d gn gf vb vs) (s : Int) (hs : -1 ≤ s) (ho : d.off = false) : Calls Try.prog 19 #[.pointer (some ⟨p, 0, none⟩), .int .i64 s] w fun e w' => e = .returned (.int .i64 0) ∧ DiskAt w' O R p { d with left := s, off := s == 0 } gn gf vb vs ∧ Keeps (fun b => b = p) w w' := by
  have c4 := h.c4
  have c3 := h.c3
  have f4 := h.fr 4
  have f3 := h.fr 3
  have HD := Lib.hid h
  rw [ho] at c3
  clear h
  generalize hL : d.left = L at *
  clear hL
  have hs' : ¬ s < -1 := by omega
  go_enter Try.func19, Try.ntmps19
  go_wp2_with fail
  go_ret
  refine ⟨rfl, HD.out.turn (((Keeps.refl (fun b => b = p) w).setCell ⟨p, 4, none⟩ _ (.inl rfl)).setCell ⟨p, 3, none⟩ _ (.inl rfl)) _ _ ?_, (((Keeps.refl (fun b => b = p) w).setCell ⟨p, 4, none⟩ _ (.inl rfl)).setCell ⟨p, 3, none⟩ _ (.inl rfl))⟩
  rw [heap_setCell_same _ p 3 _ 83 _ (heap_setCell_same w p 4 _ 83 _ HD.out.cell)]
  rfl
set_option maxHeartbeats 400000 in
theorem fuse_bad (p : Nat) (w : World) (s : Int) (hs : s < -1) : Calls Try.prog 19 #[.pointer (some ⟨p, 0, none⟩), .int .i64 s] w fun e w' => e = .returned (.int .i64 1) ∧ w = w' := by
  go_enter Try.func19, Try.ntmps19
  go_wp2_with fail
  go_ret
  exact ⟨rfl, rfl⟩
set_option maxHeartbeats 400000 in
theorem fuse_off (h : DiskAt w O R p d gn gf vb vs) (s : Int) (hs : -1 ≤ s) (ho : d.off = true) : Calls Try.prog 19 #[.pointer (some ⟨p, 0, none⟩), .int .i64 s] w fun e w' => e = .returned (.int .i64 11) ∧ w = w' := by
  have c3 := h.c3
  rw [ho] at c3
  clear h
  have hs' : ¬ s < -1 := by omega
  go_enter Try.func19, Try.ntmps19
  go_wp2_with fail
  go_ret
  exact ⟨rfl, rfl⟩
set_option maxHeartbeats 400000 in
theorem on_any (h : DiskAt w O R p d gn gf vb vs) : Calls Try.prog 35 #[.pointer (some ⟨p, 0, none⟩)] w fun e w' => e = .returned (.bool !d.off) ∧ w = w' := by
  have c3 := h.c3
  clear h
  generalize d.off = o at *
  go_enter Try.func35, Try.ntmps35
  go_wp2_with fail
  go_ret
  exact ⟨rfl, rfl⟩
set_option maxHeartbeats 400000 in
theorem num_any (e : Int) (w : World) : Calls Try.prog 16 #[.int .i64 e] w fun x w' => x = .returned (.int .i64 e) ∧ w = w' := by
  go_enter Try.func16, Try.ntmps16
  go_wp2
  go_ret
  exact ⟨rfl, rfl⟩

theorem info5 : (Try.prog.info? 5).map (fun i => (i.zero, i.size, i.bytes)) = some (some (.int .u8 0), 1, 1) := by kernel_rfl
theorem RowAt.set {w : World} {g off n cap k : Nat} {u : Value} {cs : List Value} (h : RowAt w (.slice (some ⟨g, off, none⟩) n cap) cs) (hk : k < cs.length) :
    RowAt (w.setCell ⟨g, off + k, none⟩ u) (.slice (some ⟨g, off, none⟩) n cap) (cs.set k u) := by
  rcases h with ⟨h, _⟩ | ⟨g', off', cap', h, hc, hcell⟩
  · cases h
  · simp only [Value.slice.injEq, Option.some.injEq, Addr.mk.injEq] at h
    obtain ⟨⟨rfl, rfl, _⟩, rfl, rfl⟩ := h
    refine .inr ⟨g, off, cap, by simp, by simpa using hc, fun i v hi => ?_⟩
    by_cases e : i = k
    · subst e
      have hs := hcell i cs[i] (by simp [hk])
      rw [World.cell?_setCell_same' _ _ _ (by rw [hs]; rfl)]
      rw [List.getElem?_set_self hk] at hi
      exact hi
    · rw [World.cell?_setCell_other (h := by intro e'; have := congrArg Addr.off e'; simp at this; omega)]
      rw [List.getElem?_set_ne (Ne.symm e)] at hi
      exact hcell i v hi
theorem RowAt.cell {w : World} {g off n cap k : Nat} {cs : List Value} (h : RowAt w (.slice (some ⟨g, off, none⟩) n cap) cs) (hk : k < cs.length) : w.cell? ⟨g, off + k, none⟩ = some cs[k] := by
  rcases h with ⟨h, _⟩ | ⟨g', off', cap', h, hc, hcell⟩
  · cases h
  · simp only [Value.slice.injEq, Option.some.injEq, Addr.mk.injEq] at h
    obtain ⟨⟨rfl, rfl, _⟩, rfl, rfl⟩ := h
    exact hcell k cs[k] (by simp [hk])

end Go.Proofs.Ythfncgbkigmmcaa
