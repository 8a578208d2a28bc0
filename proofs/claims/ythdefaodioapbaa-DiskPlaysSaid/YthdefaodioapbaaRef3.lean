/- The document's disk: Write. -/
import Derived.Test.YthdefaodioapbaaRef2
import Derived.Deep.DeepMust
namespace Go.Proofs.Ythdefaodioapbaa
open Go.RowKit

variable {w w' : World} {O : Nat → Prop} {p : Nat} {d : DS} {fv hv : Value}
attribute [local irreducible] zA

def zW (k : Int) : Array Value := (.int .i64 k :: List.replicate 512 (Value.int .u8 0)).toArray
theorem infoW : (Try.prog.info? 85).map (fun i => (i.zero, i.size, i.bytes)) = some (some (.agg (zW 0)), 513, 520) := by kernel_rfl
theorem infoWz : (Try.prog.info? 85).map (fun i => (i.zero, i.size)) = some (some (.agg (zW 0)), 513) := by kernel_rfl
theorem infoWzz : (Try.prog.info? 85).map (·.zero) = some (some (.agg (zW 0))) := by kernel_rfl
theorem zW_eq (k : Int) : zW k = (.int .i64 k :: u8s (List.replicate 512 0)).toArray := by
  unfold zW u8s
  rw [List.map_replicate]
  rfl
theorem zW_size (k : Int) : (zW k).size = 513 := by rw [zW_eq, List.size_toArray, List.length_cons, u8s_length, List.length_replicate]
theorem zW_one (k : Int) : (zW k).all (·.oneCell') = true := by
  rw [zW_eq]
  exact all_oneCell_toArray (fun v hv => by
    rcases List.mem_cons.1 hv with rfl | h
    · rfl
    · exact u8s_one _ v h)
theorem sizeWz (k : Int) : (Try.prog.info? 85).map (·.size) = some (zW k).size := by rw [zW_size]; exact sizeW
theorem builtW (k : Int) : Try.prog.built 85 [(0, .int .i64 k)] = some (zW k) := by kernel_rfl
attribute [local irreducible] zW

set_option maxHeartbeats 400000 in
theorem rWrite_off (h : RefAt w O p d fv hv) (at_ : Int) (v : Value) (ho : d.off = true) : Calls Try.prog 37 #[.pointer (some ⟨p, 0, none⟩), .int .i64 at_, v] w fun e w' => e = .returned (.int .i64 11) ∧ w = w' := by
  have c3 := h.c3
  rw [ho] at c3
  clear h
  go_enter Try.func37, Try.ntmps37
  go_wp2_with fail
  go_ret
  exact ⟨rfl, rfl⟩
set_option maxHeartbeats 400000 in
theorem rWrite_block (h : RefAt w O p d fv hv) (at_ : Int) (v : Value) (ho : d.off = false) (ha : at_ < 0 ∨ (0 ≤ at_ ∧ (d.n : Int) ≤ at_)) : Calls Try.prog 37 #[.pointer (some ⟨p, 0, none⟩), .int .i64 at_, v] w fun e w' => e = .returned (.int .i64 10) ∧ w = w' := by
  have c3 := h.c3
  rw [ho] at c3
  have c0 := h.c0
  have hn2 := h.n2
  obtain ⟨gf, capf, curf, hfv, hgf, _, _, _⟩ := h.fastRow
  rw [hfv] at c0
  clear h hfv hgf
  rcases ha with ha | ⟨h0, ha⟩
  all_goals
    go_enter Try.func37, Try.ntmps37
    go_wp2_with fail
    go_ret
    exact ⟨rfl, rfl⟩
set_option maxHeartbeats 400000 in
theorem rWrite_len (h : RefAt w O p d fv hv) (at_ : Nat) (ho : d.off = false) (ha : at_ < d.n) (a : Option Addr) (len cap : Nat) (hl : len ≠ 512) : Calls Try.prog 37 #[.pointer (some ⟨p, 0, none⟩), .int .i64 at_, .slice a len cap] w fun e w' => e = .returned (.int .i64 1) ∧ w = w' := by
  have c3 := h.c3
  rw [ho] at c3
  have c0 := h.c0
  have hn2 := h.n2
  obtain ⟨gf, capf, curf, hfv, hgf, _, _, _⟩ := h.fastRow
  rw [hfv] at c0
  have a0 : (0 : Int) ≤ (at_ : Int) := by omega
  have a1 : (at_ : Int) < (d.n : Int) := by omega
  have hl2 : ¬ (len : Int) = 512 := by omega
  have hl3 : ((len : Int) == 512) = false := beq_eq_false_iff_ne.2 hl2
  clear h hfv hgf hl
  go_enter Try.func37, Try.ntmps37
  go_wp2_with fail
  go_ret
  exact ⟨rfl, rfl⟩
set_option maxHeartbeats 400000 in
theorem rWrite_full (h : RefAt w O p d fv hv) (at_ : Nat) (ho : d.off = false) (ha : at_ < d.n) (a : Option Addr) (cap : Nat) (hf : d.back.length = 65536) : Calls Try.prog 37 #[.pointer (some ⟨p, 0, none⟩), .int .i64 at_, .slice a 512 cap] w fun e w' => e = .returned (.int .i64 2) ∧ w = w' := by
  have c3 := h.c3
  rw [ho] at c3
  have c0 := h.c0
  have c1 := h.c1
  have hn2 := h.n2
  obtain ⟨gf, capf, curf, hfv, hgf, _, _, _⟩ := h.fastRow
  obtain ⟨ah, ch, hhv⟩ := row_len h.held
  rw [hfv] at c0
  rw [hhv, hf] at c1
  have a0 : (0 : Int) ≤ (at_ : Int) := by omega
  have a1 : (at_ : Int) < (d.n : Int) := by omega
  clear h hfv hgf hf hhv
  go_enter Try.func37, Try.ntmps37
  go_wp2_with fail
  go_ret
  exact ⟨rfl, rfl⟩
set_option maxHeartbeats 1000000 in
set_option maxRecDepth 100000 in
theorem rRead_block (h : RefAt w O p d fv hv) (at_ : Int) (ho : d.off = false) (ha : at_ < 0 ∨ (0 ≤ at_ ∧ (d.n : Int) ≤ at_)) : Calls Try.prog 36 #[.pointer (some ⟨p, 0, none⟩), .int .i64 at_] w fun e w' => e = .returned (.tuple #[.agg zA, .int .i64 10]) ∧ Below w.heap.size w w' := by
  have hb : Below w.heap.size w (w.alloc (.cells zA 75)) := (Below.refl _ _).alloc (Nat.le_refl _) _
  have h1 := h.keep (Keeps.of_below (S := fun _ => False) hb) (fun _ _ => id)
  have hh := heap_alloc_new w (.cells zA 75)
  have hn2 := h.n2
  clear h
  go_enter Try.func36, Try.ntmps36
  go_step
  go_step
  go_step
  refine wpList_alloc_row rfl 75 rfl (.agg zA) infoAzz ?_
  change wpList _ _ _ _ _ (w.alloc (.cells zA 75))
  generalize (w.alloc (.cells zA 75)) = w1 at *
  have HZ : Hid (w.heap.size ≤ w1.heap.size) := hb.size
  obtain ⟨g1, hg1⟩ : ∃ g1, g1 = w.heap.size := ⟨_, rfl⟩
  rw [← hg1] at hh ⊢
  have HG1 := Lib.hid hg1
  have HH := Lib.hid hh
  have HB := Lib.hid hb
  have c3 := h1.c3
  rw [ho] at c3
  have c0 := h1.c0
  obtain ⟨gf, capf, curf, hfv, hgf, _, _, _⟩ := h1.fastRow
  rw [hfv] at c0
  clear hg1 hh hb h1 hfv hgf ho
  rcases ha with ha | ⟨h0, ha⟩
  all_goals
    go_wp2_with (first | (refine wpList_build_to rfl 75 _ rfl zA (by kernel_rfl) ?_) | (refine wpList_store_row_to rfl 75 _ _ rfl g1 zA rfl rfl 75 _ HH.out sizeAz rfl zA_one ?_; intro w2 hg2 hgr2; have HG2 := Lib.hid hg2; have HGR := Lib.hid hgr2; clear hg2 hgr2))
    refine bodyPost_ret (results_cell_tmp rfl _ _ g1 75 zA (0, 0) (.array 512 5) rfl HG2.out Try.underlying75 rfl sizeAz) rfl ?_
    exact ⟨rfl, HB.out.grown HGR.out HZ.out (fun k e => by cases e; rw [HG1.out]; exact Nat.le_refl _)⟩
end Go.Proofs.Ythdefaodioapbaa
