/- New, Read. -/
import Derived.Test.YthfncgbkigmmcaaDisk2
import Derived.Deep.OwnRows
namespace Go.Proofs.Ythfncgbkigmmcaa
open Go.RowKit

variable {w w' : World} {O R : Nat → Prop} {p : Nat} {d : DS} {gn gf : Nat} {vb : Value} {vs : List Value}

/-- A block that has come since. -/
def NewIn (w w' : World) (k : Nat) : Prop := w.heap.size ≤ k ∧ k < w'.heap.size

def DS.new (n : Nat) : DS := ⟨n, List.replicate (512 * n) 0, List.replicate (512 * n) 0, [], false, -1⟩
theorem made_u8s (n : Nat) : madeCells #[Value.int .u8 0] n = (u8s (List.replicate n 0)).toArray := by
  apply Array.toList_inj.1
  rw [toList_madeCells_one]
  unfold u8s
  rw [List.map_replicate]
  rfl
theorem disk_new {w0 w1 w2 w3 : World} {n g1 g2 p : Nat} (h1 : 1 ≤ n) (h2 : n ≤ 4096)
    (e1 : w1 = w0.alloc (.cells (madeCells #[.int .u8 0] (512 * n)) 5)) (e2 : w2 = w1.alloc (.cells (madeCells #[.int .u8 0] (512 * n)) 5))
    (hg : (g1 = w0.heap.size ∧ g2 = w1.heap.size) ∨ (g2 = w0.heap.size ∧ g1 = w1.heap.size)) (hp : p = w2.heap.size)
    (e3 : w3 = w2.alloc (.cells #[.slice (some ⟨g1, 0, none⟩) (512 * n) (512 * n), .slice (some ⟨g2, 0, none⟩) (512 * n) (512 * n), .slice none 0 0, .bool false, .int .i64 (-1)] 83)) :
    DiskAt w3 (NewIn w0 w3) (NewIn w0 w3) p (DS.new n) g1 g2 (.slice none 0 0) [] := by
  have z1 : w1.heap.size = w0.heap.size + 1 := by rw [e1]; simp
  have z2 : w2.heap.size = w0.heap.size + 2 := by rw [e2]; simp; omega
  have z3 : w3.heap.size = w0.heap.size + 3 := by rw [e3]; simp; omega
  have b2 : Below w1.heap.size w1 w2 := by rw [e2]; exact (Below.refl _ _).alloc (Nat.le_refl _) _
  have b3 : Below w2.heap.size w2 w3 := by rw [e3]; exact (Below.refl _ _).alloc (Nat.le_refl _) _
  have r0 : w3.heap[w0.heap.size]? = some (.cells (u8s (List.replicate (512 * n) 0)).toArray 5 (0, 0)) := by
    rw [b3.block _ (by omega), b2.block _ (by omega), e1, ← made_u8s]
    exact heap_alloc_new w0 _
  have r1 : w3.heap[w1.heap.size]? = some (.cells (u8s (List.replicate (512 * n) 0)).toArray 5 (0, 0)) := by
    rw [b3.block _ (by omega), e2, ← made_u8s]
    exact heap_alloc_new w1 _
  have hcell : w3.heap[p]? = some (.cells #[.slice (some ⟨g1, 0, none⟩) (512 * n) (512 * n), .slice (some ⟨g2, 0, none⟩) (512 * n) (512 * n), .slice none 0 0, .bool false, .int .i64 (-1)] 83 (0, 0)) := by
    rw [hp, e3]
    exact heap_alloc_new w2 _
  have hin : ∀ k, k = w0.heap.size ∨ k = w1.heap.size ∨ k = w2.heap.size → NewIn w0 w3 k := fun k hk => by unfold NewIn; omega
  refine ⟨hcell, ?_, ?_, by simp [DS.new], by simp [DS.new], h1, h2, World.ownsRow_nil _ _ _ _, fun i h => by simp [DS.new] at h, rfl, fun x h => by simp [DS.new] at h, by simp [DS.new], hin _ (.inr (.inr hp)), ?_, ?_, InB.nil _, ?_⟩
  · rcases hg with ⟨rfl, rfl⟩ | ⟨rfl, rfl⟩
    · exact r0
    · exact r1
  · rcases hg with ⟨rfl, rfl⟩ | ⟨rfl, rfl⟩
    · exact r1
    · exact r0
  · exact hin _ (hg.elim (fun h => .inl h.1) (fun h => .inr (.inl h.2)))
  · exact hin _ (hg.elim (fun h => .inr (.inl h.2)) (fun h => .inl h.1))
  · omega

set_option maxHeartbeats 800000 in
theorem new_any (n : Nat) (w : World) (h1 : 1 ≤ n) (h2 : n ≤ 4096) : Calls Try.prog 23 #[.int .i64 n] w fun e w' => ∃ p, e = .returned (.tuple #[.pointer (some ⟨p, 0, none⟩), .int .i64 0]) ∧ IsDisk w' (NewIn w w') (NewIn w w') p (DS.new n) ∧ Below w.heap.size w w' := by
  have hmk : ∀ w, (Instr.makeSlice 24 (.int .i64 ((n : Int) * 512)) (.int .i64 ((n : Int) * 512))).run Try.prog w = .ok (.slice (some ⟨w.heap.size, 0, none⟩) (512 * n) (512 * n)) (w.alloc (.cells (madeCells #[.int .u8 0] (512 * n)) 5)) := fun w => by
    have := run_make_row' (P := Try.prog) 24 5 (.int .u8 0) 1 Try.underlying24 info5 rfl .i64 .i64 (512 * n) (by omega) (by omega) w
    rw [show ((512 * n : Nat) : Int) = (n : Int) * 512 by omega] at this
    exact this
  have n0 : (1 : Int) ≤ (n : Int) := by omega
  have n1 : (n : Int) ≤ 4096 := by omega
  go_enter Try.func23, Try.ntmps23
  go_wp2_with fail
  have hbb : ∀ X Y Z : Obj, Below w.heap.size w (((w.alloc X).alloc Y).alloc Z).drew := fun X Y Z => ((((Below.refl _ w).alloc (Nat.le_refl _) _).alloc (by simp) _).alloc (by simp; omega) _).drew
  have HBB := Lib.hid hbb
  clear hbb
  go_region
  · go_wp2
    go_ret2
    exact ⟨_, rfl, ⟨w.heap.size, w.heap.size + 1, _, _, (disk_new h1 h2 rfl rfl (.inl ⟨rfl, by simp⟩) (by simp) rfl).keep ((Keeps.refl (fun _ => False) _).drew) (fun _ _ => id) (fun _ _ => id)⟩, HBB.out _ _ _⟩
  · go_wp2
    go_ret2
    exact ⟨_, rfl, ⟨w.heap.size + 1, w.heap.size, _, _, (disk_new h1 h2 rfl rfl (.inr ⟨rfl, by simp⟩) (by simp) rfl).keep ((Keeps.refl (fun _ => False) _).drew) (fun _ _ => id) (fun _ _ => id)⟩, HBB.out _ _ _⟩
set_option maxHeartbeats 400000 in
theorem new_bad (n : Int) (w : World) (h : n < 1 ∨ (1 ≤ n ∧ 4096 < n)) : Calls Try.prog 23 #[.int .i64 n] w fun e w' => e = .returned (.tuple #[.pointer none, .int .i64 1]) ∧ w = w' := by
  rcases h with h | ⟨h1, h⟩
  · go_enter Try.func23, Try.ntmps23
    go_wp2
    go_ret2
    exact ⟨rfl, rfl⟩
  · have h1' : ¬ n < 1 := by omega
    go_enter Try.func23, Try.ntmps23
    go_wp2
    go_ret2
    exact ⟨rfl, rfl⟩

/-- A block's bytes. -/
def blockAt (l : Bs) (k : Nat) : Bs := (l.drop (512 * k)).take 512
theorem blockAt_length {l : Bs} {k n : Nat} (hl : l.length = 512 * n) (hk : k < n) : (blockAt l k).length = 512 := by
  unfold blockAt
  simp
  omega
theorem bytes_part {w : World} {g k n : Nat} {l : Bs} (h : w.heap[g]? = some (.cells (u8s l).toArray 5 (0, 0))) (hl : l.length = 512 * n) (hk : k < n) : Bytes w (.slice (some ⟨g, 512 * k, none⟩) 512 512) (blockAt l k) := by
  have hb := blockAt_length hl hk
  refine .inr ⟨g, 512 * k, 512, by rw [u8s_length, hb], by rw [u8s_length, hb]; exact Nat.le_refl _, fun i u hi => ?_⟩
  rw [cell_of_row w g _ _ _ _ h, List.getElem?_toArray]
  rw [u8s_getElem?] at hi ⊢
  unfold blockAt at hi
  rw [List.getElem?_take] at hi
  split at hi
  · rw [List.getElem?_drop] at hi
    exact hi
  · cases hi

set_option maxHeartbeats 400000 in
theorem read_ok (h : DiskAt w O R p d gn gf vb vs) (k : Nat) (hk : k < d.n) (ho : d.off = false) :
    Calls Try.prog 73 #[.pointer (some ⟨p, 0, none⟩), .int .i64 k] w fun e w' => ∃ g cap, e = .returned (.tuple #[.slice (some ⟨g, 0, none⟩) 512 cap, .int .i64 0]) ∧ Bytes w' (.slice (some ⟨g, 0, none⟩) 512 cap) (blockAt d.now k) ∧ w.heap.size ≤ g ∧ g < w'.heap.size ∧ 512 ≤ cap ∧ (∀ i, w'.frozen? ⟨g, i, none⟩ = false) ∧ Below w.heap.size w w' := by
  obtain ⟨i0, hi, hz0, hz1, hz2⟩ := info_parts info5
  have HT := Lib.hid (there_any h k)
  have hth : d.there k = 0 := by unfold DS.there; rw [ho, if_neg (by decide), if_neg (by omega)]
  rw [hth] at HT
  have c0 := h.c0
  have hn2 := h.n2
  have HB := Lib.hid (bytes_part h.now h.nlen hk)
  have hbl := blockAt_length h.nlen hk
  have HP := Lib.hid (fun w => part_any gn d.n k w hk hn2)
  have B1 : Hid (0 + (u8s (blockAt d.now k)).length ≤ maxLen) := by show 0 + (u8s (blockAt d.now k)).length ≤ maxLen; rw [u8s_length, hbl]; decide
  have B2 : Hid ((0 + (u8s (blockAt d.now k)).length) * 1 ≤ 140737488355328) := by show (0 + (u8s (blockAt d.now k)).length) * 1 ≤ 140737488355328; rw [u8s_length, hbl]; decide
  have HL := Lib.hid hbl
  clear h hth hn2 hbl ho
  generalize blockAt d.now k = x at *
  generalize d.n = n at *
  go_enter Try.func73, Try.ntmps73
  go_wp2_with fail
  refine HT.out.mono ?_
  rintro e w1 ⟨rfl, rfl⟩
  go_wp2_with fail
  refine (HP.out _).mono ?_
  rintro e w1 ⟨rfl, rfl⟩
  go_wp2_with (at_builtin; refine wpList_append_row rfl (.const (.slice none 0 0)) (.tmp 18) 24 rfl w.heap.size 5 i0 (.int .u8 0) 1 Try.underlying24 hi hz0 hz1 hz2 rfl (.slice none 0 0) 0 [] rfl (World.ownsRow_nil _ _ _ _) _ (u8s x) rfl HB.out (u8s_one x) B1.out B2.out (Nat.le_refl _) ?_)
  intro v2 w2 hown hgrow hnil
  replace hown : w2.ownsRow w.heap.size 5 1 v2 512 (u8s x) := by simpa [HL.out] using hown
  rcases owns_shape hown with ⟨_, h0⟩ | ⟨g, cap, rfl, hle, hm, hbg, hlt⟩
  · omega
  have hfz : ∀ i, w2.frozen? ⟨g, i, none⟩ = false := fun i => by
    rcases hown.2 with ⟨h, _⟩ | ⟨g', cap', cur, h, _, hg, _⟩
    · cases h
    · cases h; exact frozen_of_row w2 _ _ _ _ hg
  have HOW : Hid (Bytes w2 (.slice (some ⟨g, 0, none⟩) 512 cap) x) := RowAt.of_owns hown
  have HFZ := Lib.hid hfz
  have HBW : Hid (Below w.heap.size w w2) := (Below.refl _ _).grown hgrow (Nat.le_refl _) (by simp [Value.ownBlock])
  clear hown hgrow hnil hfz
  go_wp2_with fail
  go_ret2
  exact ⟨g, cap, rfl, HOW.out, hbg, hlt, hle, HFZ.out, HBW.out⟩

set_option maxHeartbeats 400000 in
theorem read_bad (h : DiskAt w O R p d gn gf vb vs) (at_ : Int) (hb : (d.there at_ != 0) = true) :
    Calls Try.prog 73 #[.pointer (some ⟨p, 0, none⟩), .int .i64 at_] w fun e w' => e = .returned (.tuple #[.slice none 0 0, .int .i64 (d.there at_)]) ∧ w = w' := by
  have HT := Lib.hid (there_any h at_)
  clear h
  generalize d.there at_ = t at *
  go_enter Try.func73, Try.ntmps73
  go_wp2_with fail
  refine HT.out.mono ?_
  rintro e w1 ⟨rfl, rfl⟩
  go_wp2_with fail
  go_ret2
  exact ⟨rfl, rfl⟩
end Go.Proofs.Ythfncgbkigmmcaa
