/- head: the first block's bytes. -/
import Derived.Test.YthfncgbkigmmcaaL4
import Derived.Test.YthfncgbkigmmcaaMore
import Derived.Lib.BufferWrite
namespace Go.Proofs.Ythfncgbkigmmcaa
open Go.RowKit

/-- A slice of numbers, whose ever. -/
def NatsW (w : World) (v : Value) (ps : List Nat) : Prop := ∃ a cap, v = .slice a ps.length cap ∧ ∀ k (h : k < ps.length), ∃ g off, a = some ⟨g, off, none⟩ ∧ w.cell? ⟨g, off + k, none⟩ = some (.int .i64 (ps[k] : Int))
theorem NatsW.nil (w : World) : NatsW w (.slice none 0 0) [] := ⟨none, 0, rfl, fun k h => by cases h⟩
theorem NatsW.at {w : World} {a : Option Addr} {n cap : Nat} {ps : List Nat} (h : NatsW w (.slice a n cap) ps) (k : Nat) (hk : k < ps.length) : ∃ g off, a = some ⟨g, off, none⟩ ∧ w.cell? ⟨g, off + k, none⟩ = some (.int .i64 (ps[k] : Int)) := by
  obtain ⟨a', cap', h1, h2⟩ := h
  cases h1
  exact h2 k hk
theorem NatsW.below {w w' : World} {B : Nat} {v : Value} {ps : List Nat} (h : NatsW w v ps) (hb : Below B w w') (hB : w.heap.size ≤ B) : NatsW w' v ps := by
  obtain ⟨a, cap, h1, h2⟩ := h
  refine ⟨a, cap, h1, fun k hk => ?_⟩
  obtain ⟨g, off, e, c⟩ := h2 k hk
  exact ⟨g, off, e, (hb.cell (p := ⟨g, off + k, none⟩) (Nat.lt_of_lt_of_le (World.block_lt_of_cell? _ _ c) hB)).trans c⟩

def mark : Bs := [115, 104, 117, 110, 116, 45, 108, 101, 100, 103, 101, 114, 45, 49, 33, 10]
def head0 : Bs := mark ++ List.replicate 496 0
def hfold (b : Bs) : Nat → List Nat → Bs
  | _, [] => b
  | i, a :: r => hfold (set2 b (22 + 2 * i) a) (i + 1) r
theorem hfold_snoc : ∀ (l : List Nat) (b : Bs) (i a : Nat), hfold b i (l ++ [a]) = set2 (hfold b i l) (22 + 2 * (i + l.length)) a
  | [], b, i, a => by simp [hfold]
  | c :: l, b, i, a => by
    rw [List.cons_append, hfold, hfold_snoc l, hfold, List.length_cons, show i + 1 + l.length = i + (l.length + 1) by omega]
theorem hfold_length : ∀ (l : List Nat) (b : Bs) (i : Nat), (hfold b i l).length = b.length
  | [], b, i => rfl
  | c :: l, b, i => by rw [hfold, hfold_length l, set2_length]
def headM (ps : List Nat) : Bs := hfold (set2 head0 20 ps.length) 0 ps
/-- the first block: what is under way -/
def headB (ps : List Nat) : Bs := set4 (headM ps) 16 (Crc.more 0 ((headM ps).drop 20))
theorem head0_length : head0.length = 512 := by unfold head0; rw [List.length_append, List.length_replicate]; rfl
theorem headM_length (ps : List Nat) : (headM ps).length = 512 := by rw [headM, hfold_length, set2_length, head0_length]
theorem headB_length (ps : List Nat) : (headB ps).length = 512 := by rw [headB, set4_length, headM_length]

theorem bytes_row {w : World} {g off n cap : Nat} {bs : Bs} {t : TypeId} (h : w.heap[g]? = some (.cells (u8s bs).toArray t (0, 0))) (ho : off + n = bs.length) (hc : n ≤ cap) : Bytes w (.slice (some ⟨g, off, none⟩) n cap) (bs.drop off) := by
  refine .inr ⟨g, off, cap, by simp; omega, by simp; omega, fun i v hi => ?_⟩
  rw [cell_of_row w g _ _ _ _ h]
  have : (u8s (bs.drop off))[i]? = (u8s bs)[off + i]? := by
    unfold u8s
    rw [List.map_drop, List.getElem?_drop]
  rw [this] at hi
  simpa using hi
theorem bytes_drop {w : World} {g off n cap k m c2 : Nat} {bs : Bs} (h : Bytes w (.slice (some ⟨g, off, none⟩) n cap) bs) (hm : m + k = bs.length) (hc : m ≤ c2) : Bytes w (.slice (some ⟨g, off + k, none⟩) m c2) (bs.drop k) := by
  rcases h with ⟨hh, _⟩ | ⟨b, o, c, hh, _, hcell⟩
  · cases hh
  · simp only [Value.slice.injEq, Option.some.injEq, Addr.mk.injEq] at hh
    obtain ⟨⟨rfl, rfl, _⟩, _, rfl⟩ := hh
    refine .inr ⟨g, off + k, c2, by simp; omega, by simp; omega, fun i v hi => ?_⟩
    rw [Nat.add_assoc]
    refine hcell (k + i) v ?_
    rw [← hi]
    unfold u8s
    rw [List.map_drop, List.getElem?_drop]
set_option maxHeartbeats 800000 in
theorem head_any (ps : List Nat) (v : Value) (w : World) (hp : NatsW w v ps) (h1 : ps.length ≤ 40) (h2 : ∀ x ∈ ps, x < 65536) :
    Calls Try.prog 41 #[v] w fun e w' => e = .returned (.slice (some ⟨w.heap.size, 0, none⟩) 512 512) ∧ Bytes w' (.slice (some ⟨w.heap.size, 0, none⟩) 512 512) (headB ps) ∧ Below w.heap.size w w' ∧ w.heap.size < w'.heap.size := by
  obtain ⟨a, cap, rfl, _⟩ := id hp
  have HP := Lib.hid hp
  obtain ⟨R, hR⟩ : ∃ R, headB ps = R := ⟨_, rfl⟩
  rw [hR]
  unfold headB at hR
  have HR := Lib.hid hR
  clear hR
  have HX2 := Lib.hid h2
  obtain ⟨X, hX⟩ : ∃ X, X = Obj.cells (u8s (List.replicate 512 0)).toArray 5 (0, 0) := ⟨_, rfl⟩
  have hmk : ∀ w, (Instr.makeSlice 24 (.int .i64 512) (.int .i64 512)).run Try.prog w = .ok (.slice (some ⟨w.heap.size, 0, none⟩) 512 512) (w.alloc X) := fun w => by
    have := run_make_row' (P := Try.prog) 24 5 (.int .u8 0) 1 Try.underlying24 info5 rfl .i64 .i64 512 (by omega) (by omega) w
    rw [made_u8s] at this
    rw [hX]
    exact this
  have hg0 : (w.alloc X).heap[w.heap.size]? = some X := heap_alloc_new w X
  have hcp0 := fun ty => Lib.run_copy_row_string (P := Try.prog) (w.alloc X) 24 9 ty 5 w.heap.size 0 512 512 ⟨mark.toArray⟩ (u8s (List.replicate 512 0)).toArray 5 Try.underlying24 (by kernel_rfl) (by rw [hg0, hX]) (by decide) (by rw [List.size_toArray, u8s_length, List.length_replicate]; decide)
  obtain ⟨w2, hw2⟩ : ∃ w2, w2 = (w.alloc X).setRow w.heap.size ((u8s (List.replicate 512 0)).toArray.toList.take 0 ++ Lib.byteCells (⟨mark.toArray⟩ : ByteArray).data.toList ++ (u8s (List.replicate 512 0)).toArray.toList.drop (0 + (⟨mark.toArray⟩ : ByteArray).size)).toArray := ⟨_, rfl⟩
  rw [← hw2] at hcp0
  have hrow2 : w2.heap[w.heap.size]? = some (.cells (u8s head0).toArray 5 (0, 0)) := by
    rw [hw2, setRow_heap (w.alloc X) w.heap.size _ _ 5 _ (by rw [hg0, hX])]
    congr 3
  have hk2 : Below w.heap.size w w2 := by
    rw [hw2]
    exact (((Below.refl _ w).alloc (Nat.le_refl _) X).grown (grown_setRow _ _ _) (by simp) (fun k e => by cases e; exact Nat.le_refl _))
  have hlt2 : w.heap.size < w2.heap.size := (Array.getElem?_eq_some_iff.1 hrow2).1
  have hb2 : Bytes w2 (.slice (some ⟨w.heap.size, 0, none⟩) 512 512) head0 := by
    have := bytes_row (off := 0) (n := 512) (cap := 512) hrow2 (by rw [head0_length]) (Nat.le_refl _)
    exact this
  have hf2 : ∀ i, w2.frozen? ⟨w.heap.size, i, none⟩ = false := fun i => frozen_of_row w2 _ i _ _ hrow2
  change ∀ ty, (Builtin.copy_ #[24, 9] ty #[.slice (some ⟨w.heap.size, 0, none⟩) 512 512, .string ⟨#[115, 104, 117, 110, 116, 45, 108, 101, 100, 103, 101, 114, 45, 49, 33, 10]⟩]).run Try.prog (w.alloc X) = .ok (.int .i64 16) w2 at hcp0
  obtain ⟨g, hg⟩ : ∃ g, g = w.heap.size := ⟨_, rfl⟩
  have HP1 := Lib.hid (fun w1 (hb : Bytes w1 (.slice (some ⟨g, 0, none⟩) 512 512) head0) hf => put2_any g 512 head0 20 ps.length w1 (by omega) head0_length hb hf (by omega))
  rw [← hg] at hrow2 hk2 hlt2 hb2 hf2 hcp0
  have HB2 := Lib.hid hb2
  have HF2 := Lib.hid hf2
  have HK2 := Lib.hid hk2
  have HG := Lib.hid hg
  have hmk' := hmk w
  rw [← hg] at hmk'
  rw [← hg]
  clear hmk hX hg0 hw2 hrow2 hb2 hf2 hk2 hp h2 hg
  go_enter Try.func41, Try.ntmps41
  go_wp2_with fail
  refine (HP1.out w2 HB2.out HF2.out).mono ?_
  rintro e w3 ⟨rfl, q1, q2, q3⟩
  have HB3 := Lib.hid q1
  have HF3 := Lib.hid q2
  have HK3 : Hid (Below g w w3) := HK2.out.trans (q3.below_of (Nat.le_of_lt hlt2) (fun k hk e => by omega))
  clear q1 q2 q3 HP1 hcp0
  go_wp2_with fail
  go_loopw [15] (fun i wr => ∃ k : Nat, k ≤ ps.length ∧ i = .int .i64 k ∧ Bytes wr (.slice (some ⟨g, 0, none⟩) 512 512) (hfold (set2 head0 20 ps.length) 0 (ps.take k)) ∧ (∀ i, wr.frozen? ⟨g, i, none⟩ = false) ∧ Below g w wr) (fun i _ => ps.length - (intOf i).toNat)
  case atStart => exact ⟨0, Nat.zero_le _, rfl, HB3.out, HF3.out, HK3.out⟩
  case round =>
    obtain ⟨k, hk, rfl, q1, q2, q3⟩ := hrel
    have k0 : (0 : Int) ≤ (k : Int) := by omega
    by_cases hlt : k < ps.length
    · have k1 : (k : Int) < (ps.length : Int) := by omega
      obtain ⟨g2, off, e1, hcell⟩ := (HP.out.below q3 (by have := HG.out; omega)).at k hlt
      subst e1
      have hpk : ps[k] < 65536 := HX2.out _ (List.getElem_mem hlt)
      have hp2 := put2_any g 512 _ (22 + 2 * k) ps[k] wr (by omega) (by rw [hfold_length, set2_length, head0_length]) q1 q2 (by omega)
      rw [show ((22 + 2 * k : Nat) : Int) = 22 + 2 * (k : Int) by omega] at hp2
      have HNX : Hid (set2 (hfold (set2 head0 20 ps.length) 0 (ps.take k)) (22 + 2 * k) ps[k] = hfold (set2 head0 20 ps.length) 0 (ps.take (k + 1))) := by
        show _ = _
        rw [List.take_succ_eq_append_getElem hlt, hfold_snoc, List.length_take, Nat.zero_add, Nat.min_eq_left (by omega)]
      have HP2 := Lib.hid hp2
      have HK := Lib.hid q3
      have HLT : Hid (g ≤ wr.heap.size) := by have := q3.size; have := HG.out; show _ ≤ _; omega
      clear hp2 q1 q2 q3
      generalize ps[k] = x at *
      go_wp2_with fail
      refine (HP2.out).mono ?_
      rintro e w4 ⟨rfl, q1, q2, q3⟩
      have HKN := Lib.hid (HK.out.trans (q3.below_of HLT.out (fun k hk e => by omega)))
      have HBN := Lib.hid q1
      have HFN := Lib.hid q2
      clear q1 q2 q3
      go_wp2_with fail
      go_roundw
      case rel => exact ⟨k + 1, by omega, by go_num, by rw [← HNX.out]; exact HBN.out, HFN.out, HKN.out⟩
      case measure => simp [intOf]; omega
    · obtain rfl : k = ps.length := by omega
      rw [List.take_length] at q1
      change Bytes wr (.slice (some ⟨g, 0, none⟩) 512 512) (headM ps) at q1
      have hcr := crc_any (.slice (some ⟨g, 20, none⟩) 492 492) ((headM ps).drop 20) wr (by
        have := bytes_drop (k := 20) (m := 492) (c2 := 492) q1 (by rw [headM_length]) (Nat.le_refl _)
        rwa [Nat.zero_add] at this) (by rw [List.length_drop, headM_length]; omega)
      have hcl : Crc.more 0 ((headM ps).drop 20) < 4294967296 := Crc.more_lt (by decide) _
      have HP4 := Lib.hid (fun w1 hb hf => put4_any g 512 (headM ps) 16 (Crc.more 0 ((headM ps).drop 20)) w1 (by omega) (headM_length ps) hb hf hcl)
      have HCR := Lib.hid hcr
      have HK := Lib.hid q3
      have HBW := Lib.hid q1
      have HFW := Lib.hid q2
      have HLT : Hid (g < wr.heap.size) := by
        exact World.block_lt_of_cell? _ _ (bytes_cell q1 (k := 0) (by rw [headM_length]; omega))
      clear hcr q1 q2 q3
      generalize Crc.more 0 ((headM ps).drop 20) = cr at *
      go_wp2_with fail
      refine (HCR.out).mono ?_
      rintro e w4 ⟨rfl, q3⟩
      have HK4 := Lib.hid (HK.out.trans (q3.mono (Nat.le_of_lt HLT.out)))
      have HB4 := Lib.hid (RowAt.below HBW.out q3 (Nat.le_refl _))
      have HF4 : Hid (∀ i, w4.frozen? ⟨g, i, none⟩ = false) := fun i => (q3.frozen (p := ⟨g, i, none⟩) HLT.out).trans (HFW.out i)
      have HS4 : Hid (g < w4.heap.size) := Nat.lt_of_lt_of_le HLT.out q3.size
      clear q3
      go_wp2_with fail
      refine (HP4.out w4 HB4.out HF4.out).mono ?_
      rintro e w5 ⟨rfl, q1, q2, q3⟩
      have HK5 := Lib.hid (HK4.out.trans (q3.below_of (Nat.le_of_lt HS4.out) (fun k hk e => by omega)))
      have HB5 := Lib.hid q1
      have HS5 : Hid (g < w5.heap.size) := Nat.lt_of_lt_of_le HS4.out q3.size
      clear q1 q2 q3
      go_wp2_with fail
      go_ret
      exact ⟨rfl, by rw [← HR.out]; exact HB5.out, HK5.out, HS5.out⟩
end Go.Proofs.Ythfncgbkigmmcaa
