/- A Hash that has digested m: New, Add, Sum, Size, SHA. Conditions: fewer than 10^12 bytes. -/
import Derived.Test.YthkjihfnphdfkaaSSum
namespace Go.Proofs.Ythkjihfnphdfkaa.Sha
open Go.RowKit

def full64 (m : List UInt8) : Nat := m.length / 64
def rest64 (m : List UInt8) : List UInt8 := m.drop (64 * (m.length / 64))
theorem rest64_length (m : List UInt8) : (rest64 m).length = m.length % 64 := by unfold rest64; rw [List.length_drop]; omega
/-- The SHA-256 of m. -/
def padded (m : List UInt8) : List UInt8 := m ++ tailB (m.length % 64) m.length
def shaOf (m : List UInt8) : Array Value := digOf (ivSt.pieces (padded m) ((padded m).length / 64))

theorem sum_sha (m : List UInt8) : sumD (ivSt.pieces m (full64 m)) (rest64 m) m.length = shaOf m := by
  unfold sumD shaOf
  rw [rest64_length]
  have h1 : ivSt.pieces m (full64 m) = ivSt.pieces (padded m) (full64 m) := by
    unfold padded full64
    rw [St.pieces_append _ _ _ _ (by omega)]
  have h2 : rest64 m ++ tailB (m.length % 64) m.length = (padded m).drop (64 * full64 m) := by
    unfold padded full64 rest64
    rw [List.drop_append_of_le_length (by omega)]
  rw [h1, h2, St.pieces_add]
  congr 2
  rw [List.length_drop]
  have : 64 * full64 m ≤ (padded m).length := by unfold padded full64; rw [List.length_append]; omega
  omega
theorem add_pieces (m b : List UInt8) : (ivSt.pieces m (full64 m)).pieces (rest64 m ++ b) ((rest64 m ++ b).length / 64) = ivSt.pieces (m ++ b) (full64 (m ++ b)) := by
  have h1 : ivSt.pieces m (full64 m) = ivSt.pieces (m ++ b) (full64 m) := by
    unfold full64
    rw [St.pieces_append _ _ _ _ (by omega)]
  have h2 : rest64 m ++ b = (m ++ b).drop (64 * full64 m) := by
    unfold full64 rest64
    rw [List.drop_append_of_le_length (by omega)]
  rw [h1, h2, St.pieces_add]
  congr 1
  unfold full64
  rw [List.length_drop, List.length_append]
  omega
theorem add_rest (m b : List UInt8) : (rest64 m ++ b).drop (64 * ((rest64 m ++ b).length / 64)) = rest64 (m ++ b) := by
  have h2 : rest64 m ++ b = (m ++ b).drop (64 * full64 m) := by
    unfold full64 rest64
    rw [List.drop_append_of_le_length (by omega)]
  rw [h2, List.drop_drop]
  unfold rest64 full64
  congr 1
  rw [List.length_drop, List.length_append]
  omega

/-- The Hash at p has digested m; what fills no piece lies in memory of its own, not below lim. -/
structure Digested (w : World) (p lim : Nat) (m : List UInt8) (v : Value) : Prop where
  hash : IsHash w p (ivSt.pieces m (full64 m)).row v (m.length : Int)
  own : w.ownsRow lim 5 1 v (rest64 m).length (u8s (rest64 m))
  low : lim ≤ w.heap.size
  none : rest64 m = [] → v = .slice none 0 0

theorem Digested.kept {w w' : World} {p lim : Nat} {m : List UInt8} {v : Value} (h : Digested w p lim m v) {S : Nat → Prop} (hk : Keeps S w w') (hp : ¬ S p) (hv : ∀ k, v.ownBlock = some k → ¬ S k) : Digested w' p lim m v :=
  ⟨h.hash.keeps hk hp, owns_kept h.own (fun k hk' hl => hk.block k hl (hv k hk')), Nat.le_trans h.low hk.size, h.none⟩
theorem Digested.below {w w' : World} {p lim : Nat} {m : List UInt8} {v : Value} (h : Digested w p lim m v) (hb : Below w.heap.size w w') : Digested w' p lim m v :=
  h.kept (Keeps.of_below (S := fun _ => False) hb) id (fun _ _ => id)
theorem Digested.lt {w : World} {p lim : Nat} {m : List UInt8} {v : Value} (h : Digested w p lim m v) : p < w.heap.size := h.hash.lt
theorem Digested.vlow {w : World} {p lim : Nat} {m : List UInt8} {v : Value} (h : Digested w p lim m v) : ∀ k, v.ownBlock = some k → lim ≤ k := by
  intro k hk
  rcases owns_shape h.own with ⟨h', _⟩ | ⟨g, cap, h', _, _, hg, _⟩
  · rw [h'] at hk; cases hk
  · rw [h'] at hk; simp [Value.ownBlock] at hk; omega
theorem Digested.vlt {w : World} {p lim : Nat} {m : List UInt8} {v : Value} (h : Digested w p lim m v) : ∀ k, v.ownBlock = some k → k < w.heap.size := by
  intro k hk
  rcases owns_shape h.own with ⟨h', _⟩ | ⟨g, cap, h', _, _, hg, hlt⟩
  · rw [h'] at hk; cases hk
  · rw [h'] at hk; simp [Value.ownBlock] at hk; omega

theorem new_dig (w : World) : Calls Try.prog 30 #[] w fun e w' => e = .returned (.pointer (some ⟨w.heap.size, 0, none⟩)) ∧ Digested w' w.heap.size w.heap.size [] (.slice none 0 0) ∧ Below w.heap.size w w' :=
  (new_any w).mono fun _ _ ⟨he, hh, hb⟩ => ⟨he, ⟨hh, World.ownsRow_nil _ _ _ _, hb.size, fun _ => rfl⟩, hb⟩

/-- What Add gives. -/
def Grew (w w' : World) (p : Nat) (m : List UInt8) (v : Value) : Prop := ∃ v', Digested w' p w.heap.size m v' ∧ Keeps (fun k => k = p ∨ v.ownBlock = some k) w w'

theorem add_dig {w : World} {p lim : Nat} {m : List UInt8} {v : Value} (h : Digested w p lim m v) (bv : Value) (b : List UInt8) (hb : Bytes w bv b) (hm : m.length ≤ 1000000000000) (hbl : b.length ≤ 1000000000000) :
    Calls Try.prog 31 #[.pointer (some ⟨p, 0, none⟩), bv] w fun e w' => e = .returned (.tuple #[]) ∧ Grew w w' p (m ++ b) v := by
  have hr : (rest64 m).length ≤ 1000000000000 := by rw [rest64_length]; omega
  refine (add_any p lim (rest64 m) b (ivSt.pieces m (full64 m)) v bv m.length w (St.pieces_ok iv_ok _ _) h.hash h.own h.low hb (by omega) (by omega) hr hbl).mono ?_
  rintro e w' ⟨rfl, v', hh, ho, hk, hn⟩
  rw [add_pieces] at hh
  rw [add_rest] at ho hn
  refine ⟨rfl, v', ⟨?_, ho, hk.size, hn⟩, hk⟩
  rw [List.length_append, Int.natCast_add]
  exact hh

theorem sum_dig {w : World} {p lim : Nat} {m : List UInt8} {v : Value} (h : Digested w p lim m v) (hm : m.length ≤ 1000000000000) :
    Calls Try.prog 32 #[.pointer (some ⟨p, 0, none⟩)] w fun e w' => e = .returned (.agg (shaOf m)) ∧ Below w.heap.size w w' := by
  have hr : (rest64 m).length < 64 := by rw [rest64_length]; omega
  rw [← sum_sha]
  refine sum_any p lim (rest64 m) (ivSt.pieces m (full64 m)) v m.length w (St.pieces_ok iv_ok _ _) h.hash h.own hr hm ?_
  rcases owns_shape h.own with ⟨h', h0⟩ | ⟨g, cap, h', _⟩
  · exact .inl ⟨List.length_eq_zero_iff.1 h0, h'⟩
  · refine .inr ⟨?_, g, cap, h'⟩
    rcases Nat.eq_zero_or_pos (rest64 m).length with h0 | h0
    · have := h.none (List.length_eq_zero_iff.1 h0)
      rw [this] at h'
      cases h'
    · exact h0

theorem info30 : (Try.prog.info? 54).map (·.size) = some 32 := by kernel_rfl
theorem shaOf_size (m : List UInt8) : (Try.prog.info? 54).map (·.size) = some (shaOf m).size := by
  have : (shaOf m).size = 32 := by unfold shaOf digOf; rw [List.size_toArray, List.length_map, digTo_length]
  rw [this]
  exact info30
theorem shaOf_one (m : List UInt8) : (shaOf m).all (·.oneCell') = true := all_oneCell_toArray (fun u hu => by
  simp only [List.mem_map] at hu
  obtain ⟨x, _, rfl⟩ := hu
  rfl)
theorem shaOf_old (m : List UInt8) : (List.replicate 32 (Value.int .u8 0)).toArray.size = (shaOf m).size := by
  unfold shaOf digOf; simp [digTo_length]

set_option maxHeartbeats 400000 in
theorem sha_any (v : Value) (b : List UInt8) (w : World) (hv : Bytes w v b) (hb : b.length ≤ 1000000000000) :
    Calls Try.prog 28 #[v] w fun e w' => e = .returned (.agg (shaOf b)) ∧ Below w.heap.size w w' := by
  obtain ⟨a, cap, hs, _⟩ := RowAt.shape hv
  subst hs
  simp only [u8s_length] at *
  have HV := Lib.hid hv
  clear hv
  go_enter Try.func28, Try.ntmps28
  go_wp2_with fail
  have hbA : Below w.heap.size w (w.alloc (.cells (List.replicate 32 (.int .u8 0)).toArray 54 (0, 0))) := (Below.refl _ _).alloc (Nat.le_refl _) _
  have hrA := heap_alloc_new w (.cells (List.replicate 32 (.int .u8 0)).toArray 54 (0, 0))
  change Calls _ _ _ (w.alloc (.cells (List.replicate 32 (.int .u8 0)).toArray 54 (0, 0))) _
  generalize (w.alloc (.cells (List.replicate 32 (.int .u8 0)).toArray 54 (0, 0))) = wA at hbA hrA ⊢
  have HBA := Lib.hid hbA
  have HRA := Lib.hid hrA
  clear hbA hrA
  refine (new_dig wA).mono ?_
  rintro e w1 ⟨rfl, hd1, hb1⟩
  have HD := Lib.hid hd1
  have HB1 := Lib.hid hb1
  clear hd1 hb1
  go_wp2_with fail
  refine (add_dig HD.out _ b (RowAt.below HV.out (HBA.out.trans (HB1.out.mono HBA.out.size)) (Nat.le_refl _)) (by simp) hb).mono ?_
  rintro e w2 ⟨rfl, v2, hd2, hk2⟩
  have hlt : w.heap.size < wA.heap.size := (Array.getElem?_eq_some_iff.1 HRA.out).1
  have hb2 : Below wA.heap.size wA w2 := HB1.out.trans (hk2.below_of HB1.out.size (fun k hk h => by
    rcases h with rfl | h
    · omega
    · cases h))
  rw [List.nil_append] at hd2
  have HS := Lib.hid (sum_dig hd2 hb)
  clear hd2 hk2
  go_wp2_with fail
  refine HS.out.mono ?_
  rintro e w3 ⟨rfl, hb3⟩
  have hb3' : Below wA.heap.size wA w3 := hb2.trans (hb3.mono hb2.size)
  have hr3 := (hb3'.block _ hlt).trans HRA.out
  clear hb3 hb2
  have HD3 := Lib.hid hr3
  have HZ := Lib.hid (shaOf_size b)
  have HO := Lib.hid (shaOf_one b)
  have HL := Lib.hid (shaOf_old b)
  clear hr3
  generalize hDD : shaOf b = D at *
  have HDD := Lib.hid hDD
  clear hDD
  go_wp2_with (refine wpList_store_row_to rfl 54 _ _ rfl w.heap.size D rfl rfl 54 _ HD3.out HZ.out HL.out HO.out ?_)
  intro w6 hr6 hb6
  go_wp2_with fail
  (try simp only [Exit.inBlock, Exit.then])
  refine bodyPost_ret (results_cell_row rfl _ _ w.heap.size 54 D (0, 0) (.array 32 5) rfl hr6 (by kernel_rfl) rfl HZ.out) rfl ?_
  exact ⟨by rw [HDD.out], (HBA.out.trans (hb3'.mono HBA.out.size)).trans (hb6 _ (Nat.le_refl _))⟩
end Go.Proofs.Ythkjihfnphdfkaa.Sha
