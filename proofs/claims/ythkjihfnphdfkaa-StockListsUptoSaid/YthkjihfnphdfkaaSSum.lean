/- Sum: the walk. -/
import Derived.Test.YthkjihfnphdfkaaSAdd
import Derived.Test.YthkjihfnphdfkaaSIx
import Derived.Deep.AppendLies
import Derived.Deep.RegionLaw
import Derived.Deep.Cut
namespace Go.Proofs.Ythkjihfnphdfkaa.Sha
open Go.RowKit

/-- So many zeros. -/
def padK (n : Nat) : Nat := (119 - n) % 64
theorem padK_lt (n : Nat) : padK n < 64 := Nat.mod_lt _ (by decide)
theorem padK_end (n : Nat) (h : n < 64) : (n + (padK n + 1)) % 64 = 56 := by unfold padK; omega
theorem padK_not (n k : Nat) (h : n < 64) (hk : k < padK n) : (n + (k + 1)) % 64 ≠ 56 := by unfold padK at hk; omega
/-- the eight bytes of a length in bits. -/
def lenB (n : Nat) (i : Nat) : UInt8 := UInt8.ofNat (n * 8 / 2 ^ (56 - 8 * i))
def padE (n k : Nat) : Prop := (n + (k + 1 + 8)) % 64 = 0
theorem padE_padK (n : Nat) (h : n < 64) : padE n (padK n) := by unfold padE padK; omega
theorem lenB_u8 (n j : Nat) : u8 (lenB n j) = .int .u8 ((n : Int) * 8 / 2 ^ (56 - 8 * j) % 256) := by
  unfold u8 lenB
  rw [UInt8.toNat_ofNat']
  congr 1
def b8 (x : Int) : Value := .int .u8 x
/-- a row of 32 bytes. -/
def IsB (w : World) (q : Nat) (ws : List Int) : Prop := w.heap[q]? = some (.cells (ws.map b8).toArray 54 (0, 0))
theorem IsB.cell {w : World} {g : Nat} {ws : List Int} (h : IsB w g ws) (i : Nat) (hi : i < ws.length) : w.cell? ⟨g, i, none⟩ = some (.int .u8 ws[i]) := by
  rw [cell_of_row w g i _ _ _ h]
  simp [hi, b8]
theorem IsB.free {w : World} {g : Nat} {ws : List Int} (h : IsB w g ws) (i : Nat) : w.frozen? ⟨g, i, none⟩ = false := frozen_of_row w g i _ _ h
theorem IsB.set {w : World} {g : Nat} {ws : List Int} (h : IsB w g ws) (i : Nat) (x : Int) : IsB (w.setCell ⟨g, i, none⟩ (.int .u8 x)) g (ws.set i x) := by
  unfold IsB
  rw [heap_setCell_same w g i _ 54 _ h]
  congr 2
  simp [b8, List.map_set]
/-- byte j of a digest. -/
def digB (L : List Int) (j : Nat) : Int := L.getD (j / 4) 0 / 2 ^ (24 - 8 * (j % 4)) % 256
def digTo (L : List Int) : Nat → List Int
  | 0 => List.replicate 32 0
  | j + 1 => (digTo L j).set j (digB L j)
theorem digTo_succ (L : List Int) (j : Nat) : digTo L (j + 1) = (digTo L j).set j (digB L j) := rfl
theorem digTo_length (L : List Int) : ∀ j, (digTo L j).length = 32
  | 0 => by simp [digTo]
  | j + 1 => by rw [digTo, List.length_set, digTo_length L j]
theorem digB_at (L : List Int) (k m : Nat) (hm : m < 4) : digB L (4 * k + m) = L.getD k 0 / 2 ^ (24 - 8 * m) % 256 := by
  unfold digB
  rw [show (4 * k + m) / 4 = k by omega, show (4 * k + m) % 4 = m by omega]
/-- The bytes that end a message of n bytes, of which rl fill no piece. -/
def tailB (rl n : Nat) : List UInt8 := 128 :: List.replicate (padK rl) 0 ++ (List.range 8).map (lenB n)
def digOf (s : St) : Array Value := ((digTo s.row 32).map b8).toArray
def sumD (s : St) (rs : List UInt8) (n : Nat) : Array Value := digOf (s.pieces (rs ++ tailB rs.length n) ((rs ++ tailB rs.length n).length / 64))
theorem sumD_eq {s s4 : St} {rs E : List UInt8} {n K : Nat} {L : List Int} {D : Array Value} (hk : padK rs.length = K) (he : 128 :: List.replicate K 0 ++ (List.range 8).map (lenB n) = E)
    (h4 : s.pieces (rs ++ E) ((rs ++ E).length / 64) = s4) (hl : s4.row = L) (hd : ((digTo L 32).map b8).toArray = D) : sumD s rs n = D := by
  subst hk he h4 hl hd
  rfl
def lenOf : Value → Nat
  | .slice _ n _ => n
  | _ => 0

set_option maxRecDepth 10000 in
set_option maxHeartbeats 1600000 in
theorem sum_any (p lim : Nat) (rs : List UInt8) (s : St) (v : Value) (n : Nat) (w : World) (hok : s.ok) (hp : IsHash w p s.row v n) (hown : w.ownsRow lim 5 1 v rs.length (u8s rs))
    (hrs : rs.length < 64) (hn : n ≤ 1000000000000) (hv : (rs = [] ∧ v = .slice none 0 0) ∨ (0 < rs.length ∧ ∃ g cap, v = .slice (some ⟨g, 0, none⟩) rs.length cap)) :
    Calls Try.prog 32 #[.pointer (some ⟨p, 0, none⟩)] w fun e w' => e = .returned (.agg (sumD s rs n)) ∧ Below w.heap.size w w' := by
  obtain ⟨i0, hi, hz0, hz1, hz2⟩ := info_parts info5
  have HP := Lib.hid hp
  have HO := Lib.hid hown
  have HOK := Lib.hid hok
  have hplt := hp.lt
  clear hp hown hok
  go_enter Try.func32, Try.ntmps32
  go_upto_region 1 with (fail)
  rename_i K hK
  have hszA : (w.alloc (.cells (List.replicate 32 (.int .u8 0)).toArray 54 (0, 0))).heap.size = w.heap.size + 1 := by simp
  have hbA : Below w.heap.size w (w.alloc (.cells (List.replicate 32 (.int .u8 0)).toArray 54 (0, 0))) := (Below.refl _ _).alloc (Nat.le_refl _) _
  have hrA := heap_alloc_new w (.cells (List.replicate 32 (.int .u8 0)).toArray 54 (0, 0))
  change Code.wp _ _ _ _ (w.alloc (.cells (List.replicate 32 (.int .u8 0)).toArray 54 (0, 0)))
  generalize (w.alloc (.cells (List.replicate 32 (.int .u8 0)).toArray 54 (0, 0))) = wA at hszA hbA hrA ⊢
  have HPA := Lib.hid (HP.out.below hbA hplt)
  have HRA := Lib.hid hrA
  have HBA := Lib.hid hbA
  clear hrA
  have key : ∀ (v2 : Value) (p2 : Nat) (w1 : World) (x10 x11 x12 x13 x14 x15 x16 x17 x18 x19 x20 : Value), IsHash w1 p2 s.row v2 0 → w1.ownsRow w.heap.size 5 1 v2 rs.length (u8s rs) → Below w.heap.size w w1 → w.heap.size < p2 → w1.heap[w.heap.size]? = some (.cells (List.replicate 32 (.int .u8 0)).toArray 54 (0, 0)) →
      K ⟨#[.pointer (some ⟨p, 0, none⟩), undef, .pointer (some ⟨w.heap.size, 0, none⟩), .pointer (some ⟨p2, 0, none⟩), undef, undef, undef, undef, undef, undef, x10, x11, x12, x13, x14, x15, x16, x17, x18, x19, x20, undef, undef, undef, undef, undef, undef, undef, undef, undef, undef, undef, undef, undef, undef, undef, undef, undef, undef, undef, undef, undef, undef, undef, undef, undef, undef, undef, undef, undef, undef, undef, undef, undef, undef, undef, undef, undef, undef, undef, undef, undef, undef, undef, undef, undef, undef, undef, undef, undef, undef, undef, undef, undef, undef, undef, undef, undef, undef, undef, undef], []⟩ w1 := by
    intro v2 p2 w1 x10 x11 x12 x13 x14 x15 x16 x17 x18 x19 x20 hp2 hown2 hb1 hlt1 hres1
    have HR1 := Lib.hid hres1
    clear hres1
    have hsh : ∃ a c, v2 = .slice a rs.length c := by
      rcases owns_shape hown2 with ⟨rfl, h⟩ | ⟨g, cap, rfl, _⟩
      · exact ⟨none, 0, by rw [h]⟩
      · exact ⟨_, _, rfl⟩
    obtain ⟨av, cv, rfl⟩ := hsh
    have c8 := hp2.cell8 rfl
    have HP2 := Lib.hid hp2
    have HO2 := Lib.hid hown2
    have HB1 := Lib.hid hb1
    have HEND := Lib.hid (row_new w1 #[.int .u8 128] 5 (0, 0) 1 (Nat.le_refl _))
    have HL := Lib.hid hrs
    clear hp2 hown2 hb1 hrs
    apply hK
    go_wp2_with fail
    go_loopw [4] (fun e wr => ∃ k : Nat, k ≤ padK rs.length ∧ wr.ownsRow w1.heap.size 5 1 e (k + 1) (u8s (128 :: List.replicate k 0)) ∧ Below w1.heap.size w1 wr) (fun e _ => 70 - lenOf e)
    case atStart =>
      refine ⟨0, Nat.zero_le _, ⟨rfl, .inr ⟨w1.heap.size, 1, _, rfl, Nat.le_refl _, heap_alloc_new w1 _, Nat.le_refl _, by decide, rfl, rfl⟩⟩, (Below.refl _ _).alloc (Nat.le_refl _) _⟩
    case round =>
      obtain ⟨k, hk, hoe, hbe⟩ := hrel
      rcases owns_shape hoe with ⟨_, h⟩ | ⟨ge, ce, rfl, _, _, hge, hgl⟩
      · omega
      have c8r := (HP2.out.below hbe HP2.out.lt).cell8 rfl
      have hrl : rs.length < 64 := HL.out
      have hk64 := padK_lt rs.length
      have HOE := Lib.hid hoe
      have HBE := Lib.hid hbe
      clear hoe hbe
      by_cases hlt : k < padK rs.length
      · have hb : (((rs.length : Int) + ((k : Int) + 1)) % 64 != 56) = true := by
          have := padK_not rs.length k hrl hlt
          simp only [bne_iff_ne, ne_eq]
          omega
        have b3 : k + 1 + [Value.int .u8 0].length ≤ maxLen := by simp only [List.length_singleton]; unfold maxLen; omega
        have b4 : (k + 1 + [Value.int .u8 0].length) * 1 ≤ 140737488355328 := by simp only [List.length_singleton]; omega
        have B3 := Lib.hid b3
        have B4 := Lib.hid b4
        clear b3 b4
        go_wp2_with (at_builtin; refine wpList_append_row rfl (.tmp 32) (.tmp 33) 28 rfl w1.heap.size 5 i0 (.int .u8 0) 1 Try.underlying28 hi hz0 hz1 hz2 rfl _ _ _ rfl (owns_below HOE.out ((Below.refl wr.heap.size wr).alloc (Nat.le_refl _) _)) _ [.int .u8 0] rfl (row_new wr #[.int .u8 0] 5 (0, 0) 1 (Nat.le_refl _)) (by simp [Value.oneCell']) B3.out B4.out (by have := HBE.out.size; simp; omega) ?_)
        intro v3 w3 hown3 hgrow3 hnil3
        go_wp2_with fail
        have hlen : lenOf v3 = k + 2 := by
          rcases owns_shape hown3 with ⟨_, h⟩ | ⟨g3, c3, rfl, _⟩
          · simp at h
          · simp [lenOf]
        go_roundw
        case rel =>
          refine ⟨k + 1, by omega, ?_, (HBE.out.alloc HBE.out.size _).grown hgrow3 (by have := HBE.out.size; simp; omega) (by simp [Value.ownBlock, hge])⟩
          have e : u8s (128 :: List.replicate (k + 1) 0) = u8s (128 :: List.replicate k 0) ++ [.int .u8 0] := by
            rw [List.replicate_succ', ← List.cons_append, u8s_append]
            rfl
          rw [e]
          simpa using hown3
        case measure => simp only [hlen]; simp [lenOf]; omega
      · have hke : k = padK rs.length := by omega
        have he : ((rs.length : Int) + ((k : Int) + 1)) % 64 = 56 := by
          have := padK_end rs.length hrl
          rw [hke]
          omega
        have hb : (((rs.length : Int) + ((k : Int) + 1)) % 64 != 56) = false := by rw [he]; rfl
        clear he
        go_wp2_with fail
        subst hke
        clear hlt hk hb
        generalize (((rs.length : Int) + ((padK rs.length : Int) + 1)) % 64 != 56) = B0
        go_loopw [4, 35] (fun e i wr' => ∃ j : Nat, j ≤ 8 ∧ i = .int .i64 j ∧ wr'.ownsRow w1.heap.size 5 1 e (padK rs.length + 1 + j) (u8s (128 :: List.replicate (padK rs.length) 0 ++ (List.range j).map (lenB n))) ∧ Below w1.heap.size w1 wr') (fun _ i _ => 8 - (intOf i).toNat)
        case atStart => exact ⟨0, by omega, rfl, by simpa using HOE.out, HBE.out⟩
        case round =>
          obtain ⟨j, hj8, rfl, hoe, hbe⟩ := hrel
          rcases owns_shape hoe with ⟨_, h⟩ | ⟨ge, ce, rfl, _, _, hge, hgl⟩
          · omega
          have c9 := (HP.out.below (HB1.out.trans (hbe.mono HB1.out.size)) hplt).cell9 rfl
          have HOE2 := Lib.hid hoe
          have HBE2 := Lib.hid hbe
          clear hoe hbe
          have HKE := Lib.hid (padE_padK rs.length HL.out)
          generalize hKK : padK rs.length = K at *
          have HKK := Lib.hid hKK
          clear hKK
          by_cases hlt : j < 8
          · have t0 : (0 : Int) ≤ 56 - 8 * (j : Int) := by omega
            have t1 : 56 - 8 * (j : Int) ≤ 64 := by omega
            have t2 : (56 - 8 * (j : Int)).toNat = 56 - 8 * j := by omega
            have hx := Lib.hid (lenB_u8 n j)
            generalize hxx : (n : Int) * 8 / 2 ^ (56 - 8 * j) % 256 = X at *
            have b3 : K + 1 + j + [Value.int .u8 X].length ≤ maxLen := by simp only [List.length_singleton]; unfold maxLen; omega
            have b4 : (K + 1 + j + [Value.int .u8 X].length) * 1 ≤ 140737488355328 := by simp only [List.length_singleton]; omega
            have B3 := Lib.hid b3
            have B4 := Lib.hid b4
            clear b3 b4
            go_wp2_with (at_builtin; refine wpList_append_row rfl (.tmp 38) (.tmp 50) 28 rfl w1.heap.size 5 i0 (.int .u8 0) 1 Try.underlying28 hi hz0 hz1 hz2 rfl _ _ _ rfl (owns_below HOE2.out ((Below.refl _ _).alloc (Nat.le_refl _) _)) _ [.int .u8 X] rfl (row_new _ #[.int .u8 X] 5 (0, 0) 1 (Nat.le_refl _)) (by simp [Value.oneCell']) B3.out B4.out (by have := HBE2.out.size; simp; omega) ?_)
            intro v3 w3 hown3 hgrow3 hnil3
            go_wp2_with fail
            go_roundw
            case rel =>
              refine ⟨j + 1, by omega, by go_num, ?_, (HBE2.out.alloc HBE2.out.size _).grown hgrow3 (by have := HBE2.out.size; simp; omega) (by simp [Value.ownBlock, hge])⟩
              have e : u8s (128 :: List.replicate K 0 ++ (List.range (j + 1)).map (lenB n)) = u8s (128 :: List.replicate K 0 ++ (List.range j).map (lenB n)) ++ [.int .u8 X] := by
                rw [List.range_succ, List.map_append, ← List.append_assoc, u8s_append]
                congr 1
                simp only [List.map_cons, List.map_nil, u8s, hx.out]
              rw [e]
              simpa [Nat.add_assoc] using hown3
            case measure => simp [intOf]; omega
          · have hje : j = 8 := by omega
            subst hje
            have hKe : padE rs.length K := HKE.out
            have HEL : Hid ((128 :: List.replicate K 0 ++ (List.range 8).map (lenB n)).length = K + 1 + 8) := by show _ = _; simp
            have hle1 : w.heap.size ≤ wr.heap.size := Nat.le_trans HB1.out.size HBE2.out.size
            have HA := Lib.hid (add_any p2 w.heap.size rs (128 :: List.replicate K 0 ++ (List.range 8).map (lenB n)) s (.slice av rs.length cv) (.slice (some ⟨ge, 0, none⟩) (K + 1 + 8) ce) 0 wr HOK.out (HP2.out.below HBE2.out HP2.out.lt) (owns_below HO2.out HBE2.out) hle1 (RowAt.of_owns HOE2.out) (Int.le_refl 0) (by decide) (by omega) (by rw [HEL.out]; omega))
            generalize hEE : (128 :: List.replicate K 0 ++ (List.range 8).map (lenB n)) = E at *
            have HEE := Lib.hid hEE
            clear hEE
            go_wp2_with fail
            refine HA.out.mono ?_
            rintro e w4 ⟨rfl, v4, hh4, ho4, hk4, _⟩
            have hkb : Below w.heap.size w w4 := (HB1.out.trans (HBE2.out.mono HB1.out.size)).trans (hk4.below_of hle1 (fun i hi ho => by
              rcases ho with rfl | ho
              · omega
              · rcases owns_shape HO2.out with ⟨h, _⟩ | ⟨g0, c0, h, _, _, hg0, _⟩
                · rw [h] at ho; cases ho
                · rw [h] at ho; simp [Value.ownBlock] at ho; omega))
            have HH4 := Lib.hid hh4
            have HKB := Lib.hid hkb
            have hn5 : (Value.slice av rs.length cv).ownBlock ≠ some w.heap.size := by
              intro he
              rcases HO2.out.2 with ⟨h, _⟩ | ⟨g0, c0, cu, h, _, hg0, _⟩
              · rw [h] at he; cases he
              · rw [h] at he
                simp [Value.ownBlock] at he
                subst he
                rw [HR1.out] at hg0
                simp at hg0
            have hw1lt : w.heap.size < w1.heap.size := (Array.getElem?_eq_some_iff.1 HR1.out).1
            have HR4 : Hid (w4.heap[w.heap.size]? = some (.cells (List.replicate 32 (.int .u8 0)).toArray 54 (0, 0))) := by
              show _ = _
              rw [hk4.block w.heap.size (by have := HBE2.out.size; omega) (fun ho => ho.elim (fun e => by omega) (fun e => hn5 e)), HBE2.out.block _ hw1lt, HR1.out]
            have hw4lt : w.heap.size < w4.heap.size := (Array.getElem?_eq_some_iff.1 HR4.out).1
            clear hh4 ho4 hk4 hkb hn5
            generalize hS4 : s.pieces (rs ++ E) ((rs ++ E).length / 64) = s4 at *
            have HS4 := Lib.hid hS4
            clear hS4
            go_upto_region 12 with (fail)
            have hszB : (w4.alloc (.cells (List.replicate 32 (.int .u8 0)).toArray 54 (0, 0))).heap.size = w4.heap.size + 1 := by simp
            have hbB : Below w4.heap.size w4 (w4.alloc (.cells (List.replicate 32 (.int .u8 0)).toArray 54 (0, 0))) := (Below.refl _ _).alloc (Nat.le_refl _) _
            have hrB := heap_alloc_new w4 (.cells (List.replicate 32 (.int .u8 0)).toArray 54 (0, 0))
            change Code.wp _ _ _ _ (w4.alloc (.cells (List.replicate 32 (.int .u8 0)).toArray 54 (0, 0)))
            generalize (w4.alloc (.cells (List.replicate 32 (.int .u8 0)).toArray 54 (0, 0))) = wB at hszB hbB hrB ⊢
            have HHB := Lib.hid (HH4.out.below hbB HH4.out.lt)
            have HRB := Lib.hid hrB
            have HBB := Lib.hid hbB
            clear hrB hbB
            obtain ⟨sa, sb, sc, sd, se, sf, sg, sh⟩ := s4
            have d0 := HHB.out.cell 0 (by simp [St.row])
            have d1 := HHB.out.cell 1 (by simp [St.row])
            have d2 := HHB.out.cell 2 (by simp [St.row])
            have d3 := HHB.out.cell 3 (by simp [St.row])
            have d4 := HHB.out.cell 4 (by simp [St.row])
            have d5 := HHB.out.cell 5 (by simp [St.row])
            have d6 := HHB.out.cell 6 (by simp [St.row])
            have d7 := HHB.out.cell 7 (by simp [St.row])
            simp only [St.row, List.getElem_cons_zero, List.getElem_cons_succ] at d0 d1 d2 d3 d4 d5 d6 d7
            go_wp2_with fail
            generalize hLL : [sa, sb, sc, sd, se, sf, sg, sh] = L at *
            have HLL := Lib.hid hLL
            have HRW : Hid (St.row ⟨sa, sb, sc, sd, se, sf, sg, sh⟩ = L) := hLL
            clear hLL
            have HDS := Lib.hid (fun j => digTo_succ L j)
            go_loopw [60] (fun i wr3 => ∃ k : Nat, k ≤ 8 ∧ i = .int .i64 k ∧ Below w4.heap.size w4 wr3 ∧ IsB wr3 w4.heap.size (digTo L (4 * k))) (fun i _ => 8 - (intOf i).toNat)
            case atStart => exact ⟨0, by omega, rfl, HBB.out, HRB.out⟩
            case round =>
              obtain ⟨k, hk8, rfl, hb5, hd5⟩ := hrel
              by_cases hlt : k < 8
              · have hix := fun W => run_index8 W sa sb sc sd se sf sg sh k hlt
                simp only [HLL.out] at hix
                have HDB : Hid (∀ m, m < 4 → digB L (4 * k + m) = L.getD k 0 / 2 ^ (24 - 8 * m) % 256) := fun m hm => digB_at L k m hm
                generalize L.getD k 0 = x at *
                have k0 : (0 : Int) ≤ (k : Int) := by omega
                have k1 : (k : Int) < 8 := by omega
                go_wp2_with fail
                go_loopw [64] (fun i wr6 => ∃ m : Nat, m ≤ 4 ∧ i = .int .i64 m ∧ Below w4.heap.size w4 wr6 ∧ IsB wr6 w4.heap.size (digTo L (4 * k + m))) (fun i _ => 4 - (intOf i).toNat)
                case atStart => exact ⟨0, by omega, rfl, hb5, hd5⟩
                case round =>
                  obtain ⟨m, hm4, rfl, hb6, hd6⟩ := hrel
                  by_cases hmt : m < 4
                  · have hcl := hd6.cell (4 * k + m) (by rw [digTo_length]; omega)
                    have hfr := hd6.free (4 * k + m)
                    have HD6 := Lib.hid hd6
                    clear hd6
                    have t0 : (0 : Int) ≤ 24 - 8 * (m : Int) := by omega
                    have t1 : 24 - 8 * (m : Int) ≤ 32 := by omega
                    have t2 : (24 - 8 * (m : Int)).toNat = 24 - 8 * m := by omega
                    have t3 : (0 : Int) ≤ 4 * (k : Int) + (m : Int) := by omega
                    have t4 : 4 * (k : Int) + (m : Int) < 32 := by omega
                    have t5 : (4 * (k : Int) + (m : Int)).toNat = 4 * k + m := by omega
                    go_wp2_with fail
                    go_roundw
                    case rel =>
                      refine ⟨m + 1, by omega, by go_num, hb6.setCell (Nat.le_refl _) _, ?_⟩
                      rw [← Nat.add_assoc, HDS.out, HDB.out m hmt]
                      exact HD6.out.set _ _
                    case measure => simp [intOf]; omega
                  · have hme : m = 4 := by omega
                    subst hme
                    go_wp2_with fail
                    go_roundw
                    case rel => exact ⟨k + 1, by omega, by go_num, hb6, hd6⟩
                    case measure => simp [intOf]; omega
              · have hke2 : k = 8 := by omega
                subst hke2
                have hd8 : wr.heap[w4.heap.size]? = some (.cells ((digTo L 32).map b8).toArray 54 (0, 0)) := hd5
                have hres : wr.heap[w.heap.size]? = some (.cells (List.replicate 32 (.int .u8 0)).toArray 54 (0, 0)) := (hb5.block _ hw4lt).trans HR4.out
                have hsz : (Try.prog.info? 54).map (·.size) = some ((digTo L 32).map b8).toArray.size := by
                  rw [List.size_toArray, List.length_map, digTo_length]
                  kernel_rfl
                have hold : (List.replicate 32 (Value.int .u8 0)).toArray.size = ((digTo L 32).map b8).toArray.size := by simp [digTo_length]
                have hone : ((digTo L 32).map b8).toArray.all (·.oneCell') = true := all_oneCell_toArray (fun u hu => by
                  simp only [List.mem_map] at hu
                  obtain ⟨x, _, rfl⟩ := hu
                  rfl)
                generalize hDD : ((digTo L 32).map b8).toArray = D at *
                have HDD := Lib.hid hDD
                clear hDD
                have HD8 := Lib.hid hd8
                have HRES := Lib.hid hres
                have HSZ := Lib.hid hsz
                have HOLD := Lib.hid hold
                have HONE := Lib.hid hone
                clear hd8 hres hsz hold hone hd5
                go_wp2_with (first | (refine wpList_load_row rfl 54 _ rfl w4.heap.size rfl 54 D (0, 0) (.array 32 5) HD8.out (by kernel_rfl) rfl HSZ.out ?_) | (refine wpList_store_row_to rfl 54 _ _ rfl w.heap.size D rfl rfl 54 _ HRES.out HSZ.out HOLD.out HONE.out ?_))
                intro w6 hr6 hb6
                go_wp2_with fail
                (try simp only [Exit.inBlock, Exit.then])
                refine bodyPost_ret (results_cell_row rfl _ _ w.heap.size 54 D (0, 0) (.array 32 5) rfl hr6 (by kernel_rfl) rfl HSZ.out) rfl ?_
                exact ⟨by rw [sumD_eq HKK.out HEE.out HS4.out HRW.out HDD.out], (HKB.out.trans (hb5.mono (Nat.le_of_lt hw4lt))).trans (hb6 _ (Nat.le_refl _))⟩
  clear hK
  obtain ⟨sa, sb, sc, sd, se, sf, sg, sh⟩ := s
  have d0 := HPA.out.cell 0 (by simp [St.row])
  have d1 := HPA.out.cell 1 (by simp [St.row])
  have d2 := HPA.out.cell 2 (by simp [St.row])
  have d3 := HPA.out.cell 3 (by simp [St.row])
  have d4 := HPA.out.cell 4 (by simp [St.row])
  have d5 := HPA.out.cell 5 (by simp [St.row])
  have d6 := HPA.out.cell 6 (by simp [St.row])
  have d7 := HPA.out.cell 7 (by simp [St.row])
  have c8 := HPA.out.cell8 rfl
  simp only [St.row, List.getElem_cons_zero, List.getElem_cons_succ] at d0 d1 d2 d3 d4 d5 d6 d7
  have HK := Lib.hid key
  clear key
  rcases hv with ⟨rfl, rfl⟩ | ⟨hpos, g, cap, rfl⟩
  · go_region
    all_goals
      go_wp2
      refine HK.out _ (w.heap.size + 1) _ _ _ _ _ _ _ _ _ _ _ _ (by rw [← hszA]; exact heap_alloc_new wA _) (World.ownsRow_nil _ _ _ _) ?_ (by omega) ((((Below.refl wA.heap.size wA).alloc (Nat.le_refl _) _).block w.heap.size (by omega)).trans HRA.out)
      exact ((HBA.out).alloc (by simp [hszA]) _).drew
  · have hgb : g < w.heap.size := by
      rcases owns_shape HO.out with ⟨h, _⟩ | ⟨g', cap', h, _, _, _, h'⟩
      · cases h
      · simp only [Value.slice.injEq, Option.some.injEq, Addr.mk.injEq] at h
        obtain ⟨⟨rfl, _⟩, _⟩ := h
        exact h'
    have B1 : Hid (0 + rs.length ≤ maxLen) := by show 0 + rs.length ≤ maxLen; unfold maxLen; omega
    have B2 : Hid ((0 + rs.length) * 1 ≤ 140737488355328) := by show (0 + rs.length) * 1 ≤ _; omega
    have HR : Hid (∀ j u, (u8s rs)[j]? = some u → wA.drew.cell? ((⟨g, 0, none⟩ : Addr).add j) = some u) := by
      intro j u hu
      rw [Addr.add_mid]
      show wA.cell? _ = _
      rw [HBA.out.cell (p := ⟨g, 0 + j, none⟩) hgb]
      have := RowAt.of_owns HO.out
      rcases this with ⟨h, _⟩ | ⟨g', off', cap', h, _, hcell⟩
      · cases h
      · simp only [Value.slice.injEq, Option.some.injEq, Addr.mk.injEq] at h
        obtain ⟨⟨rfl, rfl, _⟩, _, rfl⟩ := h
        simpa using hcell j u hu
    clear HO
    go_region_law (first | (refine step_append_lies _ (by rfl) _ _ _ (by rfl) w.heap.size 5 i0 (.int .u8 0) 1 1 Try.underlying28 hi hz0 hz1 hz2 rfl (by omega) (.slice none 0 0) 0 [] (by rfl) (World.ownsRow_nil _ _ _ _) ⟨g, 0, none⟩ rs.length cap (u8s rs) (by rfl) (by simp) HR.out (u8s_one _) hpos B1.out B2.out (by simp [hszA]) (w.heap.size + 1) (by simpa using hszA) ?_; intro gg cap3 w3 hown3 hgrow3 hat3 hlt3; go_must (have P3 := Lib.hid (HPA.out.kept (hgrow3.block p (by simp [hszA]; omega) (by simp [Value.ownBlock]))); have e0 := P3.out.cell 0 (by simp [St.row]); have e1 := P3.out.cell 1 (by simp [St.row]); have e2 := P3.out.cell 2 (by simp [St.row]); have e3 := P3.out.cell 3 (by simp [St.row]); have e4 := P3.out.cell 4 (by simp [St.row]); have e5 := P3.out.cell 5 (by simp [St.row]); have e6 := P3.out.cell 6 (by simp [St.row]); have e7 := P3.out.cell 7 (by simp [St.row]); simp only [St.row, List.getElem_cons_zero, List.getElem_cons_succ] at e0 e1 e2 e3 e4 e5 e6 e7)))
    all_goals
      go_wp2
      have hs3 : w.heap.size + 1 ≤ w3.heap.size := by have := hgrow3.size; simpa [hszA] using this
      refine HK.out _ w3.heap.size _ _ _ _ _ _ _ _ _ _ _ _ (heap_alloc_new w3 _) (owns_below (by simpa using hown3) ((Below.refl _ _).alloc (Nat.le_refl _) _)) ?_ (by omega) ((((Below.refl w3.heap.size w3).alloc (Nat.le_refl _) _).block w.heap.size (by omega)).trans ((hgrow3.block w.heap.size (by simp [hszA]) (by simp [Value.ownBlock])).trans HRA.out))
      exact ((HBA.out.drew).grown hgrow3 (by simp [hszA]) (by simp [Value.ownBlock])).alloc (by omega) _
end Go.Proofs.Ythkjihfnphdfkaa.Sha
