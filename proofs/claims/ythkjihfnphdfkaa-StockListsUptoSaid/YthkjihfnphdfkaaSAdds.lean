/- take's last loop: the walk. -/
import Derived.Test.YthkjihfnphdfkaaSRounds
import Derived.StillTailTactics
namespace Go.Proofs.Ythkjihfnphdfkaa.Sha
open Go.RowKit

/-- A Hash. -/
def IsHash (w : World) (p : Nat) (L : List Int) (rest : Value) (n : Int) : Prop := w.heap[p]? = some (.cells (L.map w32 ++ [rest, .int .i64 n]).toArray 74 (0, 0))
theorem IsHash.cell {w : World} {p : Nat} {L : List Int} {rest : Value} {n : Int} (h : IsHash w p L rest n) (i : Nat) (hi : i < L.length) : w.cell? ⟨p, i, none⟩ = some (.int .u32 L[i]) := by
  rw [cell_of_row w p i _ _ _ h, List.getElem?_toArray, List.getElem?_append_left (by simpa using hi)]
  simp [hi, w32]
theorem IsHash.cell8 {w : World} {p : Nat} {L : List Int} {rest : Value} {n : Int} (h : IsHash w p L rest n) (hl : L.length = 8) : w.cell? ⟨p, 8, none⟩ = some rest := by
  rw [cell_of_row w p 8 _ _ _ h]
  simp [hl]
theorem IsHash.cell9 {w : World} {p : Nat} {L : List Int} {rest : Value} {n : Int} (h : IsHash w p L rest n) (hl : L.length = 8) : w.cell? ⟨p, 9, none⟩ = some (.int .i64 n) := by
  rw [cell_of_row w p 9 _ _ _ h]
  simp [hl]
theorem IsHash.free {w : World} {p : Nat} {L : List Int} {rest : Value} {n : Int} (h : IsHash w p L rest n) (i : Nat) : w.frozen? ⟨p, i, none⟩ = false := frozen_of_row w p i _ _ h
theorem IsHash.set {w : World} {p : Nat} {L : List Int} {rest : Value} {n : Int} (h : IsHash w p L rest n) (i : Nat) (hi : i < L.length) (x : Int) : IsHash (w.setCell ⟨p, i, none⟩ (.int .u32 x)) p (L.set i x) rest n := by
  unfold IsHash
  rw [heap_setCell_same w p i _ 74 _ h]
  congr 2
  simp only [List.setIfInBounds_toArray]
  rw [List.set_append_left _ _ (by simpa using hi)]
  simp [w32, List.map_set]
theorem IsHash.setRest {w : World} {p : Nat} {L : List Int} {rest : Value} {n : Int} (h : IsHash w p L rest n) (hl : L.length = 8) (x : Value) : IsHash (w.setCell ⟨p, 8, none⟩ x) p L x n := by
  unfold IsHash
  rw [heap_setCell_same w p 8 _ 74 _ h]
  congr 2
  simp only [List.setIfInBounds_toArray]
  rw [List.set_append_right _ _ (by simp [hl])]
  simp [hl]
theorem IsHash.setN {w : World} {p : Nat} {L : List Int} {rest : Value} {n : Int} (h : IsHash w p L rest n) (hl : L.length = 8) (x : Int) : IsHash (w.setCell ⟨p, 9, none⟩ (.int .i64 x)) p L rest x := by
  unfold IsHash
  rw [heap_setCell_same w p 9 _ 74 _ h]
  congr 2
  simp only [List.setIfInBounds_toArray]
  rw [List.set_append_right _ _ (by simp [hl])]
  simp [hl]
theorem IsHash.lt {w : World} {p : Nat} {L : List Int} {rest : Value} {n : Int} (h : IsHash w p L rest n) : p < w.heap.size := (Array.getElem?_eq_some_iff.1 h).1
theorem IsHash.kept {w w' : World} {p : Nat} {L : List Int} {rest : Value} {n : Int} (h : IsHash w p L rest n) (hk : w'.heap[p]? = w.heap[p]?) : IsHash w' p L rest n := hk.trans h
theorem IsHash.below {w w' : World} {B p : Nat} {L : List Int} {rest : Value} {n : Int} (h : IsHash w p L rest n) (hb : Below B w w') (hB : p < B) : IsHash w' p L rest n := (hb.block p hB).trans h
theorem IsHash.keeps {S : Nat → Prop} {w w' : World} {p : Nat} {L : List Int} {rest : Value} {n : Int} (h : IsHash w p L rest n) (hb : Keeps S w w') (hS : ¬ S p) : IsHash w' p L rest n := (hb.block p h.lt hS).trans h

/-- x added, word by word, so far. -/
def addTo (x s : List Int) : Nat → List Int
  | 0 => s
  | i + 1 => (addTo x s i).set i (((addTo x s i).getD i 0 + x.getD i 0) % 4294967296)
theorem addTo_length (x s : List Int) : ∀ i, (addTo x s i).length = s.length
  | 0 => rfl
  | i + 1 => by rw [addTo, List.length_set, addTo_length x s i]
def St.add (s x : St) : St := ⟨(s.a + x.a) % 4294967296, (s.b + x.b) % 4294967296, (s.c + x.c) % 4294967296, (s.d + x.d) % 4294967296, (s.e + x.e) % 4294967296, (s.f + x.f) % 4294967296, (s.g + x.g) % 4294967296, (s.h + x.h) % 4294967296⟩
theorem St.add_ok (s x : St) : (s.add x).ok := ⟨u32_mod _, u32_mod _, u32_mod _, u32_mod _, u32_mod _, u32_mod _, u32_mod _, u32_mod _⟩
theorem addTo_8 (s x : St) : addTo x.row s.row 8 = (s.add x).row := by
  obtain ⟨a, b, c, d, e, f, g, h⟩ := s
  obtain ⟨a', b', c', d', e', f', g', h'⟩ := x
  rfl

def loopsOf : Code → List Code
  | .loop c => [c]
  | .seq a b => loopsOf a ++ loopsOf b
  | .block _ c => loopsOf c
  | .scope c => loopsOf c
  | .cond _ a b => loopsOf a ++ loopsOf b
  | _ => []
noncomputable def addsBody : Code := (((Try.f35.body.map loopsOf).getD [])[1]?).getD .skip

set_option maxRecDepth 100000 in
set_option maxHeartbeats 1000000 in
theorem adds_any (p ss : Nat) (s x : St) (rest : Value) (n : Int) (hn : p ≠ ss) (w : World)
    (hp : IsHash w p s.row rest n) (hss : IsWords w ss 69 x.row) (Q0 : Exit → Act → World → Prop)
    (z1 z2 z3 z4 z5 z6 z7 z8 z10 z11 z12 z13 z14 z15 z16 z17 z18 z19 z20 z21 z22 z23 z24 z25 z26 z27 z28 z29 z30 z31 z32 z33 z34 z35 z36 z37 z38 z39 z40 z41 z42 z43 z44 z45 z46 z47 z48 z49 z50 z51 z52 z53 z54 z55 z56 z57 z58 z59 z60 z61 z62 z63 z64 z65 z66 z67 z68 z69 z70 z71 z72 z73 z74 z75 z76 z77 z78 z79 z80 z81 z82 z83 z84 z85 z86 z87 z88 z89 z90 z91 z92 z93 z94 z95 z96 z97 z98 z99 z100 z101 z102 z103 z104 z105 z106 z107 z108 z109 z110 z111 z112 z113 z114 z115 z116 z117 z118 z119 z120 z121 z122 z123 z124 z125 z126 z127 z128 z129 z130 z131 z132 z133 z134 z135 z136 z137 z138 z139 z140 z141 z142 z143 z144 z145 z146 z147 z148 z149 z150 z151 z152 z153 z154 z155 z156 z157 z158 z159 z160 z161 z162 z163 z164 z165 z166 z167 z168 z169 z170 z171 z172 z173 z174 z175 z176 z177 z178 z179 z181 z182 z183 z184 z185 z186 z187 z188 z189 z190 z191 z192 z193 z194 z195 z196 : Value)
    (hexit : ∀ x15 x181 x182 x183 x184 x185 x186 x187 x188 x189 x190 x191 x192 x193 x194 x195 x196 w', Keeps (fun k => k = p) w w' → IsHash w' p (s.add x).row rest n → Q0 (.exit 3) ⟨(.pointer (some ⟨p, 0, none⟩) :: z1 :: z2 :: z3 :: z4 :: z5 :: z6 :: z7 :: z8 :: .pointer (some ⟨ss, 0, none⟩) :: z10 :: z11 :: z12 :: z13 :: z14 :: x15 :: z16 :: z17 :: z18 :: z19 :: z20 :: z21 :: z22 :: z23 :: z24 :: z25 :: z26 :: z27 :: z28 :: z29 :: z30 :: z31 :: z32 :: z33 :: z34 :: z35 :: z36 :: z37 :: z38 :: z39 :: z40 :: z41 :: z42 :: z43 :: z44 :: z45 :: z46 :: z47 :: z48 :: z49 :: z50 :: z51 :: z52 :: z53 :: z54 :: z55 :: z56 :: z57 :: z58 :: z59 :: z60 :: z61 :: z62 :: z63 :: z64 :: z65 :: z66 :: z67 :: z68 :: z69 :: z70 :: z71 :: z72 :: z73 :: z74 :: z75 :: z76 :: z77 :: z78 :: z79 :: z80 :: z81 :: z82 :: z83 :: z84 :: z85 :: z86 :: z87 :: z88 :: z89 :: z90 :: z91 :: z92 :: z93 :: z94 :: z95 :: z96 :: z97 :: z98 :: z99 :: z100 :: z101 :: z102 :: z103 :: z104 :: z105 :: z106 :: z107 :: z108 :: z109 :: z110 :: z111 :: z112 :: z113 :: z114 :: z115 :: z116 :: z117 :: z118 :: z119 :: z120 :: z121 :: z122 :: z123 :: z124 :: z125 :: z126 :: z127 :: z128 :: z129 :: z130 :: z131 :: z132 :: z133 :: z134 :: z135 :: z136 :: z137 :: z138 :: z139 :: z140 :: z141 :: z142 :: z143 :: z144 :: z145 :: z146 :: z147 :: z148 :: z149 :: z150 :: z151 :: z152 :: z153 :: z154 :: z155 :: z156 :: z157 :: z158 :: z159 :: z160 :: z161 :: z162 :: z163 :: z164 :: z165 :: z166 :: z167 :: z168 :: z169 :: z170 :: z171 :: z172 :: z173 :: z174 :: z175 :: z176 :: z177 :: z178 :: z179 :: .int .i64 8 :: x181 :: x182 :: x183 :: x184 :: x185 :: x186 :: x187 :: x188 :: x189 :: x190 :: x191 :: x192 :: x193 :: x194 :: x195 :: x196 :: []).toArray, []⟩ w')
    (code : Code) (hcode : code = addsBody) :
    Code.wp Try.prog (Code.loop code) Q0 ⟨(.pointer (some ⟨p, 0, none⟩) :: z1 :: z2 :: z3 :: z4 :: z5 :: z6 :: z7 :: z8 :: .pointer (some ⟨ss, 0, none⟩) :: z10 :: z11 :: z12 :: z13 :: z14 :: z15 :: z16 :: z17 :: z18 :: z19 :: z20 :: z21 :: z22 :: z23 :: z24 :: z25 :: z26 :: z27 :: z28 :: z29 :: z30 :: z31 :: z32 :: z33 :: z34 :: z35 :: z36 :: z37 :: z38 :: z39 :: z40 :: z41 :: z42 :: z43 :: z44 :: z45 :: z46 :: z47 :: z48 :: z49 :: z50 :: z51 :: z52 :: z53 :: z54 :: z55 :: z56 :: z57 :: z58 :: z59 :: z60 :: z61 :: z62 :: z63 :: z64 :: z65 :: z66 :: z67 :: z68 :: z69 :: z70 :: z71 :: z72 :: z73 :: z74 :: z75 :: z76 :: z77 :: z78 :: z79 :: z80 :: z81 :: z82 :: z83 :: z84 :: z85 :: z86 :: z87 :: z88 :: z89 :: z90 :: z91 :: z92 :: z93 :: z94 :: z95 :: z96 :: z97 :: z98 :: z99 :: z100 :: z101 :: z102 :: z103 :: z104 :: z105 :: z106 :: z107 :: z108 :: z109 :: z110 :: z111 :: z112 :: z113 :: z114 :: z115 :: z116 :: z117 :: z118 :: z119 :: z120 :: z121 :: z122 :: z123 :: z124 :: z125 :: z126 :: z127 :: z128 :: z129 :: z130 :: z131 :: z132 :: z133 :: z134 :: z135 :: z136 :: z137 :: z138 :: z139 :: z140 :: z141 :: z142 :: z143 :: z144 :: z145 :: z146 :: z147 :: z148 :: z149 :: z150 :: z151 :: z152 :: z153 :: z154 :: z155 :: z156 :: z157 :: z158 :: z159 :: z160 :: z161 :: z162 :: z163 :: z164 :: z165 :: z166 :: z167 :: z168 :: z169 :: z170 :: z171 :: z172 :: z173 :: z174 :: z175 :: z176 :: z177 :: z178 :: z179 :: .int .i64 0 :: z181 :: z182 :: z183 :: z184 :: z185 :: z186 :: z187 :: z188 :: z189 :: z190 :: z191 :: z192 :: z193 :: z194 :: z195 :: z196 :: []).toArray, []⟩ w := by
  subst hcode
  conv => arg 2; arg 1; whnf
  go_loopw [180] (fun i wr => ∃ k : Nat, k ≤ 8 ∧ i = .int .i64 k ∧ Keeps (fun k => k = p) w wr ∧ IsHash wr p (addTo x.row s.row k) rest n) (fun i _ => 8 - (intOf i).toNat)
  case atStart => exact ⟨0, by omega, rfl, Keeps.refl _ _, hp⟩
  case round =>
    obtain ⟨k, hk8, rfl, hbel, hpw⟩ := hrel
    have hl1 : (addTo x.row s.row k).length = 8 := addTo_length _ _ _
    have hsw : IsWords wr ss 69 x.row := (hbel.block ss (Array.getElem?_eq_some_iff.1 hss).1 (fun e => hn e.symm)).trans hss
    by_cases hlt : k < 8
    · have hst : addTo x.row s.row (k + 1) = (addTo x.row s.row k).set k (((addTo x.row s.row k).getD k 0 + x.row.getD k 0) % 4294967296) := rfl
      have hxl : k < x.row.length := hlt
      rw [show (addTo x.row s.row k).getD k 0 = (addTo x.row s.row k)[k]'(by omega) by simp [hl1, hlt], show x.row.getD k 0 = x.row[k]'hxl by simp [hxl]] at hst
      have ck := hpw.cell k (by omega)
      have cw := hsw.cell k hxl
      have fk := hpw.free k
      have HNE := Lib.hid (hpw.set k (by omega) (((addTo x.row s.row k)[k]'(by omega) + x.row[k]'hxl) % 4294967296))
      generalize (addTo x.row s.row k)[k]'(by omega) = kv at *
      generalize x.row[k]'hxl = wv at *
      have HST := Lib.hid hst
      have HSW := Lib.hid hsw
      have HPW := Lib.hid hpw
      clear hst hsw hpw
      have k0 : (0 : Int) ≤ (k : Int) := by omega
      have k1 : (k : Int) < 8 := by omega
      have k2 : ((k : Int)).toNat = k := by omega
      go_wp2_with fail
      go_still_tail 13, (by kernel_rfl)
      change wpList _ _ _ _ _ wr.drew
      go_wp2_with fail
      go_roundw
      case rel =>
        refine ⟨k + 1, by omega, by go_num, (hbel.drew).setCell _ _ (.inl rfl), ?_⟩
        rw [HST.out]
        exact HNE.out
      case measure => simp [intOf]; omega
    · have hke : k = 8 := by omega
      subst hke
      rw [addTo_8] at hpw
      go_wp2_with fail
      exact hexit _ _ _ _ _ _ _ _ _ _ _ _ _ _ _ _ _ _ hbel hpw
end Go.Proofs.Ythkjihfnphdfkaa.Sha

