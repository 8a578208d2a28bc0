/- The document's own block: the sums at the end. -/
import Derived.Test.YthkjihfnphdfkaaSBlock3
namespace Go.Proofs.Ythkjihfnphdfkaa.Sha
open Go.RowKit

set_option maxRecDepth 100000 in
set_option maxHeartbeats 1600000 in
theorem block4_any (hh ss B : Nat) (s x : St) (hn : hh ≠ ss) (w : World) (hB : B ≤ hh)
    (hp : IsWords w hh 69 s.row) (hss : IsWords w ss 69 x.row) (Q0 : Exit → Act → World → Prop)
    (z0 z1 z2 z4 z5 z6 z7 z8 z9 z10 z11 z13 z14 z15 z16 z17 z18 z19 z21 z22 z23 z24 z25 z26 z27 z28 z29 z30 z31 z32 z33 z34 z35 z36 z37 z38 z39 z40 z41 z42 z43 z44 z45 z46 z47 z48 z49 z50 z51 z52 z53 z54 z55 z56 z57 z58 z59 z60 z61 z62 z63 z64 z65 z66 z67 z68 z69 z70 z71 z72 z73 z74 z75 z76 z77 z78 z79 z80 z81 z82 z83 z84 z85 z86 z87 z88 z89 z90 z91 z92 z93 z94 z95 z96 z97 z98 z99 z100 z101 z102 z103 z104 z105 z106 z107 z108 z109 z110 z111 z112 z113 z114 z115 z116 z117 z118 z119 z120 z121 z122 z123 z124 z125 z126 z127 z128 z129 z130 z131 z132 z133 z134 z135 z136 z137 z138 z139 z140 z141 z142 z143 z144 z145 z146 z147 z148 z149 z150 z151 z152 z153 z154 z155 z156 z157 z158 z159 z160 z161 z162 z163 z164 z165 z166 z167 z168 z169 z170 z171 z172 z173 z174 z175 z176 z177 z178 z179 z180 z181 z182 z183 z184 z185 z186 z187 z188 z189 z190 z191 z192 z193 z194 z195 z196 z197 z198 z199 z200 z201 z202 z203 z204 z205 z206 z207 z208 z209 z210 z211 z212 z213 z214 z215 z216 z217 z218 z219 : Value)
    (hexit : ∀ x206 x207 x208 x209 x210 x211 x212 x213 x214 x215 x216 x217 x218 w', Below B w w' → IsWords w' hh 69 (s.add x).row → (∀ k, k < w.heap.size → k ≠ hh → w'.heap[k]? = w.heap[k]?) → Q0 (.exit 6) ⟨(z0 :: z1 :: z2 :: .pointer (some ⟨hh, 0, none⟩) :: z4 :: z5 :: z6 :: z7 :: z8 :: z9 :: z10 :: z11 :: .pointer (some ⟨ss, 0, none⟩) :: z13 :: z14 :: z15 :: z16 :: z17 :: z18 :: z19 :: .int .i64 8 :: z21 :: z22 :: z23 :: z24 :: z25 :: z26 :: z27 :: z28 :: z29 :: z30 :: z31 :: z32 :: z33 :: z34 :: z35 :: z36 :: z37 :: z38 :: z39 :: z40 :: z41 :: z42 :: z43 :: z44 :: z45 :: z46 :: z47 :: z48 :: z49 :: z50 :: z51 :: z52 :: z53 :: z54 :: z55 :: z56 :: z57 :: z58 :: z59 :: z60 :: z61 :: z62 :: z63 :: z64 :: z65 :: z66 :: z67 :: z68 :: z69 :: z70 :: z71 :: z72 :: z73 :: z74 :: z75 :: z76 :: z77 :: z78 :: z79 :: z80 :: z81 :: z82 :: z83 :: z84 :: z85 :: z86 :: z87 :: z88 :: z89 :: z90 :: z91 :: z92 :: z93 :: z94 :: z95 :: z96 :: z97 :: z98 :: z99 :: z100 :: z101 :: z102 :: z103 :: z104 :: z105 :: z106 :: z107 :: z108 :: z109 :: z110 :: z111 :: z112 :: z113 :: z114 :: z115 :: z116 :: z117 :: z118 :: z119 :: z120 :: z121 :: z122 :: z123 :: z124 :: z125 :: z126 :: z127 :: z128 :: z129 :: z130 :: z131 :: z132 :: z133 :: z134 :: z135 :: z136 :: z137 :: z138 :: z139 :: z140 :: z141 :: z142 :: z143 :: z144 :: z145 :: z146 :: z147 :: z148 :: z149 :: z150 :: z151 :: z152 :: z153 :: z154 :: z155 :: z156 :: z157 :: z158 :: z159 :: z160 :: z161 :: z162 :: z163 :: z164 :: z165 :: z166 :: z167 :: z168 :: z169 :: z170 :: z171 :: z172 :: z173 :: z174 :: z175 :: z176 :: z177 :: z178 :: z179 :: z180 :: z181 :: z182 :: z183 :: z184 :: z185 :: z186 :: z187 :: z188 :: z189 :: z190 :: z191 :: z192 :: z193 :: z194 :: z195 :: z196 :: z197 :: z198 :: z199 :: z200 :: z201 :: z202 :: z203 :: z204 :: z205 :: x206 :: x207 :: x208 :: x209 :: x210 :: x211 :: x212 :: x213 :: x214 :: x215 :: x216 :: x217 :: x218 :: z219 :: []).toArray, []⟩ w')
    (code : Code) (hcode : code = blockBody 3) :
    Code.wp Try.prog (Code.loop code) Q0 ⟨(z0 :: z1 :: z2 :: .pointer (some ⟨hh, 0, none⟩) :: z4 :: z5 :: z6 :: z7 :: z8 :: z9 :: z10 :: z11 :: .pointer (some ⟨ss, 0, none⟩) :: z13 :: z14 :: z15 :: z16 :: z17 :: z18 :: z19 :: .int .i64 0 :: z21 :: z22 :: z23 :: z24 :: z25 :: z26 :: z27 :: z28 :: z29 :: z30 :: z31 :: z32 :: z33 :: z34 :: z35 :: z36 :: z37 :: z38 :: z39 :: z40 :: z41 :: z42 :: z43 :: z44 :: z45 :: z46 :: z47 :: z48 :: z49 :: z50 :: z51 :: z52 :: z53 :: z54 :: z55 :: z56 :: z57 :: z58 :: z59 :: z60 :: z61 :: z62 :: z63 :: z64 :: z65 :: z66 :: z67 :: z68 :: z69 :: z70 :: z71 :: z72 :: z73 :: z74 :: z75 :: z76 :: z77 :: z78 :: z79 :: z80 :: z81 :: z82 :: z83 :: z84 :: z85 :: z86 :: z87 :: z88 :: z89 :: z90 :: z91 :: z92 :: z93 :: z94 :: z95 :: z96 :: z97 :: z98 :: z99 :: z100 :: z101 :: z102 :: z103 :: z104 :: z105 :: z106 :: z107 :: z108 :: z109 :: z110 :: z111 :: z112 :: z113 :: z114 :: z115 :: z116 :: z117 :: z118 :: z119 :: z120 :: z121 :: z122 :: z123 :: z124 :: z125 :: z126 :: z127 :: z128 :: z129 :: z130 :: z131 :: z132 :: z133 :: z134 :: z135 :: z136 :: z137 :: z138 :: z139 :: z140 :: z141 :: z142 :: z143 :: z144 :: z145 :: z146 :: z147 :: z148 :: z149 :: z150 :: z151 :: z152 :: z153 :: z154 :: z155 :: z156 :: z157 :: z158 :: z159 :: z160 :: z161 :: z162 :: z163 :: z164 :: z165 :: z166 :: z167 :: z168 :: z169 :: z170 :: z171 :: z172 :: z173 :: z174 :: z175 :: z176 :: z177 :: z178 :: z179 :: z180 :: z181 :: z182 :: z183 :: z184 :: z185 :: z186 :: z187 :: z188 :: z189 :: z190 :: z191 :: z192 :: z193 :: z194 :: z195 :: z196 :: z197 :: z198 :: z199 :: z200 :: z201 :: z202 :: z203 :: z204 :: z205 :: z206 :: z207 :: z208 :: z209 :: z210 :: z211 :: z212 :: z213 :: z214 :: z215 :: z216 :: z217 :: z218 :: z219 :: []).toArray, []⟩ w := by
  subst hcode
  have HX := Lib.hid hexit
  have HSS := Lib.hid hss
  clear hexit hss
  conv => arg 2; arg 1; whnf
  go_loopw [20] (fun i wr => ∃ k : Nat, k ≤ 8 ∧ i = .int .i64 k ∧ Keeps (fun k => k = hh) w wr ∧ IsWords wr hh 69 (addTo x.row s.row k)) (fun i _ => 8 - (intOf i).toNat)
  case atStart => exact ⟨0, by omega, rfl, Keeps.refl _ _, hp⟩
  case round =>
    obtain ⟨k, hk8, rfl, hbel, hpw⟩ := hrel
    have hl1 : (addTo x.row s.row k).length = 8 := addTo_length _ _ _
    have hsw : IsWords wr ss 69 x.row := (hbel.block ss (Array.getElem?_eq_some_iff.1 HSS.out).1 (fun e => hn e.symm)).trans HSS.out
    by_cases hlt : k < 8
    · have hst : addTo x.row s.row (k + 1) = (addTo x.row s.row k).set k (((addTo x.row s.row k).getD k 0 + x.row.getD k 0) % 4294967296) := rfl
      have hxl : k < x.row.length := hlt
      rw [show (addTo x.row s.row k).getD k 0 = (addTo x.row s.row k)[k]'(by omega) by simp [hl1, hlt], show x.row.getD k 0 = x.row[k]'hxl by simp [hxl]] at hst
      have ck := hpw.cell k (by omega)
      have cw := hsw.cell k hxl
      have fk := hpw.free k
      have HNE := Lib.hid (hpw.set k (((addTo x.row s.row k)[k]'(by omega) + x.row[k]'hxl) % 4294967296))
      generalize (addTo x.row s.row k)[k]'(by omega) = kv at *
      generalize x.row[k]'hxl = wv at *
      have HST := Lib.hid hst
      clear hst hsw hpw
      have k0 : (0 : Int) ≤ (k : Int) := by omega
      have k1 : (k : Int) < 8 := by omega
      have k2 : ((k : Int)).toNat = k := by omega
      go_wp2_with fail
      go_still_tail 9, (by kernel_rfl)
      change wpList _ _ _ _ _ wr.drew
      go_wp2_with fail
      go_roundw
      case rel =>
        refine ⟨k + 1, by omega, by go_num, (hbel.drew).setCell _ _ (.inl rfl), ?_⟩
        rw [HST.out]
        exact HNE.out
      case measure => simp [intOf]; omega
    · have hke : k = 8 := by omega
      subst hke
      rw [addTo_8] at hpw
      go_wp2_with fail
      exact HX.out _ _ _ _ _ _ _ _ _ _ _ _ _ _ (hbel.below_of (by have := (Array.getElem?_eq_some_iff.1 hp).1; omega) (fun k hk e => by omega)) hpw hbel.block
end Go.Proofs.Ythkjihfnphdfkaa.Sha
