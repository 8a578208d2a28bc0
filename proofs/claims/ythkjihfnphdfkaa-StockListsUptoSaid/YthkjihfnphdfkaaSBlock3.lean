/- The document's own block: the 64 rounds. -/
import Derived.Test.YthkjihfnphdfkaaSBlock2
namespace Go.Proofs.Ythkjihfnphdfkaa.Sha
open Go.RowKit

set_option maxRecDepth 100000 in
set_option maxHeartbeats 1600000 in
theorem block3_any (g kk ss B : Nat) (ws ks : List Int) (s : St) (hs : s.ok) (hwl : ws.length = 64) (hkl : ks.length = 64) (hn : ss ≠ g) (hn' : ss ≠ kk) (w : World) (hB : B ≤ ss)
    (hg : IsWords w g 70 ws) (hk : IsWords w kk 70 ks) (hss : IsWords w ss 69 s.row) (Q0 : Exit → Act → World → Prop)
    (z0 z1 z2 z3 z4 z6 z8 z9 z10 z11 z14 z15 z16 z17 z18 z19 z20 z21 z22 z23 z24 z25 z26 z27 z28 z29 z30 z31 z32 z33 z34 z35 z36 z37 z38 z39 z40 z41 z42 z43 z44 z45 z46 z47 z48 z49 z50 z51 z52 z53 z54 z55 z56 z57 z58 z59 z60 z61 z62 z63 z64 z65 z66 z67 z68 z69 z70 z71 z72 z73 z74 z75 z76 z77 z78 z79 z80 z81 z82 z83 z84 z85 z86 z87 z88 z89 z90 z91 z92 z93 z94 z95 z96 z97 z98 z99 z100 z101 z102 z103 z104 z105 z106 z107 z108 z109 z110 z111 z112 z113 z114 z115 z116 z117 z118 z119 z120 z121 z122 z123 z124 z125 z126 z127 z128 z129 z130 z131 z132 z133 z134 z135 z136 z137 z138 z139 z140 z141 z142 z143 z144 z145 z146 z147 z148 z149 z150 z151 z152 z153 z154 z155 z156 z157 z158 z159 z160 z161 z162 z163 z164 z165 z166 z167 z168 z169 z170 z171 z172 z173 z174 z175 z176 z177 z178 z179 z180 z181 z182 z183 z184 z185 z186 z187 z188 z189 z190 z191 z192 z193 z194 z195 z196 z197 z198 z199 z200 z201 z202 z203 z204 z205 z206 z207 z208 z209 z210 z211 z212 z213 z214 z215 z216 z217 z218 z219 : Value)
    (hexit : ∀ x14 x15 x16 x17 x18 x19 x114 x115 x116 x117 x118 x119 x120 x121 x122 x123 x124 x125 x126 x127 x128 x129 x130 x131 x132 x133 x134 x135 x136 x137 x138 x139 x140 x141 x142 x143 x144 x145 x146 x147 x148 x149 x150 x151 x152 x153 x154 x155 x156 x157 x158 x159 x160 x161 x162 x163 x164 x165 x166 x167 x168 x169 x170 x171 x172 x173 x174 x175 x176 x177 x178 x179 x180 x181 x182 x183 x184 x185 x186 x187 x188 x189 x190 x191 x192 x193 x194 x195 x196 x197 x198 x199 x200 x201 x202 x203 x204 x205 w', Below B w w' → IsWords w' ss 69 (St.run ks ws s 64).row → Q0 (.exit 4) ⟨(z0 :: z1 :: z2 :: z3 :: z4 :: .pointer (some ⟨kk, 0, none⟩) :: z6 :: .pointer (some ⟨g, 0, none⟩) :: z8 :: z9 :: z10 :: z11 :: .pointer (some ⟨ss, 0, none⟩) :: .int .i64 64 :: x14 :: x15 :: x16 :: x17 :: x18 :: x19 :: z20 :: z21 :: z22 :: z23 :: z24 :: z25 :: z26 :: z27 :: z28 :: z29 :: z30 :: z31 :: z32 :: z33 :: z34 :: z35 :: z36 :: z37 :: z38 :: z39 :: z40 :: z41 :: z42 :: z43 :: z44 :: z45 :: z46 :: z47 :: z48 :: z49 :: z50 :: z51 :: z52 :: z53 :: z54 :: z55 :: z56 :: z57 :: z58 :: z59 :: z60 :: z61 :: z62 :: z63 :: z64 :: z65 :: z66 :: z67 :: z68 :: z69 :: z70 :: z71 :: z72 :: z73 :: z74 :: z75 :: z76 :: z77 :: z78 :: z79 :: z80 :: z81 :: z82 :: z83 :: z84 :: z85 :: z86 :: z87 :: z88 :: z89 :: z90 :: z91 :: z92 :: z93 :: z94 :: z95 :: z96 :: z97 :: z98 :: z99 :: z100 :: z101 :: z102 :: z103 :: z104 :: z105 :: z106 :: z107 :: z108 :: z109 :: z110 :: z111 :: z112 :: z113 :: x114 :: x115 :: x116 :: x117 :: x118 :: x119 :: x120 :: x121 :: x122 :: x123 :: x124 :: x125 :: x126 :: x127 :: x128 :: x129 :: x130 :: x131 :: x132 :: x133 :: x134 :: x135 :: x136 :: x137 :: x138 :: x139 :: x140 :: x141 :: x142 :: x143 :: x144 :: x145 :: x146 :: x147 :: x148 :: x149 :: x150 :: x151 :: x152 :: x153 :: x154 :: x155 :: x156 :: x157 :: x158 :: x159 :: x160 :: x161 :: x162 :: x163 :: x164 :: x165 :: x166 :: x167 :: x168 :: x169 :: x170 :: x171 :: x172 :: x173 :: x174 :: x175 :: x176 :: x177 :: x178 :: x179 :: x180 :: x181 :: x182 :: x183 :: x184 :: x185 :: x186 :: x187 :: x188 :: x189 :: x190 :: x191 :: x192 :: x193 :: x194 :: x195 :: x196 :: x197 :: x198 :: x199 :: x200 :: x201 :: x202 :: x203 :: x204 :: x205 :: z206 :: z207 :: z208 :: z209 :: z210 :: z211 :: z212 :: z213 :: z214 :: z215 :: z216 :: z217 :: z218 :: z219 :: []).toArray, []⟩ w')
    (code : Code) (hcode : code = blockBody 2) :
    Code.wp Try.prog (Code.loop code) Q0 ⟨(z0 :: z1 :: z2 :: z3 :: z4 :: .pointer (some ⟨kk, 0, none⟩) :: z6 :: .pointer (some ⟨g, 0, none⟩) :: z8 :: z9 :: z10 :: z11 :: .pointer (some ⟨ss, 0, none⟩) :: .int .i64 0 :: z14 :: z15 :: z16 :: z17 :: z18 :: z19 :: z20 :: z21 :: z22 :: z23 :: z24 :: z25 :: z26 :: z27 :: z28 :: z29 :: z30 :: z31 :: z32 :: z33 :: z34 :: z35 :: z36 :: z37 :: z38 :: z39 :: z40 :: z41 :: z42 :: z43 :: z44 :: z45 :: z46 :: z47 :: z48 :: z49 :: z50 :: z51 :: z52 :: z53 :: z54 :: z55 :: z56 :: z57 :: z58 :: z59 :: z60 :: z61 :: z62 :: z63 :: z64 :: z65 :: z66 :: z67 :: z68 :: z69 :: z70 :: z71 :: z72 :: z73 :: z74 :: z75 :: z76 :: z77 :: z78 :: z79 :: z80 :: z81 :: z82 :: z83 :: z84 :: z85 :: z86 :: z87 :: z88 :: z89 :: z90 :: z91 :: z92 :: z93 :: z94 :: z95 :: z96 :: z97 :: z98 :: z99 :: z100 :: z101 :: z102 :: z103 :: z104 :: z105 :: z106 :: z107 :: z108 :: z109 :: z110 :: z111 :: z112 :: z113 :: z114 :: z115 :: z116 :: z117 :: z118 :: z119 :: z120 :: z121 :: z122 :: z123 :: z124 :: z125 :: z126 :: z127 :: z128 :: z129 :: z130 :: z131 :: z132 :: z133 :: z134 :: z135 :: z136 :: z137 :: z138 :: z139 :: z140 :: z141 :: z142 :: z143 :: z144 :: z145 :: z146 :: z147 :: z148 :: z149 :: z150 :: z151 :: z152 :: z153 :: z154 :: z155 :: z156 :: z157 :: z158 :: z159 :: z160 :: z161 :: z162 :: z163 :: z164 :: z165 :: z166 :: z167 :: z168 :: z169 :: z170 :: z171 :: z172 :: z173 :: z174 :: z175 :: z176 :: z177 :: z178 :: z179 :: z180 :: z181 :: z182 :: z183 :: z184 :: z185 :: z186 :: z187 :: z188 :: z189 :: z190 :: z191 :: z192 :: z193 :: z194 :: z195 :: z196 :: z197 :: z198 :: z199 :: z200 :: z201 :: z202 :: z203 :: z204 :: z205 :: z206 :: z207 :: z208 :: z209 :: z210 :: z211 :: z212 :: z213 :: z214 :: z215 :: z216 :: z217 :: z218 :: z219 :: []).toArray, []⟩ w := by
  subst hcode
  have HX := Lib.hid hexit
  clear hexit
  conv => arg 2; arg 1; whnf
  go_loopw [13] (fun i wr => ∃ k : Nat, k ≤ 64 ∧ i = .int .i64 k ∧ Below B w wr ∧ IsWords wr g 70 ws ∧ IsWords wr kk 70 ks ∧ IsWords wr ss 69 (St.run ks ws s k).row) (fun i _ => 64 - (intOf i).toNat)
  case atStart => exact ⟨0, by omega, rfl, Below.refl _ _, hg, hk, hss⟩
  case round =>
    obtain ⟨k, hk64, rfl, hbel, hgw, hkw, hsw⟩ := hrel
    have hok := St.ok_run hs ks ws k
    by_cases hlt : k < 64
    · have hst : St.run ks ws s (k + 1) = (St.run ks ws s k).step (ks.getD k 0) (ws.getD k 0) := rfl
      rw [show ks.getD k 0 = ks[k]'(by omega) by simp [hkl, hlt], show ws.getD k 0 = ws[k]'(by omega) by simp [hwl, hlt]] at hst
      have ck := hkw.cell k (by omega)
      have cw := hgw.cell k (by omega)
      generalize ks[k]'(by omega) = kv at hst ck
      generalize ws[k]'(by omega) = wv at hst cw
      generalize St.run ks ws s k = sk at *
      obtain ⟨a, b, c, d, e, f, gg, hh⟩ := sk
      have HST := Lib.hid hst
      clear hst
      have c0 := hsw.cell 0 (by simp [St.row])
      have c1 := hsw.cell 1 (by simp [St.row])
      have c2 := hsw.cell 2 (by simp [St.row])
      have c3 := hsw.cell 3 (by simp [St.row])
      have c4 := hsw.cell 4 (by simp [St.row])
      have c5 := hsw.cell 5 (by simp [St.row])
      have c6 := hsw.cell 6 (by simp [St.row])
      have c7 := hsw.cell 7 (by simp [St.row])
      simp only [St.row, List.getElem_cons_zero, List.getElem_cons_succ] at c0 c1 c2 c3 c4 c5 c6 c7
      have f0 := hsw.free 0
      have f1 := hsw.free 1
      have f2 := hsw.free 2
      have f3 := hsw.free 3
      have f4 := hsw.free 4
      have f5 := hsw.free 5
      have f6 := hsw.free 6
      have f7 := hsw.free 7
      have HA := Lib.hid hok.1
      have HE := Lib.hid hok.2.2.2.2.1
      have k0 : (0 : Int) ≤ (k : Int) := by omega
      have k1 : (k : Int) < 64 := by omega
      have HSW := Lib.hid hsw
      have HGW := Lib.hid hgw
      have HKW := Lib.hid hkw
      clear hsw hgw hkw
      go_wp2_with fail
      go_quiet (first
        | (go_at_call 36; with_reducible exact right_0 e 6 6 rfl (by decide) (by decide) _ _ HE.out)
        | (go_at_call 36; with_reducible exact right_0 e 11 11 rfl (by decide) (by decide) _ _ HE.out)
        | (go_at_call 36; with_reducible exact right_0 e 25 25 rfl (by decide) (by decide) _ _ HE.out))
      go_wp2_with fail
      go_quiet (fail)
      go_wp2_with fail
      go_quiet (first
        | (go_at_call 36; with_reducible exact right_q a 2 2 rfl (by decide) (by decide) _ _ _ HA.out)
        | (go_at_call 36; with_reducible exact right_q a 13 13 rfl (by decide) (by decide) _ _ _ HA.out)
        | (go_at_call 36; with_reducible exact right_q a 22 22 rfl (by decide) (by decide) _ _ _ HA.out))
      go_wp2_with fail
      go_roundw
      case rel =>
        refine ⟨k + 1, by omega, by go_num, below_set8 (below_drewN hbel _) hB _ _ _ _ _ _ _ _, (HGW.out.drewN _).set8_other hn _ _ _ _ _ _ _ _, (HKW.out.drewN _).set8_other hn' _ _ _ _ _ _ _ _, ?_⟩
        rw [HST.out, St.row_step]
        exact (HSW.out.drewN _).set8 _ _ _ _ _ _ _ _
      case measure => simp [intOf]; omega
    · have hke : k = 64 := by omega
      subst hke
      go_wp2_with fail
      exact HX.out _ _ _ _ _ _ _ _ _ _ _ _ _ _ _ _ _ _ _ _ _ _ _ _ _ _ _ _ _ _ _ _ _ _ _ _ _ _ _ _ _ _ _ _ _ _ _ _ _ _ _ _ _ _ _ _ _ _ _ _ _ _ _ _ _ _ _ _ _ _ _ _ _ _ _ _ _ _ _ _ _ _ _ _ _ _ _ _ _ _ _ _ _ _ _ _ _ _ _ hbel hsw
end Go.Proofs.Ythkjihfnphdfkaa.Sha
