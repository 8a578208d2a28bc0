/- The document's own block: the first sixteen words. -/
import Derived.Test.YthkjihfnphdfkaaSSha
import Derived.WalkMore
import Derived.StillTailTactics
namespace Go.Proofs.Ythkjihfnphdfkaa.Sha
open Go.RowKit

noncomputable def blockBody (i : Nat) : Code := (((Try.f34.body.map loopsOf).getD [])[i]?).getD .skip

set_option maxRecDepth 100000 in
set_option maxHeartbeats 1600000 in
theorem block1_any (g blk off cap B : Nat) (b : List UInt8) (w : World) (hlen : b.length = 64) (hB : B ≤ g) (hblk : blk < B)
    (hcell : ∀ i (h : i < b.length), w.cell? ⟨blk, off + i, none⟩ = some (.int .u8 (b[i].toNat : Int))) (hg : IsWords w g 70 (sched b 0)) (Q0 : Exit → Act → World → Prop)
    (z0 z2 z3 z4 z5 z6 z9 z10 z11 z12 z13 z14 z15 z16 z17 z18 z19 z20 z21 z22 z23 z24 z25 z26 z27 z28 z29 z30 z31 z32 z33 z34 z35 z36 z37 z38 z39 z40 z41 z42 z43 z44 z45 z46 z47 z48 z49 z50 z51 z52 z53 z54 z55 z56 z57 z58 z59 z60 z61 z62 z63 z64 z65 z66 z67 z68 z69 z70 z71 z72 z73 z74 z75 z76 z77 z78 z79 z80 z81 z82 z83 z84 z85 z86 z87 z88 z89 z90 z91 z92 z93 z94 z95 z96 z97 z98 z99 z100 z101 z102 z103 z104 z105 z106 z107 z108 z109 z110 z111 z112 z113 z114 z115 z116 z117 z118 z119 z120 z121 z122 z123 z124 z125 z126 z127 z128 z129 z130 z131 z132 z133 z134 z135 z136 z137 z138 z139 z140 z141 z142 z143 z144 z145 z146 z147 z148 z149 z150 z151 z152 z153 z154 z155 z156 z157 z158 z159 z160 z161 z162 z163 z164 z165 z166 z167 z168 z169 z170 z171 z172 z173 z174 z175 z176 z177 z178 z179 z180 z181 z182 z183 z184 z185 z186 z187 z188 z189 z190 z191 z192 z193 z194 z195 z196 z197 z198 z199 z200 z201 z202 z203 z204 z205 z206 z207 z208 z209 z210 z211 z212 z213 z214 z215 z216 z217 z218 z219 : Value)
    (hexit : ∀ x21 x22 x23 x24 x25 x26 x27 x28 x29 x30 x31 x32 x33 x34 x35 x36 x37 x38 x39 x40 x41 x42 x43 x44 x45 x46 x47 x48 x49 x50 x51 x52 x53 x54 x55 x56 x57 x58 x59 w', Below B w w' → IsWords w' g 70 (sched b 16) → Q0 (.exit 0) ⟨(z0 :: .slice (some ⟨blk, off, none⟩) 64 cap :: z2 :: z3 :: z4 :: z5 :: z6 :: .pointer (some ⟨g, 0, none⟩) :: .int .i64 16 :: z9 :: z10 :: z11 :: z12 :: z13 :: z14 :: z15 :: z16 :: z17 :: z18 :: z19 :: z20 :: x21 :: x22 :: x23 :: x24 :: x25 :: x26 :: x27 :: x28 :: x29 :: x30 :: x31 :: x32 :: x33 :: x34 :: x35 :: x36 :: x37 :: x38 :: x39 :: x40 :: x41 :: x42 :: x43 :: x44 :: x45 :: x46 :: x47 :: x48 :: x49 :: x50 :: x51 :: x52 :: x53 :: x54 :: x55 :: x56 :: x57 :: x58 :: x59 :: z60 :: z61 :: z62 :: z63 :: z64 :: z65 :: z66 :: z67 :: z68 :: z69 :: z70 :: z71 :: z72 :: z73 :: z74 :: z75 :: z76 :: z77 :: z78 :: z79 :: z80 :: z81 :: z82 :: z83 :: z84 :: z85 :: z86 :: z87 :: z88 :: z89 :: z90 :: z91 :: z92 :: z93 :: z94 :: z95 :: z96 :: z97 :: z98 :: z99 :: z100 :: z101 :: z102 :: z103 :: z104 :: z105 :: z106 :: z107 :: z108 :: z109 :: z110 :: z111 :: z112 :: z113 :: z114 :: z115 :: z116 :: z117 :: z118 :: z119 :: z120 :: z121 :: z122 :: z123 :: z124 :: z125 :: z126 :: z127 :: z128 :: z129 :: z130 :: z131 :: z132 :: z133 :: z134 :: z135 :: z136 :: z137 :: z138 :: z139 :: z140 :: z141 :: z142 :: z143 :: z144 :: z145 :: z146 :: z147 :: z148 :: z149 :: z150 :: z151 :: z152 :: z153 :: z154 :: z155 :: z156 :: z157 :: z158 :: z159 :: z160 :: z161 :: z162 :: z163 :: z164 :: z165 :: z166 :: z167 :: z168 :: z169 :: z170 :: z171 :: z172 :: z173 :: z174 :: z175 :: z176 :: z177 :: z178 :: z179 :: z180 :: z181 :: z182 :: z183 :: z184 :: z185 :: z186 :: z187 :: z188 :: z189 :: z190 :: z191 :: z192 :: z193 :: z194 :: z195 :: z196 :: z197 :: z198 :: z199 :: z200 :: z201 :: z202 :: z203 :: z204 :: z205 :: z206 :: z207 :: z208 :: z209 :: z210 :: z211 :: z212 :: z213 :: z214 :: z215 :: z216 :: z217 :: z218 :: z219 :: []).toArray, []⟩ w')
    (code : Code) (hcode : code = blockBody 0) :
    Code.wp Try.prog (Code.loop code) Q0 ⟨(z0 :: .slice (some ⟨blk, off, none⟩) 64 cap :: z2 :: z3 :: z4 :: z5 :: z6 :: .pointer (some ⟨g, 0, none⟩) :: .int .i64 0 :: z9 :: z10 :: z11 :: z12 :: z13 :: z14 :: z15 :: z16 :: z17 :: z18 :: z19 :: z20 :: z21 :: z22 :: z23 :: z24 :: z25 :: z26 :: z27 :: z28 :: z29 :: z30 :: z31 :: z32 :: z33 :: z34 :: z35 :: z36 :: z37 :: z38 :: z39 :: z40 :: z41 :: z42 :: z43 :: z44 :: z45 :: z46 :: z47 :: z48 :: z49 :: z50 :: z51 :: z52 :: z53 :: z54 :: z55 :: z56 :: z57 :: z58 :: z59 :: z60 :: z61 :: z62 :: z63 :: z64 :: z65 :: z66 :: z67 :: z68 :: z69 :: z70 :: z71 :: z72 :: z73 :: z74 :: z75 :: z76 :: z77 :: z78 :: z79 :: z80 :: z81 :: z82 :: z83 :: z84 :: z85 :: z86 :: z87 :: z88 :: z89 :: z90 :: z91 :: z92 :: z93 :: z94 :: z95 :: z96 :: z97 :: z98 :: z99 :: z100 :: z101 :: z102 :: z103 :: z104 :: z105 :: z106 :: z107 :: z108 :: z109 :: z110 :: z111 :: z112 :: z113 :: z114 :: z115 :: z116 :: z117 :: z118 :: z119 :: z120 :: z121 :: z122 :: z123 :: z124 :: z125 :: z126 :: z127 :: z128 :: z129 :: z130 :: z131 :: z132 :: z133 :: z134 :: z135 :: z136 :: z137 :: z138 :: z139 :: z140 :: z141 :: z142 :: z143 :: z144 :: z145 :: z146 :: z147 :: z148 :: z149 :: z150 :: z151 :: z152 :: z153 :: z154 :: z155 :: z156 :: z157 :: z158 :: z159 :: z160 :: z161 :: z162 :: z163 :: z164 :: z165 :: z166 :: z167 :: z168 :: z169 :: z170 :: z171 :: z172 :: z173 :: z174 :: z175 :: z176 :: z177 :: z178 :: z179 :: z180 :: z181 :: z182 :: z183 :: z184 :: z185 :: z186 :: z187 :: z188 :: z189 :: z190 :: z191 :: z192 :: z193 :: z194 :: z195 :: z196 :: z197 :: z198 :: z199 :: z200 :: z201 :: z202 :: z203 :: z204 :: z205 :: z206 :: z207 :: z208 :: z209 :: z210 :: z211 :: z212 :: z213 :: z214 :: z215 :: z216 :: z217 :: z218 :: z219 :: []).toArray, []⟩ w := by
  subst hcode
  have HC := Lib.hid hcell
  have HX := Lib.hid hexit
  clear hcell hexit
  conv => arg 2; arg 1; whnf
  go_loopw [8] (fun i wr => ∃ k : Nat, k ≤ 16 ∧ i = .int .i64 k ∧ Below B w wr ∧ IsWords wr g 70 (sched b k)) (fun i _ => 16 - (intOf i).toNat)
  case atStart => exact ⟨0, by omega, rfl, Below.refl _ _, hg⟩
  case round =>
    obtain ⟨i, hk, rfl, hbel, hws⟩ := hrel
    by_cases h16 : i < 16
    · have hl := sched_length b i
      have n0 : 4 * i < b.length := by omega
      have n1 : 4 * i + 1 < b.length := by omega
      have n2 : 4 * i + 2 < b.length := by omega
      have n3 : 4 * i + 3 < b.length := by omega
      have c0 := (hbel.cell hblk).trans (HC.out (4 * i) n0)
      have c1 := (hbel.cell hblk).trans (HC.out (4 * i + 1) n1)
      have c2 := (hbel.cell hblk).trans (HC.out (4 * i + 2) n2)
      have c3 := (hbel.cell hblk).trans (HC.out (4 * i + 3) n3)
      have l0 := b[4 * i].toNat_lt
      have l1 := b[4 * i + 1].toNat_lt
      have l2 := b[4 * i + 2].toNat_lt
      have l3 := b[4 * i + 3].toNat_lt
      have hnext := sched_first b i n3 h16
      generalize b[4 * i] = b0 at *
      generalize b[4 * i + 1] = b1 at *
      generalize b[4 * i + 2] = b2 at *
      generalize b[4 * i + 3] = b3 at *
      have d := hws.cell i (by omega)
      have f := hws.free i
      have q0 : (0 : Int) ≤ 4 * (i : Int) := by omega
      have q1 : 4 * (i : Int) < 64 := by omega
      have HNX := Lib.hid hnext
      clear hnext
      have i0 : (0 : Int) ≤ (i : Int) := by omega
      have i1 : (i : Int) < 64 := by omega
      have p1 : (0 : Int) ≤ 4 * (i : Int) + 1 := by omega
      have p2 : (0 : Int) ≤ 4 * (i : Int) + 2 := by omega
      have p3 : (0 : Int) ≤ 4 * (i : Int) + 3 := by omega
      have q2 : 4 * (i : Int) + 1 < 64 := by omega
      have q3 : 4 * (i : Int) + 2 < 64 := by omega
      have q4 : 4 * (i : Int) + 3 < 64 := by omega
      go_wp2_with fail
      have t0 : (4 * (i : Int)).toNat = 4 * i := by omega
      have t1 : (4 * (i : Int) + 1).toNat = 4 * i + 1 := by omega
      have t2 : (4 * (i : Int) + 2).toNat = 4 * i + 2 := by omega
      have t3 : (4 * (i : Int) + 3).toNat = 4 * i + 3 := by omega
      have e0 : IntKind.i64.wrap (4 * (i : Int)) = 4 * (i : Int) := IntWalk.i64_in _ (by omega)
      have e1 : IntKind.i64.wrap (4 * (i : Int) + 1) = 4 * (i : Int) + 1 := IntWalk.i64_in _ (by omega)
      have e2 : IntKind.i64.wrap (4 * (i : Int) + 2) = 4 * (i : Int) + 2 := IntWalk.i64_in _ (by omega)
      have e3 : IntKind.i64.wrap (4 * (i : Int) + 3) = 4 * (i : Int) + 3 := IntWalk.i64_in _ (by omega)
      go_still_tail 35, (by kernel_rfl)
      change wpList _ _ _ _ _ wr.drew
      have HWS := Lib.hid hws
      clear hws
      go_wp2_with fail
      go_roundw
      case rel => exact ⟨i + 1, by omega, by go_num, (hbel.setCell hB _).drew, by rw [HNX.out]; exact HWS.out.set i _⟩
      case measure => simp [intOf]; omega
    · have hke : i = 16 := by omega
      subst hke
      go_wp2_with fail
      exact HX.out _ _ _ _ _ _ _ _ _ _ _ _ _ _ _ _ _ _ _ _ _ _ _ _ _ _ _ _ _ _ _ _ _ _ _ _ _ _ _ _ hbel hws
end Go.Proofs.Ythkjihfnphdfkaa.Sha
