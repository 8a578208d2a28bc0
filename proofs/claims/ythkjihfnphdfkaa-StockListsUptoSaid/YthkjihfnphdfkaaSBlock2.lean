/- The document's own block: the further words. -/
import Derived.Test.YthkjihfnphdfkaaSBlock1
import Derived.WalkMore
import Derived.StillTailTactics
namespace Go.Proofs.Ythkjihfnphdfkaa.Sha
open Go.RowKit

theorem right_q (x : Int) (n : Int) (k : Nat) (hn : n = k) (h1 : 1 ≤ k) (h2 : k ≤ 31) (w : World) (p q : Nat) (hx : U32 x) :
    Calls Try.prog 36 #[.int .u32 x, .int .u64 n] (w.drewN (p + q)) fun e w'' => e = .returned (.int .u32 (rotI x k)) ∧ ∃ m, w'' = w.drewN (p + m) := by
  subst hn
  obtain ⟨y, rfl⟩ := Int.eq_ofNat_of_zero_le hx.1
  have hy : y < 4294967296 := by have := hx.2; omega
  have := right_any y k (w.drewN (p + q)) hy h1 h2
  rw [show ((rot y k : Nat) : Int) = rotI (y : Int) k from (rot_spell y k hy).symm] at this
  exact this.mono fun _ _ ⟨he, hw⟩ => ⟨he, q, hw.symm⟩
theorem right_0 (x : Int) (n : Int) (k : Nat) (hn : n = k) (h1 : 1 ≤ k) (h2 : k ≤ 31) (w : World) (m : Nat) (hx : U32 x) :
    Calls Try.prog 36 #[.int .u32 x, .int .u64 n] (w.drewN m) fun e w'' => e = .returned (.int .u32 (rotI x k)) ∧ ∃ m, w'' = w.drewN m := by
  subst hn
  obtain ⟨y, rfl⟩ := Int.eq_ofNat_of_zero_le hx.1
  have hy : y < 4294967296 := by have := hx.2; omega
  have := right_any y k (w.drewN m) hy h1 h2
  rw [show ((rot y k : Nat) : Int) = rotI (y : Int) k from (rot_spell y k hy).symm] at this
  exact this.mono fun _ _ ⟨he, hw⟩ => ⟨he, m, hw.symm⟩

theorem drew_merge {C : World → Prop} (w : World) (n1 n2 : Nat) (h : ∀ n, C (w.drewN n)) : C ((w.drewN n1).drewN n2) := by
  rw [World.drewN_drewN]
  exact h _

theorem wordI_ref (x16 x15 x7 x2 : Int) : (x16 + bits .xor .u32 (bits .xor .u32 (rotI x15 7) (rotI x15 18)) (x15 / 8) + x7 + bits .xor .u32 (bits .xor .u32 (rotI x2 17) (rotI x2 19)) (x2 / 1024)) % 4294967296 = wordI x16 x15 x7 x2 := by
  unfold wordI
  congr 1
  omega

set_option maxRecDepth 100000 in
set_option maxHeartbeats 1600000 in
theorem block2_any (g B : Nat) (b : List UInt8) (w : World) (hB : B ≤ g)
    (hg : IsWords w g 70 (sched b 16)) (Q0 : Exit → Act → World → Prop)
    (z0 z1 z2 z3 z4 z5 z6 z8 z10 z11 z12 z13 z14 z15 z16 z17 z18 z19 z20 z21 z22 z23 z24 z25 z26 z27 z28 z29 z30 z31 z32 z33 z34 z35 z36 z37 z38 z39 z40 z41 z42 z43 z44 z45 z46 z47 z48 z49 z50 z51 z52 z53 z54 z55 z56 z57 z58 z59 z60 z61 z62 z63 z64 z65 z66 z67 z68 z69 z70 z71 z72 z73 z74 z75 z76 z77 z78 z79 z80 z81 z82 z83 z84 z85 z86 z87 z88 z89 z90 z91 z92 z93 z94 z95 z96 z97 z98 z99 z100 z101 z102 z103 z104 z105 z106 z107 z108 z109 z110 z111 z112 z113 z114 z115 z116 z117 z118 z119 z120 z121 z122 z123 z124 z125 z126 z127 z128 z129 z130 z131 z132 z133 z134 z135 z136 z137 z138 z139 z140 z141 z142 z143 z144 z145 z146 z147 z148 z149 z150 z151 z152 z153 z154 z155 z156 z157 z158 z159 z160 z161 z162 z163 z164 z165 z166 z167 z168 z169 z170 z171 z172 z173 z174 z175 z176 z177 z178 z179 z180 z181 z182 z183 z184 z185 z186 z187 z188 z189 z190 z191 z192 z193 z194 z195 z196 z197 z198 z199 z200 z201 z202 z203 z204 z205 z206 z207 z208 z209 z210 z211 z212 z213 z214 z215 z216 z217 z218 z219 : Value)
    (hexit : ∀ x10 x11 x60 x61 x62 x63 x64 x65 x66 x67 x68 x69 x70 x71 x72 x73 x74 x75 x76 x77 x78 x79 x80 x81 x82 x83 x84 x85 x86 x87 x88 x89 x90 x91 x92 x93 x94 x95 x96 x97 x98 x99 x100 x101 x102 x103 x104 x105 x106 x107 x108 x109 x110 x111 x112 w', Below B w w' → IsWords w' g 70 (sched b 64) → Q0 (.exit 2) ⟨(z0 :: z1 :: z2 :: z3 :: z4 :: z5 :: z6 :: .pointer (some ⟨g, 0, none⟩) :: z8 :: .int .i64 64 :: x10 :: x11 :: z12 :: z13 :: z14 :: z15 :: z16 :: z17 :: z18 :: z19 :: z20 :: z21 :: z22 :: z23 :: z24 :: z25 :: z26 :: z27 :: z28 :: z29 :: z30 :: z31 :: z32 :: z33 :: z34 :: z35 :: z36 :: z37 :: z38 :: z39 :: z40 :: z41 :: z42 :: z43 :: z44 :: z45 :: z46 :: z47 :: z48 :: z49 :: z50 :: z51 :: z52 :: z53 :: z54 :: z55 :: z56 :: z57 :: z58 :: z59 :: x60 :: x61 :: x62 :: x63 :: x64 :: x65 :: x66 :: x67 :: x68 :: x69 :: x70 :: x71 :: x72 :: x73 :: x74 :: x75 :: x76 :: x77 :: x78 :: x79 :: x80 :: x81 :: x82 :: x83 :: x84 :: x85 :: x86 :: x87 :: x88 :: x89 :: x90 :: x91 :: x92 :: x93 :: x94 :: x95 :: x96 :: x97 :: x98 :: x99 :: x100 :: x101 :: x102 :: x103 :: x104 :: x105 :: x106 :: x107 :: x108 :: x109 :: x110 :: x111 :: x112 :: z113 :: z114 :: z115 :: z116 :: z117 :: z118 :: z119 :: z120 :: z121 :: z122 :: z123 :: z124 :: z125 :: z126 :: z127 :: z128 :: z129 :: z130 :: z131 :: z132 :: z133 :: z134 :: z135 :: z136 :: z137 :: z138 :: z139 :: z140 :: z141 :: z142 :: z143 :: z144 :: z145 :: z146 :: z147 :: z148 :: z149 :: z150 :: z151 :: z152 :: z153 :: z154 :: z155 :: z156 :: z157 :: z158 :: z159 :: z160 :: z161 :: z162 :: z163 :: z164 :: z165 :: z166 :: z167 :: z168 :: z169 :: z170 :: z171 :: z172 :: z173 :: z174 :: z175 :: z176 :: z177 :: z178 :: z179 :: z180 :: z181 :: z182 :: z183 :: z184 :: z185 :: z186 :: z187 :: z188 :: z189 :: z190 :: z191 :: z192 :: z193 :: z194 :: z195 :: z196 :: z197 :: z198 :: z199 :: z200 :: z201 :: z202 :: z203 :: z204 :: z205 :: z206 :: z207 :: z208 :: z209 :: z210 :: z211 :: z212 :: z213 :: z214 :: z215 :: z216 :: z217 :: z218 :: z219 :: []).toArray, []⟩ w')
    (code : Code) (hcode : code = blockBody 1) :
    Code.wp Try.prog (Code.loop code) Q0 ⟨(z0 :: z1 :: z2 :: z3 :: z4 :: z5 :: z6 :: .pointer (some ⟨g, 0, none⟩) :: z8 :: .int .i64 16 :: z10 :: z11 :: z12 :: z13 :: z14 :: z15 :: z16 :: z17 :: z18 :: z19 :: z20 :: z21 :: z22 :: z23 :: z24 :: z25 :: z26 :: z27 :: z28 :: z29 :: z30 :: z31 :: z32 :: z33 :: z34 :: z35 :: z36 :: z37 :: z38 :: z39 :: z40 :: z41 :: z42 :: z43 :: z44 :: z45 :: z46 :: z47 :: z48 :: z49 :: z50 :: z51 :: z52 :: z53 :: z54 :: z55 :: z56 :: z57 :: z58 :: z59 :: z60 :: z61 :: z62 :: z63 :: z64 :: z65 :: z66 :: z67 :: z68 :: z69 :: z70 :: z71 :: z72 :: z73 :: z74 :: z75 :: z76 :: z77 :: z78 :: z79 :: z80 :: z81 :: z82 :: z83 :: z84 :: z85 :: z86 :: z87 :: z88 :: z89 :: z90 :: z91 :: z92 :: z93 :: z94 :: z95 :: z96 :: z97 :: z98 :: z99 :: z100 :: z101 :: z102 :: z103 :: z104 :: z105 :: z106 :: z107 :: z108 :: z109 :: z110 :: z111 :: z112 :: z113 :: z114 :: z115 :: z116 :: z117 :: z118 :: z119 :: z120 :: z121 :: z122 :: z123 :: z124 :: z125 :: z126 :: z127 :: z128 :: z129 :: z130 :: z131 :: z132 :: z133 :: z134 :: z135 :: z136 :: z137 :: z138 :: z139 :: z140 :: z141 :: z142 :: z143 :: z144 :: z145 :: z146 :: z147 :: z148 :: z149 :: z150 :: z151 :: z152 :: z153 :: z154 :: z155 :: z156 :: z157 :: z158 :: z159 :: z160 :: z161 :: z162 :: z163 :: z164 :: z165 :: z166 :: z167 :: z168 :: z169 :: z170 :: z171 :: z172 :: z173 :: z174 :: z175 :: z176 :: z177 :: z178 :: z179 :: z180 :: z181 :: z182 :: z183 :: z184 :: z185 :: z186 :: z187 :: z188 :: z189 :: z190 :: z191 :: z192 :: z193 :: z194 :: z195 :: z196 :: z197 :: z198 :: z199 :: z200 :: z201 :: z202 :: z203 :: z204 :: z205 :: z206 :: z207 :: z208 :: z209 :: z210 :: z211 :: z212 :: z213 :: z214 :: z215 :: z216 :: z217 :: z218 :: z219 :: []).toArray, []⟩ w := by
  subst hcode
  have HX := Lib.hid hexit
  clear hexit
  conv => arg 2; arg 1; whnf
  go_loopw [9] (fun i wr => ∃ k : Nat, 16 ≤ k ∧ k ≤ 64 ∧ i = .int .i64 k ∧ Below B w wr ∧ IsWords wr g 70 (sched b k)) (fun i _ => 64 - (intOf i).toNat)
  case atStart => exact ⟨16, by omega, by omega, rfl, Below.refl _ _, hg⟩
  case round =>
    obtain ⟨i, h16, hk, rfl, hbel, hws⟩ := hrel
    by_cases h63 : i < 64
    · have hl := sched_length b i
      have hiL : i < (sched b i).length := by omega
      have a15 : i - 15 < (sched b i).length := by omega
      have a2 : i - 2 < (sched b i).length := by omega
      have a16 : i - 16 < (sched b i).length := by omega
      have a7 : i - 7 < (sched b i).length := by omega
      have c15 := hws.cell (i - 15) a15
      have c2 := hws.cell (i - 2) a2
      have c16 := hws.cell (i - 16) a16
      have c7 := hws.cell (i - 7) a7
      have hnext := sched_next b i hiL (by omega)
      rw [← wordI_ref] at hnext
      have U15 := Lib.hid (sched_u32 b i _ (List.getElem_mem a15))
      have U2 := Lib.hid (sched_u32 b i _ (List.getElem_mem a2))
      generalize (sched b i)[i - 15] = x15 at *
      generalize (sched b i)[i - 2] = x2 at *
      generalize (sched b i)[i - 16] = x16 at *
      generalize (sched b i)[i - 7] = x7 at *
      have d := hws.cell i hiL
      have f := hws.free i
      have HNX := Lib.hid hnext
      have HWS := Lib.hid hws
      clear hnext hws
      have t15 : ((i : Int) - 15).toNat = i - 15 := by omega
      have t2 : ((i : Int) - 2).toNat = i - 2 := by omega
      have t16 : ((i : Int) - 16).toNat = i - 16 := by omega
      have t7 : ((i : Int) - 7).toNat = i - 7 := by omega
      have l15 : (i : Int) - 15 < 64 := by omega
      have l2 : (i : Int) - 2 < 64 := by omega
      have l16 : (i : Int) - 16 < 64 := by omega
      have l7 : (i : Int) - 7 < 64 := by omega
      have m15 : (15 : Int) ≤ (i : Int) := by omega
      have m2 : (2 : Int) ≤ (i : Int) := by omega
      have m16 : (16 : Int) ≤ (i : Int) := by omega
      have m7 : (7 : Int) ≤ (i : Int) := by omega
      have i0 : (0 : Int) ≤ (i : Int) := by omega
      have i1 : (i : Int) < 64 := by omega
      have e15 : IntKind.i64.wrap ((i : Int) - 15) = (i : Int) - 15 := IntWalk.i64_in _ (by omega)
      have e2 : IntKind.i64.wrap ((i : Int) - 2) = (i : Int) - 2 := IntWalk.i64_in _ (by omega)
      have e16 : IntKind.i64.wrap ((i : Int) - 16) = (i : Int) - 16 := IntWalk.i64_in _ (by omega)
      have e7 : IntKind.i64.wrap ((i : Int) - 7) = (i : Int) - 7 := IntWalk.i64_in _ (by omega)
      go_wp2_with fail
      go_quiet (first
        | (go_at_call 36; with_reducible exact right_0 x15 7 7 rfl (by decide) (by decide) _ _ U15.out)
        | (go_at_call 36; with_reducible exact right_0 x15 18 18 rfl (by decide) (by decide) _ _ U15.out))
      go_wp2_with fail
      go_quiet (first
        | (go_at_call 36; with_reducible exact right_q x2 17 17 rfl (by decide) (by decide) _ _ _ U2.out)
        | (go_at_call 36; with_reducible exact right_q x2 19 19 rfl (by decide) (by decide) _ _ _ U2.out))
      go_wp2_with fail
      refine drew_merge (C := fun w => Code.wp _ _ _ _ w) wr _ _ ?_
      intro n
      have d16 : (wr.drewN n).cell? ⟨g, i - 16, none⟩ = some (.int .u32 x16) := c16
      have d7 : (wr.drewN n).cell? ⟨g, i - 7, none⟩ = some (.int .u32 x7) := c7
      have d0 : (wr.drewN n).cell? ⟨g, i, none⟩ = _ := d
      have f0 : (wr.drewN n).frozen? ⟨g, i, none⟩ = false := f
      have HW9 : Hid (IsWords (wr.drewN n) g 70 (sched b i)) := HWS.out
      have HB9 : Hid (Below B w (wr.drewN n)) := below_drewN hbel _
      clear c16 c7 c15 c2 d f HWS hbel
      generalize wr.drewN n = w9 at *
      go_still_tail 15, (by kernel_rfl)
      change wpList _ _ _ _ _ w9.drew
      go_wp2_with fail
      go_roundw
      case rel => exact ⟨i + 1, by omega, by omega, by go_num, (HB9.out.setCell hB _).drew, by rw [HNX.out]; exact HW9.out.set i _⟩
      case measure => simp [intOf]; omega
    · have hke : i = 64 := by omega
      subst hke
      go_wp2_with fail
      exact HX.out _ _ _ _ _ _ _ _ _ _ _ _ _ _ _ _ _ _ _ _ _ _ _ _ _ _ _ _ _ _ _ _ _ _ _ _ _ _ _ _ _ _ _ _ _ _ _ _ _ _ _ _ _ _ _ _ hbel hws
end Go.Proofs.Ythkjihfnphdfkaa.Sha
