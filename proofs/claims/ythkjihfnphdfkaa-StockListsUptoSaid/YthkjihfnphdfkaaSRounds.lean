/- take's 64 rounds: the walk. -/
import Derived.Test.YthkjihfnphdfkaaSKey
import Derived.WalkMore
import Derived.Deep.QuietTactic
namespace Go.Proofs.Ythkjihfnphdfkaa.Sha
open Go.RowKit

/-- a row of words. -/
def IsWords (w : World) (g : Nat) (t : TypeId) (ws : List Int) : Prop := w.heap[g]? = some (.cells (ws.map w32).toArray t (0, 0))
theorem IsWords.cell {w : World} {g : Nat} {t : TypeId} {ws : List Int} (h : IsWords w g t ws) (i : Nat) (hi : i < ws.length) : w.cell? ⟨g, i, none⟩ = some (.int .u32 ws[i]) := by
  rw [cell_of_row w g i _ _ _ h]
  simp [hi, w32]
theorem IsWords.free {w : World} {g : Nat} {t : TypeId} {ws : List Int} (h : IsWords w g t ws) (i : Nat) : w.frozen? ⟨g, i, none⟩ = false := frozen_of_row w g i _ _ h
theorem IsWords.set {w : World} {g : Nat} {t : TypeId} {ws : List Int} (h : IsWords w g t ws) (i : Nat) (x : Int) : IsWords (w.setCell ⟨g, i, none⟩ (.int .u32 x)) g t (ws.set i x) := by
  unfold IsWords
  rw [heap_setCell_same w g i _ t _ h]
  congr 2
  simp [w32, List.map_set]
theorem IsWords.set_other {w : World} {g ss i : Nat} {t : TypeId} {ws : List Int} (h : IsWords w g t ws) (hn : ss ≠ g) (x : Value) : IsWords (w.setCell ⟨ss, i, none⟩ x) g t ws := by
  unfold IsWords
  rw [Below.heap_setCell _ _ _ _ (Ne.symm hn)]
  exact h
theorem IsWords.set8_other {w : World} {g ss : Nat} {t : TypeId} {ws : List Int} (h : IsWords w g t ws) (hn : ss ≠ g) (x0 x1 x2 x3 x4 x5 x6 x7 : Value) :
    IsWords ((((((((w.setCell ⟨ss, 0, none⟩ x0).setCell ⟨ss, 1, none⟩ x1).setCell ⟨ss, 2, none⟩ x2).setCell ⟨ss, 3, none⟩ x3).setCell ⟨ss, 4, none⟩ x4).setCell ⟨ss, 5, none⟩ x5).setCell ⟨ss, 6, none⟩ x6).setCell ⟨ss, 7, none⟩ x7) g t ws :=
  (((((((h.set_other hn _).set_other hn _).set_other hn _).set_other hn _).set_other hn _).set_other hn _).set_other hn _).set_other hn _
theorem below_set8 {B : Nat} {w0 w : World} (h : Below B w0 w) {ss : Nat} (hB : B ≤ ss) (x0 x1 x2 x3 x4 x5 x6 x7 : Value) :
    Below B w0 ((((((((w.setCell ⟨ss, 0, none⟩ x0).setCell ⟨ss, 1, none⟩ x1).setCell ⟨ss, 2, none⟩ x2).setCell ⟨ss, 3, none⟩ x3).setCell ⟨ss, 4, none⟩ x4).setCell ⟨ss, 5, none⟩ x5).setCell ⟨ss, 6, none⟩ x6).setCell ⟨ss, 7, none⟩ x7) :=
  (((((((h.setCell hB _).setCell hB _).setCell hB _).setCell hB _).setCell hB _).setCell hB _).setCell hB _).setCell hB _
theorem IsWords.set8 {w : World} {ss : Nat} {y0 y1 y2 y3 y4 y5 y6 y7 : Int} (h : IsWords w ss 69 [y0, y1, y2, y3, y4, y5, y6, y7]) (x0 x1 x2 x3 x4 x5 x6 x7 : Int) :
    IsWords ((((((((w.setCell ⟨ss, 0, none⟩ (.int .u32 x0)).setCell ⟨ss, 1, none⟩ (.int .u32 x1)).setCell ⟨ss, 2, none⟩ (.int .u32 x2)).setCell ⟨ss, 3, none⟩ (.int .u32 x3)).setCell ⟨ss, 4, none⟩ (.int .u32 x4)).setCell ⟨ss, 5, none⟩ (.int .u32 x5)).setCell ⟨ss, 6, none⟩ (.int .u32 x6)).setCell ⟨ss, 7, none⟩ (.int .u32 x7)) ss 69 [x0, x1, x2, x3, x4, x5, x6, x7] :=
  (((((((h.set 0 x0).set 1 x1).set 2 x2).set 3 x3).set 4 x4).set 5 x5).set 6 x6).set 7 x7
theorem IsWords.drewN {w : World} {g : Nat} {t : TypeId} {ws : List Int} (h : IsWords w g t ws) (n : Nat) : IsWords (w.drewN n) g t ws := h
theorem IsWords.below {B : Nat} {w w' : World} {g : Nat} {t : TypeId} {ws : List Int} (h : IsWords w g t ws) (hb : Below B w w') (hg : g < B) : IsWords w' g t ws := (hb.block g hg).trans h

def intAt (a : Act) (s : Nat) : Int := intOf (a.tmps.getD s undef)

/-- x turned right by k. -/
def rotI (x : Int) (k : Nat) : Int := bits .or .u32 (x / 2 ^ k) (x * 2 ^ (32 - k) % 4294967296)
def U32 (x : Int) : Prop := 0 ≤ x ∧ x < 4294967296
theorem turn_int (x n : Int) (k : Nat) (hn : n = k) (h1 : 1 ≤ k) (h2 : k ≤ 31) (w : World) (hx : U32 x) :
    Calls Try.prog 37 #[.int .u32 x, .int .i64 n] w fun e w' => e = .returned (.int .u32 (rotI x k)) ∧ ∃ k, w' = w.drewN k := by
  subst hn
  obtain ⟨y, rfl⟩ := Int.eq_ofNat_of_zero_le hx.1
  have hy : y < 4294967296 := by have := hx.2; omega
  have := turn_any y k w hy h1 h2
  rw [show ((rot y k : Nat) : Int) = rotI (y : Int) k from (rot_spell y k hy).symm] at this
  exact this

theorem turn_q (x n : Int) (k : Nat) (hn : n = k) (h1 : 1 ≤ k) (h2 : k ≤ 31) (w : World) (p q : Nat) (hx : U32 x) :
    Calls Try.prog 37 #[.int .u32 x, .int .i64 n] (w.drewN (p + q)) fun e w'' => e = .returned (.int .u32 (rotI x k)) ∧ ∃ m, w'' = w.drewN (p + m) :=
  (turn_int x n k hn h1 h2 _ hx).mono fun _ _ ⟨he, m, hm⟩ => ⟨he, q + m, by rw [hm, World.drewN_drewN, Nat.add_assoc]⟩

/-- The eight words of a digest. -/
structure St where
  (a b c d e f g h : Int)
def St.row (s : St) : List Int := [s.a, s.b, s.c, s.d, s.e, s.f, s.g, s.h]
def pI (e f g h k w : Int) : Int := (h + bits .xor .u32 (bits .xor .u32 (rotI e 6) (rotI e 11)) (rotI e 25) + bits .xor .u32 (bits .and .u32 e f) (bits .and .u32 (bits .xor .u32 IntKind.u32.max e) g) + k + w) % 4294967296
def qI (a b c : Int) : Int := (bits .xor .u32 (bits .xor .u32 (rotI a 2) (rotI a 13)) (rotI a 22) + bits .xor .u32 (bits .xor .u32 (bits .and .u32 a b) (bits .and .u32 a c)) (bits .and .u32 b c)) % 4294967296
def St.step (s : St) (k w : Int) : St :=
  ⟨(pI s.e s.f s.g s.h k w + qI s.a s.b s.c) % 4294967296, s.a, s.b, s.c, (s.d + pI s.e s.f s.g s.h k w) % 4294967296, s.e, s.f, s.g⟩
theorem St.row_step (a b c d e f g h k w : Int) : (St.step ⟨a, b, c, d, e, f, g, h⟩ k w).row =
    [(h + bits .xor .u32 (bits .xor .u32 (rotI e 6) (rotI e 11)) (rotI e 25) + bits .xor .u32 (bits .and .u32 e f) (bits .and .u32 (bits .xor .u32 IntKind.u32.max e) g) + k + w + (bits .xor .u32 (bits .xor .u32 (rotI a 2) (rotI a 13)) (rotI a 22) + bits .xor .u32 (bits .xor .u32 (bits .and .u32 a b) (bits .and .u32 a c)) (bits .and .u32 b c))) % 4294967296, a, b, c,
      (d + (h + bits .xor .u32 (bits .xor .u32 (rotI e 6) (rotI e 11)) (rotI e 25) + bits .xor .u32 (bits .and .u32 e f) (bits .and .u32 (bits .xor .u32 IntKind.u32.max e) g) + k + w)) % 4294967296, e, f, g] := by
  simp [St.step, St.row, pI, qI]
def St.ok (s : St) : Prop := U32 s.a ∧ U32 s.b ∧ U32 s.c ∧ U32 s.d ∧ U32 s.e ∧ U32 s.f ∧ U32 s.g ∧ U32 s.h
theorem u32_mod (x : Int) : U32 (x % 4294967296) := ⟨Int.emod_nonneg _ (by decide), Int.emod_lt_of_pos _ (by decide)⟩
theorem St.ok_step {s : St} (h : s.ok) (k w : Int) : (s.step k w).ok := by
  obtain ⟨ha, hb, hc, hd, he, hf, hg, hh⟩ := h
  exact ⟨u32_mod _, ha, hb, hc, u32_mod _, he, hf, hg⟩
def St.run (ks ws : List Int) (s : St) : Nat → St
  | 0 => s
  | i + 1 => (St.run ks ws s i).step (ks.getD i 0) (ws.getD i 0)
theorem St.ok_run {s : St} (h : s.ok) (ks ws : List Int) : ∀ i, (St.run ks ws s i).ok
  | 0 => h
  | i + 1 => St.ok_step (St.ok_run h ks ws i) _ _

def firstLoop : Code → Option Code
  | .loop c => some c
  | .seq a b => match firstLoop a with
    | some c => some c
    | none => firstLoop b
  | .block _ c => firstLoop c
  | .scope c => firstLoop c
  | .cond _ a b => match firstLoop a with
    | some c => some c
    | none => firstLoop b
  | _ => none
def behindLoop : Code → Option Code
  | .loop _ => none
  | .seq a b => match firstLoop a with
    | some _ => some b
    | none => behindLoop b
  | .block _ c => behindLoop c
  | .scope c => behindLoop c
  | _ => none
noncomputable def roundsBody : Code := ((Try.f35.body.bind firstLoop).getD .skip)

set_option maxRecDepth 100000 in
set_option maxHeartbeats 1000000 in
theorem rounds_any (g kk ss : Nat) (ws ks : List Int) (s : St) (hs : s.ok) (hwl : ws.length = 64) (hkl : ks.length = 64) (hn : ss ≠ g) (hn' : ss ≠ kk) (w : World) (B : Nat) (hB : B ≤ ss)
    (hg : IsWords w g 70 ws) (hk : IsWords w kk 70 ks) (hss : IsWords w ss 69 s.row) (Q0 : Exit → Act → World → Prop)
    (z0 z1 z2 z3 z5 z6 z7 z10 z11 z12 z13 z14 z15 z16 z17 z18 z19 z20 z21 z22 z23 z24 z25 z26 z27 z28 z29 z30 z31 z32 z33 z34 z35 z36 z37 z38 z39 z40 z41 z42 z43 z44 z45 z46 z47 z48 z49 z50 z51 z52 z53 z54 z55 z56 z57 z58 z59 z60 z61 z62 z63 z64 z65 z66 z67 z68 z69 z70 z71 z72 z73 z74 z75 z76 z77 z78 z79 z80 z81 z82 z83 z84 z85 z86 z87 z88 z89 z90 z91 z92 z93 z94 z95 z96 z97 z98 z99 z101 z102 z103 z104 z105 z106 z107 z108 z109 z110 z111 z112 z113 z114 z115 z116 z117 z118 z119 z120 z121 z122 z123 z124 z125 z126 z127 z128 z129 z130 z131 z132 z133 z134 z135 z136 z137 z138 z139 z140 z141 z142 z143 z144 z145 z146 z147 z148 z149 z150 z151 z152 z153 z154 z155 z156 z157 z158 z159 z160 z161 z162 z163 z164 z165 z166 z167 z168 z169 z170 z171 z172 z173 z174 z175 z176 z177 z178 z179 z180 z181 z182 z183 z184 z185 z186 z187 z188 z189 z190 z191 z192 z193 z194 z195 z196 : Value)
    (hexit : ∀ x10 x11 x12 x13 x14 x101 x102 x103 x104 x105 x106 x107 x108 x109 x110 x111 x112 x113 x114 x115 x116 x117 x118 x119 x120 x121 x122 x123 x124 x125 x126 x127 x128 x129 x130 x131 x132 x133 x134 x135 x136 x137 x138 x139 x140 x141 x142 x143 x144 x145 x146 x147 x148 x149 x150 x151 x152 x153 x154 x155 x156 x157 x158 x159 x160 x161 x162 x163 x164 x165 x166 x167 x168 x169 x170 x171 x172 x173 x174 x175 x176 x177 x178 x179 w', Below B w w' → IsWords w' ss 69 (St.run ks ws s 64).row → Q0 (.exit 1) ⟨(z0 :: z1 :: z2 :: z3 :: .pointer (some ⟨g, 0, none⟩) :: z5 :: z6 :: z7 :: .pointer (some ⟨kk, 0, none⟩) :: .pointer (some ⟨ss, 0, none⟩) :: x10 :: x11 :: x12 :: x13 :: x14 :: z15 :: z16 :: z17 :: z18 :: z19 :: z20 :: z21 :: z22 :: z23 :: z24 :: z25 :: z26 :: z27 :: z28 :: z29 :: z30 :: z31 :: z32 :: z33 :: z34 :: z35 :: z36 :: z37 :: z38 :: z39 :: z40 :: z41 :: z42 :: z43 :: z44 :: z45 :: z46 :: z47 :: z48 :: z49 :: z50 :: z51 :: z52 :: z53 :: z54 :: z55 :: z56 :: z57 :: z58 :: z59 :: z60 :: z61 :: z62 :: z63 :: z64 :: z65 :: z66 :: z67 :: z68 :: z69 :: z70 :: z71 :: z72 :: z73 :: z74 :: z75 :: z76 :: z77 :: z78 :: z79 :: z80 :: z81 :: z82 :: z83 :: z84 :: z85 :: z86 :: z87 :: z88 :: z89 :: z90 :: z91 :: z92 :: z93 :: z94 :: z95 :: z96 :: z97 :: z98 :: z99 :: .int .i64 64 :: x101 :: x102 :: x103 :: x104 :: x105 :: x106 :: x107 :: x108 :: x109 :: x110 :: x111 :: x112 :: x113 :: x114 :: x115 :: x116 :: x117 :: x118 :: x119 :: x120 :: x121 :: x122 :: x123 :: x124 :: x125 :: x126 :: x127 :: x128 :: x129 :: x130 :: x131 :: x132 :: x133 :: x134 :: x135 :: x136 :: x137 :: x138 :: x139 :: x140 :: x141 :: x142 :: x143 :: x144 :: x145 :: x146 :: x147 :: x148 :: x149 :: x150 :: x151 :: x152 :: x153 :: x154 :: x155 :: x156 :: x157 :: x158 :: x159 :: x160 :: x161 :: x162 :: x163 :: x164 :: x165 :: x166 :: x167 :: x168 :: x169 :: x170 :: x171 :: x172 :: x173 :: x174 :: x175 :: x176 :: x177 :: x178 :: x179 :: z180 :: z181 :: z182 :: z183 :: z184 :: z185 :: z186 :: z187 :: z188 :: z189 :: z190 :: z191 :: z192 :: z193 :: z194 :: z195 :: z196 :: []).toArray, []⟩ w')
    (code : Code) (hcode : code = roundsBody) :
    Code.wp Try.prog (Code.loop code) Q0 ⟨(z0 :: z1 :: z2 :: z3 :: .pointer (some ⟨g, 0, none⟩) :: z5 :: z6 :: z7 :: .pointer (some ⟨kk, 0, none⟩) :: .pointer (some ⟨ss, 0, none⟩) :: z10 :: z11 :: z12 :: z13 :: z14 :: z15 :: z16 :: z17 :: z18 :: z19 :: z20 :: z21 :: z22 :: z23 :: z24 :: z25 :: z26 :: z27 :: z28 :: z29 :: z30 :: z31 :: z32 :: z33 :: z34 :: z35 :: z36 :: z37 :: z38 :: z39 :: z40 :: z41 :: z42 :: z43 :: z44 :: z45 :: z46 :: z47 :: z48 :: z49 :: z50 :: z51 :: z52 :: z53 :: z54 :: z55 :: z56 :: z57 :: z58 :: z59 :: z60 :: z61 :: z62 :: z63 :: z64 :: z65 :: z66 :: z67 :: z68 :: z69 :: z70 :: z71 :: z72 :: z73 :: z74 :: z75 :: z76 :: z77 :: z78 :: z79 :: z80 :: z81 :: z82 :: z83 :: z84 :: z85 :: z86 :: z87 :: z88 :: z89 :: z90 :: z91 :: z92 :: z93 :: z94 :: z95 :: z96 :: z97 :: z98 :: z99 :: .int .i64 0 :: z101 :: z102 :: z103 :: z104 :: z105 :: z106 :: z107 :: z108 :: z109 :: z110 :: z111 :: z112 :: z113 :: z114 :: z115 :: z116 :: z117 :: z118 :: z119 :: z120 :: z121 :: z122 :: z123 :: z124 :: z125 :: z126 :: z127 :: z128 :: z129 :: z130 :: z131 :: z132 :: z133 :: z134 :: z135 :: z136 :: z137 :: z138 :: z139 :: z140 :: z141 :: z142 :: z143 :: z144 :: z145 :: z146 :: z147 :: z148 :: z149 :: z150 :: z151 :: z152 :: z153 :: z154 :: z155 :: z156 :: z157 :: z158 :: z159 :: z160 :: z161 :: z162 :: z163 :: z164 :: z165 :: z166 :: z167 :: z168 :: z169 :: z170 :: z171 :: z172 :: z173 :: z174 :: z175 :: z176 :: z177 :: z178 :: z179 :: z180 :: z181 :: z182 :: z183 :: z184 :: z185 :: z186 :: z187 :: z188 :: z189 :: z190 :: z191 :: z192 :: z193 :: z194 :: z195 :: z196 :: []).toArray, []⟩ w := by
  subst hcode
  conv => arg 2; arg 1; whnf
  go_loopw [100] (fun i wr => ∃ k : Nat, k ≤ 64 ∧ i = .int .i64 k ∧ Below B w wr ∧ IsWords wr g 70 ws ∧ IsWords wr kk 70 ks ∧ IsWords wr ss 69 (St.run ks ws s k).row) (fun i _ => 64 - (intOf i).toNat)
  case atStart => exact ⟨0, by omega, rfl, Below.refl _ _, hg, hk, hss⟩
  case round =>
    obtain ⟨k, hk64, rfl, hbel, hgw, hkw, hsw⟩ := hrel
    have hok := St.ok_run hs ks ws k
    by_cases hlt : k < 64
    · have hst : St.run ks ws s (k + 1) = (St.run ks ws s k).step (ks.getD k 0) (ws.getD k 0) := rfl
      rw [show ks.getD k 0 = ks[k]'(by omega) by simp [hkl, hlt], show ws.getD k 0 = ws[k]'(by omega) by simp [hwl, hlt]] at hst
      have ck := hkw.cell k (by omega)
      have cw := hgw.cell k (by omega)
      generalize ks[k]'(by omega) = kv at hst ck
      generalize ws[k]'(by omega) = wv at hst cw
      generalize St.run ks ws s k = sk at *
      obtain ⟨a, b, c, d, e, f, gg, hh⟩ := sk
      have HST := Lib.hid hst
      clear hst
      have c0 := hsw.cell 0 (by simp [St.row])
      have c1 := hsw.cell 1 (by simp [St.row])
      have c2 := hsw.cell 2 (by simp [St.row])
      have c3 := hsw.cell 3 (by simp [St.row])
      have c4 := hsw.cell 4 (by simp [St.row])
      have c5 := hsw.cell 5 (by simp [St.row])
      have c6 := hsw.cell 6 (by simp [St.row])
      have c7 := hsw.cell 7 (by simp [St.row])
      simp only [St.row, List.getElem_cons_zero, List.getElem_cons_succ] at c0 c1 c2 c3 c4 c5 c6 c7
      have f0 := hsw.free 0
      have f1 := hsw.free 1
      have f2 := hsw.free 2
      have f3 := hsw.free 3
      have f4 := hsw.free 4
      have f5 := hsw.free 5
      have f6 := hsw.free 6
      have f7 := hsw.free 7
      have HA := Lib.hid hok.1
      have HE := Lib.hid hok.2.2.2.2.1
      have k0 : (0 : Int) ≤ (k : Int) := by omega
      have k1 : (k : Int) < 64 := by omega
      have HSW := Lib.hid hsw
      have HGW := Lib.hid hgw
      have HKW := Lib.hid hkw
      clear hsw hgw hkw
      go_wp2_with fail
      go_quiet (fail)
      go_wp2_with fail
      go_quiet (first
        | (go_at_call 37; with_reducible exact turn_q e 6 6 rfl (by decide) (by decide) _ _ _ HE.out)
        | (go_at_call 37; with_reducible exact turn_q e 11 11 rfl (by decide) (by decide) _ _ _ HE.out)
        | (go_at_call 37; with_reducible exact turn_q e 25 25 rfl (by decide) (by decide) _ _ _ HE.out))
      go_wp2_with fail
      go_quiet (first
        | (go_at_call 37; with_reducible exact turn_q a 2 2 rfl (by decide) (by decide) _ _ _ HA.out)
        | (go_at_call 37; with_reducible exact turn_q a 13 13 rfl (by decide) (by decide) _ _ _ HA.out)
        | (go_at_call 37; with_reducible exact turn_q a 22 22 rfl (by decide) (by decide) _ _ _ HA.out))
      go_wp2_with fail
      go_roundw
      case rel =>
        refine ⟨k + 1, by omega, by go_num, below_set8 (below_drewN hbel _) hB _ _ _ _ _ _ _ _, (HGW.out.drewN _).set8_other hn _ _ _ _ _ _ _ _, (HKW.out.drewN _).set8_other hn' _ _ _ _ _ _ _ _, ?_⟩
        rw [HST.out, St.row_step]
        exact (HSW.out.drewN _).set8 _ _ _ _ _ _ _ _
      case measure => simp [intOf]; omega
    · have hke : k = 64 := by omega
      subst hke
      go_wp2_with fail
      exact hexit _ _ _ _ _  _ _ _ _ _  _ _ _ _ _  _ _ _ _ _  _ _ _ _ _  _ _ _ _ _  _ _ _ _ _  _ _ _ _ _  _ _ _ _ _  _ _ _ _ _  _ _ _ _ _  _ _ _ _ _  _ _ _ _ _  _ _ _ _ _  _ _ _ _ _  _ _ _ _ _  _ _ _ _ _ hbel hsw
end Go.Proofs.Ythkjihfnphdfkaa.Sha

