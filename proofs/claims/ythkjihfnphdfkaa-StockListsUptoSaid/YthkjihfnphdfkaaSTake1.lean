/- take: the first sixteen words. -/
import Derived.Test.YthkjihfnphdfkaaSAdds
import Derived.WalkMore
import Derived.Deep.Cut
import Derived.ScopeJumps
import Derived.StillTailTactics
import Derived.Deep.RegionHeld3
namespace Go.Proofs.Ythkjihfnphdfkaa.Sha
open Go.RowKit

/-- four bytes as a word. -/
def beW (b0 b1 b2 b3 : Int) : Int := bits .or .u32 (bits .or .u32 (bits .or .u32 (b0 * 16777216) (b1 * 65536)) (b2 * 256)) b3

/-- a further word of the schedule. -/
def wordI (x16 x15 x7 x2 : Int) : Int :=
  (x16 + x7 + bits .xor .u32 (bits .xor .u32 (rotI x15 7) (rotI x15 18)) (x15 / 8) + bits .xor .u32 (bits .xor .u32 (rotI x2 17) (rotI x2 19)) (x2 / 1024)) % 4294967296

theorem IsWords.alloc {w : World} {g : Nat} {t : TypeId} {ws : List Int} (h : IsWords w g t ws) (o : Obj) : IsWords (w.alloc o) g t ws :=
  h.below ((Below.refl w.heap.size w).alloc (Nat.le_refl _) o) (Array.getElem?_eq_some_iff.1 h).1
theorem wpList_store_row_to {P : Program} {ops : Array Oper} {rest : List Oper} {o : Oper} {a : Act} {w : World} {Q : Exit → Act → World → Prop} (hgd : o.guard = none) (ty : TypeId) (x y : Operand) (ho : o.op = .store ty x y)
    (g : Nat) (cells : Array Value) (hx : a.eval x = .pointer (some ⟨g, 0, none⟩)) (hy : a.eval y = .agg cells)
    (t : TypeId) (old : Array Value) (hg : w.heap[g]? = some (.cells old t (0, 0))) (hi : (P.info? ty).map (·.size) = some cells.size)
    (hold : old.size = cells.size) (h1 : cells.all (·.oneCell') = true)
    (h : ∀ w', w'.heap[g]? = some (.cells cells t (0, 0)) → (∀ B, B ≤ g → Below B w w') → wpList P ops Q rest (a.put o.dst undef) w') : wpList P ops Q (o :: rest) a w :=
  wpList_store_row hgd ty x y ho g cells hx hy t old hg hi hold h1 (h _ (setRow_heap w g old cells t (0, 0) hg) (fun B hB => below_setRow (Below.refl B w) hB cells))
theorem key_cells : (keyL.map w32).toArray.all (·.oneCell') = true := by kernel_rfl
theorem key_info : (Try.prog.info? 70).map (·.size) = some (keyL.map w32).toArray.size := by kernel_rfl

def scopeOf : Code → Option Code
  | .scope c => some c
  | .seq a b => match scopeOf a with
    | some c => some c
    | none => scopeOf b
  | .block _ c => scopeOf c
  | .loop c => scopeOf c
  | _ => none
noncomputable def restCode : Code := ((Try.f35.body.bind scopeOf).bind (findLabel · 0)).getD .skip

set_option maxRecDepth 100000 in
set_option maxHeartbeats 1600000 in
theorem pass16 (p g blk off cap B : Nat) (b : List UInt8) (W : Nat → List Int) (w wr : World) (i : Nat) (h16 : i < 16) (hB : B ≤ g)
    (hlen : b.length = 64)
    (hW : ∀ i, (W i).length = 64)
    (hWb : ∀ i (h : 4 * i + 3 < b.length), i < 16 → W (i + 1) = (W i).set i (beW (b[4 * i].toNat) (b[4 * i + 1].toNat) (b[4 * i + 2].toNat) (b[4 * i + 3].toNat)))
    (hcell : ∀ i (h : i < b.length), w.cell? ⟨blk, off + i, none⟩ = some (.int .u8 (b[i].toNat : Int))) (hblk : blk < B) (hws : IsWords wr g 70 (W i)) (hbel : Below B w wr)
    (v6 v7 v16 v17 v18 v19 v20 v21 v22 v23 v24 v25 v26 v27 v28 v29 v30 v31 v32 v33 v34 v35 v36 v37 v38 v39 v40 v41 v42 v43 v44 v45 v46 v47 v48 v49 v50 v51 v52 v53 v54 v55 v56 v57 v58 v59 v60 v61 v62 v63 v64 v65 v66 v67 v68 v69 v70 v71 v72 v73 v74 v75 v76 v77 v78 v79 v80 v81 v82 v83 v84 v85 v86 v87 v88 v89 v90 v91 v92 v93 v94 : Value) (Q : Exit → Act → World → Prop) (J : Act → World → Prop)
    (hJ : ∀ x6 x7 x16 x17 x18 x19 x20 x21 x22 x23 x24 x25 x26 x27 x28 x29 x30 x31 x32 x33 x34 x35 x36 x37 x38 x39 x40 x41 x42 x43 x44 x45 x46 x47 x48 x49 x50 x51 x52 x53 x54 x55 x56 x57 x58 x59 x60 x61 x62 x63 x64 x65 x66 x67 x68 x69 x70 x71 x72 x73 x74 x75 x76 x77 x78 x79 x80 x81 x82 x83 x84 x85 x86 x87 x88 x89 x90 x91 x92 x93 x94 w', IsWords w' g 70 (W (i + 1)) → Below B w w' → J ⟨(.pointer (some ⟨p, 0, none⟩) :: .slice (some ⟨blk, off, none⟩) 64 cap :: undef :: undef :: .pointer (some ⟨g, 0, none⟩) :: .int .i64 ((i + 1 : Nat) : Int) :: x6 :: x7 :: undef :: undef :: undef :: undef :: undef :: undef :: undef :: undef :: x16 :: x17 :: x18 :: x19 :: x20 :: x21 :: x22 :: x23 :: x24 :: x25 :: x26 :: x27 :: x28 :: x29 :: x30 :: x31 :: x32 :: x33 :: x34 :: x35 :: x36 :: x37 :: x38 :: x39 :: x40 :: x41 :: x42 :: x43 :: x44 :: x45 :: x46 :: x47 :: x48 :: x49 :: x50 :: x51 :: x52 :: x53 :: x54 :: x55 :: x56 :: x57 :: x58 :: x59 :: x60 :: x61 :: x62 :: x63 :: x64 :: x65 :: x66 :: x67 :: x68 :: x69 :: x70 :: x71 :: x72 :: x73 :: x74 :: x75 :: x76 :: x77 :: x78 :: x79 :: x80 :: x81 :: x82 :: x83 :: x84 :: x85 :: x86 :: x87 :: x88 :: x89 :: x90 :: x91 :: x92 :: x93 :: x94 :: undef :: undef :: undef :: undef :: undef :: undef :: undef :: undef :: undef :: undef :: undef :: undef :: undef :: undef :: undef :: undef :: undef :: undef :: undef :: undef :: undef :: undef :: undef :: undef :: undef :: undef :: undef :: undef :: undef :: undef :: undef :: undef :: undef :: undef :: undef :: undef :: undef :: undef :: undef :: undef :: undef :: undef :: undef :: undef :: undef :: undef :: undef :: undef :: undef :: undef :: undef :: undef :: undef :: undef :: undef :: undef :: undef :: undef :: undef :: undef :: undef :: undef :: undef :: undef :: undef :: undef :: undef :: undef :: undef :: undef :: undef :: undef :: undef :: undef :: undef :: undef :: undef :: undef :: undef :: undef :: undef :: undef :: undef :: undef :: undef :: undef :: undef :: undef :: undef :: undef :: undef :: undef :: undef :: undef :: undef :: undef :: undef :: undef :: undef :: undef :: undef :: undef :: []).toArray, []⟩ w')
    (code : Code) (hcode : code = restCode) : Code.wp Try.prog code (Exit.jump 0 J Q) ⟨(.pointer (some ⟨p, 0, none⟩) :: .slice (some ⟨blk, off, none⟩) 64 cap :: undef :: undef :: .pointer (some ⟨g, 0, none⟩) :: .int .i64 i :: v6 :: v7 :: undef :: undef :: undef :: undef :: undef :: undef :: undef :: undef :: v16 :: v17 :: v18 :: v19 :: v20 :: v21 :: v22 :: v23 :: v24 :: v25 :: v26 :: v27 :: v28 :: v29 :: v30 :: v31 :: v32 :: v33 :: v34 :: v35 :: v36 :: v37 :: v38 :: v39 :: v40 :: v41 :: v42 :: v43 :: v44 :: v45 :: v46 :: v47 :: v48 :: v49 :: v50 :: v51 :: v52 :: v53 :: v54 :: v55 :: v56 :: v57 :: v58 :: v59 :: v60 :: v61 :: v62 :: v63 :: v64 :: v65 :: v66 :: v67 :: v68 :: v69 :: v70 :: v71 :: v72 :: v73 :: v74 :: v75 :: v76 :: v77 :: v78 :: v79 :: v80 :: v81 :: v82 :: v83 :: v84 :: v85 :: v86 :: v87 :: v88 :: v89 :: v90 :: v91 :: v92 :: v93 :: v94 :: undef :: undef :: undef :: undef :: undef :: undef :: undef :: undef :: undef :: undef :: undef :: undef :: undef :: undef :: undef :: undef :: undef :: undef :: undef :: undef :: undef :: undef :: undef :: undef :: undef :: undef :: undef :: undef :: undef :: undef :: undef :: undef :: undef :: undef :: undef :: undef :: undef :: undef :: undef :: undef :: undef :: undef :: undef :: undef :: undef :: undef :: undef :: undef :: undef :: undef :: undef :: undef :: undef :: undef :: undef :: undef :: undef :: undef :: undef :: undef :: undef :: undef :: undef :: undef :: undef :: undef :: undef :: undef :: undef :: undef :: undef :: undef :: undef :: undef :: undef :: undef :: undef :: undef :: undef :: undef :: undef :: undef :: undef :: undef :: undef :: undef :: undef :: undef :: undef :: undef :: undef :: undef :: undef :: undef :: undef :: undef :: undef :: undef :: undef :: undef :: undef :: undef :: []).toArray, []⟩ wr := by
  subst hcode
  have HW := Lib.hid hW
  have HWB := Lib.hid hWb
  have HC := Lib.hid hcell
  have HJ := Lib.hid hJ
  clear hcell hW hWb hJ
  conv => arg 2; whnf
  have hl := HW.out i
  have n0 : 4 * i < b.length := by omega
  have n1 : 4 * i + 1 < b.length := by omega
  have n2 : 4 * i + 2 < b.length := by omega
  have n3 : 4 * i + 3 < b.length := by omega
  have c0 := (hbel.cell hblk).trans (HC.out (4 * i) n0)
  have c1 := (hbel.cell hblk).trans (HC.out (4 * i + 1) n1)
  have c2 := (hbel.cell hblk).trans (HC.out (4 * i + 2) n2)
  have c3 := (hbel.cell hblk).trans (HC.out (4 * i + 3) n3)
  have l0 := b[4 * i].toNat_lt
  have l1 := b[4 * i + 1].toNat_lt
  have l2 := b[4 * i + 2].toNat_lt
  have l3 := b[4 * i + 3].toNat_lt
  have hnext := HWB.out i n3 h16
  generalize b[4 * i] = b0 at *
  generalize b[4 * i + 1] = b1 at *
  generalize b[4 * i + 2] = b2 at *
  generalize b[4 * i + 3] = b3 at *
  have d := hws.cell i (by omega)
  have f := hws.free i
  have q0 : (0 : Int) ≤ 4 * (i : Int) := by omega
  have q1 : 4 * (i : Int) < 64 := by omega
  have HNX := Lib.hid hnext
  clear hnext
  have i0 : (0 : Int) ≤ (i : Int) := by omega
  have i1 : (i : Int) < 64 := by omega
  have p1 : (0 : Int) ≤ 4 * (i : Int) + 1 := by omega
  have p2 : (0 : Int) ≤ 4 * (i : Int) + 2 := by omega
  have p3 : (0 : Int) ≤ 4 * (i : Int) + 3 := by omega
  have q2 : 4 * (i : Int) + 1 < 64 := by omega
  have q3 : 4 * (i : Int) + 2 < 64 := by omega
  have q4 : 4 * (i : Int) + 3 < 64 := by omega
  go_wp2_with fail
  have t0 : (4 * (i : Int)).toNat = 4 * i := by omega
  have t1 : (4 * (i : Int) + 1).toNat = 4 * i + 1 := by omega
  have t2 : (4 * (i : Int) + 2).toNat = 4 * i + 2 := by omega
  have t3 : (4 * (i : Int) + 3).toNat = 4 * i + 3 := by omega
  have e0 : IntKind.i64.wrap (4 * (i : Int)) = 4 * (i : Int) := IntWalk.i64_in _ (by omega)
  have e1 : IntKind.i64.wrap (4 * (i : Int) + 1) = 4 * (i : Int) + 1 := IntWalk.i64_in _ (by omega)
  have e2 : IntKind.i64.wrap (4 * (i : Int) + 2) = 4 * (i : Int) + 2 := IntWalk.i64_in _ (by omega)
  have e3 : IntKind.i64.wrap (4 * (i : Int) + 3) = 4 * (i : Int) + 3 := IntWalk.i64_in _ (by omega)
  go_still_tail 35, (by kernel_rfl)
  change wpList _ _ _ _ _ wr.drew
  have HWS := Lib.hid hws
  clear hws
  go_wp2_with fail
  go_step3
  exact ⟨rfl, HJ.out _ _ _ _ _ _ _ _ _ _ _ _ _ _ _ _ _ _ _ _ _ _ _ _ _ _ _ _ _ _ _ _ _ _ _ _ _ _ _ _ _ _ _ _ _ _ _ _ _ _ _ _ _ _ _ _ _ _ _ _ _ _ _ _ _ _ _ _ _ _ _ _ _ _ _ _ _ _ _ _ _ _ (by rw [HNX.out]; exact HWS.out.set i _) (hbel.setCell hB _).drew⟩
end Go.Proofs.Ythkjihfnphdfkaa.Sha
