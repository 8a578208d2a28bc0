/- The document's own block and keys: the walks. -/
import Derived.Test.YthkjihfnphdfkaaSBlock4
import Derived.Deep.Cut
namespace Go.Proofs.Ythkjihfnphdfkaa.Sha
open Go.RowKit

set_option maxRecDepth 100000 in
set_option maxHeartbeats 400000 in
theorem keys_any (w : World) : Calls Try.prog 33 #[] w fun e w' => e = .returned (.agg (keyL.map w32).toArray) ∧ Below w.heap.size w w' := by
  go_enter Try.func33, Try.ntmps33
  go_upto_region 1 with (fail)
  have hh := heap_alloc_new w (.cells (List.replicate 64 (w32 0)).toArray 70 (0, 0))
  have hB : Below w.heap.size w (w.alloc (.cells (List.replicate 64 (w32 0)).toArray 70 (0, 0))) := (Below.refl _ _).alloc (Nat.le_refl _) _
  change Code.wp _ _ _ _ (w.alloc (.cells (List.replicate 64 (w32 0)).toArray 70 (0, 0)))
  generalize (w.alloc (.cells (List.replicate 64 (w32 0)).toArray 70 (0, 0))) = w1 at hh hB ⊢
  go_step
  refine wpList_build_to rfl 70 _ rfl (keyL.map w32).toArray (by kernel_rfl) ⟨#[.pointer (some ⟨w.heap.size, 0, none⟩), .agg (keyL.map w32).toArray], []⟩ (by kernel_rfl) ?_
  refine wpList_store_row rfl 70 _ _ rfl w.heap.size (keyL.map w32).toArray rfl rfl 70 _ hh (by kernel_rfl) (by kernel_rfl) (by kernel_rfl) ?_
  have hs := setRow_heap w1 w.heap.size _ (keyL.map w32).toArray 70 (0, 0) hh
  have hB2 := below_setRow hB (Nat.le_refl _) (keyL.map w32).toArray
  generalize w1.setRow _ _ = w2 at *
  have hl := run_loadVar_row (P := Try.prog) w2 w.heap.size 70 70 _ _ (.array 64 68) hs (by kernel_rfl) rfl (by kernel_rfl)
  have hk : (Try.prog.info? 70).map (·.size) = some (keyL.map w32).toArray.size := by kernel_rfl
  generalize hks : (keyL.map w32).toArray = ks at *
  have HKS := Lib.hid hks
  clear hks
  change wpList _ _ _ _ ⟨#[.pointer (some ⟨w.heap.size, 0, none⟩), .agg ks], []⟩ w2
  go_wp2_with fail
  (try simp only [Exit.inBlock, Exit.then])
  refine bodyPost_ret (results_cell_row rfl _ _ w.heap.size 70 ks (0, 0) (.array 64 68) rfl hs (by kernel_rfl) rfl hk) rfl ?_
  exact ⟨by rw [HKS.out], hB2⟩

theorem info49 : (Try.prog.info? 69).map (·.size) = some 8 := by kernel_rfl

set_option maxRecDepth 100000 in
set_option maxHeartbeats 3200000 in
theorem block_any (blk off cap : Nat) (b : List UInt8) (s : St) (hok : s.ok) (w : World) (hlen : b.length = 64)
    (hcell : ∀ i (h : i < b.length), w.cell? ⟨blk, off + i, none⟩ = some (.int .u8 (b[i].toNat : Int))) (ks : Array Value) (hks : ks = (keyL.map w32).toArray) :
    Calls Try.prog 34 #[.agg (s.row.map w32).toArray, .slice (some ⟨blk, off, none⟩) 64 cap, .agg ks] w fun e w' => e = .returned (.agg ((s.take b).row.map w32).toArray) ∧ Below w.heap.size w w' := by
  have HC := Lib.hid hcell
  have HK := Lib.hid hks
  have HOK := Lib.hid hok
  have hblk : blk < w.heap.size := World.block_lt_of_cell? _ _ (hcell 0 (by omega))
  clear hcell hks hok
  have hkl : (keyL.map w32).toArray.size = 64 := key_size
  obtain ⟨sa, sb, sc, sd, se, sf, sg, sh⟩ := s
  change Calls Try.prog 34 #[.agg #[.int .u32 sa, .int .u32 sb, .int .u32 sc, .int .u32 sd, .int .u32 se, .int .u32 sf, .int .u32 sg, .int .u32 sh], .slice (some ⟨blk, off, none⟩) 64 cap, .agg ks] w _
  go_enter Try.func34, Try.ntmps34
  go_upto_region 1 with (fail)
  have hz1 : (((w.alloc (.cells #[.int .u32 sa, .int .u32 sb, .int .u32 sc, .int .u32 sd, .int .u32 se, .int .u32 sf, .int .u32 sg, .int .u32 sh] 69)).alloc (.cells ks 70)).alloc (.cells #[.int .u32 0, .int .u32 0, .int .u32 0, .int .u32 0, .int .u32 0, .int .u32 0, .int .u32 0, .int .u32 0] 69)).heap.size = w.heap.size + 1 + 1 + 1 := by simp
  have hb1 : Below w.heap.size w (((w.alloc (.cells #[.int .u32 sa, .int .u32 sb, .int .u32 sc, .int .u32 sd, .int .u32 se, .int .u32 sf, .int .u32 sg, .int .u32 sh] 69)).alloc (.cells ks 70)).alloc (.cells #[.int .u32 0, .int .u32 0, .int .u32 0, .int .u32 0, .int .u32 0, .int .u32 0, .int .u32 0, .int .u32 0] 69)) :=
    (((Below.refl _ _).alloc (Nat.le_refl _) _).alloc (by simp) _).alloc (by simp; omega) _
  have hw0 : IsWords (w.alloc (.cells #[.int .u32 sa, .int .u32 sb, .int .u32 sc, .int .u32 sd, .int .u32 se, .int .u32 sf, .int .u32 sg, .int .u32 sh] 69)) w.heap.size 69 [sa, sb, sc, sd, se, sf, sg, sh] := heap_alloc_new w _
  have hw1 := (hw0.alloc (.cells ks 70)).alloc (.cells #[.int .u32 0, .int .u32 0, .int .u32 0, .int .u32 0, .int .u32 0, .int .u32 0, .int .u32 0, .int .u32 0] 69)
  have hk0 : IsWords ((w.alloc (.cells #[.int .u32 sa, .int .u32 sb, .int .u32 sc, .int .u32 sd, .int .u32 se, .int .u32 sf, .int .u32 sg, .int .u32 sh] 69)).alloc (.cells ks 70)) (w.heap.size + 1) 70 keyL := by
    have := heap_alloc_new (w.alloc (.cells #[.int .u32 sa, .int .u32 sb, .int .u32 sc, .int .u32 sd, .int .u32 se, .int .u32 sf, .int .u32 sg, .int .u32 sh] 69)) (.cells ks 70)
    rw [World.size_alloc, HK.out] at this
    rw [HK.out]
    exact this
  have hk1 := hk0.alloc (.cells #[.int .u32 0, .int .u32 0, .int .u32 0, .int .u32 0, .int .u32 0, .int .u32 0, .int .u32 0, .int .u32 0] 69)
  have hr1 := heap_alloc_new ((w.alloc (.cells #[.int .u32 sa, .int .u32 sb, .int .u32 sc, .int .u32 sd, .int .u32 se, .int .u32 sf, .int .u32 sg, .int .u32 sh] 69)).alloc (.cells ks 70)) (.cells #[.int .u32 0, .int .u32 0, .int .u32 0, .int .u32 0, .int .u32 0, .int .u32 0, .int .u32 0, .int .u32 0] 69)
  rw [World.size_alloc, World.size_alloc] at hr1
  clear hw0 hk0
  generalize (((w.alloc (.cells #[.int .u32 sa, .int .u32 sb, .int .u32 sc, .int .u32 sd, .int .u32 se, .int .u32 sf, .int .u32 sg, .int .u32 sh] 69)).alloc (.cells ks 70)).alloc (.cells #[.int .u32 0, .int .u32 0, .int .u32 0, .int .u32 0, .int .u32 0, .int .u32 0, .int .u32 0, .int .u32 0] 69)) = w1 at *
  generalize hP : w.heap.size = P at *
  have HP := Lib.hid hP
  have HW1 := Lib.hid hw1
  have HK1 := Lib.hid hk1
  have HR1 := Lib.hid hr1
  have HB1 := Lib.hid hb1
  have HZ1 := Lib.hid hz1
  clear hP hw1 hk1 hr1 hb1 hz1 hkl
  go_wp2_with fail
  have hws : IsWords (w1.alloc (.cells (List.replicate 64 (w32 0)).toArray 70 (0, 0))) w1.heap.size 70 (sched b 0) := heap_alloc_new w1 _
  have hbel : Below w1.heap.size w1 (w1.alloc (.cells (List.replicate 64 (w32 0)).toArray 70 (0, 0))) := (Below.refl _ _).alloc (Nat.le_refl _) _
  have hzz : (w1.alloc (.cells (List.replicate 64 (w32 0)).toArray 70 (0, 0))).heap.size = w1.heap.size + 1 := by simp
  change Code.wp _ _ _ _ (w1.alloc (.cells (List.replicate 64 (w32 0)).toArray 70 (0, 0)))
  generalize (w1.alloc (.cells (List.replicate 64 (w32 0)).toArray 70 (0, 0))) = w2 at hws hbel hzz ⊢
  have HZ1 : Hid (w1.heap.size = P + 1 + 1 + 1) := HZ1
  generalize w1.heap.size = Z at *
  have hZP : P + 3 = Z := by have := HZ1.out; omega
  have HCB : Hid (Below P w w2) := HB1.out.trans (hbel.mono (by omega))
  have HBL := Lib.hid hbel
  have HZZ := Lib.hid hzz
  have HWS := Lib.hid hws
  have HZP := Lib.hid hZP
  clear hbel hzz hws hZP HZ1
  refine block1_any Z blk off cap Z b w2 hlen (Nat.le_refl _) (by have := HZP.out; omega) (fun i h => (HCB.out.cell hblk).trans (HC.out i h)) HWS.out _ _ _ _ _ _ _ _ _ _ _ _ _ _ _ _ _ _ _ _ _ _ _ _ _ _ _ _ _ _ _ _ _ _ _ _ _ _ _ _ _ _ _ _ _ _ _ _ _ _ _ _ _ _ _ _ _ _ _ _ _ _ _ _ _ _ _ _ _ _ _ _ _ _ _ _ _ _ _ _ _ _ _ _ _ _ _ _ _ _ _ _ _ _ _ _ _ _ _ _ _ _ _ _ _ _ _ _ _ _ _ _ _ _ _ _ _ _ _ _ _ _ _ _ _ _ _ _ _ _ _ _ _ _ _ _ _ _ _ _ _ _ _ _ _ _ _ _ _ _ _ _ _ _ _ _ _ _ _ _ _ _ _ _ _ _ _ _ _ _ _ _ _ _ _ _ _ _ _ _ _ _ _ _ _ _ _ _ _ _ _ _ _ _ _ _ _ _ _ _ _ _ _ _ _ _ _ _ _ _ _ _ _ _ _ _ _ _ ?_ _ (by kernel_rfl)
  intro x21 x22 x23 x24 x25 x26 x27 x28 x29 x30 x31 x32 x33 x34 x35 x36 x37 x38 x39 x40 x41 x42 x43 x44 x45 x46 x47 x48 x49 x50 x51 x52 x53 x54 x55 x56 x57 x58 x59 w3 hb3 hws3
  have HB3 := Lib.hid hb3
  have HWS3 := Lib.hid hws3
  clear hb3 hws3
  go_wp2_with fail
  refine block2_any Z Z b w3 (Nat.le_refl _) HWS3.out _ _ _ _ _ _ _ _ _ _ _ _ _ _ _ _ _ _ _ _ _ _ _ _ _ _ _ _ _ _ _ _ _ _ _ _ _ _ _ _ _ _ _ _ _ _ _ _ _ _ _ _ _ _ _ _ _ _ _ _ _ _ _ _ _ _ _ _ _ _ _ _ _ _ _ _ _ _ _ _ _ _ _ _ _ _ _ _ _ _ _ _ _ _ _ _ _ _ _ _ _ _ _ _ _ _ _ _ _ _ _ _ _ _ _ _ _ _ _ _ _ _ _ _ _ _ _ _ _ _ _ _ _ _ _ _ _ _ _ _ _ _ _ _ _ _ _ _ _ _ _ _ _ _ _ _ _ _ _ _ _ _ _ _ _ _ _ _ _ _ _ _ _ _ _ _ _ _ _ _ _ _ _ _ _ _ _ _ _ _ _ _ _ _ _ _ _ _ _ _ _ _ _ _ _ _ _ _ _ _ _ _ _ _ _ _ _ _ _ ?_ _ (by kernel_rfl)
  intro x10 x11 x60 x61 x62 x63 x64 x65 x66 x67 x68 x69 x70 x71 x72 x73 x74 x75 x76 x77 x78 x79 x80 x81 x82 x83 x84 x85 x86 x87 x88 x89 x90 x91 x92 x93 x94 x95 x96 x97 x98 x99 x100 x101 x102 x103 x104 x105 x106 x107 x108 x109 x110 x111 x112 w4 hb4 hws4
  have HB4 : Hid (Below Z w1 w4) := (HBL.out.trans HB3.out).trans hb4
  have HWS4 := Lib.hid hws4
  clear hb4 hws4 HB3 HWS3
  have hw4 : IsWords w4 P 69 [sa, sb, sc, sd, se, sf, sg, sh] := HW1.out.below HB4.out (by have := HZP.out; omega)
  have hk4 : IsWords w4 (P + 1) 70 keyL := HK1.out.below HB4.out (by have := HZP.out; omega)
  have hr4 := (HB4.out.block (P + 1 + 1) (by have := HZP.out; omega)).trans HR1.out
  have hbw4 : Below P w w4 := HB1.out.trans (HB4.out.mono (by have := HZP.out; omega))
  have hz4 : Z < w4.heap.size := (Array.getElem?_eq_some_iff.1 HWS4.out).1
  have d0 := hw4.cell 0 (by simp)
  have d1 := hw4.cell 1 (by simp)
  have d2 := hw4.cell 2 (by simp)
  have d3 := hw4.cell 3 (by simp)
  have d4 := hw4.cell 4 (by simp)
  have d5 := hw4.cell 5 (by simp)
  have d6 := hw4.cell 6 (by simp)
  have d7 := hw4.cell 7 (by simp)
  simp only [List.getElem_cons_zero, List.getElem_cons_succ] at d0 d1 d2 d3 d4 d5 d6 d7
  have HW4 := Lib.hid hw4
  have HK4 := Lib.hid hk4
  have HR4 := Lib.hid hr4
  have HBW4 := Lib.hid hbw4
  have HZ4 := Lib.hid hz4
  clear hw4 hk4 hr4 hbw4 hz4 HW1 HK1 HR1 HB1 HB4 HBL HZZ HCB HWS
  go_wp2_with fail
  clear d0 d1 d2 d3 d4 d5 d6 d7
  refine block3_any Z (P + 1) w4.heap.size w4.heap.size (sched b 64) keyL ⟨sa, sb, sc, sd, se, sf, sg, sh⟩ HOK.out (sched_length b 64) (by kernel_rfl) (by have := HZ4.out; omega) (by have := HZ4.out; have := HZP.out; omega) _ (Nat.le_refl _) ?_ ?_ ?_ _ _ _ _ _ _ _ _ _ _ _ _ _ _ _ _ _ _ _ _ _ _ _ _ _ _ _ _ _ _ _ _ _ _ _ _ _ _ _ _ _ _ _ _ _ _ _ _ _ _ _ _ _ _ _ _ _ _ _ _ _ _ _ _ _ _ _ _ _ _ _ _ _ _ _ _ _ _ _ _ _ _ _ _ _ _ _ _ _ _ _ _ _ _ _ _ _ _ _ _ _ _ _ _ _ _ _ _ _ _ _ _ _ _ _ _ _ _ _ _ _ _ _ _ _ _ _ _ _ _ _ _ _ _ _ _ _ _ _ _ _ _ _ _ _ _ _ _ _ _ _ _ _ _ _ _ _ _ _ _ _ _ _ _ _ _ _ _ _ _ _ _ _ _ _ _ _ _ _ _ _ _ _ _ _ _ _ _ _ _ _ _ _ _ _ _ _ _ _ _ _ _ _ _ _ _ _ _ _ _ _ _ _ _ _ _ _ ?_ _ (by kernel_rfl)
  · exact HWS4.out.alloc _
  · exact HK4.out.alloc _
  · exact heap_alloc_new w4 _
  intro x14 x15 x16 x17 x18 x19 x114 x115 x116 x117 x118 x119 x120 x121 x122 x123 x124 x125 x126 x127 x128 x129 x130 x131 x132 x133 x134 x135 x136 x137 x138 x139 x140 x141 x142 x143 x144 x145 x146 x147 x148 x149 x150 x151 x152 x153 x154 x155 x156 x157 x158 x159 x160 x161 x162 x163 x164 x165 x166 x167 x168 x169 x170 x171 x172 x173 x174 x175 x176 x177 x178 x179 x180 x181 x182 x183 x184 x185 x186 x187 x188 x189 x190 x191 x192 x193 x194 x195 x196 x197 x198 x199 x200 x201 x202 x203 x204 x205 w5 hb5 hs5
  have hP4 : P < w4.heap.size := (Array.getElem?_eq_some_iff.1 HW4.out).1
  have hw5 : IsWords w5 P 69 (St.row ⟨sa, sb, sc, sd, se, sf, sg, sh⟩) := (HW4.out.alloc _).below hb5 hP4
  have hr5 := (hb5.block (P + 1 + 1) (Array.getElem?_eq_some_iff.1 HR4.out).1).trans ((((Below.refl w4.heap.size w4).alloc (Nat.le_refl _) _).block (P + 1 + 1) (Array.getElem?_eq_some_iff.1 HR4.out).1).trans HR4.out)
  have hbw5 : Below P w w5 := (HBW4.out.alloc (Nat.le_of_lt hP4) _).trans (hb5.mono (Nat.le_of_lt hP4))
  have HW5 := Lib.hid hw5
  have HR5 := Lib.hid hr5
  have HBW5 := Lib.hid hbw5
  have HS5 := Lib.hid hs5
  have HNE : Hid (P ≠ w4.heap.size) := Nat.ne_of_lt hP4
  clear hw5 hr5 hbw5 hs5 hb5 hP4
  generalize w4.heap.size = ss at *
  clear HZ4 HW4 HK4 HR4 HBW4 HWS4
  go_wp2_with fail
  refine block4_any P ss P ⟨sa, sb, sc, sd, se, sf, sg, sh⟩ _ HNE.out w5 (Nat.le_refl _) HW5.out HS5.out _ _ _ _ _ _ _ _ _ _ _ _ _ _ _ _ _ _ _ _ _ _ _ _ _ _ _ _ _ _ _ _ _ _ _ _ _ _ _ _ _ _ _ _ _ _ _ _ _ _ _ _ _ _ _ _ _ _ _ _ _ _ _ _ _ _ _ _ _ _ _ _ _ _ _ _ _ _ _ _ _ _ _ _ _ _ _ _ _ _ _ _ _ _ _ _ _ _ _ _ _ _ _ _ _ _ _ _ _ _ _ _ _ _ _ _ _ _ _ _ _ _ _ _ _ _ _ _ _ _ _ _ _ _ _ _ _ _ _ _ _ _ _ _ _ _ _ _ _ _ _ _ _ _ _ _ _ _ _ _ _ _ _ _ _ _ _ _ _ _ _ _ _ _ _ _ _ _ _ _ _ _ _ _ _ _ _ _ _ _ _ _ _ _ _ _ _ _ _ _ _ _ _ _ _ _ _ _ _ _ _ _ _ _ _ _ _ _ ?_ _ (by kernel_rfl)
  intro x206 x207 x208 x209 x210 x211 x212 x213 x214 x215 x216 x217 x218 w6 hb6 hw6 hk6
  have hr6 := (hk6 (P + 1 + 1) (Array.getElem?_eq_some_iff.1 HR5.out).1 (by omega)).trans HR5.out
  have HBW6 : Hid (Below P w w6) := HBW5.out.trans hb6
  change IsWords w6 P 69 (St.take ⟨sa, sb, sc, sd, se, sf, sg, sh⟩ b).row at hw6
  have hsz : (Try.prog.info? 69).map (·.size) = some ((St.take ⟨sa, sb, sc, sd, se, sf, sg, sh⟩ b).row.map w32).toArray.size := info49
  have hone : ((St.take ⟨sa, sb, sc, sd, se, sf, sg, sh⟩ b).row.map w32).toArray.all (·.oneCell') = true := all_oneCell_toArray (fun u hu => by
    simp only [List.mem_map] at hu
    obtain ⟨x, _, rfl⟩ := hu
    rfl)
  have hold : (#[Value.int .u32 0, .int .u32 0, .int .u32 0, .int .u32 0, .int .u32 0, .int .u32 0, .int .u32 0, .int .u32 0] : Array Value).size = ((St.take ⟨sa, sb, sc, sd, se, sf, sg, sh⟩ b).row.map w32).toArray.size := rfl
  unfold IsWords at hw6
  generalize hDD : ((St.take ⟨sa, sb, sc, sd, se, sf, sg, sh⟩ b).row.map w32).toArray = D at *
  have HDD := Lib.hid hDD
  have HR6 := Lib.hid hr6
  have HW6 := Lib.hid hw6
  have HSZ := Lib.hid hsz
  have HONE := Lib.hid hone
  have HOLD := Lib.hid hold
  clear hDD hr6 hw6 hsz hone hold hb6 hk6 HR5 HW5 HBW5 HS5 HNE
  go_wp2_with (first | (refine wpList_load_row rfl 69 _ rfl P rfl 69 D (0, 0) (.array 8 68) HW6.out (by kernel_rfl) rfl HSZ.out ?_) | (refine wpList_store_row_to rfl 69 _ _ rfl (P + 1 + 1) D rfl rfl 69 _ HR6.out HSZ.out HOLD.out HONE.out ?_))
  intro w7 hr7 hb7
  go_wp2_with fail
  (try simp only [Exit.inBlock, Exit.then])
  refine bodyPost_ret (results_cell_row rfl _ _ (P + 1 + 1) 69 D (0, 0) (.array 8 68) rfl hr7 (by kernel_rfl) rfl HSZ.out) rfl ?_
  exact ⟨by rw [HDD.out], by have := HBW6.out.trans (hb7 P (by omega)); rw [HP.out]; exact this⟩
end Go.Proofs.Ythkjihfnphdfkaa.Sha
