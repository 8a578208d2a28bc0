/- The document's own SHA: the walk. -/
import Derived.Test.YthkjihfnphdfkaaSBlock
import Derived.Test.YthkjihfnphdfkaaSDig
import Derived.StillTailTactics
import Derived.Test.YthkjihfnphdfkaaWide
namespace Go.Proofs.Ythkjihfnphdfkaa.Sha
open Go.RowKit

theorem still_load_row {P : Program} {ops : Array Oper} {w : World} {Q : Act → Prop} {a : Act} {o : Oper} {rest : List Oper} (hgd : o.guard = none) (ty : TypeId) (x : Operand) (ho : o.op = .load ty x) (g : Nat) (cs : Array Value) (t : TypeId) (n e : Nat)
    (hx : a.eval x = .pointer (some ⟨g, 0, none⟩)) (hg : w.heap[g]? = some (.cells cs t (0, 0))) (hu : P.underlying ty = some (.array n e)) (hi : (P.info? ty).map (·.size) = some cs.size)
    (h : wpStill P ops w Q rest (a.put o.dst (.agg cs))) : wpStill P ops w Q (o :: rest) a := by
  refine wpStill_step (fun K hK => ?_)
  have hw : Region.wanted o (yielded ops a.tmps) = true := by simp [Region.wanted, hgd]
  rw [if_pos hw]
  unfold Oper.still execOp
  simp only [ho, hx, Instr.loadAt, Instr.sureAddr, Sem.run_bind, Sem.run_pure, Result.andThen_ok, run_loadVar_row w g t ty cs (0, 0) (.array n e) hg hu rfl hi]
  exact ⟨rfl, hK _ h⟩

/-- a row of 32 bytes. -/
def IsB29 (w : World) (q : Nat) (ws : List Int) : Prop := w.heap[q]? = some (.cells (ws.map b8).toArray 53 (0, 0))
theorem IsB29.cell {w : World} {g : Nat} {ws : List Int} (h : IsB29 w g ws) (i : Nat) (hi : i < ws.length) : w.cell? ⟨g, i, none⟩ = some (.int .u8 ws[i]) := by
  rw [cell_of_row w g i _ _ _ h]
  simp [hi, b8]
theorem IsB29.free {w : World} {g : Nat} {ws : List Int} (h : IsB29 w g ws) (i : Nat) : w.frozen? ⟨g, i, none⟩ = false := frozen_of_row w g i _ _ h
theorem IsB29.set {w : World} {g : Nat} {ws : List Int} (h : IsB29 w g ws) (i : Nat) (x : Int) : IsB29 (w.setCell ⟨g, i, none⟩ (.int .u8 x)) g (ws.set i x) := by
  unfold IsB29
  rw [heap_setCell_same w g i _ 53 _ h]
  congr 2
  simp [b8, List.map_set]

theorem info29 : (Try.prog.info? 53).map (·.size) = some 32 := by kernel_rfl

set_option maxRecDepth 100000 in
set_option maxHeartbeats 3200000 in
theorem refSHA_any (v : Value) (b : List UInt8) (w : World) (hv : BytesW w v b) (hb : b.length ≤ 1000000000000) :
    Calls Try.prog 29 #[v] w fun e w' => e = .returned (.agg (shaOf b)) ∧ Below w.heap.size w w' := by
  obtain ⟨i0, hi, hz0, hz1, hz2⟩ := info_parts info5
  obtain ⟨av, cv, hs, _⟩ := BytesW.shape hv
  subst hs
  have b1 : 0 + b.length ≤ maxLen := by unfold maxLen; omega
  have b2 : (0 + b.length) * 1 ≤ 140737488355328 := by omega
  have b3 : b.length + [Value.int .u8 128].length ≤ maxLen := by simp only [List.length_singleton]; unfold maxLen; omega
  have b4 : (b.length + [Value.int .u8 128].length) * 1 ≤ 140737488355328 := by simp only [List.length_singleton]; omega
  have B1 := Lib.hid b1
  have B2 := Lib.hid b2
  have B3 := Lib.hid b3
  have B4 := Lib.hid b4
  have HV := Lib.hid hv
  clear b1 b2 b3 b4 hv
  go_enter Try.func29, Try.ntmps29
  go_upto_region 1 with (fail)
  have hbA : Below w.heap.size w (w.alloc (.cells (List.replicate 32 (.int .u8 0)).toArray 53 (0, 0))) := (Below.refl _ _).alloc (Nat.le_refl _) _
  have hrA := heap_alloc_new w (.cells (List.replicate 32 (.int .u8 0)).toArray 53 (0, 0))
  have hzA : (w.alloc (.cells (List.replicate 32 (.int .u8 0)).toArray 53 (0, 0))).heap.size = w.heap.size + 1 := by simp
  change Code.wp _ _ _ _ (w.alloc (.cells (List.replicate 32 (.int .u8 0)).toArray 53 (0, 0)))
  generalize (w.alloc (.cells (List.replicate 32 (.int .u8 0)).toArray 53 (0, 0))) = wA at hbA hrA hzA ⊢
  have HBA := Lib.hid hbA
  have HRA := Lib.hid hrA
  have HZA := Lib.hid hzA
  clear hbA hrA hzA
  go_wp2_with (at_builtin; refine wpList_append_rowW rfl (.const (.slice none 0 0)) (.tmp 11) 28 rfl wA.heap.size 5 i0 (.int .u8 0) 1 Try.underlying28 hi hz0 hz1 hz2 rfl (.slice none 0 0) 0 [] rfl (World.ownsRow_nil _ _ _ _) _ b rfl (HV.out.below HBA.out (Nat.le_refl _)) B1.out B2.out (Nat.le_refl _) ?_)
  intro v2 w2 hown2 hgrow2 hnil2
  have BB2 : Hid (Below wA.heap.size wA w2) := (Below.refl _ _).grown hgrow2 (Nat.le_refl _) (by simp [Value.ownBlock])
  have HO2 : Hid (w2.ownsRow wA.heap.size 5 1 v2 b.length (u8s b)) := by show w2.ownsRow _ _ _ _ _ _; simpa using hown2
  have hl2 : ∀ k, v2.ownBlock = some k → wA.heap.size ≤ k := by
    intro k hk
    rcases owns_shape hown2 with ⟨h', _⟩ | ⟨g, cap, h', _, _, hg, _⟩
    · rw [h'] at hk; cases hk
    · rw [h'] at hk; simp [Value.ownBlock] at hk; omega
  have HL2 := Lib.hid hl2
  clear hown2 hgrow2 hnil2 hl2
  go_wp2_with (at_builtin; refine wpList_append_row rfl (.tmp 13) (.tmp 14) 28 rfl wA.heap.size 5 i0 (.int .u8 0) 1 Try.underlying28 hi hz0 hz1 hz2 rfl v2 b.length (u8s b) rfl (owns_below HO2.out ((Below.refl w2.heap.size w2).alloc (Nat.le_refl _) _)) _ [.int .u8 128] rfl (row_new w2 #[.int .u8 128] 5 (0, 0) 1 (Nat.le_refl _)) (by simp [Value.oneCell']) B3.out B4.out (by have := BB2.out.size; simp; omega) ?_)
  intro v3 w3 hown3 hgrow3 hnil3
  have BB3 : Hid (Below wA.heap.size wA w3) := (BB2.out.alloc BB2.out.size _).grown hgrow3 (by have := BB2.out.size; simp; omega) HL2.out
  have HO3 : Hid (w3.ownsRow wA.heap.size 5 1 v3 (b.length + 1 + 0) (u8s (b ++ 128 :: List.replicate 0 0))) := by
    show w3.ownsRow _ _ _ _ _ _
    rw [u8s_append]
    exact (by simpa using hown3 : w3.ownsRow wA.heap.size 5 1 v3 (b.length + 1) (u8s b ++ [.int .u8 128]))
  have HBB : Hid (b.length ≤ 1000000000000) := hb
  have hbi : (b.length : Int) ≤ 1000000000000 := by omega
  have hr64 : b.length % 64 < 64 := Nat.mod_lt _ (by decide)
  have HR64 := Lib.hid hr64
  clear hown3 hgrow3 hnil3 HO2 HL2 hb hr64
  go_wp2_with fail
  go_loopw [3] (fun e wr => ∃ k : Nat, k ≤ padK (b.length % 64) ∧ wr.ownsRow wA.heap.size 5 1 e (b.length + 1 + k) (u8s (b ++ 128 :: List.replicate k 0)) ∧ Below wA.heap.size wA wr) (fun e _ => b.length + 70 - lenOf e)
  case atStart => exact ⟨0, Nat.zero_le _, HO3.out, BB3.out⟩
  case round =>
    obtain ⟨k, hk, hoe, hbe⟩ := hrel
    rcases owns_shape hoe with ⟨_, h⟩ | ⟨ge, ce, rfl, _, _, hge, hgl⟩
    · omega
    have hk64 := padK_lt (b.length % 64)
    have HOE := Lib.hid hoe
    have HBE := Lib.hid hbe
    clear hoe hbe
    by_cases hlt : k < padK (b.length % 64)
    · have hb : (((b.length : Int) + 1 + (k : Int)) % 64 != 56) = true := by
        have := padK_not (b.length % 64) k HR64.out hlt
        simp only [bne_iff_ne, ne_eq]
        omega
      have b3 : b.length + 1 + k + [Value.int .u8 0].length ≤ maxLen := by have := HBB.out; simp only [List.length_singleton]; unfold maxLen; omega
      have b4 : (b.length + 1 + k + [Value.int .u8 0].length) * 1 ≤ 140737488355328 := by have := HBB.out; simp only [List.length_singleton]; omega
      have C3 := Lib.hid b3
      have C4 := Lib.hid b4
      clear b3 b4
      go_wp2_with (at_builtin; refine wpList_append_row rfl (.tmp 20) (.tmp 21) 28 rfl wA.heap.size 5 i0 (.int .u8 0) 1 Try.underlying28 hi hz0 hz1 hz2 rfl _ _ _ rfl (owns_below HOE.out ((Below.refl wr.heap.size wr).alloc (Nat.le_refl _) _)) _ [.int .u8 0] rfl (row_new wr #[.int .u8 0] 5 (0, 0) 1 (Nat.le_refl _)) (by simp [Value.oneCell']) C3.out C4.out (by have := HBE.out.size; simp; omega) ?_)
      intro v4 w4 hown4 hgrow4 hnil4
      go_wp2_with fail
      have hlen : lenOf v4 = b.length + 1 + k + 1 := by
        rcases owns_shape hown4 with ⟨_, h⟩ | ⟨g3, c3, rfl, _⟩
        · simp at h
        · simp [lenOf]
      go_roundw
      case rel =>
        refine ⟨k + 1, by omega, ?_, (HBE.out.alloc HBE.out.size _).grown hgrow4 (by have := HBE.out.size; simp; omega) (by simp [Value.ownBlock, hge])⟩
        have e : u8s (b ++ 128 :: List.replicate (k + 1) 0) = u8s (b ++ 128 :: List.replicate k 0) ++ [.int .u8 0] := by
          rw [List.replicate_succ', ← List.cons_append, ← List.append_assoc, u8s_append]
          rfl
        rw [e]
        exact (by simpa using hown4 : w4.ownsRow wA.heap.size 5 1 v4 (b.length + 1 + k + 1) (u8s (b ++ 128 :: List.replicate k 0) ++ [.int .u8 0]))
      case measure => simp only [hlen]; simp [lenOf]; omega
    · have hke : k = padK (b.length % 64) := by omega
      have he : ((b.length : Int) + 1 + (k : Int)) % 64 = 56 := by
        have := padK_end (b.length % 64) HR64.out
        rw [hke]
        omega
      have hb : (((b.length : Int) + 1 + (k : Int)) % 64 != 56) = false := by rw [he]; rfl
      clear he
      go_wp2_with fail
      subst hke
      clear hlt hk hb
      generalize (((b.length : Int) + 1 + (padK (b.length % 64) : Int)) % 64 != 56) = B0
      go_loopw [3, 5] (fun e i wr' => ∃ (j : Nat) (x : Int), x = 7 - (j : Int) ∧ j ≤ 8 ∧ i = .int .i64 x ∧ wr'.ownsRow wA.heap.size 5 1 e (b.length + 1 + padK (b.length % 64) + j) (u8s (b ++ 128 :: List.replicate (padK (b.length % 64)) 0 ++ (List.range j).map (lenB b.length))) ∧ Below wA.heap.size wA wr') (fun _ i _ => (intOf i + 1).toNat)
      case atStart => exact ⟨0, 7, by omega, by omega, rfl, by simpa using HOE.out, HBE.out⟩
      case round =>
        obtain ⟨j, x, hx, hj8, rfl, hoe, hbe⟩ := hrel
        rcases owns_shape hoe with ⟨_, h⟩ | ⟨ge, ce, rfl, _, _, hge, hgl⟩
        · omega
        have HOE2 := Lib.hid hoe
        have HBE2 := Lib.hid hbe
        have HX := Lib.hid hx
        have HKE : Hid ((b.length + 1 + padK (b.length % 64) + 8) % 64 = 0) := by
          show _ = _
          have := padE_padK (b.length % 64) HR64.out
          unfold padE at this
          omega
        clear hoe hbe
        generalize hKK : padK (b.length % 64) = K at *
        have HKK := Lib.hid hKK
        clear hKK
        by_cases hlt : j < 8
        · have t0 : (0 : Int) ≤ x := by omega
          have t1 : x ≤ 7 := by omega
          have t2 : (8 * x).toNat = 56 - 8 * j := by omega
          have hxb := Lib.hid (lenB_u8 b.length j)
          clear hx
          generalize hxx : (b.length : Int) * 8 / 2 ^ (56 - 8 * j) % 256 = X at *
          have b3 : b.length + 1 + K + j + [Value.int .u8 X].length ≤ maxLen := by have := HBB.out; have := hk64; simp only [List.length_singleton]; unfold maxLen; omega
          have b4 : (b.length + 1 + K + j + [Value.int .u8 X].length) * 1 ≤ 140737488355328 := by have := HBB.out; have := hk64; simp only [List.length_singleton]; omega
          have C3 := Lib.hid b3
          have C4 := Lib.hid b4
          clear b3 b4
          go_wp2_with (at_builtin; refine wpList_append_row rfl (.tmp 31) (.tmp 38) 28 rfl wA.heap.size 5 i0 (.int .u8 0) 1 Try.underlying28 hi hz0 hz1 hz2 rfl _ _ _ rfl (owns_below HOE2.out ((Below.refl _ _).alloc (Nat.le_refl _) _)) _ [.int .u8 X] rfl (row_new _ #[.int .u8 X] 5 (0, 0) 1 (Nat.le_refl _)) (by simp [Value.oneCell']) C3.out C4.out (by have := HBE2.out.size; simp; omega) ?_)
          intro v4 w4 hown4 hgrow4 hnil4
          go_wp2_with fail
          go_roundw
          case rel =>
            refine ⟨j + 1, x - 1, by have := HX.out; omega, by omega, by go_num, ?_, (HBE2.out.alloc HBE2.out.size _).grown hgrow4 (by have := HBE2.out.size; simp; omega) (by simp [Value.ownBlock, hge])⟩
            have e : u8s (b ++ 128 :: List.replicate K 0 ++ (List.range (j + 1)).map (lenB b.length)) = u8s (b ++ 128 :: List.replicate K 0 ++ (List.range j).map (lenB b.length)) ++ [.int .u8 X] := by
              rw [List.range_succ, List.map_append, ← List.append_assoc, u8s_append]
              congr 1
              simp only [List.map_cons, List.map_nil, u8s, hxb.out]
            rw [e]
            simpa [Nat.add_assoc] using hown4
          case measure => simp [intOf]; omega
        · have hje : j = 8 := by omega
          subst hje
          have hx0 : x = -1 := by omega
          subst hx0
          have HM : Hid (b ++ 128 :: List.replicate K 0 ++ (List.range 8).map (lenB b.length) = padded b) := by
            show _ = _
            unfold padded tailB
            rw [HKK.out, List.append_assoc]
          rw [HM.out] at HOE2
          have HML : Hid ((padded b).length = b.length + 1 + K + 8) := by
            show _ = _
            have := congrArg List.length HM.out
            simp at this
            omega
          clear hx HX
          generalize hPP : padded b = m at *
          have HPP := Lib.hid hPP
          have HMM : Hid (m.length % 64 = 0) := by show _ = _; rw [HML.out]; exact HKE.out
          have hml : m.length ≤ 2000000000000 := by have := HBB.out; have := HML.out; omega
          have HN : Hid (b.length + 1 + K + 8 = m.length) := HML.out.symm
          have HNI : Hid ((b.length : Int) + 1 + (K : Int) + 8 = (m.length : Int)) := by show _ = _; have := HML.out; omega
          clear hPP HM
          have hcellm : ∀ i (h : i < m.length), wr.cell? ⟨ge, i, none⟩ = some (.int .u8 (m[i].toNat : Int)) := by
            intro i h
            have := RowAt.of_owns HOE2.out
            rcases this with ⟨h', _⟩ | ⟨g', off', cap', h', _, hcell⟩
            · cases h'
            · simp only [Value.slice.injEq, Option.some.injEq, Addr.mk.injEq] at h'
              obtain ⟨⟨rfl, rfl, _⟩, _, rfl⟩ := h'
              have := hcell i (u8 m[i]) (by rw [u8s_getElem?]; simp [h])
              simpa [u8] using this
          have hmc : m.length ≤ ce := by
            have := (owns_shape HOE2.out)
            rcases this with ⟨h', _⟩ | ⟨_, _, h', h2, _⟩
            · cases h'
            · cases h'; have := HML.out; omega
          have HCM := Lib.hid hcellm
          clear hcellm
          rw [HN.out]
          go_wp2_with fail
          have hh0 : IsWords (wr.alloc (.cells #[.int .u32 1779033703, .int .u32 3144134277, .int .u32 1013904242, .int .u32 2773480762, .int .u32 1359893119, .int .u32 2600822924, .int .u32 528734635, .int .u32 1541459225] 69)) wr.heap.size 69 (ivSt.pieces m 0).row := heap_alloc_new wr _
          have hbh : Below wr.heap.size wr (wr.alloc (.cells #[.int .u32 1779033703, .int .u32 3144134277, .int .u32 1013904242, .int .u32 2773480762, .int .u32 1359893119, .int .u32 2600822924, .int .u32 528734635, .int .u32 1541459225] 69)) := (Below.refl _ _).alloc (Nat.le_refl _) _
          generalize (wr.alloc (.cells #[.int .u32 1779033703, .int .u32 3144134277, .int .u32 1013904242, .int .u32 2773480762, .int .u32 1359893119, .int .u32 2600822924, .int .u32 528734635, .int .u32 1541459225] 69)) = w5 at *
          refine (keys_any _).mono ?_
          rintro e w6 ⟨rfl, hb6⟩
          have hh6 := hh0.below hb6 (Array.getElem?_eq_some_iff.1 hh0).1
          have hbh6 : Below wr.heap.size wr w6 := hbh.trans (hb6.mono hbh.size)
          have hhlt : wr.heap.size < w6.heap.size := (Array.getElem?_eq_some_iff.1 hh6).1
          have hkc := Lib.hid key_cells
          have hki := Lib.hid key_info
          generalize hks : (keyL.map w32).toArray = kys at *
          have HKS := Lib.hid hks
          have HH6 := Lib.hid hh6
          have HB6 := Lib.hid hbh6
          clear hks hh6 hbh6 hh0 hbh hb6
          go_wp2_with (refine wpList_store_row_to rfl 70 _ _ rfl w6.heap.size kys rfl rfl 70 _ (heap_alloc_new w6 _) hki.out (by rw [← HKS.out]; kernel_rfl) hkc.out ?_)
          intro w7 hk7 hb7
          have hh7 : IsWords w7 wr.heap.size 69 (ivSt.pieces m 0).row := (HH6.out.alloc _).below (hb7 w6.heap.size (Nat.le_refl _)) hhlt
          have hk7' : IsWords w7 w6.heap.size 70 keyL := by unfold IsWords; rw [HKS.out]; exact hk7
          have hbh7 : Below wr.heap.size wr w7 := (HB6.out.alloc (Nat.le_of_lt hhlt) _).trans (hb7 _ (Nat.le_of_lt hhlt))
          have HH7 := Lib.hid hh7
          have HK7 := Lib.hid hk7'
          have HB7 := Lib.hid hbh7
          have HLT := Lib.hid hhlt
          have hne : wr.heap.size ≠ w6.heap.size := by omega
          have HNE := Lib.hid hne
          clear hk7 hb7 hh7 hk7' hbh7 HH6 HB6 hkc hki hhlt hne
          generalize w6.heap.size = kk at *
          generalize hHH : wr.heap.size = hh at *
          have hgh : ge < hh := by omega
          clear hgl
          go_wp2_with fail
          go_loopw [8] (fun i wq => ∃ k mm : Nat, mm = 64 * k ∧ mm ≤ m.length ∧ i = .int .i64 mm ∧ Below hh wr wq ∧ IsWords wq hh 69 (ivSt.pieces m k).row ∧ IsWords wq kk 70 keyL) (fun i _ => m.length - (intOf i).toNat)
          case atStart => exact ⟨0, 0, rfl, Nat.zero_le _, rfl, HB7.out, HH7.out, HK7.out⟩
          case round =>
            obtain ⟨k, mm, hmk, hmm, rfl, hbq, hhq, hkq⟩ := hrel
            have HMK := Lib.hid hmk
            have HM64 : Hid (m.length % 64 = 0) := HMM
            by_cases hlt : mm < m.length
            · have hm64 : mm + 64 ≤ m.length := by have := HMM.out; omega
              have hpl : ((m.drop mm).take 64).length = 64 := by simp; omega
              have hst : ivSt.pieces m (k + 1) = (ivSt.pieces m k).take ((m.drop mm).take 64) := by rw [hmk]; rfl
              have hok := St.pieces_ok iv_ok m k
              have HPL := Lib.hid hpl
              clear hmk hpl
              generalize ivSt.pieces m k = s at *
              obtain ⟨sa, sb, sc, sd, se, sf, sg, sh⟩ := s
              have d0 := hhq.cell 0 (by simp [St.row])
              have d1 := hhq.cell 1 (by simp [St.row])
              have d2 := hhq.cell 2 (by simp [St.row])
              have d3 := hhq.cell 3 (by simp [St.row])
              have d4 := hhq.cell 4 (by simp [St.row])
              have d5 := hhq.cell 5 (by simp [St.row])
              have d6 := hhq.cell 6 (by simp [St.row])
              have d7 := hhq.cell 7 (by simp [St.row])
              simp only [St.row, List.getElem_cons_zero, List.getElem_cons_succ] at d0 d1 d2 d3 d4 d5 d6 d7
              have hks : ∃ ks : Array Value, ks = (keyL.map w32).toArray := ⟨_, rfl⟩
              obtain ⟨ks, hks⟩ := hks
              have hkq' : wr.heap[kk]? = some (.cells ks 70 (0, 0)) := by rw [hks]; exact hkq
              have HSZ : Hid ((Try.prog.info? 70).map (·.size) = some ks.size) := by show _ = _; rw [hks]; kernel_rfl
              have HKQ' := Lib.hid hkq'
              have hcb : ∀ i (h : i < ((m.drop mm).take 64).length), wr.drew.cell? ⟨ge, mm + i, none⟩ = some (.int .u8 (((m.drop mm).take 64)[i].toNat : Int)) := by
                intro i h
                rw [HPL.out] at h
                have h1 := HCM.out (mm + i) (by omega)
                have h2 : wr.drew.cell? ⟨ge, mm + i, none⟩ = _ := (hbq.cell (p := ⟨ge, mm + i, none⟩) hgh).trans h1
                rw [h2]
                simp [List.getElem_take, List.getElem_drop]
              have CB := Lib.hid (block_any ge mm (ce - mm) ((m.drop mm).take 64) ⟨sa, sb, sc, sd, se, sf, sg, sh⟩ hok wr.drew HPL.out hcb ks hks)
              have HST := Lib.hid hst
              have HHQ := Lib.hid hhq
              have HKQ := Lib.hid hkq
              have HBQ := Lib.hid hbq
              clear hst hok hhq hkq hbq hcb hks hkq'
              have m0 : (0 : Int) ≤ (mm : Int) := by omega
              have m1 : (mm : Int) + 64 ≤ (ce : Int) := by omega
              have m2 : (mm : Int) ≤ (mm : Int) + 64 := by omega
              have m3 : ((mm : Int) + 64).toNat = mm + 64 := by omega
              have m4 : IntKind.i64.wrap ((mm : Int) + 64) = (mm : Int) + 64 := IntWalk.i64_in _ (by omega)
              go_wp2_with fail
              go_still_tail 7, (by kernel_rfl)
              refine still_load_row rfl 70 (.tmp 7) rfl kk ks 70 64 68 rfl HKQ'.out (by kernel_rfl) HSZ.out ?_
              refine wpStill_nil ?_
              change wpList _ _ _ _ _ wr.drew
              go_wp2_with fail
              refine CB.out.mono ?_
              rintro e w8 ⟨rfl, hb8⟩
              have hh8 : IsWords w8 hh 69 (St.row ⟨sa, sb, sc, sd, se, sf, sg, sh⟩) := IsWords.below (w := wr.drew) HHQ.out hb8 (Array.getElem?_eq_some_iff.1 HHQ.out).1
              have hk8 : IsWords w8 kk 70 keyL := IsWords.below (w := wr.drew) HKQ.out hb8 (Array.getElem?_eq_some_iff.1 HKQ.out).1
              have hb9 := (Below.drew HBQ.out).trans (hb8.mono (by have := (Array.getElem?_eq_some_iff.1 HHQ.out).1; exact Nat.le_of_lt this))
              generalize hTT : St.take ⟨sa, sb, sc, sd, se, sf, sg, sh⟩ ((m.drop mm).take 64) = T at *
              obtain ⟨ta, tb, tc, td, te, tf, tg, th⟩ := T
              have HTT := Lib.hid hTT
              clear hTT d0 d1 d2 d3 d4 d5 d6 d7
              have c0 := hh8.cell 0 (by simp [St.row])
              have c1 := hh8.cell 1 (by simp [St.row])
              have c2 := hh8.cell 2 (by simp [St.row])
              have c3 := hh8.cell 3 (by simp [St.row])
              have c4 := hh8.cell 4 (by simp [St.row])
              have c5 := hh8.cell 5 (by simp [St.row])
              have c6 := hh8.cell 6 (by simp [St.row])
              have c7 := hh8.cell 7 (by simp [St.row])
              simp only [St.row, List.getElem_cons_zero, List.getElem_cons_succ] at c0 c1 c2 c3 c4 c5 c6 c7
              have f0 := hh8.free 0
              have f1 := hh8.free 1
              have f2 := hh8.free 2
              have f3 := hh8.free 3
              have f4 := hh8.free 4
              have f5 := hh8.free 5
              have f6 := hh8.free 6
              have f7 := hh8.free 7
              simp only [St.row, List.map_cons, List.map_nil, w32]
              have HH8 := Lib.hid hh8
              have HK8 := Lib.hid hk8
              have HB9 := Lib.hid hb9
              clear hh8 hk8 hb9 hb8 HHQ HKQ HBQ CB HKQ' HSZ
              go_wp2_with fail
              go_roundw
              case rel =>
                refine ⟨k + 1, mm + 64, by have := HMK.out; omega, by omega, by go_num, below_set8 HB9.out (Nat.le_refl _) _ _ _ _ _ _ _ _, ?_, HK8.out.set8_other HNE.out _ _ _ _ _ _ _ _⟩
                rw [HST.out]
                exact HH8.out.set8 _ _ _ _ _ _ _ _
              case measure => simp [intOf]; omega
            · have hme : mm = m.length := by omega
              have hk : k = m.length / 64 := by omega
              clear hmk HMK hlt
              subst hme
              rw [hk] at hhq
              clear hk
              generalize hS4 : ivSt.pieces m (m.length / 64) = s4 at *
              have HS4 := Lib.hid hS4
              have HHQ := Lib.hid hhq
              have HBQ := Lib.hid hbq
              clear hS4 hhq hbq hkq
              have hbS := HBE2.out.trans (HBQ.out.mono (by have := HBE2.out.size; omega))
              have hrS := (hbS.block w.heap.size (by have := HZA.out; omega)).trans HRA.out
              have HBS := Lib.hid hbS
              have HRS := Lib.hid hrS
              have hwlt : w.heap.size < wr.heap.size := (Array.getElem?_eq_some_iff.1 hrS).1
              have hSz : w.heap.size + 1 ≤ wr.heap.size := by omega
              clear hbS hrS HBQ HBE2 HCM HMM hmc
              generalize hLL : s4.row = L at *
              have hL8 : L.length = 8 := by rw [← hLL]; rfl
              have HLL := Lib.hid hLL
              clear hLL
              go_upto_region 17 with (fail)
              have hoB := heap_alloc_new wr (.cells (List.replicate 32 (.int .u8 0)).toArray 53 (0, 0))
              have hbB : Below wr.heap.size wr (wr.alloc (.cells (List.replicate 32 (.int .u8 0)).toArray 53 (0, 0))) := (Below.refl _ _).alloc (Nat.le_refl _) _
              change Code.wp _ _ _ _ (wr.alloc (.cells (List.replicate 32 (.int .u8 0)).toArray 53 (0, 0)))
              generalize (wr.alloc (.cells (List.replicate 32 (.int .u8 0)).toArray 53 (0, 0))) = wB at hoB hbB ⊢
              have HOB : Hid (IsB29 wB wr.heap.size (digTo L 0)) := hoB
              have HBB2 := Lib.hid hbB
              have hhl : hh < wr.heap.size := (Array.getElem?_eq_some_iff.1 HHQ.out).1
              clear hoB hbB
              have HDS := Lib.hid (fun j => digTo_succ L j)
              go_wp2_with fail
              go_loopw [10] (fun i wr3 => ∃ j : Nat, j ≤ 32 ∧ i = .int .i64 j ∧ Below wr.heap.size wr wr3 ∧ IsB29 wr3 wr.heap.size (digTo L j)) (fun i _ => 32 - (intOf i).toNat)
              case atStart => exact ⟨0, by omega, rfl, HBB2.out, HOB.out⟩
              case round =>
                obtain ⟨j, hj, rfl, hbj, hdj⟩ := hrel
                by_cases hjt : j < 32
                · have hhj := HHQ.out.below hbj hhl
                  have hl4 : j / 4 < L.length := by omega
                  have d := hhj.cell (j / 4) hl4
                  have hdb : digB L j = L[j / 4] / 2 ^ (24 - 8 * (j % 4)) % 256 := by unfold digB; simp [hl4]
                  have hcl := hdj.cell j (by rw [digTo_length]; omega)
                  have hfr := hdj.free j
                  generalize L[j / 4] = X at *
                  have HDB := Lib.hid hdb
                  have HDJ := Lib.hid hdj
                  have HBJ := Lib.hid hbj
                  clear hdb hdj hbj hhj
                  have j0 : (0 : Int) ≤ (j : Int) := by omega
                  have j1 : (j : Int) < 32 := by omega
                  have j2 : ((j : Int) / 4).toNat = j / 4 := by omega
                  have j3 : (0 : Int) ≤ 24 - 8 * ((j : Int) % 4) := by omega
                  have j4 : 24 - 8 * ((j : Int) % 4) ≤ 32 := by omega
                  have j5 : (24 - 8 * ((j : Int) % 4)).toNat = 24 - 8 * (j % 4) := by omega
                  have j6 : (j : Int) / 4 < 8 := by omega
                  have j7 : (0 : Int) ≤ (j : Int) / 4 := by omega
                  go_wp2_with fail
                  go_roundw
                  case rel =>
                    refine ⟨j + 1, by omega, by go_num, HBJ.out.setCell (Nat.le_refl _) _, ?_⟩
                    rw [HDS.out, HDB.out]
                    exact HDJ.out.set _ _
                  case measure => simp [intOf]; omega
                · have hje : j = 32 := by omega
                  subst hje
                  have hbZ := hbj
                  have hres : wr.heap[w.heap.size]? = some (.cells (List.replicate 32 (.int .u8 0)).toArray 53 (0, 0)) := (hbj.block _ hwlt).trans HRS.out
                  have hsz : (Try.prog.info? 53).map (·.size) = some ((digTo L 32).map b8).toArray.size := by
                    rw [List.size_toArray, List.length_map, digTo_length]
                    exact info29
                  have hold : (List.replicate 32 (Value.int .u8 0)).toArray.size = ((digTo L 32).map b8).toArray.size := by simp [digTo_length]
                  have hone : ((digTo L 32).map b8).toArray.all (·.oneCell') = true := all_oneCell_toArray (fun u hu => by
                    simp only [List.mem_map] at hu
                    obtain ⟨x, _, rfl⟩ := hu
                    rfl)
                  unfold IsB29 at hdj
                  have HSH : Hid (shaOf b = ((digTo L 32).map b8).toArray) := by
                    show _ = _
                    unfold shaOf digOf
                    rw [HPP.out, HS4.out, HLL.out]
                  generalize ((digTo L 32).map b8).toArray = D at *
                  have HD8 := Lib.hid hdj
                  have HRES := Lib.hid hres
                  have HSZ := Lib.hid hsz
                  have HOLD := Lib.hid hold
                  have HONE := Lib.hid hone
                  have HBZ := Lib.hid hbZ
                  clear hdj hres hsz hold hone hbZ hbj
                  go_wp2_with (first | (refine wpList_load_row rfl 53 _ rfl _ rfl 53 D (0, 0) (.array 32 5) HD8.out (by kernel_rfl) rfl HSZ.out ?_) | (refine wpList_store_row_to rfl 53 _ _ rfl w.heap.size D rfl rfl 53 _ HRES.out HSZ.out HOLD.out HONE.out ?_))
                  intro wz hrz hbz
                  go_wp2_with fail
                  (try simp only [Exit.inBlock, Exit.then])
                  refine bodyPost_ret (results_cell_row rfl _ _ w.heap.size 53 D (0, 0) (.array 32 5) rfl hrz (by kernel_rfl) rfl HSZ.out) rfl ?_
                  refine ⟨by rw [HSH.out], ?_⟩
                  have h1 := HBA.out.trans (HBS.out.mono HBA.out.size)
                  exact (h1.trans (HBZ.out.mono (Nat.le_of_lt hwlt))).trans (hbz _ (Nat.le_refl _))
end Go.Proofs.Ythkjihfnphdfkaa.Sha
