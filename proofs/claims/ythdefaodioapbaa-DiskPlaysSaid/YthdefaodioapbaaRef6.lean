/- The document's disk: Crash. -/
import Derived.Test.YthdefaodioapbaaRef5
namespace Go.Proofs.Ythdefaodioapbaa
open Go.RowKit

variable {w w' : World} {O : Nat → Prop} {p : Nat} {d : DS} {fv hv : Value}
attribute [local irreducible] zA zW

set_option maxHeartbeats 4000000 in
set_option maxRecDepth 100000 in
theorem rCrash_ok (h : RefAt w O p d fv hv) (ka : Option Addr) (kn kcap : Nat) (ks : Nat → Int) (hkeep : IntsAt w ka kn ks) (hka : ∀ x, ka = some x → 0 < kn → ¬ O x.block) :
    Calls Try.prog 40 #[.pointer (some ⟨p, 0, none⟩), .slice ka kn kcap] w fun e w' => Got e ∧ IsRef w' O p (d.crash (keepB kn ks)) ∧ Keeps O w w' := by
  have HD := Lib.hid h
  obtain ⟨gf, capf, curf, hfv, _, _, _, _⟩ := h.fastRow
  obtain ⟨ah, ch, hhv⟩ := row_len h.held
  have HFV := Lib.hid hfv
  have HHV := Lib.hid hhv
  have HL0 : Hid (Laid w w O p d fv hv (selTo d.back (keepB kn ks) 0)) := ⟨h, Keeps.refl _ _⟩
  have hsm := h.small
  have HKEEP := Lib.hid hkeep
  have HKA := Lib.hid hka
  have hkn : (kn : Int) ≤ 1000000000000 := by have := hkeep.1; omega
  clear h hfv hhv hkeep hka
  go_enter Try.func40, Try.ntmps40
  go_wp2_with fail
  go_loopw [4] (fun i wr => ∃ k : Nat, k ≤ d.back.length ∧ k ≤ kn ∧ i = .int .i64 k ∧ Laid w wr O p d fv hv (selTo d.back (keepB kn ks) k)) (fun i _ => d.back.length - (intOf i).toNat)
  case atStart => exact ⟨0, Nat.zero_le _, Nat.zero_le _, rfl, HL0.out⟩
  case round =>
    obtain ⟨k, hk, hk2, rfl, hl⟩ := hrel
    have HL := Lib.hid hl
    have k0 : (0 : Int) ≤ (k : Int) := by omega
    have c1 := hl.1.c1
    have c0 := hl.1.c0
    rw [HHV.out] at c1
    rw [HFV.out] at c0
    try simp only at c1
    by_cases hgo : k < d.back.length ∧ k < kn
    · obtain ⟨hlt, hltn⟩ := hgo
      have k1 : (k : Int) < (d.back.length : Int) := by omega
      have k2 : (k : Int) < (kn : Int) := by omega
      have hkc : ∃ g off, ka = some ⟨g, off, none⟩ ∧ wr.cell? ⟨g, off + k, none⟩ = some (.int .i64 (ks k)) := by
        rcases HKEEP.out.2 with h0 | ⟨g, off, rfl, hcell⟩
        · omega
        · have hgc := hcell k hltn
          exact ⟨g, off, rfl, (hl.2.cell (p := ⟨g, off + k, none⟩) (World.block_lt_of_cell? _ _ hgc) (show ¬ O g from HKA.out ⟨g, off, none⟩ rfl (by omega))).trans hgc⟩
      obtain ⟨gk, offk, rfl, hkc⟩ := hkc
      have HLTN := Lib.hid hltn
      by_cases hpos : 0 < ks k
      · have hyes : keepB kn ks k = true := by simp [keepB, hltn, hpos]
        clear hltn
        have hx := HD.out.each _ (List.getElem_mem hlt)
        obtain ⟨g, cap, hhv', hc, hrg⟩ := rRow hl.1 k hlt
        rw [HHV.out] at hhv'
        cases hhv'
        try simp only at hc hrg
        obtain ⟨gf', capf', curf', hfv', hgf', htf', hlf', _⟩ := hl.1.fastRow
        rw [HFV.out] at hfv'
        cases hfv'
        have HT : Hid (selTo d.back (keepB kn ks) (k + 1) = selTo d.back (keepB kn ks) k ++ [d.back[k]]) := selTo_yes hlt hyes
        have HXX := Lib.hid hx
        have HRG := Lib.hid hrg
        have HS : Hid ((Try.prog.info? 75).map (·.size) = some (u8s d.back[k].2).length) := by show _ = _; rw [u8s_length, hx.2]; exact sizeA
        have HS2 : Hid ((Try.prog.info? 75).map (·.size) = some (u8s d.back[k].2).toArray.size) := by show _ = _; rw [List.size_toArray]; exact HS.out
        have HTH : Hid (wr.drew.there gf (d.back[k].1 * 512) (u8s d.back[k].2).toArray.size) := by
          show World.there _ _ _ _
          rw [List.size_toArray, u8s_length, hx.2]
          exact there_row (w := wr.drew) hgf' (d.back[k].1 * 512) 512 (by have h1 := hx.1; have h2 : 512 * d.n ≤ curf'.size := hlf'; omega)
        have hn0 : (0 : Int) ≤ (d.back[k].1 : Int) := by omega
        have hn1 : (d.back[k].1 : Int) < (d.n : Int) := by omega
        have hsm2 := HD.out.n2
        have HBK := Lib.hid (fun l (h : Laid w wr O p d fv hv l) => h.next HFV.out d.back[k] hx.1 hx.2)
        have HONE := u8s_arr_one d.back[k].2
        clear hl hx hrg hgf' htf' hlf'
        generalize d.back[k] = x at *
        obtain ⟨xa, xb⟩ := x
        try simp only at *
        have HLT := Lib.hid hlt
        clear hlt
        go_wp2_with fail
        refine wp_region_noPanic ?_
        refine wp_region_ordL 21 [] [0, 1, 2, 3, 4, 5, 6, 7, 8, 9, 10, 11, 12, 13, 14, 15, 16, 17, 18, 19, 20, 21] (fun W => W.cell? ⟨p, 0, none⟩ = some (.slice (some ⟨gf, 0, none⟩) d.n capf) ∧ W.cell? ⟨p, 1, none⟩ = some (.slice (some ⟨g, 0, none⟩) d.back.length ch) ∧ W.cell? ⟨g, k * 513, none⟩ = some (.int .i64 (xa : Int)) ∧ W.rangeAt g (k * 513 + 1) (u8s xb)) (by kernel_rfl) (by kernel_rfl) rfl (by kernel_rfl) (fun _ _ _ _ _ h => h) ⟨c0, c1, hc, HRG.out⟩ ?_
        repeat (apply heldL_run rfl (by rfl) (by rfl); (intro w hSw; go_simp; with_reducible rfl); (try simp only [Act.put, List.setIfInBounds_toArray, List.set_cons_zero, List.set_cons_succ]))
        refine heldL_take rfl (by rfl) (yieldsIf_load_mid (by rfl) 75 (.tmp 43) rfl g (k * 513 + 1) rfl (u8s xb) (.array 512 5) (fun w hS => hS.2.2.2) Try.underlying75 rfl HS.out) ?_
        (try simp only [Act.put, List.setIfInBounds_toArray, List.set_cons_zero, List.set_cons_succ])
        repeat (apply heldL_run rfl (by rfl) (by rfl); (intro w hSw; go_simp; with_reducible rfl); (try simp only [Act.put, List.setIfInBounds_toArray, List.set_cons_zero, List.set_cons_succ]))
        refine heldL_step rfl (by rfl) (by rfl) (fun K hK => ?_)
        refine wp_store_mid 75 (.tmp 45) (.tmp 44) rfl gf (xa * 512) (u8s xb).toArray rfl rfl HTH.out HS2.out HONE ?_
        refine hK.out _ _ (.inl rfl) ?_
        clear hK K
        refine heldL_nil (NoPanic.normal ?_)
        have hnx := HBK.out _ HL.out
        rw [Nat.mul_comm 512 xa] at hnx
        have HNX := Lib.hid hnx
        clear hnx
        simp only [Act.put]
        generalize wr.drew.setCells gf (xa * 512) (u8s xb) = w9 at *
        clear hyes
        go_wp2_with fail
        go_roundw
        case rel => exact ⟨k + 1, by have := HLT.out; omega, by have := HLTN.out; omega, by go_num, by rw [HT.out]; exact HNX.out⟩
        case measure => simp [intOf]; have := HLT.out; omega
      · have hno : keepB kn ks k = false := by simp [keepB, hpos]
        have HT : Hid (selTo d.back (keepB kn ks) (k + 1) = selTo d.back (keepB kn ks) k) := selTo_no hlt hno
        have hpos' : ks k ≤ 0 := by omega
        clear hno hpos hl
        go_wp2_with fail
        go_roundw
        case rel => exact ⟨k + 1, by omega, by omega, by go_num, by rw [HT.out]; exact HL.out⟩
        case measure => simp [intOf]; omega
    · have e : selTo d.back (keepB kn ks) d.back.length = selTo d.back (keepB kn ks) k := by
        rcases Nat.lt_or_ge k d.back.length with h1 | h1
        · exact selTo_stop d.back _ k (fun i hi => by simp [keepB]; omega) _ hk (Nat.le_refl _)
        · obtain rfl : k = d.back.length := by omega
          rfl
      have hd1 := hl.1
      rw [← e] at hd1
      have HE : Hid (d.kept (keepB kn ks) = selTo d.back (keepB kn ks) d.back.length) := selTo_sel d _ _ _
      have hx : (k < d.back.length ∧ kn ≤ k) ∨ k = d.back.length := by omega
      have f1 := hd1.fr 1
      have f2 := hd1.fr 2
      have f3 := hd1.fr 3
      have c2 := hd1.c2
      have c3 := hd1.c3
      have hcell := heap_setCell_same _ p 2 _ 83 (.int .i64 (-1)) (heap_setCell_same _ p 3 _ 83 (.bool false) (heap_setCell_same wr p 1 _ 83 (.slice none 0 0) hd1.cell))
      have hkp : Keeps (fun b => b = p) wr (((wr.setCell ⟨p, 1, none⟩ (.slice none 0 0)).setCell ⟨p, 3, none⟩ (.bool false)).setCell ⟨p, 2, none⟩ (.int .i64 (-1))) := (((Keeps.refl (fun b => b = p) wr).setCell ⟨p, 1, none⟩ _ (.inl rfl)).setCell ⟨p, 3, none⟩ _ (.inl rfl)).setCell ⟨p, 2, none⟩ _ (.inl rfl)
      have HD1 := Lib.hid hd1
      have HCELL := Lib.hid hcell
      have HKP := Lib.hid hkp
      clear hgo e hd1 hl hcell hkp HL0
      rcases hx with ⟨h1, h2⟩ | rfl
      all_goals
        try have h1' : (k : Int) < (d.back.length : Int) := by omega
        try have h2' : (kn : Int) ≤ (k : Int) := by omega
        go_wp2_with fail
        go_end0
        refine ⟨⟨_, rfl⟩, ⟨fv, .slice none 0 0, ?_⟩, HL.out.2.trans' (HKP.out.mono (fun b _ e => by rw [e]; exact HD.out.ownP))⟩
        have hd9 : RefAt (((wr.setCell ⟨p, 1, none⟩ (.slice none 0 0)).setCell ⟨p, 3, none⟩ (.bool false)).setCell ⟨p, 2, none⟩ (.int .i64 (-1))) O p (d.crash (keepB kn ks)) fv (.slice none 0 0) :=
          { cell := HCELL.out
            fast := by
              show World.ownsRow _ _ _ _ _ _ (u8s (layAll d.fast (d.kept (keepB kn ks))))
              rw [HE.out]
              exact owns_kept HD1.out.fast (fun b hb hl => HKP.out.block b hl (fun e => HD1.out.fp (by rw [hb, e])))
            held := World.ownsRow_nil _ _ _ _
            flen := by
              show (layAll d.fast (d.kept (keepB kn ks))).length = _
              rw [HE.out]
              exact HD1.out.flen
            n1 := HD.out.n1
            n2 := HD.out.n2
            each := fun x hx => by cases hx
            small := Nat.zero_le _
            ownP := HD.out.ownP
            ownF := HD.out.ownF
            ownB := InB.nil _ }
        exact hd9
end Go.Proofs.Ythdefaodioapbaa
