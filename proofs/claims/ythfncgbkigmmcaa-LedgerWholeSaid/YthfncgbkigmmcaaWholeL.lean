/- LedgerWhole. (PRINTED by genwhole.py.) -/
import Derived.Test.YthfncgbkigmmcaaL32
import Derived.Test.YthfncgbkigmmcaaAnewL
namespace Go.Proofs.Ythfncgbkigmmcaa
open Go.RowKit
set_option linter.unusedVariables false

variable {w w' w1 wr : World} {S T : Nat → Prop} {B lp p n : Nat} {d D : DS} {dead : Bool} {c : Nat → Bs} {P : Bs → Prop}
/-- the state behind so many blocks -/
def oldS (a j : Nat) : Int := if j < a then 1000 + (j : Int) else 0
def OldAt (w : World) (G a : Nat) : Prop := (∀ i, i < 60 → w.cell? ⟨G, i, none⟩ = some (.int .i64 (oldS a i))) ∧ ∀ i, w.frozen? ⟨G, i, none⟩ = false
theorem OldAt.keep {K : Nat → Prop} {G a : Nat} (h : OldAt w G a) (k : Keeps K w w') (hG : G < w.heap.size) (hK : ¬ K G) : OldAt w' G a :=
  ⟨fun i hi => (k.cell (p := ⟨G, i, none⟩) hG hK).trans (h.1 i hi), fun i => (k.frozen (p := ⟨G, i, none⟩) hG hK).trans (h.2 i)⟩
theorem OldAt.put {G a : Nat} (h : OldAt w G a) (ha : a < 60) : OldAt (w.setCell ⟨G, a, none⟩ (.int .i64 (1000 + (a : Int)))) G (a + 1) := by
  refine ⟨fun i hi => ?_, fun i => by rw [World.frozen?_setCell]; exact h.2 i⟩
  by_cases e : a = i
  · subst e
    rw [show oldS (a + 1) a = 1000 + (a : Int) from if_pos (by omega)]
    exact World.cell?_setCell_same' _ _ _ (by rw [h.1 a hi]; rfl)
  · rw [World.cell?_setCell_other (h := by intro e'; have := congrArg Addr.off e'; simp at this; omega), h.1 i hi]
    unfold oldS
    by_cases q : i < a
    · rw [if_pos q, if_pos (by omega)]
    · rw [if_neg q, if_neg (by omega)]
theorem OldAt.st {G : Nat} (h : OldAt w G 60) : StAt w (.slice (some ⟨G, 0, none⟩) 60 60) 60 (oldS 60) := ⟨G, 60, rfl, Nat.le_refl _, h.1⟩
theorem make_old : ∃ X : Obj, (∀ w : World, (Instr.makeSlice 46 (.int .i64 60) (.int .i64 60)).run Try.prog w = .ok (.slice (some ⟨w.heap.size, 0, none⟩) 60 60) (w.alloc X)) ∧ ∀ w : World, OldAt (w.alloc X) w.heap.size 0 := by
  refine ⟨Obj.cells (madeCells #[Value.int .i64 0] 60) 3 (0, 0), fun w => ?_, fun w => ⟨fun i hi => ?_, fun i => frozen_of_row _ _ _ _ _ (heap_alloc_new _ _)⟩⟩
  · exact run_make_row' (P := Try.prog) 46 3 (.int .i64 0) 8 Try.underlying46 infoI rfl .i64 .i64 60 (by omega) (by omega) w
  · rw [cell_of_row _ _ _ _ _ _ (heap_alloc_new _ _)]
    have : (madeCells #[Value.int .i64 0] 60).toList[i]? = some (.int .i64 0) := by
      rw [toList_madeCells_one, List.getElem?_replicate, if_pos hi]
    have e : oldS 0 i = 0 := if_neg (by omega)
    rw [e]
    simpa using this
def wPs (a m : Nat) : List (Nat × Bs) := (List.range m).map fun t => (a + t, blk (1000 + ((a + t : Nat) : Int)))
theorem wPs_snoc (a m : Nat) : wPs a (m + 1) = wPs a m ++ [(a + m, blk (1000 + ((a + m : Nat) : Int)))] := by
  unfold wPs
  rw [List.range_succ, List.map_append]
  rfl
theorem wPs_length (a m : Nat) : (wPs a m).length = m := by simp [wPs]
theorem wPs_ok (a m : Nat) (h1 : 1 ≤ m) (h2 : m ≤ 40) (hn : a + m + 96 ≤ n) : PutOk n (wPs a m) := by
  refine ⟨by rw [wPs_length]; exact h1, by rw [wPs_length]; exact h2, ?_, fun x hx => ?_⟩
  · have : (wPs a m).map (·.1) = (List.range m).map (fun t => a + t) := by simp [wPs, Function.comp_def]
    rw [this, List.Nodup, List.pairwise_map]
    exact List.Pairwise.imp (R := fun a b => a < b) (fun h => by omega) List.pairwise_lt_range
  · obtain ⟨i, hi, rfl⟩ := List.mem_map.1 hx
    rw [List.mem_range] at hi
    exact ⟨by show a + i + 96 < n; omega, blk_length _⟩
theorem lastW_wPs (a j : Nat) : ∀ m, lastW (wPs a m) j = if a ≤ j ∧ j < a + m then some (blk (1000 + (j : Int))) else none
  | 0 => by rw [if_neg (by omega)]; rfl
  | m + 1 => by
    rw [wPs_snoc, lastW_snoc, lastW_wPs a j m]
    by_cases h : a + m = j
    · subst h
      rw [if_pos rfl, if_pos (by omega)]
    · rw [if_neg h]
      by_cases h2 : a ≤ j ∧ j < a + m
      · rw [if_pos h2, if_pos (by omega)]
      · rw [if_neg h2, if_neg (by omega)]
theorem old_put (a m j : Nat) : putC (fun j => blk (oldS a j)) (wPs a m) j = blk (oldS (a + m) j) := by
  unfold putC
  rw [lastW_wPs]
  by_cases h : a ≤ j ∧ j < a + m
  · rw [if_pos h]
    show blk _ = _
    rw [show oldS (a + m) j = 1000 + (j : Int) from if_pos h.2]
  · rw [if_neg h]
    show blk _ = _
    congr 1
    unfold oldS
    by_cases q : j < a
    · rw [if_pos q, if_pos (by omega)]
    · rw [if_neg q, if_neg (by omega)]
theorem zero_old (j : Nat) : zeroB = blk (oldS 0 j) := by
  rw [show oldS 0 j = 0 from if_neg (by omega)]
  exact (if_pos rfl).symm
set_option maxHeartbeats 1600000 in
/-- what is not asked -/
theorem whole_out (aa : Option Addr) (an ac : Nat) (fs : Nat → Int) (da : Option Addr) (dn dc : Nat) (ds : Nat → Int) (s : Int) (ka : Option Addr) (kn kc : Nat) (w : World) (ha : IntsB w aa an fs) (h : 40 < an ∨ (an ≤ 40 ∧ 300 < kn) ∨ (an ≤ 40 ∧ kn ≤ 300 ∧ s < 0) ∨ (an ≤ 40 ∧ kn ≤ 300 ∧ 0 ≤ s ∧ 400 < s)) :
    Calls Try.prog 11 #[.slice aa an ac, .slice da dn dc, .int .i64 s, .slice ka kn kc] w fun e w' => e = .returned (.bool true) ∧ Below w.heap.size w w' := by
  have HA := Lib.hid ha
  clear ha
  by_cases h1 : 40 < an
  · have h1' : (40 : Int) < (an : Int) := by omega
    clear h
    go_enter Try.func11, Try.ntmps11
    go_wp2_with fail
    refine (alive_any _).mono ?_
    rintro e w0 ⟨rfl, hb0⟩
    have HB0 : Hid (∀ o, Below w.heap.size w (w0.alloc o)) := fun o => hb0.trans (((Below.refl _ _).alloc (Nat.le_refl _) o).mono hb0.size)
    clear hb0
    go_wp2_with fail
    go_ret
    exact ⟨rfl, HB0.out _⟩
  have h1' : ¬ (40 : Int) < (an : Int) := by omega
  by_cases h2 : 300 < kn
  · have h2' : (300 : Int) < (kn : Int) := by omega
    clear h
    go_enter Try.func11, Try.ntmps11
    go_wp2_with fail
    refine (alive_any _).mono ?_
    rintro e w0 ⟨rfl, hb0⟩
    have HB0 : Hid (∀ o, Below w.heap.size w (w0.alloc o)) := fun o => hb0.trans (((Below.refl _ _).alloc (Nat.le_refl _) o).mono hb0.size)
    clear hb0
    go_wp2_with fail
    go_ret
    exact ⟨rfl, HB0.out _⟩
  have h2' : ¬ (300 : Int) < (kn : Int) := by omega
  have h3 : s < 0 ∨ (¬ s < 0 ∧ 400 < s) := by omega
  clear h
  rcases h3 with h3 | ⟨h3, h4⟩
  all_goals
    go_enter Try.func11, Try.ntmps11
    go_wp2_with fail
    refine (alive_any _).mono ?_
    rintro e w0 ⟨rfl, hb0⟩
    have HOP : Hid (OpAt (w0.alloc (.cells #[.int .i64 0, .int .i64 0, .slice aa an ac, .slice da dn dc, .slice none 0 0] 52 (0, 0))) w0.heap.size 0 0 (.slice aa an ac) (.slice da dn dc) (.slice none 0 0)) := OpAt.new _ _ _ _ _ _
    have HB1 : Hid (Below w.heap.size w (w0.alloc (.cells #[.int .i64 0, .int .i64 0, .slice aa an ac, .slice da dn dc, .slice none 0 0] 52 (0, 0)))) := hb0.trans (((Below.refl _ _).alloc (Nat.le_refl _) _).mono hb0.size)
    clear hb0
    have HR := Lib.hid (fun W (hW : Below w.heap.size w W) => refused_any 0 0 aa an ac fs (.slice da dn dc) (.slice none 0 0) 60 W (HA.out.below hW) (by omega))
    go_wp2_with fail
    refine (HR.out _ HB1.out).mono ?_
    rintro e w2 ⟨r, rfl, hr, hb2⟩
    have HB2 := Lib.hid (HB1.out.trans (hb2.mono HB1.out.size))
    clear hb2 HR hr
    by_cases hr0 : r = 0
    · subst hr0
      go_wp2_with fail
      go_ret
      exact ⟨rfl, HB2.out⟩
    · have hr1 : (r != 0) = true := by simpa using hr0
      clear hr0
      go_wp2_with fail
      go_ret
      exact ⟨rfl, HB2.out⟩
set_option maxRecDepth 8000 in
set_option maxHeartbeats 6400000 in
theorem whole_law (aa : Option Addr) (an ac : Nat) (fs : Nat → Int) (da : Option Addr) (dn dc : Nat) (ds : Nat → Int) (s : Nat) (ka : Option Addr) (kn kc : Nat) (ks : Nat → Int) (w : World) (ha : IntsB w aa an fs) (hd : IntsB w da dn ds) (hkeep : IntsAt w ka kn ks) (hka : ∀ x, ka = some x → 0 < kn → x.block < w.heap.size) (han : an ≤ 40) (hkn : kn ≤ 300) (hs : s ≤ 400) :
    Calls Try.prog 11 #[.slice aa an ac, .slice da dn dc, .int .i64 s, .slice ka kn kc] w fun e w' => e = .returned (.bool true) ∧ Below w.heap.size w w' := by
  have HA := Lib.hid ha
  have HD := Lib.hid hd
  have HKEEP := Lib.hid hkeep
  have HKA := Lib.hid hka
  have HSS := Lib.hid hs
  have n1 : ¬ (40 : Int) < (an : Int) := by omega
  have n2 : ¬ (300 : Int) < (kn : Int) := by omega
  have n3 : ¬ (s : Int) < 0 := by omega
  have n4 : ¬ (400 : Int) < (s : Int) := by omega
  obtain ⟨X, hmk, hst⟩ := make_old
  have HST := Lib.hid hst
  clear ha hd hkeep hka hst han hkn hs
  go_enter Try.func11, Try.ntmps11
  go_wp2_with fail
  refine (alive_any _).mono ?_
  rintro e w0 ⟨rfl, hb0⟩
  have HOP : Hid (OpAt (w0.alloc (.cells #[.int .i64 0, .int .i64 0, .slice aa an ac, .slice da dn dc, .slice none 0 0] 52 (0, 0))) w0.heap.size 0 0 (.slice aa an ac) (.slice da dn dc) (.slice none 0 0)) := OpAt.new _ _ _ _ _ _
  have HB1 : Hid (Below w.heap.size w (w0.alloc (.cells #[.int .i64 0, .int .i64 0, .slice aa an ac, .slice da dn dc, .slice none 0 0] 52 (0, 0)))) := hb0.trans (((Below.refl _ _).alloc (Nat.le_refl _) _).mono hb0.size)
  clear hb0
  have HR := Lib.hid (fun W (hW : Below w.heap.size w W) => refused_any 0 0 aa an ac fs (.slice da dn dc) (.slice none 0 0) 60 W (HA.out.below hW) (by omega))
  go_wp2_with fail
  refine (HR.out _ HB1.out).mono ?_
  rintro e w2 ⟨r, rfl, hr, hb2⟩
  have HB2 := Lib.hid (HB1.out.trans (hb2.mono HB1.out.size))
  have HOP2 := Lib.hid (HOP.out.below hb2)
  obtain ⟨G0, hG⟩ : ∃ G, G = w0.heap.size := ⟨_, rfl⟩
  rw [← hG] at HOP2 ⊢
  clear hb2 hG HR HOP HB1
  by_cases hr0 : r = 0
  · subst hr0
    have hga := hr rfl
    have HGA := Lib.hid hga
    have HFR := Lib.hid (fresh_in 60 w2 (by omega) (by omega))
    clear hr hga
    go_wp2_with fail
    refine (HFR.out).mono ?_
    rintro e w3 ⟨p, lp, rfl, hq3, hb3⟩
    have HB3 := Lib.hid (hb3.trans (((Below.refl _ w3).alloc (Nat.le_refl _) X).mono hb3.size))
    have HQ3 : Hid (QS (w3.alloc X) (fun j => w2.heap.size ≤ j ∧ j ≠ w3.heap.size) lp p (96 + 60) (fun j => blk (oldS 0 j))) := by
      refine QS.below (w := w3) (QS.sub (hq3.ext (c' := fun j => blk (oldS 0 j)) (fun j _ => zero_old j)).s (fun j hj h => ⟨h, by omega⟩)) ((Below.refl _ w3).alloc (Nat.le_refl _) X)
    have HZ0 := Lib.hid HB2.out.size
    have HO3 := Lib.hid (HST.out w3)
    have HGB : Hid (w2.heap.size ≤ w3.heap.size ∧ w3.heap.size < (w3.alloc X).heap.size) := ⟨hb3.size, by simp⟩
    clear hq3 hb3 HFR HST
    go_wp2_with fail
    generalize w3.alloc X = W3 at *
    obtain ⟨G, hG⟩ : ∃ G, G = w3.heap.size := ⟨_, rfl⟩
    rw [← hG] at HQ3 HO3 HGB ⊢
    clear hG
    obtain ⟨SS, hSS⟩ : ∃ SS : Nat → Prop, SS = fun j => w2.heap.size ≤ j ∧ j ≠ G := ⟨_, rfl⟩
    rw [← hSS] at HQ3
    have HUP : Hid (∀ W : World, G < W.heap.size → w2.heap.size ≤ W.heap.size → Up W SS) := fun W h1 h2 j hj => by rw [hSS]; exact ⟨by omega, by omega⟩
    have HSG : Hid (¬ SS G) := by rw [hSS]; exact fun e => e.2 rfl
    have HSB : Hid (∀ j, SS j → w2.heap.size ≤ j) := by rw [hSS]; exact fun j e => e.1
    have HSN : Hid (∀ j, SS j → ¬ j = G) := by rw [hSS]; exact fun j e => e.2
    clear hSS
    obtain ⟨i0, hi, hz0, hz1, hz2⟩ := info_parts infoPut
    have HI := Lib.hid (And.intro hi (And.intro hz0 (And.intro hz1 hz2)))
    clear hi hz0 hz1 hz2 hmk
    go_wp2_with fail
    go_loopw [15] (fun i wr => ∃ q a : Nat, a = 20 * q ∧ q ≤ 3 ∧ i = .int .i64 (a : Int) ∧ QS wr SS lp p (96 + 60) (fun j => blk (oldS a j)) ∧ OldAt wr G a ∧ (w2.heap.size ≤ G ∧ G < wr.heap.size) ∧ Below w2.heap.size w2 wr) (fun i _ => 60 - (intOf i).toNat)
    case atStart => exact ⟨0, 0, rfl, by omega, rfl, HQ3.out, HO3.out, HGB.out, HB3.out⟩
    case round =>
      obtain ⟨q, a, ha, hq, rfl, hql, hold, hgb, hb⟩ := hrel
      have HQL := Lib.hid hql
      have HOL := Lib.hid hold
      have HGW := Lib.hid hgb
      have HB := Lib.hid hb
      have HAQ := Lib.hid (And.intro ha hq)
      have a0 : (0 : Int) ≤ (a : Int) := by omega
      have a6 : a ≤ 60 := by omega
      clear hql hold hgb hb HQ3 HO3 HGB HB3
      obtain ⟨wA, hwA⟩ : ∃ x, x = wr := ⟨_, rfl⟩
      subst hwA
      by_cases hlt : a < 60
      · have a1 : (a : Int) < 60 := by omega
        have a2 : a + 20 ≤ 60 := by omega
        have HA2 := Lib.hid a2
        have HW2 : Hid (∀ m : Nat, m < 20 → a + m < 60) := fun m hm => by omega
        clear ha hq a6 a2
        go_wp2_with fail
        go_loopw [16, 17] (fun v i wr => ∃ j m : Nat, m = a + j ∧ i = .int .i64 (m : Int) ∧ j ≤ 20 ∧ PutsB wr wA.heap.size v (wPs a j) ∧ OldAt wr G m ∧ Keeps (fun x => x = G) wA wr) (fun _ i _ => a + 20 - (intOf i).toNat)
        case atStart => exact ⟨0, a, rfl, rfl, by omega, PutsB.nil _ _, HOL.out, Keeps.refl _ _⟩
        case round =>
          obtain ⟨j, m, hm, rfl, hj, hpb, hold, hkp⟩ := hrel
          have HPB := Lib.hid hpb
          have HOJ := Lib.hid hold
          have HKP := Lib.hid hkp
          have HM := Lib.hid hm
          have m0 : (0 : Int) ≤ (m : Int) := by omega
          clear hpb hold hkp
          by_cases hjl : j < 20
          · have m1 : (m : Int) < (a : Int) + 20 := by omega
            have m2' : m < 60 := by have := HW2.out j hjl; omega
            have m2 : (m : Int) < 60 := by omega
            obtain ⟨gs, hg1, hown, hg3⟩ := (HPB.out.setCell (a := ⟨G, m, none⟩) HGW.out.2 (.int .i64 (1000 + (m : Int))))
            rw [wPs_length] at hg1 hown
            obtain ⟨va, vc, rfl⟩ := row_len hown
            have HOWN := Lib.hid hown
            have HG := Lib.hid (And.intro hg1 hg3)
            have hcm := HOJ.out.1 m m2'
            have hfm := HOJ.out.2 m
            have HOJ2 := Lib.hid (HOJ.out.put m2')
            have HK2 : Hid (Keeps (fun x => x = G) wA (wr.setCell ⟨G, m, none⟩ (.int .i64 (1000 + (m : Int))))) := HKP.out.setCell _ _ (.inl rfl)
            clear hown hg1 hg3 m2' hm
            go_wp2_with fail
            generalize hWB : wr.setCell ⟨G, m, none⟩ (.int .i64 (1000 + (m : Int))) = wB at *
            clear hcm hfm hWB
            refine (block_any (1000 + (m : Int)) _).mono ?_
            rintro e w3 ⟨rfl, hx3, hb3⟩
            obtain ⟨X, hX⟩ : ∃ X, X = Obj.cells #[.int .i64 (m : Int), .slice (some ⟨wB.heap.size, 0, none⟩) 512 512] 26 (0, 0) := ⟨_, rfl⟩
            have HAL : Hid (Below wB.heap.size wB (w3.alloc X)) := hb3.trans (((Below.refl _ _).alloc (Nat.le_refl _) X).mono hb3.size)
            have HNEWS : Hid (∀ i u, [Value.int .i64 (m : Int), .slice (some ⟨wB.heap.size, 0, none⟩) 512 512][i]? = some u → (w3.alloc X).cell? ((⟨w3.heap.size, 0, none⟩ : Addr).add i) = some u) := fun i u hi => by
              rw [addr_add, cell_of_row (w3.alloc X) w3.heap.size _ _ _ _ (by rw [heap_alloc_new, hX]), Nat.zero_add]
              simpa using hi
            have HX3 : Hid (Bytes (w3.alloc X) (.slice (some ⟨wB.heap.size, 0, none⟩) 512 512) (blk (1000 + (m : Int)))) := RowAt.below hx3 ((Below.refl _ _).alloc (Nat.le_refl _) X) (Nat.le_refl _)
            have HOWX : Hid ((w3.alloc X).ownsRow wA.heap.size 26 2 (.slice va j vc) j (putV (wPs a j) gs)) := owns_below HOWN.out HAL.out
            have HBB : Hid (wA.heap.size ≤ (w3.alloc X).heap.size) := Nat.le_trans HK2.out.size HAL.out.size
            have HONE : Hid (∀ u ∈ [Value.int .i64 (m : Int), .slice (some ⟨wB.heap.size, 0, none⟩) 512 512], u.oneCell' = true) := by show ∀ u ∈ _, _; simp [Value.oneCell']
            have L5 : Hid (j + 1 ≤ maxLen) := by show _ ≤ _; unfold maxLen; omega
            have L6 : Hid ((j + 1) * 32 ≤ 140737488355328) := by show _ ≤ _; omega
            rw [hX] at HNEWS HOWX HBB
            clear hx3 hb3
            go_wp2_with (at_builtin; refine wpList_append_own_at _ rfl (.tmp 76) (.tmp 82) 22 rfl wA.heap.size 26 i0 (.agg #[.int .i64 0, .slice none 0 0]) 2 32 Try.underlying22 HI.out.1 HI.out.2.1 HI.out.2.2.1 HI.out.2.2.2 rfl (by decide) _ j _ rfl HOWX.out ⟨w3.heap.size, 0, none⟩ 1 1 [.int .i64 (m : Int), .slice (some ⟨wB.heap.size, 0, none⟩) 512 512] rfl rfl HNEWS.out HONE.out L5.out L6.out HBB.out ?_)
            intro v2 w4 hown2 hgrow2 _ hat
            rw [← hX] at hgrow2
            rw [show w3.heap.size + 1 = (w3.alloc X).heap.size by simp] at hat
            have HPB4 : Hid (PutsB w4 wA.heap.size v2 (wPs a (j + 1))) := by
              show PutsB _ _ _ _
              rw [wPs_snoc, ← HM.out]
              refine PutsB.add (gs := gs) (w := wB) (w1 := w3.alloc X) (g0 := wB.heap.size) (by rw [wPs_length]; exact HG.out.1) HG.out.2 (fun y hy => ?_) (fun i e => (HOWN.out.lt i e).2) HAL.out HK2.out.size (Nat.le_refl _) HX3.out (blk_length _) ?_ hgrow2 hat
              · obtain ⟨i, _, rfl⟩ := List.mem_map.1 hy
                exact blk_length _
              · rw [wPs_length]
                exact hown2
            have HK4a : Hid (Below wA.heap.size wB w4) := (HAL.out.mono HK2.out.size).grown hgrow2 (Nat.le_trans HK2.out.size HAL.out.size) (fun i e => (HOWN.out.lt i e).1)
            have HK4 : Hid (Keeps (fun x => x = G) wA w4) := (HK2.out.trans (T := fun x => wA.heap.size ≤ x) ⟨HK4a.out.os, HK4a.out.tape, HK4a.out.output, HK4a.out.size, fun k hk hn => HK4a.out.block k (by omega)⟩ (fun i hi => .inr hi))
            have HGB2 : Hid (G < wB.heap.size) := by have := HK2.out.size; have := HGW.out.2; show _ < _; omega
            have HOJ4 : Hid (OldAt w4 G (m + 1)) := OldAt.keep (K := fun x => wA.heap.size ≤ x) HOJ2.out ⟨HK4a.out.os, HK4a.out.tape, HK4a.out.output, HK4a.out.size, fun k hk hn => HK4a.out.block k (by omega)⟩ HGB2.out (by have := HGW.out.2; omega)
            have HJ2 : Hid (m + 1 = a + (j + 1)) := by have := HM.out; show _ = _; omega
            clear hown2 hgrow2 hat
            go_wp2_with fail
            go_roundw
            case rel => exact ⟨j + 1, m + 1, HJ2.out, by go_num, by omega, HPB4.out, HOJ4.out, HK4.out⟩
            case measure => simp [intOf]; omega
          · obtain rfl : j = 20 := by omega
            have m1 : ¬ (m : Int) < (a : Int) + 20 := by omega
            clear hm
            have HPF := Lib.hid HPB.out.puts
            have HPO := Lib.hid (wPs_ok (n := 96 + 60) a 20 (by omega) (by omega) (by have := HA2.out; omega))
            have HCM := Lib.hid (commit_qs HQL.out HKP.out (fun j _ hj => HSN.out j hj) (HUP.out _ HGW.out.2 (Nat.le_trans HGW.out.1 (Nat.le_of_lt HGW.out.2))) _ _ HPF.out HPO.out)
            go_wp2_with fail
            refine (HCM.out).mono ?_
            rintro e w5 ⟨rfl, hq5, hk5⟩
            have HQ5 : Hid (QS w5 SS lp p (96 + 60) (fun j => blk (oldS m j))) := hq5.ext (fun i _ => by rw [HM.out]; exact old_put a 20 i)
            have HGR : Hid (G < wr.heap.size) := by have := HKP.out.size; have := HGW.out.2; show _ < _; omega
            have HO5 : Hid (OldAt w5 G m) := HOJ.out.keep hk5 HGR.out HSG.out
            have HGW5 : Hid (w2.heap.size ≤ G ∧ G < w5.heap.size) := ⟨HGW.out.1, Nat.lt_of_lt_of_le HGR.out hk5.size⟩
            have HB5 : Hid (Below w2.heap.size w2 w5) := by
              refine HB.out.trans (Keeps.below_of ((HKP.out.mono (T := fun x => x = G ∨ SS x) (fun _ _ e => .inl e)).trans' (hk5.mono (fun _ _ e => .inr e))) HB.out.size (fun k hk e => ?_))
              rcases e with rfl | e
              · have := HGW.out.1; omega
              · have := HSB.out _ e; omega
            have HAQ5 : Hid (m = 20 * (q + 1) ∧ q + 1 ≤ 3) := by have h1 := HAQ.out.1; have h2 := HM.out; have h3 := HA2.out; exact ⟨by omega, by omega⟩
            have HMA : Hid ((a : Int) + 20 = (m : Int)) := by have := HM.out; show _ = _; omega
            clear hq5 hk5 HCM
            go_wp2_with fail
            refine (num_any _ _).mono ?_
            rintro e w6 ⟨rfl, rfl⟩
            go_wp2_with fail
            go_roundw
            case rel => exact ⟨q + 1, m, HAQ5.out.1, HAQ5.out.2, by rw [HMA.out], HQ5.out, HO5.out, HGW5.out, HB5.out⟩
            case measure => simp [intOf]; omega
      · obtain rfl : a = 60 := by omega
        clear ha hq a6
        have HSY := Lib.hid (sync_qs HQL.out (by omega))
        have HSL : Hid ((s : Int) ≤ 9223372036854775807) := by have := HSS.out; show _ ≤ _; omega
        go_wp2_with fail
        refine (HSY.out).mono ?_
        rintro e w6 ⟨rfl, hq6, hb6⟩
        have HOL6 := Lib.hid (HOL.out.keep (Keeps.of_below (S := SS) hb6) HGW.out.2 HSG.out)
        have HGW6 : Hid (w2.heap.size ≤ G ∧ G < w6.heap.size) := ⟨HGW.out.1, Nat.lt_of_lt_of_le HGW.out.2 hb6.size⟩
        have HB6 := Lib.hid (HB.out.trans (hb6.mono HB.out.size))
        have HF := Lib.hid (fuse_qo hq6.qo (HUP.out _ HGW6.out.2 HB6.out.size) (s : Int) (by omega) HSL.out)
        clear hq6 hb6 HSY
        go_wp2_with fail
        refine (HF.out).mono ?_
        rintro e w7 ⟨rfl, hq7, hk7⟩
        have HQ7 := Lib.hid hq7
        have HOL7 := Lib.hid (HOL6.out.keep hk7 HGW6.out.2 HSG.out)
        have HGW7 : Hid (w2.heap.size ≤ G ∧ G < w7.heap.size) := ⟨HGW.out.1, Nat.lt_of_lt_of_le HGW6.out.2 hk7.size⟩
        have HB7 := Lib.hid (HB6.out.trans (hk7.below_of HB6.out.size (fun k hk e => by have := HSB.out _ e; omega)))
        have HBW7 := Lib.hid (HB2.out.trans (HB7.out.mono HB2.out.size))
        obtain ⟨o0, o1, o2, o3, o4⟩ := HOP2.out.below HB7.out
        have HP := Lib.hid (puts_any 0 0 aa an ac fs da dn dc ds (.slice none 0 0) w7 (HA.out.below HBW7.out) (HD.out.below HBW7.out) (fun i hi => by have := HGA.out.2.2.1 i hi; omega) HGA.out.2.1)
        clear hq7 hk7 HF HOL6 HGW6 HB6 HOL HGW HB HQL
        go_wp2_with fail
        refine (HP.out).mono ?_
        rintro e w8 ⟨v, rfl, hpf, hb8⟩
        have HC := Lib.hid (commit_as HQ7.out (Keeps.of_below (S := fun _ => False) hb8) (fun _ _ _ e => e) (HUP.out _ HGW7.out.2 HB7.out.size) _ v hpf (opPs_ok HGA.out dn ds))
        have HOL8 := Lib.hid (HOL7.out.keep (Keeps.of_below (S := SS) hb8) HGW7.out.2 HSG.out)
        have HGW8 : Hid (w2.heap.size ≤ G ∧ G < w8.heap.size) := ⟨HGW7.out.1, Nat.lt_of_lt_of_le HGW7.out.2 hb8.size⟩
        have HB8 := Lib.hid (HB7.out.trans (hb8.mono HB7.out.size))
        have hcn : ∀ j, putC (fun j => blk (oldS 60 j)) (opPs fs dn ds an) j = blk (stPut (oldS 60) fs dn ds an j) := fun j => stPut_blk _ _ _ _ _ _
        have HCN := Lib.hid hcn
        clear hpf hb8 HP o0 o1 o2 o3 o4 hcn HOL7 HGW7 HB7 HBW7 HQ7
        generalize putC (fun j => blk (oldS 60 j)) (opPs fs dn ds an) = cN at *
        go_wp2_with fail
        refine (HC.out).mono ?_
        rintro e w9 ⟨⟨rfl, hq9⟩ | ⟨rfl, hq9⟩, hk9⟩
        · have HOL9 := Lib.hid (HOL8.out.keep hk9 HGW8.out.2 HSG.out)
          have HGW9 : Hid (w2.heap.size ≤ G ∧ G < w9.heap.size) := ⟨HGW8.out.1, Nat.lt_of_lt_of_le HGW8.out.2 hk9.size⟩
          have HB9 := Lib.hid (HB8.out.trans (hk9.below_of HB8.out.size (fun k hk e => by have := HSB.out _ e; omega)))
          have HUP9 := Lib.hid (HUP.out _ HGW9.out.2 HB9.out.size)
          have HSY9 := Lib.hid (sync_as hq9 HUP9.out (by omega))
          clear hq9 hk9 HC
          go_wp2_with fail
          refine (num_any _ _).mono ?_
          rintro e w10 ⟨rfl, rfl⟩
          go_wp2_with fail
          refine (HSY9.out).mono ?_
          rintro e w10 ⟨⟨rfl, hq10⟩ | ⟨rfl, hq10⟩, hk10⟩
          · have HOL10 := Lib.hid (HOL9.out.keep hk10 HGW9.out.2 HSG.out)
            have HGW10 : Hid (w2.heap.size ≤ G ∧ G < w10.heap.size) := ⟨HGW9.out.1, Nat.lt_of_lt_of_le HGW9.out.2 hk10.size⟩
            have HB10 := Lib.hid (HB9.out.trans (hk10.below_of HB9.out.size (fun k hk e => by have := HSB.out _ e; omega)))
            have HQ10 := Lib.hid hq10
            clear hq10 hk10 HSY9
            have HBW := Lib.hid (HB2.out.trans (HB10.out.mono HB2.out.size))
            have HCR := Lib.hid (crash_s HQ10.out.as.crS (HUP.out _ HGW10.out.2 HB10.out.size) ka kn kc ks (HKEEP.out.below HBW.out) (fun x hx h0 e => by have := HKA.out x hx h0; have := HSB.out _ e; have := HZ0.out; omega))
            have HOLx := Lib.hid HOL10.out
            have HGWx := Lib.hid HGW10.out
            have HBx := Lib.hid HB10.out
            clear HQ10 HOL10 HGW10 HB10
            go_wp2_with fail
            refine (HCR.out).mono ?_
            rintro e w11 ⟨⟨v11, rfl⟩, hl11, hk11⟩
            have HOL11 := Lib.hid (HOLx.out.keep hk11 HGWx.out.2 HSG.out)
            have HGW11 : Hid (w2.heap.size ≤ G ∧ G < w11.heap.size) := ⟨HGWx.out.1, Nat.lt_of_lt_of_le HGWx.out.2 hk11.size⟩
            have HB11 := Lib.hid (HBx.out.trans (hk11.below_of HBx.out.size (fun k hk e => by have := HSB.out _ e; omega)))
            have HOP11 := Lib.hid (open_ls hl11 (HUP.out _ HGW11.out.2 HB11.out.size) (by omega) (C := fun c' => c' = cN) (fun I hI => ⟨cN, rfl, hI⟩))
            clear hl11 hk11 HCR HOLx HGWx HBx HBW
            go_wp2_with fail
            refine (HOP11.out).mono ?_
            rintro e w12 ⟨lp2, c2, rfl, hc2, hq12, hk12⟩
            have HOL12 := Lib.hid (HOL11.out.keep hk12 HGW11.out.2 HSG.out)
            have HGW12 : Hid (w2.heap.size ≤ G ∧ G < w12.heap.size) := ⟨HGW11.out.1, Nat.lt_of_lt_of_le HGW11.out.2 hk12.size⟩
            have HB12 := Lib.hid (HB11.out.trans (hk12.below_of HB11.out.size (fun k hk e => by have := HSB.out _ e; omega)))
            have HBW12 := Lib.hid (HB2.out.trans (HB12.out.mono HB2.out.size))
            have HQ12 := Lib.hid hq12.qo
            have HC2 := Lib.hid hc2
            obtain ⟨o0, o1, o2, o3, o4⟩ := HOP2.out.below HB12.out
            have HPT := Lib.hid (put_any 0 0 aa an ac fs da dn dc ds (.slice none 0 0) HOL12.out.st (HA.out.below HBW12.out) (HD.out.below HBW12.out) HGA.out.2.2.1 HGA.out.2.1 (by omega) (by omega))
            clear hq12 hk12 hc2 HOP11 HOL11 HGW11 HB11
            go_wp2_with fail
            refine (num_any _ _).mono ?_
            rintro e w13 ⟨rfl, rfl⟩
            go_wp2_with fail
            refine (HPT.out).mono ?_
            rintro e w13 ⟨v13, rfl, hst13, _, hb13⟩
            have HIS := Lib.hid (is_qo (HQ12.out.below hb13) hst13 (by omega) (by omega))
            have HB13 := Lib.hid (HBW12.out.trans (hb13.mono HBW12.out.size))
            have HOL13 := Lib.hid (HOL12.out.keep (Keeps.of_below (S := SS) hb13) HGW12.out.2 HSG.out)
            have HQ13 := Lib.hid (HQ12.out.below hb13)
            clear hst13 hb13 HPT o0 o1 o2 o3 o4 HQ12 HOL12 HBW12
            go_wp2_with fail
            refine (HIS.out).mono ?_
            rintro e w14 ⟨b14, rfl, hb14e, hb14⟩
            have HB14 := Lib.hid (HB13.out.trans (hb14.mono HB13.out.size))
            obtain rfl : b14 = true := hb14e.2 (fun i _ => by rw [HC2.out]; exact HCN.out i)
            clear hb14e hb14
            go_wp2_with fail
            refine (num_any _ _).mono ?_
            rintro e w15 ⟨rfl, rfl⟩
            go_wp2_with fail
            go_ret
            exact ⟨rfl, HB14.out⟩
          · have HOL10 := Lib.hid (HOL9.out.keep hk10 HGW9.out.2 HSG.out)
            have HGW10 : Hid (w2.heap.size ≤ G ∧ G < w10.heap.size) := ⟨HGW9.out.1, Nat.lt_of_lt_of_le HGW9.out.2 hk10.size⟩
            have HB10 := Lib.hid (HB9.out.trans (hk10.below_of HB9.out.size (fun k hk e => by have := HSB.out _ e; omega)))
            have HQ10 := Lib.hid hq10
            clear hq10 hk10 HSY9
            have HBW := Lib.hid (HB2.out.trans (HB10.out.mono HB2.out.size))
            have HCR := Lib.hid (crash_s HQ10.out.crS (HUP.out _ HGW10.out.2 HB10.out.size) ka kn kc ks (HKEEP.out.below HBW.out) (fun x hx h0 e => by have := HKA.out x hx h0; have := HSB.out _ e; have := HZ0.out; omega))
            have HOLx := Lib.hid HOL10.out
            have HGWx := Lib.hid HGW10.out
            have HBx := Lib.hid HB10.out
            clear HQ10 HOL10 HGW10 HB10
            go_wp2_with fail
            refine (HCR.out).mono ?_
            rintro e w11 ⟨⟨v11, rfl⟩, hl11, hk11⟩
            have HOL11 := Lib.hid (HOLx.out.keep hk11 HGWx.out.2 HSG.out)
            have HGW11 : Hid (w2.heap.size ≤ G ∧ G < w11.heap.size) := ⟨HGWx.out.1, Nat.lt_of_lt_of_le HGWx.out.2 hk11.size⟩
            have HB11 := Lib.hid (HBx.out.trans (hk11.below_of HBx.out.size (fun k hk e => by have := HSB.out _ e; omega)))
            have HOP11 := Lib.hid (open_ls hl11 (HUP.out _ HGW11.out.2 HB11.out.size) (by omega) (C := fun c' => c' = (fun j => blk (oldS 60 j)) ∨ c' = cN) (fun I hI => ⟨cN, .inr rfl, hI⟩))
            clear hl11 hk11 HCR HOLx HGWx HBx HBW
            go_wp2_with fail
            refine (HOP11.out).mono ?_
            rintro e w12 ⟨lp2, c2, rfl, hc2, hq12, hk12⟩
            have HOL12 := Lib.hid (HOL11.out.keep hk12 HGW11.out.2 HSG.out)
            have HGW12 : Hid (w2.heap.size ≤ G ∧ G < w12.heap.size) := ⟨HGW11.out.1, Nat.lt_of_lt_of_le HGW11.out.2 hk12.size⟩
            have HB12 := Lib.hid (HB11.out.trans (hk12.below_of HB11.out.size (fun k hk e => by have := HSB.out _ e; omega)))
            have HBW12 := Lib.hid (HB2.out.trans (HB12.out.mono HB2.out.size))
            have HQ12 := Lib.hid hq12.qo
            have HC2 := Lib.hid hc2
            obtain ⟨o0, o1, o2, o3, o4⟩ := HOP2.out.below HB12.out
            have HPT := Lib.hid (put_any 0 0 aa an ac fs da dn dc ds (.slice none 0 0) HOL12.out.st (HA.out.below HBW12.out) (HD.out.below HBW12.out) HGA.out.2.2.1 HGA.out.2.1 (by omega) (by omega))
            clear hq12 hk12 hc2 HOP11 HOL11 HGW11 HB11
            go_wp2_with fail
            refine (num_any _ _).mono ?_
            rintro e w13 ⟨rfl, rfl⟩
            go_wp2_with fail
            refine (HPT.out).mono ?_
            rintro e w13 ⟨v13, rfl, hst13, _, hb13⟩
            have HIS := Lib.hid (is_qo (HQ12.out.below hb13) hst13 (by omega) (by omega))
            have HB13 := Lib.hid (HBW12.out.trans (hb13.mono HBW12.out.size))
            have HOL13 := Lib.hid (HOL12.out.keep (Keeps.of_below (S := SS) hb13) HGW12.out.2 HSG.out)
            have HQ13 := Lib.hid (HQ12.out.below hb13)
            clear hst13 hb13 HPT o0 o1 o2 o3 o4 HQ12 HOL12 HBW12
            go_wp2_with fail
            refine (HIS.out).mono ?_
            rintro e w14 ⟨b14, rfl, hb14e, hb14⟩
            have HB14 := Lib.hid (HB13.out.trans (hb14.mono HB13.out.size))
            have HIS2 := Lib.hid (is_qo (HQ13.out.below hb14) ((HOL13.out.st).below hb14) (by omega) (by omega))
            have HE14 := Lib.hid hb14e
            clear hb14e hb14
            go_wp2_with fail
            refine (num_any _ _).mono ?_
            rintro e w15 ⟨rfl, rfl⟩
            cases b14 with
            | true =>
              go_wp2_with fail
              go_ret
              exact ⟨rfl, HB14.out⟩
            | false =>
              go_wp2_with fail
              refine (HIS2.out).mono ?_
              rintro e w16 ⟨b16, rfl, hb16e, hb16⟩
              have HB16 := Lib.hid (HB14.out.trans (hb16.mono HB14.out.size))
              have hb16t : b16 = true := by
                rcases HC2.out with h | h
                · exact hb16e.2 (fun i _ => by rw [h])
                · exact absurd (HE14.out.2 (fun i _ => by rw [h]; exact HCN.out i)) (by decide)
              subst hb16t
              clear hb16e hb16
              go_wp2_with fail
              go_ret
              exact ⟨rfl, HB16.out⟩
        · have HOL9 := Lib.hid (HOL8.out.keep hk9 HGW8.out.2 HSG.out)
          have HGW9 : Hid (w2.heap.size ≤ G ∧ G < w9.heap.size) := ⟨HGW8.out.1, Nat.lt_of_lt_of_le HGW8.out.2 hk9.size⟩
          have HB9 := Lib.hid (HB8.out.trans (hk9.below_of HB8.out.size (fun k hk e => by have := HSB.out _ e; omega)))
          have HUP9 := Lib.hid (HUP.out _ HGW9.out.2 HB9.out.size)
          have HQ9 := Lib.hid hq9
          clear hq9 hk9 HC
          go_wp2_with fail
          refine (num_any _ _).mono ?_
          rintro e w10 ⟨rfl, rfl⟩
          have HBW := Lib.hid (HB2.out.trans (HB9.out.mono HB2.out.size))
          have HCR := Lib.hid (crash_s HQ9.out.crS (HUP.out _ HGW9.out.2 HB9.out.size) ka kn kc ks (HKEEP.out.below HBW.out) (fun x hx h0 e => by have := HKA.out x hx h0; have := HSB.out _ e; have := HZ0.out; omega))
          have HOLx := Lib.hid HOL9.out
          have HGWx := Lib.hid HGW9.out
          have HBx := Lib.hid HB9.out
          clear HQ9 HOL9 HGW9 HB9
          go_wp2_with fail
          refine (HCR.out).mono ?_
          rintro e w11 ⟨⟨v11, rfl⟩, hl11, hk11⟩
          have HOL11 := Lib.hid (HOLx.out.keep hk11 HGWx.out.2 HSG.out)
          have HGW11 : Hid (w2.heap.size ≤ G ∧ G < w11.heap.size) := ⟨HGWx.out.1, Nat.lt_of_lt_of_le HGWx.out.2 hk11.size⟩
          have HB11 := Lib.hid (HBx.out.trans (hk11.below_of HBx.out.size (fun k hk e => by have := HSB.out _ e; omega)))
          have HOP11 := Lib.hid (open_ls hl11 (HUP.out _ HGW11.out.2 HB11.out.size) (by omega) (C := fun c' => c' = (fun j => blk (oldS 60 j)) ∨ c' = cN) (fun I hI => hI.elim (fun h => ⟨_, .inl rfl, h⟩) (fun h => ⟨_, .inr rfl, h⟩)))
          clear hl11 hk11 HCR HOLx HGWx HBx HBW
          go_wp2_with fail
          refine (HOP11.out).mono ?_
          rintro e w12 ⟨lp2, c2, rfl, hc2, hq12, hk12⟩
          have HOL12 := Lib.hid (HOL11.out.keep hk12 HGW11.out.2 HSG.out)
          have HGW12 : Hid (w2.heap.size ≤ G ∧ G < w12.heap.size) := ⟨HGW11.out.1, Nat.lt_of_lt_of_le HGW11.out.2 hk12.size⟩
          have HB12 := Lib.hid (HB11.out.trans (hk12.below_of HB11.out.size (fun k hk e => by have := HSB.out _ e; omega)))
          have HBW12 := Lib.hid (HB2.out.trans (HB12.out.mono HB2.out.size))
          have HQ12 := Lib.hid hq12.qo
          have HC2 := Lib.hid hc2
          obtain ⟨o0, o1, o2, o3, o4⟩ := HOP2.out.below HB12.out
          have HPT := Lib.hid (put_any 0 0 aa an ac fs da dn dc ds (.slice none 0 0) HOL12.out.st (HA.out.below HBW12.out) (HD.out.below HBW12.out) HGA.out.2.2.1 HGA.out.2.1 (by omega) (by omega))
          clear hq12 hk12 hc2 HOP11 HOL11 HGW11 HB11
          go_wp2_with fail
          refine (num_any _ _).mono ?_
          rintro e w13 ⟨rfl, rfl⟩
          go_wp2_with fail
          refine (HPT.out).mono ?_
          rintro e w13 ⟨v13, rfl, hst13, _, hb13⟩
          have HIS := Lib.hid (is_qo (HQ12.out.below hb13) hst13 (by omega) (by omega))
          have HB13 := Lib.hid (HBW12.out.trans (hb13.mono HBW12.out.size))
          have HOL13 := Lib.hid (HOL12.out.keep (Keeps.of_below (S := SS) hb13) HGW12.out.2 HSG.out)
          have HQ13 := Lib.hid (HQ12.out.below hb13)
          clear hst13 hb13 HPT o0 o1 o2 o3 o4 HQ12 HOL12 HBW12
          go_wp2_with fail
          refine (HIS.out).mono ?_
          rintro e w14 ⟨b14, rfl, hb14e, hb14⟩
          have HB14 := Lib.hid (HB13.out.trans (hb14.mono HB13.out.size))
          have HIS2 := Lib.hid (is_qo (HQ13.out.below hb14) ((HOL13.out.st).below hb14) (by omega) (by omega))
          have HE14 := Lib.hid hb14e
          clear hb14e hb14
          go_wp2_with fail
          refine (num_any _ _).mono ?_
          rintro e w15 ⟨rfl, rfl⟩
          cases b14 with
          | true =>
            go_wp2_with fail
            go_ret
            exact ⟨rfl, HB14.out⟩
          | false =>
            go_wp2_with fail
            refine (HIS2.out).mono ?_
            rintro e w16 ⟨b16, rfl, hb16e, hb16⟩
            have HB16 := Lib.hid (HB14.out.trans (hb16.mono HB14.out.size))
            have hb16t : b16 = true := by
              rcases HC2.out with h | h
              · exact hb16e.2 (fun i _ => by rw [h])
              · exact absurd (HE14.out.2 (fun i _ => by rw [h]; exact HCN.out i)) (by decide)
            subst hb16t
            clear hb16e hb16
            go_wp2_with fail
            go_ret
            exact ⟨rfl, HB16.out⟩
  · have hr1 : (r != 0) = true := by simpa using hr0
    clear hr hr0
    go_wp2_with fail
    go_ret
    exact ⟨rfl, HB2.out⟩
theorem whole_walk (a0 : Option Addr) (len0 cap0 : Nat) (z0 : List Int) (a1 : Option Addr) (len1 cap1 : Nat) (z1 : List Int) (a2 : Int) (a3 : Option Addr) (len3 cap3 : Nat) (z3 : List Int) (w : World) (w0 : RowIn .i64 w a0 len0 cap0 z0) (w1 : RowIn .i64 w a1 len1 cap1 z1) (_ : (Lit.int .i64 a2).wf = true) (w3 : RowIn .i64 w a3 len3 cap3 z3) :
    Calls Try.prog 11 #[.slice a0 len0 cap0, .slice a1 len1 cap1, .int .i64 a2, .slice a3 len3 cap3] w fun e w' => e = .returned (.bool true) ∧ Below w.heap.size w w' := by
  by_cases h1 : 40 < len0
  · exact whole_out _ _ _ _ _ _ _ (fun i => z1.getD i 0) _ _ _ _ w (intsB_of_row w0) (.inl h1)
  by_cases h2 : 300 < len3
  · exact whole_out _ _ _ _ _ _ _ (fun i => z1.getD i 0) _ _ _ _ w (intsB_of_row w0) (.inr (.inl ⟨by omega, h2⟩))
  by_cases h3 : a2 < 0
  · exact whole_out _ _ _ _ _ _ _ (fun i => z1.getD i 0) _ _ _ _ w (intsB_of_row w0) (.inr (.inr (.inl ⟨by omega, by omega, h3⟩)))
  by_cases h4 : 400 < a2
  · exact whole_out _ _ _ _ _ _ _ (fun i => z1.getD i 0) _ _ _ _ w (intsB_of_row w0) (.inr (.inr (.inr ⟨by omega, by omega, by omega, h4⟩)))
  obtain ⟨s, rfl⟩ := Int.eq_ofNat_of_zero_le (show 0 ≤ a2 by omega)
  obtain ⟨q1, q2⟩ := ints_of_row w3 (by omega)
  exact whole_law _ _ _ _ _ _ _ _ s _ _ _ _ w (intsB_of_row w0) (intsB_of_row w1) q1 q2 (by omega) (by omega) (by omega)
end Go.Proofs.Ythfncgbkigmmcaa
