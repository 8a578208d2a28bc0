/- Commit: what is refused. -/
import Derived.Test.YthfncgbkigmmcaaL31
namespace Go.Proofs.Ythfncgbkigmmcaa
open Go.RowKit Go.Maps
set_option linter.unusedVariables false

variable {w w' w1 wr : World} {O R O1 R1 S T : Nat → Prop} {B lp p n : Nat} {d D : DS} {dead : Bool} {c : Nat → Bs} {P : Bs → Prop}
/-- puts that came in, whatever they are -/
def PutsM (w : World) (v : Value) (ps : List (Int × Bs)) : Prop :=
  (v = .slice none 0 0 ∧ ps = []) ∨ ∃ b off cap, v = .slice (some ⟨b, off, none⟩) ps.length cap ∧ ps.length ≤ 140737488351232 ∧ ∀ i (h : i < ps.length),
    w.cell? ⟨b, off + i * 2, none⟩ = some (.int .i64 ps[i].1) ∧ (Lit.int .i64 ps[i].1).wf = true ∧ ps[i].2.length ≤ 140737488351232 ∧
    ∃ ua uc, w.cell? ⟨b, off + i * 2 + 1, none⟩ = some (.slice ua ps[i].2.length uc) ∧ BytesW w (.slice ua ps[i].2.length uc) ps[i].2
theorem bytesW_below {v : Value} {b : Bs} (h : BytesW w v b) (hb : Below w.heap.size w w') : BytesW w' v b := by
  rcases h with h | h
  · exact .inl (RowAt.below h hb (Nat.le_refl _))
  · exact .inr h
theorem PutsM.below {v : Value} {ps : List (Int × Bs)} (h : PutsM w v ps) (hb : Below w.heap.size w w') : PutsM w' v ps := by
  rcases h with h | ⟨b, off, cap, h1, h2, h3⟩
  · exact .inl h
  · refine .inr ⟨b, off, cap, h1, h2, fun i hi => ?_⟩
    obtain ⟨c1, c2, c3, ua, uc, c4, c5⟩ := h3 i hi
    have hl := World.block_lt_of_cell? _ _ c1
    exact ⟨(hb.cell (p := ⟨b, off + i * 2, none⟩) hl).trans c1, c2, c3, ua, uc, (hb.cell (p := ⟨b, off + i * 2 + 1, none⟩) hl).trans c4, bytesW_below c5 hb⟩
theorem PutsM.shape {v : Value} {ps : List (Int × Bs)} (h : PutsM w v ps) : ∃ a cap, v = .slice a ps.length cap := by
  rcases h with ⟨h1, h2⟩ | ⟨b, off, cap, h1, _⟩
  · exact ⟨none, 0, by rw [h1, h2]; rfl⟩
  · exact ⟨_, _, h1⟩
theorem PutsM.at {a : Option Addr} {len cap : Nat} {ps : List (Int × Bs)} (h : PutsM w (.slice a len cap) ps) (i : Nat) (hi : i < ps.length) : ∃ b off ua uc, a = some ⟨b, off, none⟩ ∧ w.cell? ⟨b, off + i * 2, none⟩ = some (.int .i64 ps[i].1) ∧ (Lit.int .i64 ps[i].1).wf = true ∧ ps[i].2.length ≤ 140737488351232 ∧
    w.cell? ⟨b, off + i * 2 + 1, none⟩ = some (.slice ua ps[i].2.length uc) ∧ BytesW w (.slice ua ps[i].2.length uc) ps[i].2 := by
  rcases h with ⟨_, h2⟩ | ⟨b, off, cap, h1, h2, h3⟩
  · rw [h2] at hi
    simp at hi
  · cases h1
    obtain ⟨c1, c2, c3, ua, uc, c4, c5⟩ := h3 i hi
    exact ⟨b, off, ua, uc, rfl, c1, c2, c3, c4, c5⟩

/-- what 'seen' has -/
def seenI (d : DataW Unit) (a : Int) : DataW Unit := d.put (.int .i64 a) (.lit (.int .i64 1))
def mapI (S : List Int) : DataW Unit := S.foldl seenI (.map [])
theorem mapI_snoc (S : List Int) (a : Int) : mapI (S ++ [a]) = (mapI S).put (.int .i64 a) (.lit (.int .i64 1)) := by
  unfold mapI
  rw [List.foldl_append]
  rfl
theorem foldI_map : ∀ (S : List Int) (d : DataW Unit), IsMap d → IsMap (S.foldl seenI d)
  | [], d, h => h
  | x :: S, d, h => foldI_map S (seenI d x) (h.put _ _)
theorem at_foldI (a : Int) (z : DataW Unit) : ∀ (S : List Int) (d : DataW Unit), IsMap d → a ∉ S → (S.foldl seenI d).atKey (.int .i64 a) z = d.atKey (.int .i64 a) z
  | [], d, _, _ => rfl
  | x :: S, d, h, hn => by
    have hx : a ≠ x := fun e => hn (by simp [e])
    rw [List.foldl_cons, at_foldI a z S (seenI d x) (h.put _ _) (fun e => hn (List.mem_cons_of_mem _ e)), seenI, atKey_put_other (by simp; omega)]
theorem at_yesI (a : Int) (z : DataW Unit) : ∀ (S : List Int) (d : DataW Unit), IsMap d → a ∈ S → (S.foldl seenI d).atKey (.int .i64 a) z = .lit (.int .i64 1)
  | x :: S, d, h, hn => by
    rw [List.foldl_cons]
    by_cases hS : a ∈ S
    · exact at_yesI a z S _ (h.put _ _) hS
    · obtain rfl : a = x := by simpa [hS] using hn
      rw [at_foldI a z S (seenI d a) (h.put _ _) hS, seenI]
      exact atKey_put_same h (by trivial) _ _
def OwnSeenI (w : World) (m n : Nat) (S : List Int) : Prop := w.ownsMap Try.prog 3 (plainElem Try.prog 3) m n (mapI S)
theorem lookI_no {m n : Nat} {S : List Int} {a : Int} (h : OwnSeenI w m n S) (ha : a ∉ S) (hw : (Lit.int .i64 a).wf = true) : (Instr.lookup 70 (.map (some m)) (.int .i64 a) false).run Try.prog w = .ok (.int .i64 0) w := by
  obtain ⟨c, h1, h2, _⟩ := World.ownsMap.lookup_int h keyed3 Try.underlying70 Try.underlying3 (zero3 w) (keyOf_int_mk (a := a) Try.underlying3 hw)
  rw [mapI, at_foldI a _ S _ isMap_empty ha] at h2
  cases h2
  exact h1
theorem lookI_yes {m n : Nat} {S : List Int} {a : Int} (h : OwnSeenI w m n S) (ha : a ∈ S) (hw : (Lit.int .i64 a).wf = true) : (Instr.lookup 70 (.map (some m)) (.int .i64 a) false).run Try.prog w = .ok (.int .i64 1) w := by
  obtain ⟨c, h1, h2, _⟩ := World.ownsMap.lookup_int h keyed3 Try.underlying70 Try.underlying3 (zero3 w) (keyOf_int_mk (a := a) Try.underlying3 hw)
  rw [mapI, at_yesI a _ S _ isMap_empty ha] at h2
  cases h2
  exact h1
/-- the ways out that return an error -/
theorem refuse_leaves {fn : Func} {tmps : Array Value} {c : Int} (hb : Below w.heap.size w wr) (hc : wr.cell? ⟨w.heap.size, 0, none⟩ = some (.int .i64 c)) (hr : fn.results = #[.cell 4 31]) (h4 : tmps.getD 4 undef = .pointer (some ⟨w.heap.size, 0, none⟩)) :
    Leaves Try.prog fn tmps (fun e w' => e = .returned (.int .i64 c) ∧ Below w.heap.size w w') [defd lp w.heap.size] .returning wr := by
  refine leaves_idle ?_
  exact ⟨_, results_err hr _ _ w.heap.size c h4 hc, rfl, hb⟩
def intsV (l : List Int) : List Value := l.map (Value.int .i64)
/-- good so far -/
def GoodM (ps : List (Int × Bs)) (b : Nat) : Prop := ∀ a (h : a < ps.length), a < b → ps[a].2.length = 512 ∧ ps[a].1 ∉ (ps.map (·.1)).take a
set_option maxRecDepth 8000 in
set_option maxHeartbeats 1600000 in
theorem commit_len (ps : List (Int × Bs)) (a : Option Addr) (cap : Nat) (w : World) (h : ps.length < 1 ∨ 40 < ps.length) :
    Calls Try.prog 15 #[.pointer (some ⟨lp, 0, none⟩), .slice a ps.length cap] w fun e w' => e = .returned (.int .i64 1) ∧ Below w.heap.size w w' := by
  have hmm := @run_makeMap Try.prog
  have h1 : (ps.length : Int) < 1 ∨ (¬ (ps.length : Int) < 1 ∧ (40 : Int) < (ps.length : Int)) := by omega
  have HB : Hid (∀ o1 o2, Below w.heap.size w ((w.alloc o1).alloc o2)) := fun o1 o2 => ((Below.refl _ w).alloc (Nat.le_refl _) o1).alloc (by simp) o2
  have HC : Hid (∀ o2, ((w.alloc (Obj.cells #[Value.int .i64 1] 31 (0, 0))).alloc o2).cell? ⟨w.heap.size, 0, none⟩ = some (.int .i64 1)) := fun o2 => by
    have q : (w.alloc (Obj.cells #[Value.int .i64 1] 31 (0, 0))).cell? ⟨w.heap.size, 0, none⟩ = some (.int .i64 1) := by rw [cell_of_row _ _ _ _ _ _ (heap_alloc_new _ _)]; rfl
    rw [World.cell?_alloc_some _ _ _ (by rw [q]; rfl)]
    exact q
  clear h
  rcases h1 with h1 | ⟨h1, h2⟩
  all_goals
    go_enter_defers Try.func15, Try.ntmps15
    go_wp2_with fail
    exact refuse_leaves (HB.out _ _) (HC.out _) rfl rfl
set_option maxRecDepth 20000 in
set_option maxHeartbeats 3200000 in
/-- twice one block, or of another length -/
theorem commit_arg (ps : List (Int × Bs)) (v : Value) (b : Nat) (w : World) (hp : PutsM w v ps) (h1 : 1 ≤ ps.length) (h40 : ps.length ≤ 40) (hb : b < ps.length) (hg : GoodM ps b) (hbad : ps[b].2.length ≠ 512 ∨ ps[b].1 ∈ (ps.map (·.1)).take b) :
    Calls Try.prog 15 #[.pointer (some ⟨lp, 0, none⟩), v] w fun e w' => e = .returned (.int .i64 1) ∧ Below w.heap.size w w' := by
  obtain ⟨a, cap, rfl⟩ := hp.shape
  have hmm := @run_makeMap Try.prog
  have HP := Lib.hid hp
  have HG := Lib.hid hg
  have HBAD := Lib.hid hbad
  obtain ⟨X, hX⟩ : ∃ X, X = Obj.cells #[Value.int .i64 0] 31 (0, 0) := ⟨_, rfl⟩
  have L1 : ¬ (ps.length : Int) < 1 := by omega
  have L2 : ¬ (40 : Int) < (ps.length : Int) := by omega
  have L3 : (ps.length : Int) ≤ 40 := by omega
  have HXE : Hid ((w.alloc X).heap[w.heap.size]? = some (.cells #[Value.int .i64 0] 31 (0, 0))) := by show _ = _; rw [heap_alloc_new, hX]
  clear hp hg hbad
  have HXX := Lib.hid hX
  go_enter_defers Try.func15, Try.ntmps15
  go_wp2_with fail
  go_loopw [27] (fun i wr => ∃ k : Nat, k ≤ b ∧ i = .int .i64 k ∧ OwnSeenI wr (w.heap.size + 1) k ((ps.map (·.1)).take k) ∧ Below (w.heap.size + 1) (w.alloc X) wr) (fun i _ => ps.length - (intOf i).toNat)
  case atStart =>
    refine ⟨0, Nat.zero_le _, rfl, ?_, by rw [hX]; exact (Below.refl _ _).alloc (by simp) _⟩
    have := World.ownsMap_made (H := Unit) (w.alloc X) Try.prog 3 (plainElem Try.prog 3)
    rw [World.size_alloc, hX] at this
    exact this
  case round =>
    obtain ⟨k, hk, rfl, hown, hb2⟩ := hrel
    have hbw : Below w.heap.size w wr := ((Below.refl _ w).alloc (Nat.le_refl _) X).trans (hb2.mono (by omega))
    have k0 : (0 : Int) ≤ (k : Int) := by omega
    have hlt : k < ps.length := by omega
    have k1 : (k : Int) < (ps.length : Int) := by omega
    obtain ⟨g, off, ua, uc, e1, hc1, hwf, hlen, hc2, _⟩ := (HP.out.below hbw).at k hlt
    subst e1
    have hce : wr.cell? ⟨w.heap.size, 0, none⟩ = some (.int .i64 0) := by
      rw [hb2.cell (p := ⟨w.heap.size, 0, none⟩) (by simp only; omega), cell_of_row _ _ _ _ _ _ HXE.out]
      rfl
    have hfe : wr.frozen? ⟨w.heap.size, 0, none⟩ = false := by
      rw [hb2.frozen (p := ⟨w.heap.size, 0, none⟩) (by simp only; omega)]
      exact frozen_of_row _ _ _ _ _ HXE.out
    have HBW := Lib.hid hbw
    by_cases hkb : k < b
    · obtain ⟨hl, hnew⟩ := HG.out k hlt hkb
      have HSN : Hid ((ps.map (·.1)).take (k + 1) = (ps.map (·.1)).take k ++ [ps[k].1]) := by
        show _ = _
        rw [List.take_succ_eq_append_getElem (by simp; omega)]
        simp
      rw [hl] at hc2
      generalize ps[k].1 = x at *
      have HLK : ∀ o, (Instr.lookup 70 (.map (some (w.heap.size + 1))) (.int .i64 x) false).run Try.prog (wr.alloc o) = .ok (.int .i64 0) (wr.alloc o) := fun o => lookI_no (World.ownsMap.alloc hown o) hnew hwf
      have HOWN : Hid (∀ o, (wr.alloc o).ownsMap Try.prog 3 (plainElem Try.prog 3) (w.heap.size + 1) k (mapI ((ps.map (·.1)).take k))) := fun o => World.ownsMap.alloc hown o
      have HKY : Hid (keyOf Try.prog 3 (.int .i64 x) = some (.int .i64 x)) := keyOf_int_mk (a := x) Try.underlying3 hwf
      have HB := Lib.hid hb2
      clear hown hb2 hbw hnew hl hlen hce hfe
      go_wp2_with (at_mapUpdate; refine wpList_mapUpdate_own _ rfl _ _ _ 70 rfl 3 3 keyed3 Try.underlying70 _ (w.heap.size + 1) k _ rfl (HOWN.out _) (by unfold maxLen; omega) _ _ _ rfl rfl HKY.out _ [] (plainElem_int Try.underlying3 (WalkArith.wf_i64 (by decide))) ?_)
      intro w2 hown2 hgrow2
      have HB2 : Hid (Below (w.heap.size + 1) (w.alloc X) w2) := (HB.out.alloc (by have := HB.out.size; simp at this; omega) _).grown hgrow2 (by have := HB.out.size; simp at this; simp; omega) (fun j e => by cases e; exact Nat.le_refl _)
      have HO2 : Hid (OwnSeenI w2 (w.heap.size + 1) (k + 1) ((ps.map (·.1)).take (k + 1))) := by
        show OwnSeenI _ _ _ _
        rw [HSN.out, OwnSeenI, mapI_snoc]
        exact hown2
      clear hown2 hgrow2 HLK
      go_wp2_with fail
      go_roundw
      case rel => exact ⟨k + 1, by omega, by go_num, HO2.out, HB2.out⟩
      case measure => simp [intOf]; omega
    · obtain rfl : k = b := by omega
      have hbd := HBAD.out
      have HLB : Hid (∀ o, Below w.heap.size w ((wr.alloc o).setCell ⟨w.heap.size, 0, none⟩ (.int .i64 1))) := fun o => (hbw.alloc hbw.size o).setCell (Nat.le_refl _) _
      have HLC : Hid (∀ o, ((wr.alloc o).setCell ⟨w.heap.size, 0, none⟩ (.int .i64 1)).cell? ⟨w.heap.size, 0, none⟩ = some (.int .i64 1)) := fun o => by
        refine World.cell?_setCell_same' _ _ _ ?_
        rw [World.cell?_alloc_some _ _ _ (by rw [hce]; rfl), hce]
        rfl
      have hce2 : ∀ o, (wr.alloc o).cell? ⟨w.heap.size, 0, none⟩ = some (.int .i64 0) := fun o => by rw [World.cell?_alloc_some _ _ _ (by rw [hce]; rfl), hce]
      have hfe2 : ∀ o, (wr.alloc o).frozen? ⟨w.heap.size, 0, none⟩ = false := fun o => by
        rw [((Below.refl _ wr).alloc (Nat.le_refl _) o).frozen (p := ⟨w.heap.size, 0, none⟩) (World.block_lt_of_cell? _ _ hce)]
        exact hfe
      by_cases hl : ps[k].2.length = 512
      · have hin : ps[k].1 ∈ (ps.map (·.1)).take k := hbd.elim (fun e => absurd hl e) id
        rw [hl] at hc2
        generalize ps[k].1 = x at *
        have HLK : ∀ o, (Instr.lookup 70 (.map (some (w.heap.size + 1))) (.int .i64 x) false).run Try.prog (wr.alloc o) = .ok (.int .i64 1) (wr.alloc o) := fun o => lookI_yes (World.ownsMap.alloc hown o) hin hwf
        clear hown hb2 hbw hin hl hlen hbd
        go_wp2_with fail
        exact refuse_leaves (HLB.out _) (HLC.out _) rfl rfl
      · have hne : ((ps[k].2.length : Int) != 512) = true := by simp; omega
        generalize ps[k].2.length = L at *
        generalize ps[k].1 = x at *
        clear hown hb2 hbw hl hbd
        go_wp2_with fail
        exact refuse_leaves (HLB.out _) (HLC.out _) rfl rfl
set_option maxRecDepth 20000 in
set_option maxHeartbeats 6400000 in
/-- a block that is not there -/
theorem commit_block (h : LedO w O R lp p d dead) (hn96 : 97 ≤ d.n) (hn2 : d.n ≤ 4096) (ps : List (Int × Bs)) (v : Value) (c : Nat) (hp : PutsM w v ps) (h1 : 1 ≤ ps.length) (h40 : ps.length ≤ 40) (hg : GoodM ps ps.length) (hc : c < ps.length) (hlow : ∀ a (h : a < ps.length), a < c → 0 ≤ ps[a].1 ∧ ps[a].1 < (d.n : Int) - 96) (hbad : ps[c].1 < 0 ∨ (d.n : Int) - 96 ≤ ps[c].1) :
    Calls Try.prog 15 #[.pointer (some ⟨lp, 0, none⟩), v] w fun e w' => e = .returned (.int .i64 10) ∧ Below w.heap.size w w' := by
  obtain ⟨a, cap, rfl⟩ := hp.shape
  have hmm := @run_makeMap Try.prog
  have H0 := Lib.hid h
  have HP := Lib.hid hp
  have HG := Lib.hid hg
  have HBAD := Lib.hid hbad
  have HLOW := Lib.hid hlow
  obtain ⟨X, hX⟩ : ∃ X, X = Obj.cells #[Value.int .i64 0] 31 (0, 0) := ⟨_, rfl⟩
  have L1 : ¬ (ps.length : Int) < 1 := by omega
  have L2 : ¬ (40 : Int) < (ps.length : Int) := by omega
  have L3 : (ps.length : Int) ≤ 40 := by omega
  have HXE : Hid ((w.alloc X).heap[w.heap.size]? = some (.cells #[Value.int .i64 0] 31 (0, 0))) := by show _ = _; rw [heap_alloc_new, hX]
  clear hp hg hbad h hlow
  have HXX := Lib.hid hX
  go_enter_defers Try.func15, Try.ntmps15
  go_wp2_with fail
  go_loopw [27] (fun i wr => ∃ k : Nat, k ≤ ps.length ∧ i = .int .i64 k ∧ OwnSeenI wr (w.heap.size + 1) k ((ps.map (·.1)).take k) ∧ Below (w.heap.size + 1) (w.alloc X) wr) (fun i _ => ps.length - (intOf i).toNat)
  case atStart =>
    refine ⟨0, Nat.zero_le _, rfl, ?_, by rw [hX]; exact (Below.refl _ _).alloc (by simp) _⟩
    have := World.ownsMap_made (H := Unit) (w.alloc X) Try.prog 3 (plainElem Try.prog 3)
    rw [World.size_alloc, hX] at this
    exact this
  case round =>
    obtain ⟨k, hk, rfl, hown, hb2⟩ := hrel
    have hbw : Below w.heap.size w wr := ((Below.refl _ w).alloc (Nat.le_refl _) X).trans (hb2.mono (by omega))
    have k0 : (0 : Int) ≤ (k : Int) := by omega
    have HBW := Lib.hid hbw
    by_cases hlt : k < ps.length
    · have k1 : (k : Int) < (ps.length : Int) := by omega
      obtain ⟨g, off, ua, uc, e1, hc1, hwf, hlen, hc2, _⟩ := (HP.out.below hbw).at k hlt
      subst e1
      obtain ⟨hl, hnew⟩ := HG.out k hlt hlt
      have HSN : Hid ((ps.map (·.1)).take (k + 1) = (ps.map (·.1)).take k ++ [ps[k].1]) := by
        show _ = _
        rw [List.take_succ_eq_append_getElem (by simp; omega)]
        simp
      rw [hl] at hc2
      generalize ps[k].1 = x at *
      have HLK : ∀ o, (Instr.lookup 70 (.map (some (w.heap.size + 1))) (.int .i64 x) false).run Try.prog (wr.alloc o) = .ok (.int .i64 0) (wr.alloc o) := fun o => lookI_no (World.ownsMap.alloc hown o) hnew hwf
      have HOWN : Hid (∀ o, (wr.alloc o).ownsMap Try.prog 3 (plainElem Try.prog 3) (w.heap.size + 1) k (mapI ((ps.map (·.1)).take k))) := fun o => World.ownsMap.alloc hown o
      have HKY : Hid (keyOf Try.prog 3 (.int .i64 x) = some (.int .i64 x)) := keyOf_int_mk (a := x) Try.underlying3 hwf
      have HB := Lib.hid hb2
      clear hown hb2 hbw hnew hl hlen
      go_wp2_with (at_mapUpdate; refine wpList_mapUpdate_own _ rfl _ _ _ 70 rfl 3 3 keyed3 Try.underlying70 _ (w.heap.size + 1) k _ rfl (HOWN.out _) (by unfold maxLen; omega) _ _ _ rfl rfl HKY.out _ [] (plainElem_int Try.underlying3 (WalkArith.wf_i64 (by decide))) ?_)
      intro w2 hown2 hgrow2
      have HB2 : Hid (Below (w.heap.size + 1) (w.alloc X) w2) := (HB.out.alloc (by have := HB.out.size; simp at this; omega) _).grown hgrow2 (by have := HB.out.size; simp at this; simp; omega) (fun j e => by cases e; exact Nat.le_refl _)
      have HO2 : Hid (OwnSeenI w2 (w.heap.size + 1) (k + 1) ((ps.map (·.1)).take (k + 1))) := by
        show OwnSeenI _ _ _ _
        rw [HSN.out, OwnSeenI, mapI_snoc]
        exact hown2
      clear hown2 hgrow2 HLK
      go_wp2_with fail
      go_roundw
      case rel => exact ⟨k + 1, by omega, by go_num, HO2.out, HB2.out⟩
      case measure => simp [intOf]; omega
    · obtain rfl : k = ps.length := by omega
      obtain ⟨wA, hwA⟩ : ∃ x, x = wr := ⟨_, rfl⟩
      subst hwA
      have HBE : Hid (Below (w.heap.size + 1) (w.alloc X) wA) := hb2
      clear hown hb2 hbw
      obtain ⟨i0, hi, hz0, hz1, hz2⟩ := info_parts infoI
      have HI := Lib.hid (And.intro hi (And.intro hz0 (And.intro hz1 hz2)))
      clear hi hz0 hz1 hz2
      have HBA : Hid (∀ (W : World) (o : Obj), Below W.heap.size W (W.alloc o)) := fun W o => (Below.refl W.heap.size W).alloc (Nat.le_refl _) o
      have hone : ∀ (x : Int), ∀ u ∈ [Value.int .i64 x], u.oneCell' = true := fun x u hu => by rw [List.mem_singleton] at hu; subst hu; rfl
      have HONE := Lib.hid hone
      clear hone
      have HWS : Hid (w.heap.size + 1 ≤ wA.heap.size) := by have := HBE.out.size; simp at this; show _ ≤ _; omega
      go_wp2_with fail
      go_loopw [8, 50] (fun l i w3 => ∃ k : Nat, k ≤ c ∧ i = .int .i64 k ∧ w3.ownsRow wA.heap.size 3 1 l k (intsV ((ps.map (·.1)).take k)) ∧ Below wA.heap.size wA w3) (fun _ i _ => ps.length - (intOf i).toNat)
      case atStart => exact ⟨0, Nat.zero_le _, rfl, World.ownsRow_nil _ _ _ _, Below.refl _ _⟩
      case round =>
        obtain ⟨k, hk, rfl, hown, hb⟩ := hrel
        have k0 : (0 : Int) ≤ (k : Int) := by omega
        obtain ⟨va, vc, hv⟩ := row_len hown
        subst hv
        have HROW := Lib.hid hown
        have HB3 := Lib.hid hb
        have HBW3 : Hid (Below w.heap.size w wr) := HBW.out.trans (hb.mono HBW.out.size)
        have hsz := hb.size
        have hlt : k < ps.length := by omega
        have k1 : (k : Int) < (ps.length : Int) := by omega
        obtain ⟨g, off, ua, uc, e1, hc1, hwf, hlen, hc2, _⟩ := (HP.out.below HBW3.out).at k hlt
        subst e1
        have HLB := Lib.hid (fun W (hW : Below w.heap.size w W) => lblocks_any (H0.out.below hW))
        have HEB : Hid (wr.cell? ⟨w.heap.size, 0, none⟩ = some (.int .i64 0) ∧ wr.frozen? ⟨w.heap.size, 0, none⟩ = false) := by
          have hlo : w.heap.size < wA.heap.size := by have := HWS.out; omega
          refine ⟨?_, ?_⟩
          · rw [hb.cell (p := ⟨w.heap.size, 0, none⟩) hlo, HBE.out.cell (p := ⟨w.heap.size, 0, none⟩) (by simp only; omega), cell_of_row _ _ _ _ _ _ HXE.out]
            rfl
          · rw [hb.frozen (p := ⟨w.heap.size, 0, none⟩) hlo, HBE.out.frozen (p := ⟨w.heap.size, 0, none⟩) (by simp only; omega)]
            exact frozen_of_row _ _ _ _ _ HXE.out
        clear hown hb
        by_cases hkc : k < c
        · have hat := HLOW.out k hlt hkc
          have HSN : Hid (intsV ((ps.map (·.1)).take (k + 1)) = intsV ((ps.map (·.1)).take k) ++ [.int .i64 ps[k].1]) := by
            show _ = _
            rw [List.take_succ_eq_append_getElem (by simp; omega)]
            simp [intsV]
          generalize ps[k].1 = x at *
          have L5 : Hid (k + 1 ≤ maxLen) := by show _ ≤ _; unfold maxLen; omega
          have L6 : Hid ((k + 1) * 8 ≤ 140737488355328) := by show _ ≤ _; omega
          have x0 : ¬ x < 0 := by omega
          have x1 : ¬ (d.n : Int) - 96 ≤ x := by omega
          have x2 : decide (x < 0) = false := decide_eq_false x0
          have x3 : decide ((d.n : Int) - 96 ≤ x) = false := decide_eq_false x1
          clear x0 x1 hat
          go_wp2_with fail
          obtain ⟨Y, hY⟩ : ∃ Y, Y = wr.alloc (Obj.cells #[Value.int .i64 x, Value.slice ua ps[k].2.length uc] 26 (0, 0)) := ⟨_, rfl⟩
          rw [← hY]
          have hyc : ∀ W, Below Y.heap.size Y W → W.cell? ⟨wr.heap.size, 0, none⟩ = some (.int .i64 x) := fun W hW => by
            rw [hW.cell (by rw [hY]; simp), hY]
            simp [go_sem]
          have HYB : Hid (Below wr.heap.size wr Y) := by rw [hY]; exact (Below.refl _ _).alloc (Nat.le_refl _) _
          have HYC := Lib.hid hyc
          have HS0 : Hid (Below Y.heap.size Y Y.drew) := (Below.refl _ _).drew
          clear hY hyc
          refine wp_region_noPanic ?_
          refine wp_region_ord [0, 1, 2, 3, 4, 5, 6, 7, 8, 9] (fun W => W.cell? ⟨wr.heap.size, 0, none⟩ = some (.int .i64 x) ∧ Below Y.heap.size Y W) (by kernel_rfl) (by kernel_rfl) rfl (by kernel_rfl) (fun _ _ _ _ _ h => h) ⟨HYC.out _ HS0.out, HS0.out⟩ ?_
          repeat (apply held_run rfl (by rfl) (by rfl); (intro w hSw; go_simp; with_reducible rfl); (try simp only [Act.put, List.setIfInBounds_toArray, List.set_cons_zero, List.set_cons_succ]))
          refine held_step rfl (by rfl) (by rfl) (fun K hK => ?_)
          go_simp
          have HYW : Hid (Below w.heap.size w Y.drew) := HBW3.out.trans ((HYB.out.trans (HS0.out.mono HYB.out.size)).mono HBW3.out.size)
          refine (HLB.out _ HYW.out).mono ?_
          rintro e w4 ⟨rfl, rfl⟩
          refine hK.out _ _ (⟨HYC.out _ HS0.out, HS0.out⟩) (fun _ => ?_)
          clear hK K
          (try simp only [Act.put, List.setIfInBounds_toArray, List.set_cons_zero, List.set_cons_succ])
          repeat (apply held_run rfl (by rfl) (by rfl); (intro w hSw; go_simp; with_reducible rfl); (try simp only [Act.put, List.setIfInBounds_toArray, List.set_cons_zero, List.set_cons_succ]))
          refine held_nil (NoPanic.normal ?_)
          have hyc1 := HYC.out _ (Below.refl _ _)
          have HRY : Hid (Y.drew.ownsRow wA.heap.size 3 1 (.slice va k vc) k (intsV ((ps.map (·.1)).take k))) := owns_below HROW.out (HYB.out.trans (HS0.out.mono HYB.out.size))
          have HYA : Hid (Below wA.heap.size wA Y.drew) := HB3.out.trans ((HYB.out.trans (HS0.out.mono HYB.out.size)).mono HB3.out.size)
          have hys : wA.heap.size ≤ Y.heap.size := by have := HYA.out.size; simpa using this
          go_wp2_with (at_builtin; refine wpList_append_rowAt rfl (.tmp 64) (.tmp 67) 46 rfl wA.heap.size 3 i0 (.int .i64 0) 8 Try.underlying46 HI.out.1 HI.out.2.1 HI.out.2.2.1 HI.out.2.2.2 rfl _ k _ rfl (owns_below HRY.out (HBA.out _ _)) _ [.int .i64 x] rfl (.inl (row_new Y.drew #[.int .i64 x] 3 (0, 0) 1 (Nat.le_refl _))) (HONE.out _) L5.out L6.out (by simp; omega) ?_)
          intro v2 w4 hown2 hgrow2 _
          have HB4 : Hid (Below wA.heap.size wA w4) := (HYA.out.trans ((HBA.out _ _).mono (by simpa using hys))).grown hgrow2 (by simp; omega) (fun j e => (HROW.out.lt j e).1)
          have HROW2 : Hid (w4.ownsRow wA.heap.size 3 1 v2 (k + 1) (intsV ((ps.map (·.1)).take (k + 1)))) := by
            show World.ownsRow _ _ _ _ _ _ _
            rw [HSN.out]
            exact hown2
          clear hown2 hgrow2
          go_wp2_with fail
          go_roundw
          case rel => exact ⟨k + 1, by omega, by go_num, HROW2.out, HB4.out⟩
          case measure => simp [intOf]; omega
        · obtain rfl : k = c := by omega
          have hbd := HBAD.out
          generalize ps[k].1 = x at *
          obtain ⟨Y, hY⟩ : ∃ Y, Y = wr.alloc (Obj.cells #[Value.int .i64 x, Value.slice ua ps[k].2.length uc] 26 (0, 0)) := ⟨_, rfl⟩
          have hyc : ∀ W, Below Y.heap.size Y W → W.cell? ⟨wr.heap.size, 0, none⟩ = some (.int .i64 x) := fun W hW => by
            rw [hW.cell (by rw [hY]; simp), hY]
            simp [go_sem]
          have HYB : Hid (Below wr.heap.size wr Y) := by rw [hY]; exact (Below.refl _ _).alloc (Nat.le_refl _) _
          have HYC := Lib.hid hyc
          have HS0 : Hid (Below Y.heap.size Y Y.drew) := (Below.refl _ _).drew
          have HYW : Hid (Below w.heap.size w Y.drew) := HBW3.out.trans ((HYB.out.trans (HS0.out.mono HYB.out.size)).mono HBW3.out.size)
          have HYE : Hid (Y.drew.cell? ⟨w.heap.size, 0, none⟩ = some (.int .i64 0) ∧ Y.drew.frozen? ⟨w.heap.size, 0, none⟩ = false) := by
            have hl := World.block_lt_of_cell? _ _ HEB.out.1
            have hb5 := HYB.out.trans (HS0.out.mono HYB.out.size)
            exact ⟨(hb5.cell (p := ⟨w.heap.size, 0, none⟩) hl).trans HEB.out.1, (hb5.frozen (p := ⟨w.heap.size, 0, none⟩) hl).trans HEB.out.2⟩
          have HLV : Hid (Below w.heap.size w (Y.drew.setCell ⟨w.heap.size, 0, none⟩ (.int .i64 10)) ∧ (Y.drew.setCell ⟨w.heap.size, 0, none⟩ (.int .i64 10)).cell? ⟨w.heap.size, 0, none⟩ = some (.int .i64 10)) :=
            ⟨HYW.out.setCell (Nat.le_refl _) _, World.cell?_setCell_same' _ _ _ (by rw [HYE.out.1]; rfl)⟩
          have HYY := Lib.hid hY
          clear hyc hY
          by_cases x0 : x < 0
          · clear hbd
            go_wp2_with fail
            rw [← HYY.out]
            refine wp_region_noPanic ?_
            refine wp_region_ordL 9 [9] [0, 1, 2, 3, 4, 5, 6, 7, 8, 9] (fun W => W.cell? ⟨wr.heap.size, 0, none⟩ = some (.int .i64 x) ∧ Below Y.heap.size Y W) (by kernel_rfl) (by kernel_rfl) rfl (by kernel_rfl) (fun _ _ _ _ _ h => h) ⟨HYC.out _ HS0.out, HS0.out⟩ ?_
            repeat (first | (apply heldL_run rfl (by rfl) (by rfl); (intro w hSw; go_simp; with_reducible rfl); (try simp only [Act.put, List.setIfInBounds_toArray, List.set_cons_zero, List.set_cons_succ])) | (refine heldL_skip rfl (by rfl) (by rfl) ?_; (try simp only [Act.put, List.setIfInBounds_toArray, List.set_cons_zero, List.set_cons_succ])) | (refine heldL_pass rfl (by rfl) (by rfl) (.inr ⟨HYC.out _ HS0.out, HS0.out⟩) ?_; (try simp only [Act.put, List.setIfInBounds_toArray, List.set_cons_zero, List.set_cons_succ])))
            refine heldL_step rfl (by rfl) (by rfl) (fun K hK => ?_)
            go_simp
            refine hK.out _ _ (.inl rfl) ?_
            clear hK K
            (try simp only [Act.put, List.setIfInBounds_toArray, List.set_cons_zero, List.set_cons_succ])
            refine heldL_nil (NoPanic.normal ?_)
            obtain ⟨hce, hfe⟩ := HYE.out
            generalize Y.drew = Z at *
            go_wp2_with fail
            exact refuse_leaves HLV.out.1 HLV.out.2 rfl rfl
          · have x1 : (d.n : Int) - 96 ≤ x := hbd.elim (fun e => absurd e x0) id
            have x2 : decide (x < 0) = false := decide_eq_false x0
            have x3 : decide ((d.n : Int) - 96 ≤ x) = true := decide_eq_true x1
            clear hbd x0 x1
            go_wp2_with fail
            rw [← HYY.out]
            refine wp_region_noPanic ?_
            refine wp_region_ord [0, 1, 2, 3, 4, 5, 6, 7, 8, 9] (fun W => W.cell? ⟨wr.heap.size, 0, none⟩ = some (.int .i64 x) ∧ Below Y.heap.size Y W) (by kernel_rfl) (by kernel_rfl) rfl (by kernel_rfl) (fun _ _ _ _ _ h => h) ⟨HYC.out _ HS0.out, HS0.out⟩ ?_
            repeat (apply held_run rfl (by rfl) (by rfl); (intro w hSw; go_simp; with_reducible rfl); (try simp only [Act.put, List.setIfInBounds_toArray, List.set_cons_zero, List.set_cons_succ]))
            refine held_step rfl (by rfl) (by rfl) (fun K hK => ?_)
            go_simp
            refine (HLB.out _ HYW.out).mono ?_
            rintro e w4 ⟨rfl, rfl⟩
            refine hK.out _ _ (⟨HYC.out _ HS0.out, HS0.out⟩) (fun _ => ?_)
            clear hK K
            (try simp only [Act.put, List.setIfInBounds_toArray, List.set_cons_zero, List.set_cons_succ])
            repeat (apply held_run rfl (by rfl) (by rfl); (intro w hSw; go_simp; with_reducible rfl); (try simp only [Act.put, List.setIfInBounds_toArray, List.set_cons_zero, List.set_cons_succ]))
            refine held_nil (NoPanic.normal ?_)
            obtain ⟨hce, hfe⟩ := HYE.out
            generalize Y.drew = Z at *
            go_wp2_with fail
            exact refuse_leaves HLV.out.1 HLV.out.2 rfl rfl
end Go.Proofs.Ythfncgbkigmmcaa
