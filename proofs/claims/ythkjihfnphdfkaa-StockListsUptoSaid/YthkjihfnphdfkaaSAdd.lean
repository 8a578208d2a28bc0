/- Add: the walk. -/
import Derived.Test.YthkjihfnphdfkaaSTake
import Derived.Test.YthkjihfnphdfkaaSLent
import Derived.ScopeJumps
namespace Go.Proofs.Ythkjihfnphdfkaa.Sha
open Go.RowKit

theorem own_ne {w : World} {p base : Nat} {L : List Int} {rest v : Value} {n : Int} {k : Nat} {xs : List Value} (h : IsHash w p L rest n) (ho : w.ownsRow base 5 1 v k xs) : v.ownBlock ≠ some p := by
  intro he
  rcases ho.2 with ⟨rfl, _⟩ | ⟨g, cap, cur, rfl, _, hg, _⟩
  · cases he
  · simp only [Value.ownBlock, Option.some.injEq] at he
    subst he
    rw [h] at hg
    simp at hg
theorem bytes_off_hash {w w' : World} {p : Nat} {L : List Int} {rest v : Value} {n : Int} {b : List UInt8} (h : IsHash w p L rest n) (hr : ∀ k x, rest ≠ .int k x) (hv : Bytes w v b) (hk : ∀ k, k < w.heap.size → k ≠ p → w'.heap[k]? = w.heap[k]?) : Bytes w' v b := by
  rcases hv with ⟨rfl, hb⟩ | ⟨blk, off, cap, rfl, hc, hcell⟩
  · exact .inl ⟨rfl, hb⟩
  · refine .inr ⟨blk, off, cap, rfl, hc, fun i u hi => ?_⟩
    have h1 := hcell i u hi
    by_cases hp : blk = p
    · subst hp
      exfalso
      have hu : ∃ x : Int, u = .int .u8 x := by
        rw [u8s_getElem?] at hi
        cases hx : b[i]? with
        | none => simp [hx] at hi
        | some y => simp [hx, u8] at hi; exact ⟨_, hi.symm⟩
      obtain ⟨x, rfl⟩ := hu
      rw [cell_of_row w blk (off + i) _ _ _ h, List.getElem?_toArray] at h1
      have hm := List.mem_of_getElem? h1
      simp only [List.mem_append, List.mem_map, List.mem_cons, List.not_mem_nil, or_false] at hm
      rcases hm with ⟨y, _, hy⟩ | hm | hm
      · simp [w32] at hy
      · exact hr _ _ hm.symm
      · simp at hm
    · exact (World.cell?_of_block (w := w) (hk blk (World.block_lt_of_cell? _ _ h1) hp)).trans h1

/-- r lies behind s in a Hash at p; of what was there only the Hash and the block of v have turned. -/
def Added (w w' : World) (p : Nat) (s : St) (r : List UInt8) (v : Value) (n : Int) : Prop :=
  ∃ v', IsHash w' p (s.pieces r (r.length / 64)).row v' n ∧ w'.ownsRow w.heap.size 5 1 v' (r.drop (64 * (r.length / 64))).length (u8s (r.drop (64 * (r.length / 64)))) ∧
    Keeps (fun k => k = p ∨ v.ownBlock = some k) w w' ∧ (r.drop (64 * (r.length / 64)) = [] → v' = .slice none 0 0)

/-- the frame and the world at the label, m bytes taken. -/
def AddLabel (p lim : Nat) (bv : Value) (r : List UInt8) (s : St) (n' : Int) (S : Nat → Prop) (w : World) (a : Act) (wr : World) : Prop :=
  ∃ j m g cap : Nat, m = 64 * j ∧ m ≤ r.length ∧ r.length ≤ cap ∧ lim ≤ g ∧ g ≠ p ∧ (∀ i (h : i < r.length), wr.cell? ⟨g, i, none⟩ = some (.int .u8 (r[i].toNat : Int))) ∧ Keeps S w wr ∧
    IsHash wr p (s.pieces r j).row (.slice (some ⟨g, 0, none⟩) r.length cap) n' ∧ ∃ v2 v3 v5 v6 v7 v8 v9 v10 v11 v12 v13 v14 v15 v16 v17 v18 v19 v20 v21 v22 v23 v24 v25 v26 v27 v28 v29 v30 v31 v32 v33 v34 v35 v36 v37 v38 v39 v40 v41 v42 v43 v44 v45 v46 v47 v48 v49 v50 v51 v52 : Value, a = { tmps := #[.pointer (some ⟨p, 0, none⟩), bv, v2, v3, .int .i64 ((m : Nat) : Int), v5, v6, v7, v8, v9, v10, v11, v12, v13, v14, v15, v16, v17, v18, v19, v20, v21, v22, v23, v24, v25, v26, v27, v28, v29, v30, v31, v32, v33, v34, v35, v36, v37, v38, v39, v40, v41, v42, v43, v44, v45, v46, v47, v48, v49, v50, v51, v52], defers := [] }

set_option maxHeartbeats 1600000 in
theorem add_any (p lim : Nat) (rs b : List UInt8) (s : St) (v bv : Value) (n : Int) (w : World) (hok : s.ok) (hp : IsHash w p s.row v n) (hown : w.ownsRow lim 5 1 v rs.length (u8s rs)) (hlim : lim ≤ w.heap.size)
    (hb : Bytes w bv b) (hn0 : 0 ≤ n) (hn1 : n ≤ 1000000000000) (hrs : rs.length ≤ 1000000000000) (hbl : b.length ≤ 1000000000000) :
    Calls Try.prog 31 #[.pointer (some ⟨p, 0, none⟩), bv] w fun e w' => e = .returned (.tuple #[]) ∧ Added w w' p s (rs ++ b) v (n + b.length) := by
  obtain ⟨i0, hi, hz0, hz1, hz2⟩ := info_parts info5
  have hne := own_ne hp hown
  have hvi : ∀ k x, v ≠ .int k x := by
    intro k x h
    rcases owns_shape hown with ⟨rfl, _⟩ | ⟨_, _, rfl, _⟩ <;> cases h
  obtain ⟨av, cv, hs, _⟩ := RowAt.shape hb
  rw [u8s_length] at hs
  subst hs
  have b1 : rs.length + (u8s b).length ≤ maxLen := by simp only [u8s_length]; unfold maxLen; omega
  have b2 : (rs.length + (u8s b).length) * 1 ≤ 140737488355328 := by simp only [u8s_length]; omega
  have B1 := Lib.hid b1
  have B2 := Lib.hid b2
  have c8 := hp.cell8 rfl
  have c9 := hp.cell9 rfl
  have f8 := hp.free 8
  have f9 := hp.free 9
  have hplt := hp.lt
  have e1 : IntKind.i64.wrap (n + (b.length : Int)) = n + (b.length : Int) := IntWalk.i64_in _ (by omega)
  have HP := Lib.hid hp
  have HO := Lib.hid hown
  have HOK := Lib.hid hok
  have HB := Lib.hid hb
  have HNE := Lib.hid hne
  have HO1 := Lib.hid (owns_kept (w' := w.setCell ⟨p, 9, none⟩ (.int .i64 (n + (b.length : Int)))) hown (fun k hk _ => Below.heap_setCell _ _ _ _ (fun e => hne (by rw [hk, e]))))
  have HB1 := Lib.hid (bytes_off_hash (w' := w.setCell ⟨p, 9, none⟩ (.int .i64 (n + (b.length : Int)))) hp hvi hb (fun k _ hk => Below.heap_setCell _ _ _ _ hk))
  obtain ⟨r, hr⟩ : ∃ r, r = rs ++ b := ⟨_, rfl⟩
  have HRL : Hid (r.length = rs.length + b.length) := by show _ = _; rw [hr, List.length_append]
  rw [← hr]
  have hrb : (r.length : Int) ≤ 2000000000000 := by rw [hr, List.length_append]; omega
  have HR := Lib.hid hr
  clear b1 b2 hp hown hok hb hne hvi hr
  go_enter Try.func31, Try.ntmps31
  refine wp_scope_jumps 0 (AddLabel p lim (.slice av b.length cv) r s (n + b.length) (fun k => k = p ∨ v.ownBlock = some k) w) (fun a _ => r.length - (intAt a 4).toNat) rfl ?_ ?_
  · go_wp2_with (at_builtin; refine wpList_append_row rfl (.tmp 18) (.tmp 19) 28 rfl lim 5 i0 (.int .u8 0) 1 Try.underlying28 hi hz0 hz1 hz2 rfl v rs.length (u8s rs) rfl HO1.out _ (u8s b) rfl HB1.out (u8s_one b) B1.out B2.out (by simpa using hlim) ?_)
    intro v2 w2 hown2 hgrow2 hnil2
    have hown2' : w2.ownsRow lim 5 1 v2 r.length (u8s r) := by
      rw [HRL.out, HR.out, u8s_append]
      simpa using hown2
    have hh2 : IsHash w2 p s.row v (n + b.length) := (HP.out.setN rfl _).kept (hgrow2.block p (by simpa using hplt) (fun e => HNE.out e.symm))
    have hne2 := own_ne hh2 hown2'
    have k8 := hh2.cell8 rfl
    have kf := hh2.free 8
    have HK : Hid (Keeps (fun k => k = p ∨ v.ownBlock = some k) w (w2.setCell ⟨p, 8, none⟩ v2)) := (((Keeps.refl _ w).setCell ⟨p, 9, none⟩ _ (.inl (.inl rfl))).grown hgrow2 (fun k e => .inl (.inr e))).setCell ⟨p, 8, none⟩ v2 (.inl (.inl rfl))
    have HH : Hid (IsHash (w2.setCell ⟨p, 8, none⟩ v2) p s.row v2 (n + b.length)) := hh2.setRest rfl v2
    have hsh := owns_shape hown2'
    have hrow := RowAt.of_owns hown2'
    clear hown2 hgrow2 hnil2 hown2' hh2
    rcases hsh with ⟨rfl, hr0⟩ | ⟨g, cap, rfl, hle, hm, hbg, hlt⟩
    · clear hrow hne2
      have HR0 := Lib.hid hr0
      clear hr0
      go_wp2_with fail
      go_step3
      go_wp2_with (at_builtin; refine wpList_append_row rfl (.const (.slice none 0 0)) (.tmp 49) 28 rfl w.heap.size 5 i0 (.int .u8 0) 1 Try.underlying28 hi hz0 hz1 hz2 rfl (.slice none 0 0) 0 [] rfl (World.ownsRow_nil _ _ _ _) _ [] rfl (RowAt.nil _) (by simp) (by simp) (by simp) HK.out.size ?_)
      intro v3 w3 hown3 hgrow3 hnil3
      have hr0 : r = [] := List.length_eq_zero_iff.1 HR0.out
      subst hr0
      have hh3 := HH.out.kept (hgrow3.block p (HH.out.lt) (by simp [Value.ownBlock]))
      have hne3 := own_ne hh3 hown3
      have HF : Hid (Added w (w3.setCell ⟨p, 8, none⟩ v3) p s [] v (n + b.length)) := by
        refine ⟨v3, hh3.setRest rfl v3, ?_, (HK.out.grown hgrow3 (by simp [Value.ownBlock])).setCell _ _ (.inl (.inl rfl)), fun _ => hnil3⟩
        refine owns_kept ?_ (fun k hk _ => Below.heap_setCell _ _ _ _ (fun e => hne3 (by rw [hk, e])))
        simpa [u8s] using hown3
      have HSH := owns_shape hown3
      have k8' := hh3.cell8 rfl
      have kf' := hh3.free 8
      clear hown3 hgrow3 hnil3 hh3 hne3
      rcases HSH with ⟨rfl, _⟩ | ⟨g3, cap3, rfl, _, _, _, _⟩
      · go_wp2_with fail
        simp only [Exit.jump]
        go_end0
        exact ⟨rfl, HF.out⟩
      · go_wp2_with fail
        simp only [Exit.jump]
        go_end0
        exact ⟨rfl, HF.out⟩
    · have hgp : g ≠ p := fun e => hne2 (by rw [e]; rfl)
      have HCL : Hid (∀ i (h : i < r.length), (w2.setCell ⟨p, 8, none⟩ (.slice (some ⟨g, 0, none⟩) r.length cap)).cell? ⟨g, i, none⟩ = some (.int .u8 (r[i].toNat : Int))) := by
        intro i h
        rw [World.cell?_setCell_other (h := by intro e; exact hgp (congrArg Addr.block e).symm)]
        rcases hrow with ⟨h', _⟩ | ⟨g', off', cap', h', _, hcell⟩
        · cases h'
        · simp only [Value.slice.injEq, Option.some.injEq, Addr.mk.injEq] at h'
          obtain ⟨⟨rfl, rfl, _⟩, _, rfl⟩ := h'
          have := hcell i (u8 r[i]) (by rw [u8s_getElem?]; simp [h])
          simpa [u8] using this
      clear hrow hne2
      by_cases h64 : 0 + 64 ≤ r.length
      · have hpl : ((r.drop 0).take 64).length = 64 := by simp; omega
        have a0 : (64 : Int) ≤ (r.length : Int) := by omega
        have a1 : ((0 : Nat) : Int) + 64 ≤ (cap : Int) := by omega
        have a2 : ((0 : Nat) : Int) ≤ ((0 : Nat) : Int) + 64 := by omega
        have HT := Lib.hid (take_any p g 0 (cap - 0) ((r.drop 0).take 64) (s.pieces r 0) (.slice (some ⟨g, 0, none⟩) r.length cap) (n + b.length) (w2.setCell ⟨p, 8, none⟩ (.slice (some ⟨g, 0, none⟩) r.length cap)) hpl (St.pieces_ok HOK.out r 0) HH.out (fun i hi => by
          rw [HCL.out (0 + i) (by rw [hpl] at hi; omega)]
          simp [List.getElem_take]))
        clear hpl
        go_wp2_with fail
        go_step3
        go_wp2_with fail
        refine HT.out.mono ?_
        rintro e w3 ⟨rfl, hk3, hh3⟩
        go_wp2_with fail
        go_step3
        refine ⟨rfl, 1, 64, g, cap, rfl, by omega, hle, hbg, hgp, ?_, HK.out.trans hk3 (fun i e => .inl (.inl e)), by exact hh3, _, _, _, _, _, _, _, _, _, _, _, _, _, _, _, _, _, _, _, _, _, _, _, _, _, _, _, _, _, _, _, _, _, _, _, _, _, _, _, _, _, _, _, _, _, _, _, _, _, _, rfl⟩
        intro i h
        rw [hk3.cell (World.block_lt_of_cell? _ _ (HCL.out i h)) hgp]
        exact HCL.out i h
      · have hm64 : 0 = 64 * (r.length / 64) := by omega
        have HROW : Hid (RowAt (w2.setCell ⟨p, 8, none⟩ (.slice (some ⟨g, 0, none⟩) r.length cap)) (.slice (some ⟨g, 0, none⟩) (r.length) (cap)) (u8s (r.drop 0))) := by
          refine .inr ⟨g, 0, cap, by simp, by simp; omega, fun i u hu => ?_⟩
          rw [u8s_getElem?] at hu
          simp only [List.getElem?_drop, Option.map_eq_some_iff] at hu
          obtain ⟨x, hx, rfl⟩ := hu
          obtain ⟨hl, rfl⟩ := List.getElem?_eq_some_iff.1 hx
          simpa [u8] using HCL.out _ hl
        have b3 : 0 + (u8s (r.drop 0)).length ≤ maxLen := by simp only [u8s_length, List.length_drop]; unfold maxLen; omega
        have b4 : (0 + (u8s (r.drop 0)).length) * 1 ≤ 140737488355328 := by simp only [u8s_length, List.length_drop]; omega
        have B3 := Lib.hid b3
        have B4 := Lib.hid b4
        have HM64 := Lib.hid hm64
        clear b3 b4 hm64
        have a0 : (r.length : Int) < 64 := by omega
        have a1 : ((0 : Nat) : Int) ≤ (r.length : Int) := by omega
        have a2 : r.length ≤ cap := by omega
        go_wp2_with fail
        go_step3
        go_wp2_with (at_builtin; refine wpList_append_row rfl (.const (.slice none 0 0)) (.tmp 49) 28 rfl w.heap.size 5 i0 (.int .u8 0) 1 Try.underlying28 hi hz0 hz1 hz2 rfl (.slice none 0 0) 0 [] rfl (World.ownsRow_nil _ _ _ _) _ (u8s (r.drop 0)) rfl HROW.out (u8s_one _) B3.out B4.out HK.out.size ?_)
        intro v3 w3 hown3 hgrow3 hnil3
        have hh3 := HH.out.kept (hgrow3.block p (HH.out.lt) (by simp [Value.ownBlock]))
        have hne3 := own_ne hh3 hown3
        have HF : Hid (Added w (w3.setCell ⟨p, 8, none⟩ v3) p s r v (n + b.length)) := by
          refine ⟨v3, ?_, ?_, (HK.out.grown hgrow3 (by simp [Value.ownBlock])).setCell _ _ (.inl (.inl rfl)), fun h => hnil3.2 (by first | (rw [HM64.out, h]; rfl) | (rw [← HM64.out, List.drop_zero] at h; rw [h]; rfl))⟩
          · rw [show r.length / 64 = 0 by have := HM64.out; omega]
            exact hh3.setRest rfl v3
          · rw [← HM64.out]
            refine owns_kept ?_ (fun k hk _ => Below.heap_setCell _ _ _ _ (fun e => hne3 (by rw [hk, e])))
            first | simpa using hown3 | simpa [show r.length - 0 = 0 by omega] using hown3
        have HSH := owns_shape hown3
        have k8' := hh3.cell8 rfl
        have kf' := hh3.free 8
        clear hown3 hgrow3 hnil3 hh3 hne3
        rcases HSH with ⟨rfl, _⟩ | ⟨g3, cap3, rfl, _, _, _, _⟩
        · go_wp2_with fail
          simp only [Exit.jump]
          go_end0
          exact ⟨rfl, HF.out⟩
        · go_wp2_with fail
          simp only [Exit.jump]
          go_end0
          exact ⟨rfl, HF.out⟩


  · rintro a wr ⟨j, m, g, cap, hmj, hmr, hle, hbg, hgp, hcl, hkr, hhr, v2, v3, v5, v6, v7, v8, v9, v10, v11, v12, v13, v14, v15, v16, v17, v18, v19, v20, v21, v22, v23, v24, v25, v26, v27, v28, v29, v30, v31, v32, v33, v34, v35, v36, v37, v38, v39, v40, v41, v42, v43, v44, v45, v46, v47, v48, v49, v50, v51, v52, rfl⟩
    have HM := Lib.hid hmj
    have HCL := Lib.hid hcl
    have HK := Lib.hid hkr
    have HH := Lib.hid hhr
    have r8 := hhr.cell8 rfl
    have rf := hhr.free 8
    clear hmj hcl hkr hhr
    have HMZ : Hid (64 * j = m) := by show _ = _; exact HM.out.symm
    by_cases h64 : m + 64 ≤ r.length
    · have hpl : ((r.drop m).take 64).length = 64 := by simp; omega
      have a0 : (64 : Int) ≤ (r.length : Int) - ((m : Nat) : Int) := by omega
      have a1 : ((m : Nat) : Int) + 64 ≤ (cap : Int) := by omega
      have a2 : ((m : Nat) : Int) ≤ ((m : Nat) : Int) + 64 := by omega
      have HT := Lib.hid (take_any p g m (cap - m) ((r.drop m).take 64) (s.pieces r j) (.slice (some ⟨g, 0, none⟩) r.length cap) (n + b.length) wr hpl (St.pieces_ok HOK.out r j) HH.out (fun i hi => by
        rw [HCL.out (m + i) (by rw [hpl] at hi; omega)]
        simp [List.getElem_take, List.getElem_drop]))
      clear hpl
      go_wp2_with fail
      refine HT.out.mono ?_
      rintro e w3 ⟨rfl, hk3, hh3⟩
      go_wp2_with fail
      go_step3
      refine ⟨rfl, ⟨(j + 1), (m + 64), g, cap, by have := HM.out; omega, by omega, hle, hbg, hgp, ?_, HK.out.trans hk3 (fun i e => .inl (.inl e)), by rw [St.pieces, HMZ.out]; exact hh3, _, _, _, _, _, _, _, _, _, _, _, _, _, _, _, _, _, _, _, _, _, _, _, _, _, _, _, _, _, _, _, _, _, _, _, _, _, _, _, _, _, _, _, _, _, _, _, _, _, _, rfl⟩, by simp [intAt, intOf]; omega⟩
      intro i h
      rw [hk3.cell (World.block_lt_of_cell? _ _ (HCL.out i h)) hgp]
      exact HCL.out i h
    · by_cases hmc : m < cap
      · have hmc2 : ((m : Nat) : Int) < (cap : Int) := by omega
        have hm64 : m = 64 * (r.length / 64) := by have := HM.out; omega
        have HROW : Hid (RowAt wr (.slice (some ⟨g, m, none⟩) (r.length - m) (cap - m)) (u8s (r.drop m))) := by
          refine .inr ⟨g, m, cap - m, by simp, by simp; omega, fun i u hu => ?_⟩
          rw [u8s_getElem?] at hu
          simp only [List.getElem?_drop, Option.map_eq_some_iff] at hu
          obtain ⟨x, hx, rfl⟩ := hu
          obtain ⟨hl, rfl⟩ := List.getElem?_eq_some_iff.1 hx
          exact HCL.out _ hl
        have b3 : 0 + (u8s (r.drop m)).length ≤ maxLen := by simp only [u8s_length, List.length_drop]; unfold maxLen; omega
        have b4 : (0 + (u8s (r.drop m)).length) * 1 ≤ 140737488355328 := by simp only [u8s_length, List.length_drop]; omega
        have B3 := Lib.hid b3
        have B4 := Lib.hid b4
        have HM64 := Lib.hid hm64
        clear b3 b4 hm64
        have a0 : (r.length : Int) - ((m : Nat) : Int) < 64 := by omega
        have a1 : ((m : Nat) : Int) ≤ (r.length : Int) := by omega
        have a2 : r.length ≤ cap := by omega
        go_wp2_with (at_builtin; refine wpList_append_row rfl (.const (.slice none 0 0)) (.tmp 49) 28 rfl w.heap.size 5 i0 (.int .u8 0) 1 Try.underlying28 hi hz0 hz1 hz2 rfl (.slice none 0 0) 0 [] rfl (World.ownsRow_nil _ _ _ _) _ (u8s (r.drop m)) rfl HROW.out (u8s_one _) B3.out B4.out HK.out.size ?_)
        intro v3 w3 hown3 hgrow3 hnil3
        have hh3 := HH.out.kept (hgrow3.block p (HH.out.lt) (by simp [Value.ownBlock]))
        have hne3 := own_ne hh3 hown3
        have HF : Hid (Added w (w3.setCell ⟨p, 8, none⟩ v3) p s r v (n + b.length)) := by
          refine ⟨v3, ?_, ?_, (HK.out.grown hgrow3 (by simp [Value.ownBlock])).setCell _ _ (.inl (.inl rfl)), fun h => hnil3.2 (by first | (rw [HM64.out, h]; rfl) | (rw [← HM64.out, List.drop_zero] at h; rw [h]; rfl))⟩
          · rw [show r.length / 64 = j by have := HM64.out; have := HMZ.out; omega]
            exact hh3.setRest rfl v3
          · rw [← HM64.out]
            refine owns_kept ?_ (fun k hk _ => Below.heap_setCell _ _ _ _ (fun e => hne3 (by rw [hk, e])))
            first | simpa using hown3 | simpa [show r.length - m = 0 by omega] using hown3
        have HSH := owns_shape hown3
        have k8' := hh3.cell8 rfl
        have kf' := hh3.free 8
        clear hown3 hgrow3 hnil3 hh3 hne3
        rcases HSH with ⟨rfl, _⟩ | ⟨g3, cap3, rfl, _, _, _, _⟩
        · go_wp2_with fail
          simp only [Exit.jump]
          go_end0
          exact ⟨rfl, HF.out⟩
        · go_wp2_with fail
          simp only [Exit.jump]
          go_end0
          exact ⟨rfl, HF.out⟩
      · have hcm : m = cap := by omega
        subst hcm
        have hm64 : m = 64 * (r.length / 64) := by have := HM.out; omega
        have HROW : Hid (RowAt wr (.slice (some ⟨g, 0, none⟩) (0) (0)) (u8s (r.drop m))) := by
          refine .inr ⟨g, 0, 0, by simp; omega, by simp; omega, fun i u hu => ?_⟩
          rw [u8s_getElem?] at hu
          simp only [List.getElem?_drop, Option.map_eq_some_iff] at hu
          obtain ⟨x, hx, rfl⟩ := hu
          obtain ⟨hl, rfl⟩ := List.getElem?_eq_some_iff.1 hx
          omega
        have b3 : 0 + (u8s (r.drop m)).length ≤ maxLen := by simp only [u8s_length, List.length_drop]; unfold maxLen; omega
        have b4 : (0 + (u8s (r.drop m)).length) * 1 ≤ 140737488355328 := by simp only [u8s_length, List.length_drop]; omega
        have B3 := Lib.hid b3
        have B4 := Lib.hid b4
        have HM64 := Lib.hid hm64
        clear b3 b4 hm64
        have a0 : (r.length : Int) - ((m : Nat) : Int) < 64 := by omega
        have a1 : ((m : Nat) : Int) ≤ (r.length : Int) := by omega
        have a2 : r.length ≤ m := by omega
        go_wp2_with (at_builtin; refine wpList_append_row rfl (.const (.slice none 0 0)) (.tmp 49) 28 rfl w.heap.size 5 i0 (.int .u8 0) 1 Try.underlying28 hi hz0 hz1 hz2 rfl (.slice none 0 0) 0 [] rfl (World.ownsRow_nil _ _ _ _) _ (u8s (r.drop m)) rfl HROW.out (u8s_one _) B3.out B4.out HK.out.size ?_)
        intro v3 w3 hown3 hgrow3 hnil3
        have hh3 := HH.out.kept (hgrow3.block p (HH.out.lt) (by simp [Value.ownBlock]))
        have hne3 := own_ne hh3 hown3
        have HF : Hid (Added w (w3.setCell ⟨p, 8, none⟩ v3) p s r v (n + b.length)) := by
          refine ⟨v3, ?_, ?_, (HK.out.grown hgrow3 (by simp [Value.ownBlock])).setCell _ _ (.inl (.inl rfl)), fun h => hnil3.2 (by first | (rw [HM64.out, h]; rfl) | (rw [← HM64.out, List.drop_zero] at h; rw [h]; rfl))⟩
          · rw [show r.length / 64 = j by have := HM64.out; have := HMZ.out; omega]
            exact hh3.setRest rfl v3
          · rw [← HM64.out]
            refine owns_kept ?_ (fun k hk _ => Below.heap_setCell _ _ _ _ (fun e => hne3 (by rw [hk, e])))
            first | simpa using hown3 | simpa [show r.length - m = 0 by omega] using hown3
        have HSH := owns_shape hown3
        have k8' := hh3.cell8 rfl
        have kf' := hh3.free 8
        clear hown3 hgrow3 hnil3 hh3 hne3
        rcases HSH with ⟨rfl, _⟩ | ⟨g3, cap3, rfl, _, _, _, _⟩
        · go_wp2_with fail
          simp only [Exit.jump]
          go_end0
          exact ⟨rfl, HF.out⟩
        · go_wp2_with fail
          simp only [Exit.jump]
          go_end0
          exact ⟨rfl, HF.out⟩

end Go.Proofs.Ythkjihfnphdfkaa.Sha
