/- Crash. -/
import Derived.Test.YthfncgbkigmmcaaDisk9
namespace Go.Proofs.Ythfncgbkigmmcaa
open Go.RowKit Go.Shelf

attribute [local go_sem] Oper.semAt_some

variable {w w' : World} {O R : Nat → Prop} {p : Nat} {d : DS} {gn gf : Nat} {vb : Value} {vs : List Value}

/-- A row of numbers that came in. -/
def IntsAt (w : World) (a : Option Addr) (n : Nat) (ks : Nat → Int) : Prop := n ≤ 1000000000000 ∧ (n = 0 ∨ ∃ g off, a = some ⟨g, off, none⟩ ∧ ∀ i, i < n → w.cell? ⟨g, off + i, none⟩ = some (.int .i64 (ks i)))
/-- is write k kept? -/
def keepB (n : Nat) (ks : Nat → Int) (k : Nat) : Bool := decide (k < n) && decide (0 < ks k)
def selI (d : DS) (kb : Nat → Bool) (pre : List (Ix d.back.length)) : List (Nat × Bs) := (pre.filter fun x => kb x.1).map fun x => d.back[x.1]'x.2
theorem selI_yes (d : DS) (kb : Nat → Bool) (pre : List (Ix d.back.length)) (x : Ix d.back.length) (h : kb x.1 = true) : selI d kb (pre ++ [x]) = selI d kb pre ++ [d.back[x.1]'x.2] := by simp [selI, h]
theorem selI_no (d : DS) (kb : Nat → Bool) (pre : List (Ix d.back.length)) (x : Ix d.back.length) (h : kb x.1 = false) : selI d kb (pre ++ [x]) = selI d kb pre := by simp [selI, h]
theorem selI_each {P : Nat × Bs → Prop} (d : DS) (kb : Nat → Bool) (pre : List (Ix d.back.length)) (h : ∀ y ∈ d.back, P y) : ∀ y ∈ selI d kb pre, P y := fun y hy => by
  obtain ⟨z, _, rfl⟩ := List.mem_map.1 hy
  exact h _ (List.getElem_mem z.2)
/-- The disk's own cells anew: nothing is held back. -/
theorem DiskAt.reset (h : DiskAt w O R p d gn gf vb vs) (k : Keeps (fun b => b = p) w w') (off : Bool) (left : Int)
    (hc : w'.heap[p]? = some (.cells #[.slice (some ⟨gn, 0, none⟩) (512 * d.n) (512 * d.n), .slice (some ⟨gf, 0, none⟩) (512 * d.n) (512 * d.n), .slice none 0 0, .bool off, .int .i64 left] 83 (0, 0))) :
    DiskAt w' O R p { d with back := [], off := off, left := left } gn gf (.slice none 0 0) [] :=
  ⟨hc, (k.block gn h.ltN (fun e => h.pn e.symm)).trans h.now, (k.block gf h.ltF (fun e => h.pf e.symm)).trans h.fast, h.nlen, h.flen, h.n1, h.n2, World.ownsRow_nil _ _ _ _, fun i hi => by simp at hi, rfl, fun x hx => by simp at hx, by simp, h.ownP, h.ownN, h.ownF, InB.nil _, h.nf⟩
def DS.kept (d : DS) (kb : Nat → Bool) : List (Nat × Bs) := selI d kb (uptoI d.back.length d.back.length (Nat.le_refl _))
def DS.crash (d : DS) (kb : Nat → Bool) : DS := { d with now := layAll d.fast (d.kept kb), fast := layAll d.fast (d.kept kb), back := [], off := false, left := -1 }

set_option maxRecDepth 100000 in
set_option maxHeartbeats 4000000 in
theorem crash_ok (h : DiskAt w O R p d gn gf vb vs) (hOb : ∀ j, O j → j < w.heap.size) (hRb : ∀ j, R j → j < w.heap.size) (ka : Option Addr) (kn kcap : Nat) (ks : Nat → Int) (hkeep : IntsAt w ka kn ks) (hka : ∀ x, ka = some x → 0 < kn → ¬ O x.block) : Calls Try.prog 20 #[.pointer (some ⟨p, 0, none⟩), .slice ka kn kcap] w fun e w' => (∃ v, e = .returned v) ∧ IsDisk w' O R p (d.crash (keepB kn ks)) ∧ Keeps O w w' := by
  obtain ⟨hs, HS, hc⟩ := h.hs
  have hvb : ∀ b, vb.ownBlock = some b → b < w.heap.size := fun b hb => (row_block h.row hb).1
  have hst := h.stops hs hc
  have HD := Lib.hid h
  clear h hc
  refine (callsIn_wide (n := 4)).1 (callsIn_of_wp_marks Try.func20 rfl trivial ?_ rfl)
  simp only [Try.ntmps20, List.size_toArray, List.length_cons, List.length_nil, Nat.reduceAdd, Nat.reduceSub, Array.replicate_succ, Array.replicate_zero, List.push_toArray, List.append_toArray, List.nil_append, List.cons_append]
  gi_wp2_with (refine ⟨trivial, ?_⟩; gi_at_call 44; refine (writes_in p _ _).mono ?_; rintro e w' ⟨rfl, rfl⟩)
  have bB := Boxed.new w 27 (.pointer (some ⟨p, 0, none⟩))
  have bK := Boxed.new (w.alloc (.cells #[.pointer (some ⟨p, 0, none⟩)] 27)) 46 (.slice ka kn kcap)
  have bN := Boxed.new ((w.alloc (.cells #[.pointer (some ⟨p, 0, none⟩)] 27)).alloc (.cells #[.slice ka kn kcap] 46)) 27 (.pointer (some ⟨p, 0, none⟩))
  rw [World.size_alloc] at bK
  rw [World.size_alloc, World.size_alloc] at bN
  have hB0 : Below w.heap.size w (((w.alloc (.cells #[.pointer (some ⟨p, 0, none⟩)] 27)).alloc (.cells #[.slice ka kn kcap] 46)).alloc (.cells #[.pointer (some ⟨p, 0, none⟩)] 27)) := (((Below.refl _ w).alloc (Nat.le_refl _) _).alloc (by simp) _).alloc (by simp; omega) _
  have hsz : (((w.alloc (.cells #[.pointer (some ⟨p, 0, none⟩)] 27)).alloc (.cells #[.slice ka kn kcap] 46)).alloc (.cells #[.pointer (some ⟨p, 0, none⟩)] 27)).heap.size = w.heap.size + 3 := by simp
  refine wpIn_rangeFunc_ownH rfl (by decide) (gf := 54) (lb := #[.pointer (some ⟨w.heap.size + 1 + 1, 0, none⟩)]) rfl trivial (enters_of Try.func54 (by kernel_rfl) rfl)
    (hst _ (by decide) _ hB0 (w.heap.size + 1 + 1) bN.cell bN.lt) KeptV.t (KeptV.b (fun b hb => by have := hvb b hb; rw [hsz]; omega)) (Below.refl _ _) (fun _ => rfl)
    (fun (pre : List (Ix d.back.length)) W => Keeps (fun b => b = gf) w W ∧ W.heap[gf]? = some (.cells (u8s (layAll d.fast (selI d (keepB kn ks) pre))).toArray 5 (0, 0)) ∧ Boxed W w.heap.size 27 (.pointer (some ⟨p, 0, none⟩)) ∧ Boxed W (w.heap.size + 1) 46 (.slice ka kn kcap))
    (fun _ _ _ => False)
    (fun s A C row hs hg hr => by
      have hrr : ∀ k, row = some k → w.heap.size + 3 ≤ k := fun k e => by have := (hr k e).1; rw [hsz] at this; exact this
      refine ⟨hs.1.grown hg (fun k e => .inr (by have := hrr k e; omega)), (hg.block gf (Nat.lt_of_lt_of_le HD.out.ltF hs.1.size) (fun e => ?_)).trans hs.2.1, hs.2.2.1.kept hg (fun e => ?_), hs.2.2.2.kept hg (fun e => ?_)⟩
      · have := hrr _ e.symm; have := HD.out.ltF; omega
      · have := hrr _ e.symm; omega
      · have := hrr _ e.symm; omega)
    (fun _ _ _ _ _ hs _ _ => hs)
    ⟨Keeps.of_below hB0, (hB0.block gf HD.out.ltF).trans HD.out.fast, (bB.alloc _).alloc _, bK.alloc _⟩
    (fun (x : Ix d.back.length) a' W => ∃ Bx, W.heap[Bx]? = some (.cells #[.int .i64 (hs.a x.1), .slice (some ⟨hs.g x.1, hs.o x.1, none⟩) 512 (hs.c x.1), .int .i64 (x.1 : Int)] 90 (0, 0)) ∧
      a' = { tmps := #[.pointer (some ⟨p, 0, none⟩), .slice ka kn kcap, .pointer (some ⟨w.heap.size, 0, none⟩), .pointer (some ⟨w.heap.size + 1, 0, none⟩), .pointer (some ⟨Bx, 0, none⟩), .pointer (some ⟨p, 0, none⟩), .func (.func 54) #[] #[.pointer (some ⟨w.heap.size + 1 + 1, 0, none⟩)], heldV hs x.1, undef, undef, undef, undef, undef, undef, undef, undef, undef, undef, undef, undef, undef, undef, undef, undef, undef, undef, undef, undef, undef, undef, undef, undef, undef, undef, undef, undef, undef, undef, undef, undef, undef, undef, undef, undef, undef, undef, undef, undef, undef, undef, undef], defers := [] })
    (fun x a' _ A C row hA hg hr => by
      obtain ⟨Bx, h2, h3⟩ := hA
      refine ⟨Bx, (hg.block Bx (Array.getElem?_eq_some_iff.1 h2).1 (fun e => ?_)).trans h2, h3⟩
      obtain ⟨_, o, ho, hc⟩ := hr Bx e.symm
      rw [h2] at ho; cases ho; cases hc) ?assign ?body ?done ?stop
  case assign =>
    rintro l pre x W K ⟨hk, hg, hb, hb2⟩ hK
    dsimp only [heldV]
    gi_wp2
    exact hK _ _ ((KeepsOthers.alloc _ _).from _) (KeptV.below hvb ((Below.refl w.heap.size W).alloc hk.size _)) ⟨hk.alloc _, (Below.heap_alloc _ _ _ (Nat.lt_of_lt_of_le HD.out.ltF hk.size)).trans hg, hb.alloc _, hb2.alloc _⟩ ⟨W.heap.size, World.alloc_heap_new W _, rfl⟩
  case body =>
    rintro l pre x a' W hl _ ⟨hk, hg, hb, hb2⟩ ⟨Bx, hbx, rfl⟩ hlt
    obtain ⟨k, hkl⟩ := x
    have ha := HS.ats k hkl
    have hby := HS.bytes k hkl
    obtain ⟨_, hg1, hg2, hg3, hg4, _⟩ := HS.own k hkl
    have heach := HD.out.each _ (List.getElem_mem hkl)
    have hW : Bytes W (.slice (some ⟨hs.g k, hs.o k, none⟩) 512 (hs.c k)) d.back[k].2 := RowAt.keeps hby hk (fun j e => by
      obtain rfl : hs.g k = j := by simpa [Value.ownBlock] using e
      exact hg4)
    have hc := hb.cell
    have hcb := hb2.cell
    have hp1 : W.cell? ⟨p, 1, none⟩ = some (.slice (some ⟨gf, 0, none⟩) (512 * d.n) (512 * d.n)) := (hk.cell (p := ⟨p, 1, none⟩) HD.out.lt HD.out.pf).trans HD.out.c1
    have hcx0 : W.cell? ⟨Bx, 0, none⟩ = some (.int .i64 ((d.back[k].1 : Nat) : Int)) := by rw [cell_of_row W Bx 0 _ _ _ hbx, ← ha]; rfl
    have hcx1 : W.cell? ⟨Bx, 1, none⟩ = some (.slice (some ⟨hs.g k, hs.o k, none⟩) 512 (hs.c k)) := by rw [cell_of_row W Bx 1 _ _ _ hbx]; rfl
    have hcx2 : W.cell? ⟨Bx, 2, none⟩ = some (.int .i64 (k : Int)) := by rw [cell_of_row W Bx 2 _ _ _ hbx]; rfl
    have hkk : k < kn → ∃ g off, ka = some ⟨g, off, none⟩ ∧ W.cell? ⟨g, off + k, none⟩ = some (.int .i64 (ks k)) := fun hlt => by
      rcases hkeep.2 with h0 | ⟨g, off, rfl, hcell⟩
      · omega
      · have hgc := hcell k hlt
        exact ⟨g, off, rfl, (hk.cell (p := ⟨g, off + k, none⟩) (World.block_lt_of_cell? _ _ hgc) (fun e => hka _ rfl (by omega) (by rw [e]; exact HD.out.ownF))).trans hgc⟩
    have hlen : (layAll d.fast (selI d (keepB kn ks) pre)).length = 512 * d.n := layAll_length _ HD.out.flen (selI_each d _ pre HD.out.each)
    have HP := Lib.hid (fun w => part_any gf d.n d.back[k].1 w heach.1 HD.out.n2)
    have HSC := Lib.hid (bytes_src hW)
    have HLN : Hid ((u8s d.back[k].2).length = Nat.min 512 512) := by show _ = _; rw [u8s_length, heach.2]; rfl
    have HFIT : Hid (512 * d.back[k].1 + (u8s d.back[k].2).length ≤ (u8s (layAll d.fast (selI d (keepB kn ks) pre))).toArray.size) := by
      show _ ≤ _
      rw [u8s_length, heach.2, List.size_toArray, u8s_length, hlen]
      omega
    have HI5 : Hid ((Try.prog.info? 5).map (·.size) = some 1) := by
      obtain ⟨i0, hi, hz0, hz1, hz2⟩ := info_parts info5
      show _ = _
      rw [hi]; simp [hz1]
    have HYES : Hid (keepB kn ks k = true → layAll d.fast (selI d (keepB kn ks) (pre ++ [⟨k, hkl⟩])) = putAt (layAll d.fast (selI d (keepB kn ks) pre)) d.back[k].1 d.back[k].2) := fun hy => by
      rw [selI_yes _ _ _ _ hy]
      exact layAll_snoc _ _ _
    have HNO : Hid (keepB kn ks k = false → selI d (keepB kn ks) (pre ++ [⟨k, hkl⟩]) = selI d (keepB kn ks) pre) := fun hy => selI_no _ _ _ _ hy
    have HG := Lib.hid hg
    have HB := Lib.hid hb
    have HB2 := Lib.hid hb2
    have HK := Lib.hid hk
    have hne : w.heap.size ≠ gf := by have := HD.out.ltF; omega
    have hne2 : w.heap.size + 1 ≠ gf := by have := HD.out.ltF; omega
    have hs8 := HD.out.small
    have k0 : (0 : Int) ≤ (k : Int) := by omega
    have k1 : (k : Int) ≤ 100000 := by omega
    have kn1 : (kn : Int) ≤ 1000000000000 := by have := hkeep.1; omega
    clear ha hby hg1 hg2 hg3 hg4 heach hW hbx hlen hg hk hb hb2 hs8
    generalize d.back[k].2 = y at *
    generalize d.back[k].1 = kk at *
    by_cases hlt2 : k < kn
    · obtain ⟨g, off, rfl, hck⟩ := hkk hlt2
      have hlt3 : (k : Int) < (kn : Int) := by omega
      clear hkk
      by_cases hpos : 0 < ks k
      · have hy : keepB kn ks k = true := by simp [keepB, hlt2, hpos]
        have HE := Lib.hid (HYES.out hy)
        clear HYES HNO hy
        generalize (layAll d.fast (selI d (keepB kn ks) pre)) = fa at *
        gi_wp2
        refine wpIn_region_ordL 11 [] [0, 1, 2, 3, 4, 5, 6, 8, 9, 10, 7, 11] (fun V => V.cell? ⟨w.heap.size, 0, none⟩ = some (.pointer (some ⟨p, 0, none⟩)) ∧ V.cell? ⟨p, 1, none⟩ = some (.slice (some ⟨gf, 0, none⟩) (512 * d.n) (512 * d.n)) ∧ V.cell? ⟨Bx, 0, none⟩ = some (.int .i64 (kk : Int)) ∧ V.cell? ⟨Bx, 1, none⟩ = some (.slice (some ⟨hs.g k, hs.o k, none⟩) 512 (hs.c k))) (by kernel_rfl) (by kernel_rfl) rfl (by kernel_rfl) (by kernel_rfl) ⟨hc, hp1, hcx0, hcx1⟩ ?_
        repeat (apply heldL_run rfl (by rfl) (by rfl); (intro w hSw; go_simp; with_reducible rfl); (try simp only [Act.put, List.setIfInBounds_toArray, List.set_cons_zero, List.set_cons_succ]))
        refine heldL_step rfl (by rfl) (by rfl) (fun K hK => ?_)
        go_simp
        refine (HP.out _).mono ?_
        rintro e V ⟨rfl, rfl⟩
        refine hK.out _ _ (.inr ⟨hc, hp1, hcx0, hcx1⟩) ?_
        clear hK K
        (try simp only [Act.put, List.setIfInBounds_toArray, List.set_cons_zero, List.set_cons_succ])
        repeat (apply heldL_run rfl (by rfl) (by rfl); (intro w hSw; go_simp; with_reducible rfl); (try simp only [Act.put, List.setIfInBounds_toArray, List.set_cons_zero, List.set_cons_succ]))
        refine heldL_step rfl (by rfl) (by rfl) (fun K hK => ?_)
        refine op_copy (.tmp 28) (.tmp 31) 24 24 rfl 5 Try.underlying24 HI5.out gf (512 * kk) 512 512 ⟨hs.g k, hs.o k, none⟩ 512 (hs.c k) rfl rfl (u8s fa).toArray 5 HG.out (u8s y) HLN.out HSC.out HFIT.out (u8s_one y) ?_
        refine hK.out _ _ (.inl rfl) ?_
        clear hK K
        refine heldL_nil (Calm.normal ?_)
        have hgr := grown_setRow W.drew gf ((u8s fa).toArray.toList.take (512 * kk) ++ ((u8s y) ++ (u8s fa).toArray.toList.drop (512 * kk + (u8s y).length))).toArray
        have hset : (W.drew.setRow gf ((u8s fa).toArray.toList.take (512 * kk) ++ ((u8s y) ++ (u8s fa).toArray.toList.drop (512 * kk + (u8s y).length))).toArray).heap[gf]? = some (.cells (u8s (putAt fa kk y)).toArray 5 (0, 0)) := by
          rw [setRow_heap W.drew gf _ _ 5 _ HG.out, putAt, ← u8s_splice]
          rfl
        have hkw : Keeps (fun b => b = gf) w (W.drew.setRow gf ((u8s fa).toArray.toList.take (512 * kk) ++ ((u8s y) ++ (u8s fa).toArray.toList.drop (512 * kk + (u8s y).length))).toArray) := keeps_setRow (S := fun b => b = gf) HK.out.drew rfl _
        refine ⟨(((KeepsOthers.drew W).from _).trans (KeepsFrom.of_grownBy hgr (fun j e => by cases e; have := HD.out.ltF; rw [hsz]; omega))), ⟨hgr.size, fun b hb => hgr.block b (Nat.lt_of_lt_of_le (hvb b hb) HK.out.size) (fun e => HD.out.bf (by rw [hb]; exact e))⟩, hkw, ?_, HB.out.kept (W := W) ⟨hgr.os, hgr.tape, hgr.output, hgr.size, hgr.block⟩ (fun e => hne (by cases e; rfl)), HB2.out.kept (W := W) ⟨hgr.os, hgr.tape, hgr.output, hgr.size, hgr.block⟩ (fun e => hne2 (by injection e))⟩
        rw [HE.out]
        exact hset
      · have hy : keepB kn ks k = false := by simp [keepB, hpos]
        have HE := Lib.hid (HNO.out hy)
        have hpos' : ks k ≤ 0 := by omega
        clear HYES HNO hy hpos
        gi_wp2
        refine ⟨KeepsFrom.refl _ _, ⟨Nat.le_refl _, fun _ _ => rfl⟩, HK.out, ?_, HB.out, HB2.out⟩
        rw [HE.out]
        exact HG.out
    · have hy : keepB kn ks k = false := by simp [keepB, hlt2]
      have HE := Lib.hid (HNO.out hy)
      have hlt3 : (kn : Int) ≤ (k : Int) := by omega
      clear HYES HNO hy hkk
      gi_wp2
      refine ⟨KeepsFrom.refl _ _, ⟨Nat.le_refl _, fun _ _ => rfl⟩, HK.out, ?_, HB.out, HB2.out⟩
      rw [HE.out]
      exact HG.out
  case done =>
    rintro D ys W hD rfl ⟨hk, hg, hb, hb2⟩ hK
    replace hg : W.heap[gf]? = some (.cells (u8s (layAll d.fast (d.kept (keepB kn ks)))).toArray 5 (0, 0)) := hg
    have hlen : (layAll d.fast (d.kept (keepB kn ks))).length = 512 * d.n := layAll_length _ HD.out.flen (selI_each d _ _ HD.out.each)
    have hd1 := HD.out.setFast hk _ hlen hg
    have hc := hb.cell
    have c0 := hd1.c0
    have c1 := hd1.c1
    have hDw : w.heap.size ≤ D := by rw [hsz] at hD; omega
    have HLN : Hid ((u8s (layAll d.fast (d.kept (keepB kn ks)))).length = Nat.min (512 * d.n) (512 * d.n)) := by show _ = _; rw [u8s_length, hlen]; exact (Nat.min_self _).symm
    have HFIT : Hid (0 + (u8s (layAll d.fast (d.kept (keepB kn ks)))).length ≤ (u8s d.now).toArray.size) := by
      show _ ≤ _
      rw [u8s_length, hlen, List.size_toArray, u8s_length, HD.out.nlen]
      omega
    have HSC : Hid (∀ j u, (u8s (layAll d.fast (d.kept (keepB kn ks))))[j]? = some u → W.cell? ((⟨gf, 0, none⟩ : Addr).add j) = some u) := fun j u hj => by
      rw [addr_add, Nat.zero_add, cell_of_row W gf j _ _ _ hg]
      simpa using hj
    have HI5 : Hid ((Try.prog.info? 5).map (·.size) = some 1) := by
      obtain ⟨i0, hi, hz0, hz1, hz2⟩ := info_parts info5
      show _ = _
      rw [hi]; simp [hz1]
    have HD1 := Lib.hid hd1
    have HK := Lib.hid hk
    have HB := Lib.hid hb
    have HKD := Lib.hid hK
    have HSZ : Hid (512 * d.n = (layAll d.fast (d.kept (keepB kn ks))).length) := hlen.symm
    clear hd1 hg hst hvb hlen hk hb hb2 hK
    have HCR : Hid (∀ x : Bs, x = layAll d.fast (d.kept (keepB kn ks)) → d.crash (keepB kn ks) = { d with now := x, fast := x, back := [], off := false, left := -1 }) := fun x e => by rw [e]; rfl
    generalize hfa : layAll d.fast (d.kept (keepB kn ks)) = fa at *
    have HFA := Lib.hid hfa
    clear hfa
    gi_wp2
    refine wpIn_wide.2 ?_
    refine wp_region_noPanic ?_
    refine wp_region_ordL 8 [] [0, 1, 2, 3, 4, 5, 6, 7, 8] (fun V => V.cell? ⟨w.heap.size, 0, none⟩ = some (.pointer (some ⟨p, 0, none⟩)) ∧ V.cell? ⟨p, 1, none⟩ = some (.slice (some ⟨gf, 0, none⟩) (512 * d.n) (512 * d.n)) ∧ V.cell? ⟨p, 0, none⟩ = some (.slice (some ⟨gn, 0, none⟩) (512 * d.n) (512 * d.n))) (by kernel_rfl) (by kernel_rfl) rfl (by kernel_rfl) (fun _ _ _ _ _ h => h) ⟨hc, c1, c0⟩ ?_
    repeat (apply heldL_run rfl (by rfl) (by rfl); (intro w hSw; go_simp; with_reducible rfl); (try simp only [Act.put, List.setIfInBounds_toArray, List.set_cons_zero, List.set_cons_succ]))
    refine heldL_step rfl (by rfl) (by rfl) (fun K hK => ?_)
    refine op_copy (.tmp 36) (.tmp 40) 24 24 rfl 5 Try.underlying24 HI5.out gn 0 (512 * d.n) (512 * d.n) ⟨gf, 0, none⟩ (512 * d.n) (512 * d.n) rfl rfl (u8s d.now).toArray 5 HD1.out.now (u8s fa) HLN.out HSC.out HFIT.out (u8s_one fa) ?_
    refine hK.out _ _ (.inl rfl) ?_
    clear hK K
    refine heldL_nil (NoPanic.normal ?_)
    have hset : (W.drew.setRow gn ((u8s d.now).toArray.toList.take 0 ++ ((u8s fa) ++ (u8s d.now).toArray.toList.drop (0 + (u8s fa).length))).toArray).heap[gn]? = some (.cells (u8s fa).toArray 5 (0, 0)) := by
      rw [setRow_heap W.drew gn _ _ 5 _ HD1.out.now]
      have hdr : (u8s d.now).drop (0 + (u8s fa).length) = [] := List.drop_eq_nil_of_le (by rw [u8s_length, u8s_length, ← HSZ.out, HD.out.nlen]; omega)
      show some (Obj.cells ([] ++ (u8s fa ++ (u8s d.now).drop (0 + (u8s fa).length))).toArray 5 (0, 0)) = _
      rw [hdr, List.append_nil]
      rfl
    have hk5 : Keeps (fun b => b = gn) W (W.drew.setRow gn ((u8s d.now).toArray.toList.take 0 ++ ((u8s fa) ++ (u8s d.now).toArray.toList.drop (0 + (u8s fa).length))).toArray) := keeps_setRow (S := fun b => b = gn) (Keeps.refl _ _).drew rfl _
    generalize (W.drew.setRow gn ((u8s d.now).toArray.toList.take 0 ++ ((u8s fa) ++ (u8s d.now).toArray.toList.drop (0 + (u8s fa).length))).toArray) = w5 at *
    have hd5 := HD1.out.setNow hk5 fa HSZ.out.symm hset
    have hbl := HB.out.lt
    have hb5 : w5.cell? ⟨w.heap.size, 0, none⟩ = some (.pointer (some ⟨p, 0, none⟩)) := (hk5.cell (p := ⟨w.heap.size, 0, none⟩) hbl (by have := HD.out.ltN; show ¬ w.heap.size = gn; omega)).trans hc
    have hne : w.heap.size ≠ p := by have := HD.out.lt; omega
    have c2 := hd5.c2
    have c3 := hd5.c3
    have c4 := hd5.c4
    have f2 := hd5.fr 2
    have f3 := hd5.fr 3
    have f4 := hd5.fr 4
    obtain ⟨a2, cap2, hv2⟩ := row_len HD.out.row
    have HD5 := Lib.hid hd5
    have HK5 := Lib.hid hk5
    have HS5 : Hid (((w5.drew.setCell ⟨p, 2, none⟩ (.slice none 0 0)).setCell ⟨p, 3, none⟩ (.bool false)).cell? ⟨w.heap.size, 0, none⟩ = some (.pointer (some ⟨p, 0, none⟩))) := by
      show _ = _
      rw [World.cell?_setCell_other (h := by intro e; exact hne (congrArg Addr.block e).symm), World.cell?_setCell_other (h := by intro e; exact hne (congrArg Addr.block e).symm)]
      exact hb5
    have HS4 : Hid ((w5.drew.setCell ⟨p, 2, none⟩ (.slice none 0 0)).cell? ⟨w.heap.size, 0, none⟩ = some (.pointer (some ⟨p, 0, none⟩))) := by
      show _ = _
      rw [World.cell?_setCell_other (h := by intro e; exact hne (congrArg Addr.block e).symm)]
      exact hb5
    clear hset hk5 hd5 c0 c1 HSC HFIT HLN
    gi_wp2
    refine wpIn_wide.2 ?_
    refine wp_region_noPanic ?_
    refine wp_region_ordL 11 [] [0, 1, 2, 3, 4, 5, 6, 7, 8, 9, 10, 11] (fun V => V.cell? ⟨w.heap.size, 0, none⟩ = some (.pointer (some ⟨p, 0, none⟩))) (by kernel_rfl) (by kernel_rfl) rfl (by kernel_rfl) (fun _ _ _ _ _ h => h) hb5 ?_
    repeat (apply heldL_run rfl (by rfl) (by rfl); (intro w hSw; go_simp; with_reducible rfl); (try simp only [Act.put, List.setIfInBounds_toArray, List.set_cons_zero, List.set_cons_succ]))
    refine heldL_step rfl (by rfl) (by rfl) (fun K hK => ?_)
    go_simp
    refine hK.out _ _ (.inr HS4.out) ?_
    clear hK K
    (try simp only [Act.put, List.setIfInBounds_toArray, List.set_cons_zero, List.set_cons_succ])
    repeat (apply heldL_run rfl (by rfl) (by rfl); (intro w hSw; go_simp; with_reducible rfl); (try simp only [Act.put, List.setIfInBounds_toArray, List.set_cons_zero, List.set_cons_succ]))
    refine heldL_step rfl (by rfl) (by rfl) (fun K hK => ?_)
    go_simp
    refine hK.out _ _ (.inr HS5.out) ?_
    clear hK K
    (try simp only [Act.put, List.setIfInBounds_toArray, List.set_cons_zero, List.set_cons_succ])
    repeat (apply heldL_run rfl (by rfl) (by rfl); (intro w hSw; go_simp; with_reducible rfl); (try simp only [Act.put, List.setIfInBounds_toArray, List.set_cons_zero, List.set_cons_succ]))
    refine heldL_step rfl (by rfl) (by rfl) (fun K hK => ?_)
    go_simp
    refine hK.out _ _ (.inl rfl) ?_
    clear hK K
    (try simp only [Act.put, List.setIfInBounds_toArray, List.set_cons_zero, List.set_cons_succ])
    refine heldL_nil (NoPanic.normal ?_)
    have hk6 : Keeps (fun b => b = p) w5 (((w5.setCell ⟨p, 2, none⟩ (.slice none 0 0)).setCell ⟨p, 3, none⟩ (.bool false)).setCell ⟨p, 4, none⟩ (.int .i64 (-1))).drew := ((((Keeps.refl (fun b => b = p) w5).setCell ⟨p, 2, none⟩ _ (.inl rfl)).setCell ⟨p, 3, none⟩ _ (.inl rfl)).setCell ⟨p, 4, none⟩ _ (.inl rfl)).drew
    have hc6 : ((((w5.setCell ⟨p, 2, none⟩ (.slice none 0 0)).setCell ⟨p, 3, none⟩ (.bool false)).setCell ⟨p, 4, none⟩ (.int .i64 (-1))).drew).heap[p]? = some (.cells #[.slice (some ⟨gn, 0, none⟩) (512 * d.n) (512 * d.n), .slice (some ⟨gf, 0, none⟩) (512 * d.n) (512 * d.n), .slice none 0 0, .bool false, .int .i64 (-1)] 83 (0, 0)) :=
      heap_setCell_same _ p 4 _ 83 _ (heap_setCell_same _ p 3 _ 83 _ (heap_setCell_same w5 p 2 _ 83 _ HD5.out.cell))
    have hd6 := HD5.out.reset hk6 false (-1) hc6
    generalize (((w5.setCell ⟨p, 2, none⟩ (.slice none 0 0)).setCell ⟨p, 3, none⟩ (.bool false)).setCell ⟨p, 4, none⟩ (.int .i64 (-1))).drew = w6 at *
    have hDl := (Array.getElem?_eq_some_iff.1 HKD.out).1
    have hD6 : w6.heap[D]? = some (.deferred (some [])) := (hk6.block D (Nat.lt_of_lt_of_le hDl HK5.out.size) (by have := HD.out.lt; show ¬ D = p; omega)).trans ((HK5.out.block D hDl (by have := HD.out.ltN; show ¬ D = gn; omega)).trans HKD.out)
    refine ⟨by simp, .inl ⟨_, _, rfl, run_takeDeferred hD6, ?_⟩⟩
    have hgp := grownBy_putObj' w6 D (.deferred none)
    have hkO : Keeps (fun b => b = D) w6 (w6.putObj D (.deferred none)) := Keeps.of_grown hgp (fun k e => by cases e; rfl)
    refine ⟨_, results_none rfl _ _ _, ⟨_, rfl⟩, ⟨gn, gf, _, _, by rw [HCR.out fa rfl]; exact hd6.keep hkO (fun i hi e => by have := hOb i hi; omega) (fun i hi e => by have := hRb i hi; omega)⟩, ?_⟩
    have h1 : Keeps O w W := HK.out.mono (fun b _ e => by cases e; exact HD.out.ownF)
    have h2 : Keeps O W w5 := HK5.out.mono (fun b _ e => by cases e; exact HD.out.ownN)
    have h3 : Keeps O w5 w6 := hk6.mono (fun b _ e => by cases e; exact HD.out.ownP)
    exact ((h1.trans' h2).trans' h3).grown hgp (fun k e => .inr (by cases e; exact hDw))
  case stop =>
    rintro D c pre W _ _ h _
    exact h.elim

variable {B : Nat}
theorem crash_o (h : DiskO w O R p d) (ka : Option Addr) (kn kcap : Nat) (ks : Nat → Int) (hkeep : IntsAt w ka kn ks) (hka : ∀ x, ka = some x → 0 < kn → ¬ O x.block) :
    Calls Try.prog 20 #[.pointer (some ⟨p, 0, none⟩), .slice ka kn kcap] w fun e w' => (∃ v, e = .returned v) ∧ DiskO w' O R p (d.crash (keepB kn ks)) ∧ Turned w w' O R O R := by
  obtain ⟨⟨gn, gf, vb, vs, hd⟩, hO, hR, hOR⟩ := h
  refine (crash_ok hd hO hR ka kn kcap ks hkeep hka).mono ?_
  rintro e w' ⟨he, h1, h2⟩
  exact ⟨he, ⟨h1, fun j hj => Nat.lt_of_lt_of_le (hO j hj) h2.size, fun j hj => Nat.lt_of_lt_of_le (hR j hj) h2.size, hOR⟩, h2, fun _ => .inl, fun _ => .inl⟩
theorem crash_in (h : DiskIn w B p d) (hB : B ≤ w.heap.size) (ka : Option Addr) (kn kcap : Nat) (ks : Nat → Int) (hkeep : IntsAt w ka kn ks) (hka : ∀ x, ka = some x → 0 < kn → x.block < B) :
    Calls Try.prog 20 #[.pointer (some ⟨p, 0, none⟩), .slice ka kn kcap] w fun e w' => (∃ v, e = .returned v) ∧ DiskIn w' B p (d.crash (keepB kn ks)) ∧ Below B w w' := by
  obtain ⟨O, R, hd, hO⟩ := h
  refine (crash_o hd ka kn kcap ks hkeep (fun x hx h0 hOx => by have := hO _ hOx; have := hka x hx h0; omega)).mono ?_
  rintro e w' ⟨he, h1, h2⟩
  exact ⟨he, DiskIn.of_turned hO hB h1 h2⟩
end Go.Proofs.Ythfncgbkigmmcaa
