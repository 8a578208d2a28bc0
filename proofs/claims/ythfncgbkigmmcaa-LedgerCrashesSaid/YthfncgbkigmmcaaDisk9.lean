/- Flush. -/
import Derived.Test.YthfncgbkigmmcaaDisk8
import Derived.Test.YthfncgbkigmmcaaRound
namespace Go.Proofs.Ythfncgbkigmmcaa
open Go.RowKit Go.Shelf

attribute [local go_sem] Oper.semAt_some

variable {w w' : World} {O R : Nat → Prop} {p : Nat} {d : DS} {gn gf : Nat} {vb : Value} {vs : List Value}

/-- A step of a region: copy into a row that is known whole. -/
theorem op_copy {P : Program} {w : World} {o : Oper} {a : Act} {K : Act → World → Prop} {Q : Exit → Act → World → Prop} (d s : Operand) (dT sT : TypeId)
    (ho : o.op = .call { callee := .builtin .copy, args := #[d, s], argTypes := #[dT, sT] }) (elem : TypeId) (hu : P.underlying dT = some (.slice elem)) (hsz : (P.info? elem).map (·.size) = some 1)
    (g off dLen dCap : Nat) (ad : Addr) (sLen sCap : Nat) (hd : a.eval d = .slice (some ⟨g, off, none⟩) dLen dCap) (hs : a.eval s = .slice (some ad) sLen sCap)
    (cur : Array Value) (t : TypeId) (hg : w.heap[g]? = some (.cells cur t (0, 0))) (cs : List Value) (hn : cs.length = Nat.min sLen dLen)
    (hsrc : ∀ j v, cs[j]? = some v → w.cell? (ad.add j) = some v) (hfit : off + cs.length ≤ cur.size) (h1 : ∀ v ∈ cs, v.oneCell' = true)
    (h : K (a.put o.dst (goInt cs.length)) (w.setRow g (cur.toList.take off ++ (cs ++ cur.toList.drop (off + cs.length))).toArray)) : Oper.wp P o a w K Q := by
  have hrun := run_copy_row (P := P) w dT sT o.type elem g off dLen dCap ad sLen sCap cur t cs hu hsz hg hn hsrc hfit h1
  unfold Oper.wp
  simp [execOp, ho, resolve, invoke, builtin, hd, hs, hrun, Result.andThen]
  exact h
theorem bytes_src {w : World} {g off cap n : Nat} {x : Bs} (h : Bytes w (.slice (some ⟨g, off, none⟩) n cap) x) : ∀ j u, (u8s x)[j]? = some u → w.cell? ((⟨g, off, none⟩ : Addr).add j) = some u := fun j u hj => by
  rw [addr_add]
  rcases h with ⟨hh, _⟩ | ⟨b, o, c, hh, _, hcell⟩
  · cases hh
  · simp only [Value.slice.injEq, Option.some.injEq, Addr.mk.injEq] at hh
    obtain ⟨⟨rfl, rfl, _⟩, _, rfl⟩ := hh
    exact hcell j u hj
theorem grown_setRow (w : World) (g : Nat) (cs : Array Value) : w.grownBy (w.setRow g cs) (some g) := ⟨rfl, rfl, rfl, by simp [World.setRow], fun k _ hk => setRow_other w g k cs (fun e => hk (by rw [e]))⟩

/-- Writes are laid over a picture, one after the other. -/
def layAll (l : Bs) (ws : List (Nat × Bs)) : Bs := ws.foldl (fun l x => putAt l x.1 x.2) l
theorem layAll_snoc (l : Bs) (ws : List (Nat × Bs)) (x : Nat × Bs) : layAll l (ws ++ [x]) = putAt (layAll l ws) x.1 x.2 := by simp [layAll]
theorem layAll_length {n : Nat} : ∀ (ws : List (Nat × Bs)) {l : Bs}, l.length = 512 * n → (∀ x ∈ ws, x.1 < n ∧ x.2.length = 512) → (layAll l ws).length = 512 * n
  | [], _, h, _ => h
  | x :: ws, l, h, hw => by
    have hx := hw x (by simp)
    exact layAll_length ws (l := putAt l x.1 x.2) (putAt_length h hx.1 hx.2) (fun y hy => hw y (by simp [hy]))
theorem uptoI_back (l : List (Nat × Bs)) : ∀ (k : Nat) (h : k ≤ l.length), (uptoI l.length k h).map (fun x => l[x.1]'x.2) = l.take k
  | 0, _ => by simp [uptoI]
  | k + 1, h => by rw [uptoI, List.map_append, uptoI_back l k (Nat.le_of_succ_le h), List.take_succ_eq_append_getElem (by omega)]; rfl

/-- Nothing is held back any more. -/
theorem DiskAt.drop (h : DiskAt w O R p d gn gf vb vs) (k : Keeps (fun b => b = p) w w')
    (hc : w'.heap[p]? = some (.cells #[.slice (some ⟨gn, 0, none⟩) (512 * d.n) (512 * d.n), .slice (some ⟨gf, 0, none⟩) (512 * d.n) (512 * d.n), .slice none 0 0, .bool d.off, .int .i64 d.left] 83 (0, 0))) :
    DiskAt w' O R p { d with back := [] } gn gf (.slice none 0 0) [] :=
  ⟨hc, (k.block gn h.ltN (fun e => h.pn e.symm)).trans h.now, (k.block gf h.ltF (fun e => h.pf e.symm)).trans h.fast, h.nlen, h.flen, h.n1, h.n2, World.ownsRow_nil _ _ _ _, fun i hi => by simp at hi, rfl, fun x hx => by simp at hx, by simp, h.ownP, h.ownN, h.ownF, InB.nil _, h.nf⟩

def DS.flush (d : DS) : DS := ({ d with fast := layAll d.fast d.back, back := [] } : DS).step

theorem flush_off (h : DiskAt w O R p d gn gf vb vs) (ho : d.off = true) : Calls Try.prog 22 #[.pointer (some ⟨p, 0, none⟩)] w fun e w' => e = .returned (.int .i64 11) ∧ Below w.heap.size w w' := by
  have c3 := h.c3
  rw [ho] at c3
  have c3' : (w.alloc (.cells #[.pointer (some ⟨p, 0, none⟩)] 27)).cell? ⟨p, 3, none⟩ = some (.bool true) := (((Below.refl _ w).alloc (Nat.le_refl _) _).cell (p := ⟨p, 3, none⟩) h.lt).trans c3
  clear h
  have hb : Below w.heap.size w (w.alloc (.cells #[.pointer (some ⟨p, 0, none⟩)] 27)) := (Below.refl _ w).alloc (Nat.le_refl _) _
  have HB := Lib.hid hb
  clear hb
  go_enter Try.func22, Try.ntmps22
  go_wp2_with fail
  go_ret
  exact ⟨rfl, HB.out⟩

set_option maxRecDepth 100000 in
set_option maxHeartbeats 4000000 in
theorem flush_ok (h : DiskAt w O R p d gn gf vb vs) (hOb : ∀ j, O j → j < w.heap.size) (hRb : ∀ j, R j → j < w.heap.size) (ho : d.off = false) (hll : d.left ≤ 9223372036854775807) : Calls Try.prog 22 #[.pointer (some ⟨p, 0, none⟩)] w fun e w' => e = .returned (.int .i64 0) ∧ IsDisk w' O R p d.flush ∧ Keeps O w w' := by
  obtain ⟨hs, HS, hc⟩ := h.hs
  have hvb : ∀ b, vb.ownBlock = some b → b < w.heap.size := fun b hb => (row_block h.row hb).1
  have hst := h.stops hs hc
  have HD := Lib.hid h
  have c3 := h.c3
  rw [ho] at c3
  have c3' : (w.alloc (.cells #[.pointer (some ⟨p, 0, none⟩)] 27)).cell? ⟨p, 3, none⟩ = some (.bool false) := (((Below.refl _ w).alloc (Nat.le_refl _) _).cell (p := ⟨p, 3, none⟩) h.lt).trans c3
  clear h c3 hc ho
  refine (callsIn_wide (n := 4)).1 (callsIn_of_wp_marks Try.func22 rfl trivial ?_ rfl)
  simp only [Try.ntmps22, List.size_toArray, List.length_cons, List.length_nil, Nat.reduceAdd, Nat.reduceSub, Array.replicate_succ, Array.replicate_zero, List.push_toArray, List.append_toArray, List.nil_append, List.cons_append]
  gi_wp2_with (refine ⟨trivial, ?_⟩; gi_at_call 44; refine (writes_in p _ _).mono ?_; rintro e w' ⟨rfl, rfl⟩)
  have bB := Boxed.new w 27 (.pointer (some ⟨p, 0, none⟩))
  have bN := Boxed.new (w.alloc (.cells #[.pointer (some ⟨p, 0, none⟩)] 27)) 27 (.pointer (some ⟨p, 0, none⟩))
  rw [World.size_alloc] at bN
  have hB0 : Below w.heap.size w ((w.alloc (.cells #[.pointer (some ⟨p, 0, none⟩)] 27)).alloc (.cells #[.pointer (some ⟨p, 0, none⟩)] 27)) := ((Below.refl _ w).alloc (Nat.le_refl _) _).alloc (by simp) _
  have hsz : ((w.alloc (.cells #[.pointer (some ⟨p, 0, none⟩)] 27)).alloc (.cells #[.pointer (some ⟨p, 0, none⟩)] 27)).heap.size = w.heap.size + 2 := by simp
  refine wpIn_rangeFunc_ownH rfl (by decide) (gf := 54) (lb := #[.pointer (some ⟨w.heap.size + 1, 0, none⟩)]) rfl trivial (enters_of Try.func54 (by kernel_rfl) rfl)
    (hst _ (by decide) _ hB0 (w.heap.size + 1) bN.cell bN.lt) KeptV.t (KeptV.b (fun b hb => by have := hvb b hb; rw [hsz]; omega)) (Below.refl _ _) (fun _ => rfl)
    (fun (pre : List (Ix d.back.length)) W => Keeps (fun b => b = gf) w W ∧ W.heap[gf]? = some (.cells (u8s (layAll d.fast (pre.map fun x => d.back[x.1]'x.2))).toArray 5 (0, 0)) ∧ Boxed W w.heap.size 27 (.pointer (some ⟨p, 0, none⟩)))
    (fun _ _ _ => False)
    (fun s A C row hs hg hr => by
      have hrr : ∀ k, row = some k → w.heap.size + 2 ≤ k := fun k e => by have := (hr k e).1; rw [hsz] at this; exact this
      refine ⟨hs.1.grown hg (fun k e => .inr (by have := hrr k e; omega)), (hg.block gf (Nat.lt_of_lt_of_le HD.out.ltF hs.1.size) (fun e => ?_)).trans hs.2.1, hs.2.2.kept hg (fun e => ?_)⟩
      · have := hrr _ e.symm; have := HD.out.ltF; omega
      · have := hrr _ e.symm; omega)
    (fun _ _ _ _ _ hs _ _ => hs)
    ⟨Keeps.of_below hB0, (hB0.block gf HD.out.ltF).trans HD.out.fast, bB.alloc _⟩
    (fun (x : Ix d.back.length) a' W => ∃ Bx, W.heap[Bx]? = some (.cells #[.int .i64 (hs.a x.1), .slice (some ⟨hs.g x.1, hs.o x.1, none⟩) 512 (hs.c x.1), .int .i64 (x.1 : Int)] 90 (0, 0)) ∧
      a' = { tmps := #[.pointer (some ⟨p, 0, none⟩), .pointer (some ⟨w.heap.size, 0, none⟩), .int .i64 0, .pointer (some ⟨Bx, 0, none⟩), .pointer (some ⟨p, 0, none⟩), .pointer (some ⟨p, 0, none⟩), .pointer (some ⟨p, 3, none⟩), .bool false, .pointer (some ⟨p, 0, none⟩), .func (.func 54) #[] #[.pointer (some ⟨w.heap.size + 1, 0, none⟩)], heldV hs x.1, undef, undef, undef, undef, undef, undef, undef, undef, undef, undef, undef, undef, undef, undef, undef, undef, undef], defers := [] })
    (fun x a' _ A C row hA hg hr => by
      obtain ⟨Bx, h2, h3⟩ := hA
      refine ⟨Bx, (hg.block Bx (Array.getElem?_eq_some_iff.1 h2).1 (fun e => ?_)).trans h2, h3⟩
      obtain ⟨_, o, ho, hc⟩ := hr Bx e.symm
      rw [h2] at ho; cases ho; cases hc) ?assign ?body ?done ?stop
  case assign =>
    rintro l pre x W K ⟨hk, hg, hb⟩ hK
    dsimp only [heldV]
    gi_wp2
    exact hK _ _ ((KeepsOthers.alloc _ _).from _) (KeptV.below hvb ((Below.refl w.heap.size W).alloc hk.size _)) ⟨hk.alloc _, (Below.heap_alloc _ _ _ (Nat.lt_of_lt_of_le HD.out.ltF hk.size)).trans hg, hb.alloc _⟩ ⟨W.heap.size, World.alloc_heap_new W _, rfl⟩
  case body =>
    rintro l pre x a' W hl _ ⟨hk, hg, hb⟩ ⟨Bx, hbx, rfl⟩ hlt
    obtain ⟨k, hkl⟩ := x
    have ha := HS.ats k hkl
    have hby := HS.bytes k hkl
    obtain ⟨_, hg1, hg2, hg3, hg4, _⟩ := HS.own k hkl
    have heach := HD.out.each _ (List.getElem_mem hkl)
    have hW : Bytes W (.slice (some ⟨hs.g k, hs.o k, none⟩) 512 (hs.c k)) d.back[k].2 := RowAt.keeps hby hk (fun j e => by
      obtain rfl : hs.g k = j := by simpa [Value.ownBlock] using e
      exact hg4)
    have hc := hb.cell
    have hp1 : W.cell? ⟨p, 1, none⟩ = some (.slice (some ⟨gf, 0, none⟩) (512 * d.n) (512 * d.n)) := (hk.cell (p := ⟨p, 1, none⟩) HD.out.lt HD.out.pf).trans HD.out.c1
    have hcx0 : W.cell? ⟨Bx, 0, none⟩ = some (.int .i64 ((d.back[k].1 : Nat) : Int)) := by rw [cell_of_row W Bx 0 _ _ _ hbx, ← ha]; rfl
    have hcx1 : W.cell? ⟨Bx, 1, none⟩ = some (.slice (some ⟨hs.g k, hs.o k, none⟩) 512 (hs.c k)) := by rw [cell_of_row W Bx 1 _ _ _ hbx]; rfl
    have hlen : (layAll d.fast (pre.map fun x => d.back[x.1]'x.2)).length = 512 * d.n := layAll_length _ HD.out.flen (fun y hy => by
      obtain ⟨z, _, rfl⟩ := List.mem_map.1 hy
      exact HD.out.each _ (List.getElem_mem z.2))
    have HP := Lib.hid (fun w => part_any gf d.n d.back[k].1 w heach.1 HD.out.n2)
    have HSC := Lib.hid (bytes_src hW)
    have HLN : Hid ((u8s d.back[k].2).length = Nat.min 512 512) := by show _ = _; rw [u8s_length, heach.2]; rfl
    have HFIT : Hid (512 * d.back[k].1 + (u8s d.back[k].2).length ≤ (u8s (layAll d.fast (pre.map fun x => d.back[x.1]'x.2))).toArray.size) := by
      show _ ≤ _
      rw [u8s_length, heach.2, List.size_toArray, u8s_length, hlen]
      omega
    have HI5 : Hid ((Try.prog.info? 5).map (·.size) = some 1) := by
      obtain ⟨i0, hi, hz0, hz1, hz2⟩ := info_parts info5
      show _ = _
      rw [hi]; simp [hz1]
    have hput : layAll d.fast ((pre ++ [(⟨k, hkl⟩ : Ix d.back.length)]).map fun (x : Ix d.back.length) => d.back[x.1]'x.2) = putAt (layAll d.fast (pre.map fun x => d.back[x.1]'x.2)) d.back[k].1 d.back[k].2 := by
      rw [List.map_append]
      exact layAll_snoc _ _ _
    have HPUT := Lib.hid hput
    have HG := Lib.hid hg
    have HB := Lib.hid hb
    have HK := Lib.hid hk
    have hne : w.heap.size ≠ gf := by have := HD.out.ltF; omega
    clear ha hby hg1 hg2 hg3 hg4 heach hW hbx hlen hput hg hk hb
    generalize d.back[k].2 = y at *
    generalize d.back[k].1 = kk at *
    generalize (layAll d.fast (pre.map fun x => d.back[x.1]'x.2)) = fa at *
    gi_wp2
    refine wpIn_region_ordL 11 [] [0, 1, 2, 3, 4, 5, 6, 8, 9, 10, 7, 11] (fun V => V.cell? ⟨w.heap.size, 0, none⟩ = some (.pointer (some ⟨p, 0, none⟩)) ∧ V.cell? ⟨p, 1, none⟩ = some (.slice (some ⟨gf, 0, none⟩) (512 * d.n) (512 * d.n)) ∧ V.cell? ⟨Bx, 0, none⟩ = some (.int .i64 (kk : Int)) ∧ V.cell? ⟨Bx, 1, none⟩ = some (.slice (some ⟨hs.g k, hs.o k, none⟩) 512 (hs.c k))) (by kernel_rfl) (by kernel_rfl) rfl (by kernel_rfl) (by kernel_rfl) ⟨hc, hp1, hcx0, hcx1⟩ ?_
    repeat (apply heldL_run rfl (by rfl) (by rfl); (intro w hSw; go_simp; with_reducible rfl); (try simp only [Act.put, List.setIfInBounds_toArray, List.set_cons_zero, List.set_cons_succ]))
    refine heldL_step rfl (by rfl) (by rfl) (fun K hK => ?_)
    go_simp
    refine (HP.out _).mono ?_
    rintro e V ⟨rfl, rfl⟩
    refine hK.out _ _ (.inr ⟨hc, hp1, hcx0, hcx1⟩) ?_
    clear hK K
    (try simp only [Act.put, List.setIfInBounds_toArray, List.set_cons_zero, List.set_cons_succ])
    repeat (apply heldL_run rfl (by rfl) (by rfl); (intro w hSw; go_simp; with_reducible rfl); (try simp only [Act.put, List.setIfInBounds_toArray, List.set_cons_zero, List.set_cons_succ]))
    refine heldL_step rfl (by rfl) (by rfl) (fun K hK => ?_)
    refine op_copy (.tmp 18) (.tmp 21) 24 24 rfl 5 Try.underlying24 HI5.out gf (512 * kk) 512 512 ⟨hs.g k, hs.o k, none⟩ 512 (hs.c k) rfl rfl (u8s fa).toArray 5 HG.out (u8s y) HLN.out HSC.out HFIT.out (u8s_one y) ?_
    refine hK.out _ _ (.inl rfl) ?_
    clear hK K
    refine heldL_nil (Calm.normal ?_)
    have hgr := grown_setRow W.drew gf ((u8s fa).toArray.toList.take (512 * kk) ++ ((u8s y) ++ (u8s fa).toArray.toList.drop (512 * kk + (u8s y).length))).toArray
    have hset : (W.drew.setRow gf ((u8s fa).toArray.toList.take (512 * kk) ++ ((u8s y) ++ (u8s fa).toArray.toList.drop (512 * kk + (u8s y).length))).toArray).heap[gf]? = some (.cells (u8s (putAt fa kk y)).toArray 5 (0, 0)) := by
      rw [setRow_heap W.drew gf _ _ 5 _ HG.out, putAt, ← u8s_splice]
      rfl
    have hkk : Keeps (fun b => b = gf) w (W.drew.setRow gf ((u8s fa).toArray.toList.take (512 * kk) ++ ((u8s y) ++ (u8s fa).toArray.toList.drop (512 * kk + (u8s y).length))).toArray) := keeps_setRow (S := fun b => b = gf) HK.out.drew rfl _
    refine ⟨(((KeepsOthers.drew W).from _).trans (KeepsFrom.of_grownBy hgr (fun j e => by cases e; have := HD.out.ltF; rw [hsz]; omega))), ⟨hgr.size, fun b hb => hgr.block b (Nat.lt_of_lt_of_le (hvb b hb) HK.out.size) (fun e => HD.out.bf (by rw [hb]; exact e))⟩, hkk, ?_, HB.out.kept (W := W) ⟨hgr.os, hgr.tape, hgr.output, hgr.size, hgr.block⟩ (fun e => hne (by cases e; rfl))⟩
    rw [HPUT.out]
    exact hset
  case done =>
    rintro D ys W hD rfl ⟨hk, hg, hb⟩ hK
    rw [uptoI_back, List.take_length] at hg
    have hlen : (layAll d.fast d.back).length = 512 * d.n := layAll_length _ HD.out.flen HD.out.each
    have hd1 := HD.out.setFast hk _ hlen hg
    have hc := hb.cell
    have hf2 := hd1.fr 2
    have hc2 := hd1.c2
    have hDp : D ≠ p := by have := HD.out.lt; rw [hsz] at hD; omega
    have hdd := hd1.drop ((Keeps.refl (fun b => b = p) W).setCell ⟨p, 2, none⟩ (.slice none 0 0) (.inl rfl)) (heap_setCell_same W p 2 _ 83 _ hd1.cell)
    have hkp : Keeps (fun b => b = p) W (W.setCell ⟨p, 2, none⟩ (.slice none 0 0)) := (Keeps.refl (fun b => b = p) W).setCell ⟨p, 2, none⟩ (.slice none 0 0) (.inl rfl)
    have HST := Lib.hid (step_any hdd hll)
    have hcb : (W.setCell ⟨p, 2, none⟩ (.slice none 0 0)).cell? ⟨w.heap.size, 0, none⟩ = some (.pointer (some ⟨p, 0, none⟩)) := (hkp.cell (p := ⟨w.heap.size, 0, none⟩) hb.lt (by have := HD.out.lt; show ¬ w.heap.size = p; omega)).trans hc
    have HKW := Lib.hid (hk.mono (T := O) (fun b _ e => by cases e; exact HD.out.ownF))
    have HKP := Lib.hid hkp
    have HDL := Lib.hid (Array.getElem?_eq_some_iff.1 hK).1
    have HKD := Lib.hid hK
    obtain ⟨a2, cap2, hv2⟩ := row_len HD.out.row
    have hsz2 := hsz
    clear hdd hkp hlen hd1 hg hst hvb
    gi_wp2_with (refine ⟨trivial, ?_⟩; gi_at_call 46; refine (callsIn_wide.2 HST.out).mono ?_; rintro e w6 ⟨rfl, hd6, hk6⟩)
    have hDw : w.heap.size ≤ D := by rw [hsz] at hD; omega
    have hD6 : w6.heap[D]? = some (.deferred (some [])) := (hk6.block D (Nat.lt_of_lt_of_le HDL.out HKP.out.size) hDp).trans ((HKP.out.block D HDL.out hDp).trans HKD.out)
    refine ⟨by simp, .inl ⟨_, _, rfl, run_takeDeferred hD6, ?_⟩⟩
    have hgp := grownBy_putObj' w6 D (.deferred none)
    have hkO : Keeps (fun b => b = D) w6 (w6.putObj D (.deferred none)) := Keeps.of_grown hgp (fun k e => by cases e; rfl)
    refine ⟨_, results_tmp rfl _ _ _, rfl, ⟨gn, gf, _, _, hd6.keep hkO (fun i hi e => by have := hOb i hi; omega) (fun i hi e => by have := hRb i hi; omega)⟩, ?_⟩
    have hpp : ∀ {A C : World}, Keeps (fun b => b = p) A C → Keeps O A C := fun h => h.mono (fun b _ e => e ▸ HD.out.ownP)
    exact ((HKW.out.trans' (hpp HKP.out)).trans' (hpp hk6)).grown hgp (fun k e => .inr (by cases e; exact hDw))
  case stop =>
    rintro D c pre W _ _ h _
    exact h.elim

variable {B : Nat}
theorem flush_o (h : DiskO w O R p d) (ho : d.off = false) (hll : d.left ≤ 9223372036854775807) : Calls Try.prog 22 #[.pointer (some ⟨p, 0, none⟩)] w fun e w' => e = .returned (.int .i64 0) ∧ DiskO w' O R p d.flush ∧ Turned w w' O R O R := by
  obtain ⟨⟨gn, gf, vb, vs, hd⟩, hO, hR, hOR⟩ := h
  refine (flush_ok hd hO hR ho hll).mono ?_
  rintro e w' ⟨rfl, h1, h2⟩
  exact ⟨rfl, ⟨h1, fun j hj => Nat.lt_of_lt_of_le (hO j hj) h2.size, fun j hj => Nat.lt_of_lt_of_le (hR j hj) h2.size, hOR⟩, h2, fun _ => .inl, fun _ => .inl⟩
theorem flush_in (h : DiskIn w B p d) (hB : B ≤ w.heap.size) (ho : d.off = false) (hll : d.left ≤ 9223372036854775807) : Calls Try.prog 22 #[.pointer (some ⟨p, 0, none⟩)] w fun e w' => e = .returned (.int .i64 0) ∧ DiskIn w' B p d.flush ∧ Below B w w' := by
  obtain ⟨O, R, hd, hO⟩ := h
  refine (flush_o hd ho hll).mono ?_
  rintro e w' ⟨rfl, h1, h2⟩
  exact ⟨rfl, DiskIn.of_turned hO hB h1 h2⟩
theorem flush_off_in (h : DiskIn w B p d) (ho : d.off = true) : Calls Try.prog 22 #[.pointer (some ⟨p, 0, none⟩)] w fun e w' => e = .returned (.int .i64 11) ∧ DiskIn w' B p d ∧ Below w.heap.size w w' := by
  have h0 := h
  obtain ⟨O, R, ⟨⟨gn, gf, vb, vs, hd⟩, _⟩, hO⟩ := h
  refine (flush_off hd ho).mono ?_
  rintro e w' ⟨rfl, hb⟩
  exact ⟨rfl, h0.below hb, hb⟩
end Go.Proofs.Ythfncgbkigmmcaa
