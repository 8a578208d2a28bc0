/- The iterator's contract at a disk; Pending. -/
import Derived.Test.YthfncgbkigmmcaaDisk6
namespace Go.Proofs.Ythfncgbkigmmcaa
open Go.RowKit Go.Shelf

attribute [local go_sem] Oper.semAt_some

variable {w w' : World} {O R : Nat → Prop} {p : Nat} {d : DS} {gn gf : Nat} {vb : Value} {vs : List Value}

/-- What a round keeps: the row of those that are held back. -/
def KeptV (vb : Value) (W W' : World) : Prop := W.heap.size ≤ W'.heap.size ∧ ∀ b, vb.ownBlock = some b → W'.heap[b]? = W.heap[b]?
theorem KeptV.t {vb : Value} {A B C : World} (h : KeptV vb A B) (k : KeptV vb B C) : KeptV vb A C := ⟨Nat.le_trans h.1 k.1, fun b hb => (k.2 b hb).trans (h.2 b hb)⟩
theorem KeptV.b {vb : Value} {w : World} (hw : ∀ b, vb.ownBlock = some b → b < w.heap.size) (W : World) (l : Nat) (o o' : Obj) (hl : w.heap.size ≤ l) (_ : W.heap[l]? = some o) (_ : o.isCells = false) (_ : o.isWalk = false) : KeptV vb W (W.putObj l o') :=
  ⟨by simp, fun b hb => World.putObj_heap_other (by have := hw b hb; omega)⟩
theorem KeptV.below {vb : Value} {n₀ : Nat} {W W' : World} (hw : ∀ b, vb.ownBlock = some b → b < n₀) (h : Below n₀ W W') : KeptV vb W W' := ⟨h.size, fun b hb => h.block b (hw b hb)⟩

/-- What a disk's held writes have in their cells. -/
structure DiskHs (hs : Hs) (d : DS) (w : World) (R : Nat → Prop) (p gn gf : Nat) (vb : Value) : Prop where
  ats : ∀ i (h : i < d.back.length), hs.a i = ((d.back[i].1 : Nat) : Int)
  bytes : ∀ i (h : i < d.back.length), Bytes w (.slice (some ⟨hs.g i, hs.o i, none⟩) 512 (hs.c i)) d.back[i].2
  own : ∀ i, i < d.back.length → R (hs.g i) ∧ hs.g i < w.heap.size ∧ hs.g i ≠ p ∧ hs.g i ≠ gn ∧ hs.g i ≠ gf ∧ vb.ownBlock ≠ some (hs.g i)

theorem DiskAt.hs (h : DiskAt w O R p d gn gf vb vs) : ∃ hs : Hs, DiskHs hs d w R p gn gf vb ∧ ∀ b, vb.ownBlock = some b → ∀ k, k < d.back.length →
    w.cell? ⟨b, k * 3, none⟩ = some (.int .i64 (hs.a k)) ∧ w.cell? ⟨b, k * 3 + 1, none⟩ = some (.slice (some ⟨hs.g k, hs.o k, none⟩) 512 (hs.c k)) ∧ w.cell? ⟨b, k * 3 + 2, none⟩ = some (.int .i64 (k : Int)) := by
  have key : ∀ i (hi : i < d.back.length), ∃ g o c, vs[i]? = some (.slice (some ⟨g, o, none⟩) 512 c) ∧ Bytes w (.slice (some ⟨g, o, none⟩) 512 c) d.back[i].2 ∧ (R g ∧ g < w.heap.size ∧ g ≠ p ∧ g ≠ gn ∧ g ≠ gf ∧ vb.ownBlock ≠ some g) := by
    intro i hi
    obtain ⟨v, h1, h2, h3⟩ := h.held i hi
    have hl := (h.each _ (List.getElem_mem hi)).2
    rcases h2 with ⟨_, h0⟩ | ⟨g, o, c, rfl, hc, hcell⟩
    · have := congrArg List.length h0
      rw [u8s_length, hl] at this
      simp at this
    · rw [u8s_length, hl] at h1 h3
      refine ⟨g, o, c, h1, .inr ⟨g, o, c, by rw [u8s_length, hl], hc, hcell⟩, h3 g rfl⟩
  refine ⟨⟨fun i => (((d.back[i]?.map (·.1)).getD 0 : Nat) : Int), fun i => if hi : i < d.back.length then (key i hi).choose else 0, fun i => if hi : i < d.back.length then (key i hi).choose_spec.choose else 0, fun i => if hi : i < d.back.length then (key i hi).choose_spec.choose_spec.choose else 0⟩, ⟨fun i hi => by simp [hi], fun i hi => ?_, fun i hi => ?_⟩, fun b hb k hk => ?_⟩
  · simp only [hi, dif_pos]
    exact (key i hi).choose_spec.choose_spec.choose_spec.2.1
  · simp only [hi, dif_pos]
    exact (key i hi).choose_spec.choose_spec.choose_spec.2.2
  · have hget := heldC_get 0 d.back vs k hk (by rw [h.vlen]; exact hk)
    obtain ⟨hlen, hrow | ⟨g, cap, cur, rfl, _, hg, hn, _, hs, ht⟩⟩ := h.row
    · rw [hrow.1] at hb; cases hb
    · obtain rfl : g = b := by simpa [Value.ownBlock] using hb
      have hcell : ∀ j, j < d.back.length * 3 → w.cell? ⟨g, j, none⟩ = (heldC 0 d.back vs)[j]? := fun j hj => by
        rw [cell_of_row w g j cur _ _ hg, ← ht, List.getElem?_take, if_pos hj]
        simp
      rw [hcell _ (by omega), hcell _ (by omega), hcell _ (by omega), Nat.mul_comm k 3]
      have hv := (key k hk).choose_spec.choose_spec.choose_spec.1
      have hv' : vs[k]? = some (vs[k]'(by rw [h.vlen]; exact hk)) := List.getElem?_eq_getElem _
      simp only [hk, dif_pos, List.getElem?_eq_getElem, Option.map_some, Option.getD_some]
      refine ⟨hget.1, hget.2.1.trans (hv'.symm.trans hv), by simpa using hget.2.2⟩

theorem DiskAt.stops (h : DiskAt w O R p d gn gf vb vs) (hs : Hs) (hc : ∀ b, vb.ownBlock = some b → ∀ k, k < d.back.length →
    w.cell? ⟨b, k * 3, none⟩ = some (.int .i64 (hs.a k)) ∧ w.cell? ⟨b, k * 3 + 1, none⟩ = some (.slice (some ⟨hs.g k, hs.o k, none⟩) 512 (hs.c k)) ∧ w.cell? ⟨b, k * 3 + 2, none⟩ = some (.int .i64 (k : Int)))
    (n : Nat) (hn : 1 ≤ n) (w1 : World) (hb1 : Below w.heap.size w w1) (B : Nat) (hB : w1.cell? ⟨B, 0, none⟩ = some (.pointer (some ⟨p, 0, none⟩))) (hBl : B < w1.heap.size) :
    SeqStopsK Fence.wide n Try.prog 54 #[.pointer (some ⟨B, 0, none⟩)] (fun x : Ix d.back.length => #[heldV hs x.1]) (KeptV vb) (fun ys => ys = uptoI d.back.length d.back.length (Nat.le_refl _)) (fun _ => True) d.back.length w1 := fun l J Jx W hW hJ _ hY h0 => by
  have hwW : Below w.heap.size w W := hb1.trans (hW.mono hb1.size)
  have hBW := (hW.cell (p := ⟨B, 0, none⟩) hBl).trans hB
  have hp2 := (hwW.cell (p := ⟨p, 2, none⟩) h.lt).trans h.c2
  rcases owns_shape h.row with ⟨rfl, h0l⟩ | ⟨b, cap, rfl, hle, hm, _, hlt⟩
  · refine (iter_none n l B p none 0 (fun W' => J [] W') W hBW hp2 h0).mono ?_
    rintro e W' ⟨he, hj⟩
    refine ⟨he, .inl ⟨_, rfl, ?_⟩⟩
    have h1 : ∀ N (hN : N = 0), uptoI N N (Nat.le_refl _) = [] := fun N hN => by subst hN; rfl
    rw [h1 _ h0l]
    exact hj
  · refine iter_in n hn l B p b d.back.length cap hs h.small J Jx 0 (fun pre A C hj hg _ => hJ pre A C none hj hg (fun r e => by cases e)) ?_ W hBW hp2 (Nat.lt_of_lt_of_le hlt hwW.size) (Nat.zero_le _) ?_ h0
    · intro pre x W1 hj hl
      refine (hY pre x W1 hj hl).mono ?_
      rintro e W' (⟨he, hj', hk⟩ | hr)
      · exact .inl ⟨he, hj', hk.1, hk.2 b rfl⟩
      · exact .inr hr
    · intro k hk
      have hcc : ∀ i, W.cell? ⟨b, i, none⟩ = w.cell? ⟨b, i, none⟩ := fun i => hwW.cell (p := ⟨b, i, none⟩) hlt
      rw [hcc, hcc, hcc]
      exact hc b rfl k hk

theorem uptoI_map {α : Type} (N : Nat) (f : Nat → α) : ∀ (k : Nat) (h : k ≤ N), (uptoI N k h).map (fun x => f x.1) = (List.range k).map f
  | 0, _ => rfl
  | k + 1, h => by rw [uptoI, List.map_append, uptoI_map N f k (Nat.le_of_succ_le h), List.range_succ, List.map_append]; rfl
theorem pend_list {hs : Hs} (H : DiskHs hs d w R p gn gf vb) : (uptoI d.back.length d.back.length (Nat.le_refl _)).map (fun x => Value.int .i64 (hs.a x.1)) = d.back.map fun x => .int .i64 (x.1 : Int) := by
  refine (uptoI_map _ (fun k => Value.int .i64 (hs.a k)) _ _).trans ?_
  apply List.ext_getElem
  · simp
  · intro i h1 h2
    simp only [List.length_map, List.length_range] at h1
    simp [H.ats i h1]

theorem infoI : (Try.prog.info? 3).map (fun i => (i.zero, i.size, i.bytes)) = some (some (.int .i64 0), 1, 8) := by kernel_rfl

set_option maxRecDepth 100000 in
set_option maxHeartbeats 4000000 in
theorem pending_any (h : DiskAt w O R p d gn gf vb vs) : Calls Try.prog 25 #[.pointer (some ⟨p, 0, none⟩)] w fun e w' => ∃ v, e = .returned v ∧ w'.ownsRow w.heap.size 3 1 v d.back.length (d.back.map fun x => .int .i64 (x.1 : Int)) ∧ Below w.heap.size w w' := by
  obtain ⟨hs, HS, hc⟩ := h.hs
  obtain ⟨i0, hi, hz0, hz1, hz2⟩ := info_parts infoI
  have hvb : ∀ b, vb.ownBlock = some b → b < w.heap.size := fun b hb => (row_block h.row hb).1
  have hst := h.stops hs hc
  have hsm := h.small
  refine (callsIn_wide (n := 4)).1 (callsIn_of_wp_marks Try.func25 rfl trivial ?_ rfl)
  simp only [Try.ntmps25, List.size_toArray, List.length_cons, List.length_nil, Nat.reduceAdd, Nat.reduceSub, Array.replicate_succ, Array.replicate_zero, List.push_toArray, List.append_toArray, List.nil_append, List.cons_append]
  gi_wp2_with (refine ⟨trivial, ?_⟩; gi_at_call 44; refine (writes_in p _ _).mono ?_; rintro e w' ⟨rfl, rfl⟩)
  have bO := Boxed.new w 46 (.slice none 0 0)
  have bN := Boxed.new (w.alloc (.cells #[.slice none 0 0] 46)) 27 (.pointer (some ⟨p, 0, none⟩))
  rw [World.size_alloc] at bN
  have hB0 : Below w.heap.size w ((w.alloc (.cells #[.slice none 0 0] 46)).alloc (.cells #[.pointer (some ⟨p, 0, none⟩)] 27)) := ((Below.refl _ w).alloc (Nat.le_refl _) _).alloc (by simp) _
  have hsz : ((w.alloc (.cells #[.slice none 0 0] 46)).alloc (.cells #[.pointer (some ⟨p, 0, none⟩)] 27)).heap.size = w.heap.size + 2 := by simp
  refine wpIn_rangeFunc_ownH rfl (by decide) (gf := 54) (lb := #[.pointer (some ⟨w.heap.size + 1, 0, none⟩)]) rfl trivial (enters_of Try.func54 (by kernel_rfl) rfl)
    (hst _ (by decide) _ hB0 (w.heap.size + 1) bN.cell bN.lt) KeptV.t (KeptV.b (fun b hb => by have := hvb b hb; rw [hsz]; omega)) (Below.refl _ _) (fun _ => rfl)
    (fun (pre : List (Ix d.back.length)) W => (∃ v, Boxed W w.heap.size 46 v ∧ W.ownsRow w.heap.size 3 1 v pre.length (pre.map fun x => .int .i64 (hs.a x.1)) ∧ True) ∧ Below w.heap.size w W)
    (fun _ _ _ => False)
    (OwnFrom.and (Own.from (holdsRow_own w.heap.size w.heap.size 46 3 1 (fun (pre : List (Ix d.back.length)) => pre.length) (fun (pre : List (Ix d.back.length)) => pre.map fun x => .int .i64 (hs.a x.1)) (fun _ _ => True)) _) (ownFrom_below (Nat.le_refl _) (by rw [hsz]; omega)))
    (fun _ _ _ _ _ hs _ _ => hs)
    ⟨⟨_, bO.alloc _, World.ownsRow_nil _ _ _ _, trivial⟩, hB0⟩
    (fun (x : Ix d.back.length) a' W => ∃ Bx, W.heap[Bx]? = some (.cells #[.int .i64 (hs.a x.1), .slice (some ⟨hs.g x.1, hs.o x.1, none⟩) 512 (hs.c x.1), .int .i64 (x.1 : Int)] 90 (0, 0)) ∧
      a' = { tmps := #[.pointer (some ⟨p, 0, none⟩), undef, .slice none 0 0, .pointer (some ⟨w.heap.size, 0, none⟩), .pointer (some ⟨Bx, 0, none⟩), .pointer (some ⟨p, 0, none⟩), .func (.func 54) #[] #[.pointer (some ⟨w.heap.size + 1, 0, none⟩)], heldV hs x.1, undef, undef, undef, undef, undef, undef, undef], defers := [] })
    (fun x a' _ A C row hA hg hr => by
      obtain ⟨Bx, h2, h3⟩ := hA
      refine ⟨Bx, (hg.block Bx (Array.getElem?_eq_some_iff.1 h2).1 (fun e => ?_)).trans h2, h3⟩
      obtain ⟨_, o, ho, hc⟩ := hr Bx e.symm
      rw [h2] at ho; cases ho; cases hc) ?assign ?body ?done ?stop
  case assign =>
    rintro l pre x W K ⟨⟨v, hv, hrow, _⟩, hB⟩ hK
    dsimp only [heldV]
    gi_wp2
    exact hK _ _ ((KeepsOthers.alloc _ _).from _) (KeptV.below hvb ((Below.refl w.heap.size W).alloc hB.size _)) ⟨⟨v, hv.alloc _, hrow.alloc _, trivial⟩, hB.alloc hB.size _⟩ ⟨W.heap.size, World.alloc_heap_new W _, rfl⟩
  case body =>
    rintro l pre x a' W hl _ ⟨⟨v, hv, hrow, _⟩, hB⟩ ⟨Bx, hbx, rfl⟩ hlt
    have hc := hv.cell
    have hcx : W.cell? ⟨Bx, 0, none⟩ = some (.int .i64 (hs.a x.1)) := by rw [cell_of_row W Bx 0 _ _ _ hbx]; rfl
    gi_wp2_with (gi_at_builtin; refine wpListIn_append_own _ rfl _ _ 46 rfl w.heap.size 3 i0 (.int .i64 0) 1 8 Try.underlying46 hi hz0 hz1 hz2 rfl (by decide) _ _ _ rfl (hrow.alloc _) ⟨W.heap.size, 0, none⟩ 1 1 [.int .i64 (hs.a x.1)] rfl rfl (cell_one_new _ _ _) (by simp [Value.oneCell']) (by unfold maxLen; omega) (by omega) (by have := hB.size; simp; omega) ?_; intro v' w1 hown' hgrow _; obtain ⟨g', cap', rfl⟩ := ownsRow_succ hown'; obtain ⟨hv1, hv2, hr2, hk2, hb2⟩ := hv.appended (by decide) hrow hB.size (Nat.le_refl _) hown' hgrow; have hc1 := hv1.cell; have hf1 := hv1.frozen)
    exact ⟨hk2.from _, KeptV.below hvb hb2, ⟨⟨_, hv2, by simpa using hr2, trivial⟩, hB.trans hb2⟩⟩
  case done =>
    rintro D ys W hD rfl ⟨⟨v, hv, hrow, _⟩, hB⟩ hK
    have hc := hv.cell
    gi_wp2
    refine ⟨by simp, .inl ⟨_, _, rfl, run_takeDeferred hK, ?_⟩⟩
    refine ⟨_, results_tmp rfl _ _ _, v, rfl, ?_, hB.trans (belowK_b (w := w) (Nat.le_refl _) W D _ _ (by rw [hsz] at hD; omega) hK rfl rfl)⟩
    have := ownsRow_putObj hrow (.deferred none) hK rfl
    rw [uptoI_length] at this
    rw [← pend_list HS]
    exact this
  case stop =>
    rintro D c pre W _ _ h _
    exact h.elim
end Go.Proofs.Ythfncgbkigmmcaa
