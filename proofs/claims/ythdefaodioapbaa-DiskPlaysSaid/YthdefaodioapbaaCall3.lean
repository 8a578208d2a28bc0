/- call of Crash, of Write. -/
import Derived.Test.YthdefaodioapbaaCall2
namespace Go.Proofs.Ythdefaodioapbaa
open Go.RowKit

variable {w w' : World} {B : Nat} {X : Nat → Prop} {l : List (Bool × Nat × DS)} {p q : Nat} {d : DS}
attribute [local irreducible] zA blk

theorem IntsAt.below {ka : Option Addr} {kn : Nat} {ks : Nat → Int} (h : IntsAt w ka kn ks) (hb : Below w.heap.size w w') : IntsAt w' ka kn ks := ⟨h.1, h.2.imp id (fun ⟨g, off, h1, h2⟩ => ⟨g, off, h1, fun i hi => (hb.cell (p := ⟨g, off + i, none⟩) (World.block_lt_of_cell? _ _ (h2 i hi))).trans (h2 i hi)⟩)⟩
/-- 'append(nil, keep...)': a row of numbers of the call's own. -/
def KeepRow (w w' : World) (v : Value) (kn : Nat) (ks : Nat → Int) : Prop := ∃ va vc, v = .slice va kn vc ∧ IntsAt w' va kn ks ∧ (∀ x, va = some x → NewIn w w' x.block) ∧ Below w.heap.size w w'
theorem wpList_copy_ints {ops : Array Oper} {rest : List Oper} {o : Oper} {a : Act} {Q : Exit → Act → World → Prop} (hgd : o.guard = none) (x : Operand)
    (ho : o.op = .call { callee := .builtin .append, args := #[.const (.slice none 0 0), x], argTypes := #[22, 22] })
    (ka : Option Addr) (kn kc : Nat) (ks : Nat → Int) (hx : a.eval x = .slice ka kn kc) (hk : IntsAt w ka kn ks) (h1 : kn ≤ 1000000000000) (hcap : ka = none → kc = 0)
    (h : ∀ v' w', KeepRow w w' v' kn ks → wpList Try.prog ops Q rest (a.put o.dst v') w') : wpList Try.prog ops Q (o :: rest) a w := by
  obtain ⟨i0, hi, hz0, hz1, hz2⟩ := info_parts infoI
  have hnil : (∃ ad, ka = some ad) ∨ ka = none := by cases ka with | none => exact .inr rfl | some a => exact .inl ⟨a, rfl⟩
  have hnews : ∀ (ad : Addr), ka = some ad → ∀ j u, ((List.range kn).map fun i => Value.int .i64 (ks i))[j]? = some u → w.cell? (ad.add j) = some u := fun ad e j u hj => by
    rw [List.getElem?_map] at hj
    obtain ⟨m, hm, rfl⟩ := Option.map_eq_some_iff.1 hj
    obtain ⟨h3, rfl⟩ := List.getElem?_eq_some_iff.1 hm
    simp only [List.getElem_range] at *
    rw [List.length_range] at h3
    rcases hk.2 with h0 | ⟨g, off, h4, h5⟩
    · omega
    · rw [e] at h4
      cases h4
      rw [addr_add]
      exact h5 j h3
  have fin : ∀ v' w', w'.ownsRow w.heap.size 3 1 v' kn ((List.range kn).map fun i => Value.int .i64 (ks i)) → w.grownBy w' none → KeepRow w w' v' kn ks := fun v' w' hown hg => by
    obtain ⟨va, vc, rfl⟩ := row_len hown
    refine ⟨va, vc, rfl, ⟨h1, ?_⟩, fun y e => ?_, (Below.refl _ _).grown hg (Nat.le_refl _) (by simp)⟩
    · rcases RowAt.of_owns hown with ⟨_, h0⟩ | ⟨g, off, cap, he, _, hcell⟩
      · left
        have := congrArg List.length h0
        simpa using this
      · right
        simp only [Value.slice.injEq] at he
        refine ⟨g, off, he.1, fun i hi => hcell i _ ?_⟩
        rw [List.getElem?_map, List.getElem?_range hi]
        rfl
    · have := hown.lt y.block (by rw [e]; rfl)
      exact ⟨this.1, this.2⟩
  rcases hnil with ⟨ad, rfl⟩ | rfl
  · refine wpList_append_own w hgd (.const (.slice none 0 0)) x 22 ho w.heap.size 3 i0 (.int .i64 0) 1 8 Try.underlying22 hi hz0 hz1 hz2 rfl (by decide) (.slice none 0 0) 0 [] rfl (World.ownsRow_nil _ _ _ _) ad kn kc ((List.range kn).map fun i => Value.int .i64 (ks i)) hx (by simp) (hnews ad rfl) (fun u hu => by
      obtain ⟨i, _, rfl⟩ := List.mem_map.1 hu
      rfl) (by unfold maxLen; omega) (by omega) (Nat.le_refl _) ?_
    intro v' w' hown hg _
    exact h v' w' (fin v' w' (by simpa using hown) hg)
  · have h0 : kn = 0 := by
      rcases hk.2 with h0 | ⟨g, off, h4, _⟩
      · exact h0
      · cases h4
    subst h0
    obtain rfl := hcap rfl
    refine wpList_append_own_none hgd (.const (.slice none 0 0)) x 22 ho w.heap.size 3 i0 1 Try.underlying22 hi (.slice none 0 0) 0 [] rfl (World.ownsRow_nil _ _ _ _) hx ?_
    exact h _ w ⟨none, 0, rfl, ⟨h1, .inl rfl⟩, (fun y e => by cases e), Below.refl _ _⟩

set_option maxHeartbeats 1000000 in
set_option maxRecDepth 100000 in
theorem call4 (h : DisksX w B X ((false, p, d) :: (true, q, d) :: l)) (hB : B ≤ w.heap.size) (a b : Int) (ka : Option Addr) (kn kc : Nat) (ks : Nat → Int) (hk : IntsAt w ka kn ks) (hka : ∀ x, ka = some x → 0 < kn → x.block < B) (hcap : ka = none → kc = 0) :
    Calls Try.prog 27 #[.pointer (some ⟨p, 0, none⟩), .pointer (some ⟨q, 0, none⟩), .agg #[.int .i64 4, .int .i64 a, .int .i64 b, .slice ka kn kc]] w fun e w' => e = .returned (.bool true) ∧ DisksX w' B X ((false, p, d.crash (keepB kn ks)) :: (true, q, d.crash (keepB kn ks)) :: l) ∧ Keeps (fun j => B ≤ j ∧ ¬ X j) w w' := by
  obtain ⟨W1, hW1⟩ : ∃ W1, W1 = w.alloc (.cells #[.int .i64 4, .int .i64 a, .int .i64 b, .slice ka kn kc] 51) := ⟨_, rfl⟩
  have hb1 : Below w.heap.size w W1 := by rw [hW1]; exact (Below.refl _ _).alloc (Nat.le_refl _) _
  have hr1 : W1.heap[w.heap.size]? = some (.cells #[.int .i64 4, .int .i64 a, .int .i64 b, .slice ka kn kc] 51 (0, 0)) := by rw [hW1]; exact heap_alloc_new w _
  have e0 : W1.cell? ⟨w.heap.size, 0, none⟩ = some (.int .i64 4) := by rw [cell_of_row _ _ _ _ _ _ hr1]; rfl
  have e3 : W1.cell? ⟨w.heap.size, 3, none⟩ = some (.slice ka kn kc) := by rw [cell_of_row _ _ _ _ _ _ hr1]; rfl
  have HW1 := Lib.hid hW1
  have HB1 := Lib.hid hb1
  have H := Lib.hid h
  have HK1 := Lib.hid (hk.below hb1)
  have HKA := Lib.hid hka
  have HCAP := Lib.hid hcap
  have HKN := Lib.hid hk.1
  have HKW := Lib.hid hk
  have HR1 := Lib.hid hr1
  clear hW1 hb1 hr1 h hk hka hcap
  go_enter Try.func27, Try.ntmps27
  go_wp2_with (first | (refine wpList_box_to rfl 51 _ rfl ?_; change wpList _ _ _ _ _ (w.alloc (.cells #[.int .i64 4, .int .i64 a, .int .i64 b, .slice ka kn kc] 51)); rw [← HW1.out]) | (refine wpList_copy_ints rfl (.tmp 133) rfl ka kn kc ks rfl HK1.out HKN.out HCAP.out ?_))
  rintro v W2 ⟨va, vc, rfl, hk2, hva, hb2⟩
  have hb12 : Below w.heap.size w W2 := HB1.out.trans (hb2.mono HB1.out.size)
  have HB12 := Lib.hid hb12
  have H2 := Lib.hid (H.out.more hB hb12)
  have hx1 : NewIn w W2 w.heap.size := ⟨Nat.le_refl _, Nat.lt_of_lt_of_le (Array.getElem?_eq_some_iff.1 HR1.out).1 hb2.size⟩
  have HZ2 : Hid (B ≤ W2.heap.size) := Nat.le_trans hB hb12.size
  have HR2 : Hid (W2.heap[w.heap.size]? = some (.cells #[.int .i64 4, .int .i64 a, .int .i64 b, .slice ka kn kc] 51 (0, 0))) := (hb2.block _ (Array.getElem?_eq_some_iff.1 HR1.out).1).trans HR1.out
  have HC := Lib.hid (dCrash H2.out HZ2.out va kn vc ks hk2 (fun x e _ => .inr (.inr ⟨Nat.le_trans HB1.out.size (hva x e).1, (hva x e).2⟩)))
  have HX1 := Lib.hid hx1
  clear hk2 hva hb2 hb12 hx1 e0 e3
  go_wp2_with fail
  refine (HC.out).mono ?_
  rintro e W3 ⟨⟨v, rfl⟩, h3, hkp3⟩
  have HR3 : Hid (W3.heap[w.heap.size]? = some (.cells #[.int .i64 4, .int .i64 a, .int .i64 b, .slice ka kn kc] 51 (0, 0))) := (hkp3.block _ (Array.getElem?_eq_some_iff.1 HR2.out).1 (fun e => e.2 (.inr HX1.out))).trans HR2.out
  have hb3 := hkp3.belB HZ2.out
  have HK3 : Hid (Keeps (fun j => B ≤ j ∧ ¬ X j) w W3) := (Keeps.of_below HB12.out).trans' (hkp3.mono (fun _ _ e => ⟨e.1, fun e' => e.2 (.inl e')⟩))
  have HB3 : Hid (Below B w W3) := (HB12.out.mono hB).trans hb3
  have HZ3 : Hid (B ≤ W3.heap.size) := Nat.le_trans hB HB3.out.size
  have hk3 : IntsAt W3 ka kn ks := ⟨HKN.out, HKW.out.2.imp id (fun ⟨g, off, h1, h2⟩ => ⟨g, off, h1, fun i hi => (HB3.out.cell (p := ⟨g, off + i, none⟩) (HKA.out ⟨g, off, none⟩ h1 (by omega))).trans (h2 i hi)⟩)⟩
  have e3 : W3.cell? ⟨w.heap.size, 3, none⟩ = some (.slice ka kn kc) := by rw [cell_of_row _ _ _ _ _ _ HR3.out]; rfl
  have HC3 := Lib.hid (rCrash h3.two HZ3.out ka kn kc ks hk3 (fun x e h0 => .inl (HKA.out x e h0)))
  clear h3 hkp3 hb3 hk3 HC
  go_wp2_with fail
  refine (HC3.out).mono ?_
  rintro e W4 ⟨⟨v4, rfl⟩, h4, hkp4⟩
  have H4 := Lib.hid (h4.two.less (fun _ => .inl))
  have HB4 : Hid (Keeps (fun j => B ≤ j ∧ ¬ X j) w W4) := HK3.out.trans' (hkp4.mono (fun _ _ e => ⟨e.1, fun e' => e.2 (.inl e')⟩))
  clear h4 hkp4
  go_wp2_with fail
  go_ret
  exact ⟨rfl, H4.out, HB4.out⟩

set_option maxHeartbeats 4000000 in
set_option maxRecDepth 100000 in
theorem call1 (h : DisksX w B X ((false, p, d) :: (true, q, d) :: l)) (hB : B ≤ w.heap.size) (hg : d.Good) (a b : Int) (ka : Option Addr) (kn kc : Nat) :
    Calls Try.prog 27 #[.pointer (some ⟨p, 0, none⟩), .pointer (some ⟨q, 0, none⟩), .agg #[.int .i64 1, .int .i64 a, .int .i64 b, .slice ka kn kc]] w fun e w' => e = .returned (.bool true) ∧ DisksX w' B X ((false, p, d.wr a (blk b)) :: (true, q, d.wr a (blk b)) :: l) ∧ Keeps (fun j => B ≤ j ∧ ¬ X j) w w' := by
  obtain ⟨i0, hi, hz0, hz1, hz2⟩ := info_parts info5
  have HI := Lib.hid (And.intro hi (And.intro hz0 (And.intro hz1 hz2)))
  clear hi hz0 hz1 hz2
  obtain ⟨W1, hW1⟩ : ∃ W1, W1 = w.alloc (.cells #[.int .i64 1, .int .i64 a, .int .i64 b, .slice ka kn kc] 51) := ⟨_, rfl⟩
  have hb1 : Below w.heap.size w W1 := by rw [hW1]; exact (Below.refl _ _).alloc (Nat.le_refl _) _
  have hr1 : W1.heap[w.heap.size]? = some (.cells #[.int .i64 1, .int .i64 a, .int .i64 b, .slice ka kn kc] 51 (0, 0)) := by rw [hW1]; exact heap_alloc_new w _
  have e0 : W1.cell? ⟨w.heap.size, 0, none⟩ = some (.int .i64 1) := by rw [cell_of_row _ _ _ _ _ _ hr1]; rfl
  have e2 : W1.cell? ⟨w.heap.size, 2, none⟩ = some (.int .i64 b) := by rw [cell_of_row _ _ _ _ _ _ hr1]; rfl
  have HW1 := Lib.hid hW1
  have HB1 := Lib.hid hb1
  have H := Lib.hid h
  have HG := Lib.hid hg
  have HR1 := Lib.hid hr1
  have HXL : Hid ((blk b).length = 512) := blk_length b
  clear hW1 hb1 hr1 h hg
  go_enter Try.func27, Try.ntmps27
  go_wp2_with (refine wpList_box_to rfl 51 _ rfl ?_; change wpList _ _ _ _ _ (w.alloc (.cells #[.int .i64 1, .int .i64 a, .int .i64 b, .slice ka kn kc] 51)); rw [← HW1.out])
  refine (block_any b _).mono ?_
  rintro e W2 ⟨rfl, hx2, hb2⟩
  have HB2 := Lib.hid hb2
  have HX2 := Lib.hid hx2
  have HZ12 : Hid (W1.heap.size < W2.heap.size) := RowAt.lt hx2 (by intro h; have := congrArg List.length h; rw [u8s_length, blk_length] at this; cases this) _ rfl
  have HR2 : Hid (W2.heap[w.heap.size]? = some (.cells #[.int .i64 1, .int .i64 a, .int .i64 b, .slice ka kn kc] 51 (0, 0))) := (hb2.block _ (Array.getElem?_eq_some_iff.1 HR1.out).1).trans HR1.out
  clear hb2 hx2 e0 e2
  generalize hxe : blk b = x at *
  have HXE := Lib.hid hxe
  clear hxe
  have C1 : Hid (0 + x.length ≤ maxLen) := by show _ ≤ _; rw [HXL.out]; decide
  have C2 : Hid ((0 + x.length) * 1 ≤ 140737488355328) := by show _ ≤ _; rw [HXL.out]; decide
  have HX2' : Hid (BytesW W2 (.slice (some ⟨W1.heap.size, 0, none⟩) 512 512) x) := .inl HX2.out
  go_wp2_with (at_builtin; refine wpList_append_rowW rfl (.const (.slice none 0 0)) (.tmp 72) 29 rfl W2.heap.size 5 i0 (.int .u8 0) 1 Try.underlying29 HI.out.1 HI.out.2.1 HI.out.2.2.1 HI.out.2.2.2 rfl (.slice none 0 0) 0 [] rfl (World.ownsRow_nil _ _ _ _) (.slice (some ⟨W1.heap.size, 0, none⟩) 512 512) x rfl HX2'.out C1.out C2.out (Nat.le_refl _) ?_)
  intro v3 W3 hown3 hgr3 _
  have hb3 : Below W2.heap.size W2 W3 := (Below.refl _ _).grown hgr3 (Nat.le_refl _) (fun j e => by cases e)
  have hb34 : Below W3.heap.size W3 (W3.alloc (.cells #[.int .u8 167] 5)) := (Below.refl _ _).alloc (Nat.le_refl _) _
  have HOW4 := Lib.hid (owns_below hown3 hb34)
  have HONE4 : Hid (BytesW (W3.alloc (.cells #[.int .u8 167] 5)) (.slice (some ⟨W3.heap.size, 0, none⟩) 1 1) [167]) := .inl (row_new W3 #[.int .u8 167] 5 (0, 0) 1 (Nat.le_refl _))
  have HB34 : Hid (Below W2.heap.size W2 (W3.alloc (.cells #[.int .u8 167] 5))) := hb3.trans (hb34.mono hb3.size)
  have C3 : Hid (x.length + [(167 : UInt8)].length ≤ maxLen) := by show _ ≤ _; rw [HXL.out]; decide
  have C4 : Hid ((x.length + [(167 : UInt8)].length) * 1 ≤ 140737488355328) := by show _ ≤ _; rw [HXL.out]; decide
  have HZ34 : Hid (W2.heap.size ≤ (W3.alloc (.cells #[.int .u8 167] 5)).heap.size) := HB34.out.size
  clear hown3 hgr3 hb3 hb34
  go_wp2_with (at_builtin; refine wpList_append_rowW rfl (.tmp 73) (.tmp 74) 29 rfl W2.heap.size 5 i0 (.int .u8 0) 1 Try.underlying29 HI.out.1 HI.out.2.1 HI.out.2.2.1 HI.out.2.2.2 rfl v3 x.length (u8s x) rfl HOW4.out (.slice (some ⟨W3.heap.size, 0, none⟩) 1 1) [167] rfl HONE4.out C3.out C4.out HZ34.out ?_)
  intro v5 W5 hown5 hgr5 _
  have hb5 : Below W2.heap.size W2 W5 := HB34.out.grown hgr5 HB34.out.size (fun j e => (HOW4.out.lt j e).1)
  have hb15 : Below w.heap.size w W5 := HB1.out.trans ((HB2.out.mono HB1.out.size).trans (hb5.mono (Nat.le_trans HB1.out.size HB2.out.size)))
  have hl5 : x.length + 1 = 513 := by rw [HXL.out]
  rw [hl5] at hown5
  rcases owns_shape hown5 with ⟨_, h0⟩ | ⟨gf, cap, rfl, hle, _, hbg, hlt⟩
  · cases h0
  have hby : Bytes W5 (.slice (some ⟨gf, 0, none⟩) 513 cap) (x ++ [167]) := by
    show RowAt _ _ _
    rw [u8s_append]
    exact RowAt.of_owns hown5
  have hfz : ∀ i, W5.frozen? ⟨gf, i, none⟩ = false := fun i => by
    rcases hown5.2 with ⟨h, _⟩ | ⟨g', cap', cur, h, _, hg, _⟩
    · cases h
    · cases h; exact frozen_of_row W5 _ _ _ _ hg
  have hbx : Bytes W5 (.slice (some ⟨gf, 0, none⟩) x.length cap) x := by
    rcases hby with ⟨h, _⟩ | ⟨g', off', cap', h, hc, hcell⟩
    · cases h
    · simp only [Value.slice.injEq, Option.some.injEq, Addr.mk.injEq] at h
      obtain ⟨⟨rfl, rfl, _⟩, _, rfl⟩ := h
      refine .inr ⟨gf, 0, cap, by rw [u8s_length], by rw [u8s_length, HXL.out]; omega, fun i u hi => hcell i u ?_⟩
      rw [u8s_append, List.getElem?_append_left (List.getElem?_eq_some_iff.1 hi).1]
      exact hi
  have hc512 : W5.cell? ⟨gf, 512, none⟩ = some (.int .u8 167) := by
    rcases hby with ⟨h, _⟩ | ⟨g', off', cap', h, hc, hcell⟩
    · cases h
    · simp only [Value.slice.injEq, Option.some.injEq, Addr.mk.injEq] at h
      obtain ⟨⟨rfl, rfl, _⟩, _, rfl⟩ := h
      have := hcell 512 (.int .u8 167) (by rw [u8s_append, List.getElem?_append_right (by rw [u8s_length, HXL.out]; exact Nat.le_refl _), u8s_length, HXL.out]; rfl)
      rwa [Nat.zero_add] at this
  have H5 := Lib.hid (H.out.more hB hb15)
  have HXop : Hid (NewIn w W5 w.heap.size) := ⟨Nat.le_refl _, Nat.lt_of_lt_of_le (Array.getElem?_eq_some_iff.1 HR2.out).1 hb5.size⟩
  have HXb : Hid (NewIn w W5 W1.heap.size) := ⟨HB1.out.size, Nat.lt_of_lt_of_le HZ12.out hb5.size⟩
  have HXf : Hid (NewIn w W5 gf) := ⟨Nat.le_trans HB1.out.size (Nat.le_trans HB2.out.size hbg), hlt⟩
  have HR5 : Hid (W5.heap[w.heap.size]? = some (.cells #[.int .i64 1, .int .i64 a, .int .i64 b, .slice ka kn kc] 51 (0, 0))) := (hb5.block _ (Array.getElem?_eq_some_iff.1 HR2.out).1).trans HR2.out
  have HX5 := Lib.hid (RowAt.below HX2.out hb5 (Nat.le_refl _))
  have HBY5 := Lib.hid hby
  have HFZ5 := Lib.hid hfz
  have HC5 := Lib.hid hc512
  have HBX5 := Lib.hid hbx
  have HZ5 : Hid (B ≤ W5.heap.size) := Nat.le_trans hB hb15.size
  have HBW5 := Lib.hid hb15
  have HCAP : Hid (513 ≤ cap) := hle
  have HW := Lib.hid (dWrite H5.out HZ5.out HG.out a gf cap x hbx (.inr HXf.out) hlt)
  rw [HXL.out] at HW
  have e1 : W5.cell? ⟨w.heap.size, 1, none⟩ = some (.int .i64 a) := by rw [cell_of_row _ _ _ _ _ _ HR5.out]; rfl
  have cap0 : 512 ≤ cap := by omega
  have cap1 : (512 : Int) ≤ (cap : Int) := by omega
  clear hown5 hgr5 hb5 hb15 hl5 hby hfz hbx hc512 hbg hlt hle HOW4 HONE4 HB34
  go_wp2_with fail
  refine wp_region_noPanic ?_
  refine wp_region_ordL 6 [6] [0, 1, 2, 3, 4, 5, 6] (fun W => W.cell? ⟨w.heap.size, 1, none⟩ = some (.int .i64 a)) (by kernel_rfl) (by kernel_rfl) rfl (by kernel_rfl) (fun _ _ _ _ _ h => h) e1 ?_
  repeat (apply heldL_run rfl (by rfl) (by rfl); (intro w hSw; go_simp; with_reducible rfl); (try simp only [Act.put, List.setIfInBounds_toArray, List.set_cons_zero, List.set_cons_succ]))
  refine heldL_step rfl (by rfl) (by rfl) (fun K hK => ?_)
  go_simp
  change Calls _ _ _ W5.drew _
  have H5d := Lib.hid (H5.out.below (w' := W5.drew) (Below.refl _ _).drew)
  have HWd := Lib.hid (dWrite H5d.out HZ5.out HG.out a gf cap x (RowAt.below HBX5.out (Below.refl _ _).drew (Nat.le_refl _)) (.inr HXf.out) HXf.out.2)
  rw [HXL.out] at HWd
  refine (HWd.out).mono ?_
  rintro e W6 ⟨rfl, h6, hk6⟩
  have HR6 : Hid (W6.heap[w.heap.size]? = some (.cells #[.int .i64 1, .int .i64 a, .int .i64 b, .slice ka kn kc] 51 (0, 0))) := (hk6.block _ HXop.out.2 (fun e => e.2 (.inr HXop.out))).trans HR5.out
  have e1' : W6.cell? ⟨w.heap.size, 1, none⟩ = some (.int .i64 a) := by rw [cell_of_row _ _ _ _ _ _ HR6.out]; rfl
  have HK6 : Hid (Keeps (fun j => B ≤ j ∧ ¬ (X j ∨ NewIn w W5 j)) W5 W6) := (Keeps.refl _ W5).drew.trans' hk6
  have H6 := Lib.hid h6
  have HX6 := Lib.hid (RowAt.keeps HX5.out HK6.out (fun j e h => by cases e; exact h.2 (.inr HXb.out)))
  have HZ6 : Hid (B ≤ W6.heap.size) := Nat.le_trans HZ5.out HK6.out.size
  have HXl6 : Hid (Bytes W6 (.slice (some ⟨W1.heap.size, 0, none⟩) x.length 512) x) := by rw [HXL.out]; exact HX6.out
  clear h6 hk6
  refine hK.out _ _ (.inr e1') ?_
  clear hK K
  (try simp only [Act.put, List.setIfInBounds_toArray, List.set_cons_zero, List.set_cons_succ])
  repeat (apply heldL_run rfl (by rfl) (by rfl); (intro w hSw; go_simp; with_reducible rfl); (try simp only [Act.put, List.setIfInBounds_toArray, List.set_cons_zero, List.set_cons_succ]))
  refine heldL_step rfl (by rfl) (by rfl) (fun K hK => ?_)
  go_simp
  refine hK.out _ _ (.inl rfl) ?_
  clear hK K
  (try simp only [Act.put, List.setIfInBounds_toArray, List.set_cons_zero, List.set_cons_succ])
  refine heldL_nil (NoPanic.normal ?_)
  have HW7 := Lib.hid (rWrite H6.out.two HZ6.out HG.out a W1.heap.size 512 x HXl6.out)
  rw [HXL.out] at HW7
  generalize d.wrE a x = E at *
  clear HW HWd e1
  go_wp2_with fail
  refine (HW7.out).mono ?_
  rintro e W7 ⟨rfl, h7, hk7⟩
  have HK7 : Hid (Keeps (fun j => B ≤ j ∧ ¬ (X j ∨ NewIn w W5 j)) W5 W7) := HK6.out.trans' hk7
  have H7 := Lib.hid h7.two
  have HX7 := Lib.hid (RowAt.keeps HX5.out HK7.out (fun j e h => by cases e; exact h.2 (.inr HXb.out)))
  have HF7 := Lib.hid (RowAt.keeps HBX5.out HK7.out (fun j e h => by cases e; exact h.2 (.inr HXf.out)))
  rw [HXL.out] at HF7
  have c7 : W7.cell? ⟨gf, 512, none⟩ = some (.int .u8 167) := (HK7.out.cell (p := ⟨gf, 512, none⟩) HXf.out.2 (fun h => h.2 (.inr HXf.out))).trans HC5.out
  have HFZ7 : Hid (∀ i, W7.frozen? ⟨gf, i, none⟩ = false) := fun i => (HK7.out.frozen (p := ⟨gf, i, none⟩) HXf.out.2 (fun h => h.2 (.inr HXf.out))).trans (HFZ5.out i)
  have hv1 : ∀ nq, (convert 29 9 (.slice (some ⟨gf, 0, none⟩) 512 cap)).run Try.prog (W7.drewN nq) = .ok (.string ⟨x.toArray⟩) (W7.drewN nq) := fun nq => run_string_of (W7.drewN nq) 29 5 Try.underlying29 Try.underlying5 (RowAt.below HF7.out (below_drewN (Below.refl _ _) nq) (Nat.le_refl _)) 9 Try.underlying9
  have hv2 : ∀ nq, (convert 29 9 (.slice (some ⟨W1.heap.size, 0, none⟩) 512 512)).run Try.prog (W7.drewN nq) = .ok (.string ⟨x.toArray⟩) (W7.drewN nq) := fun nq => run_string_of (W7.drewN nq) 29 5 Try.underlying29 Try.underlying5 (RowAt.below HX7.out (below_drewN (Below.refl _ _) nq) (Nat.le_refl _)) 9 Try.underlying9
  have cap3 : (512 : Int) < (cap : Int) ∨ True := .inr trivial
  clear h7 hk7 HW7 cap3
  go_wp2_with fail
  go_quiet (fail)
  have HJ8 : Hid (Junk (W7.drewN nq) (some ⟨gf, 0, none⟩) 512) := (Junk.of_bytes HF7.out HXL.out.symm (fun j i e => by cases e; exact HFZ7.out i)).kept (fun _ _ _ => rfl)
  have HK8 : Hid (Keeps (fun j => B ≤ j ∧ ¬ (X j ∨ NewIn w W5 j)) W5 (W7.drewN nq)) := HK7.out.drewN _
  have H8 := Lib.hid (H7.out.below (w' := W7.drewN nq) (below_drewN (Below.refl _ _) _))
  generalize W7.drewN nq = W8 at *
  clear hv1 hv2 c7
  go_wp2_with fail
  go_loopw [17] (fun i wq => ∃ j : Nat, j ≤ 512 ∧ i = .int .i64 j ∧ Junk wq (some ⟨gf, 0, none⟩) 512 ∧ Keeps (fun m => m = gf) W8 wq) (fun i _ => 512 - (intOf i).toNat)
  case atStart => exact ⟨0, by omega, rfl, HJ8.out, Keeps.refl _ _⟩
  case round =>
    obtain ⟨j, hj, rfl, hJ, hkq⟩ := hrel
    have j0 : (0 : Int) ≤ (j : Int) := by omega
    by_cases hlt : j < 512
    · have j1 : (j : Int) < 512 := by omega
      have j2 : (j : Int) < 513 := by omega
      have HJ := Lib.hid hJ
      have HKQ := Lib.hid hkq
      rcases hJ with h0 | ⟨g2, off2, he, hJ⟩
      · cases h0
      cases he
      obtain ⟨⟨y, hy⟩, hf⟩ := hJ j hlt
      rw [Nat.zero_add] at hy hf
      clear hJ hkq
      go_wp2_with fail
      go_roundw
      case rel => exact ⟨j + 1, by omega, by go_num, HJ.out.set _ _, HKQ.out.setCell _ _ (.inl rfl)⟩
      case measure => simp [intOf]; omega
    · obtain rfl : j = 512 := by omega
      have H9 := Lib.hid ((H8.out.wipe hkq (fun m e => by rw [e]; exact .inr HXf.out)).less (fun _ => .inl))
      have HB9 : Hid (Keeps (fun j => B ≤ j ∧ ¬ X j) w wr) := ((Keeps.of_below HBW5.out).trans' (HK8.out.mono (fun _ _ e => ⟨e.1, fun e' => e.2 (.inl e')⟩))).trans hkq (fun m e => .inr (by rw [e]; exact HXf.out.1))
      clear hkq hJ
      go_wp2_with fail
      refine (num_any _ _).mono ?_
      rintro e W10 ⟨rfl, rfl⟩
      go_wp2_with fail
      go_ret
      exact ⟨by simp, by rw [HXE.out]; exact H9.out, HB9.out⟩
end Go.Proofs.Ythdefaodioapbaa
