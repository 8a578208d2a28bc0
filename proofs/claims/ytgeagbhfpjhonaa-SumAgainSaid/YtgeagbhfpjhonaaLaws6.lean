/- SumAgain: the walk. -/
import Derived.Test.YtgeagbhfpjhonaaLaws5
import Derived.Test.YtgeagbhfpjhonaaText
namespace Go.Proofs.Ytgeagbhfpjhonaa
open Go.RowKit
attribute [local go_sem ↓] eql30

theorem below_addr {w w' : World} {p : Nat} {v : Value} (hb : Below w.heap.size w w') {m : List UInt8} {lim : Nat} (h : Digested w p lim m v) : Digested w' p lim m v := h.below hb

theorem rangeAt_keeps {S : Nat → Prop} {W W' : World} {q o : Nat} {cs : List Value} (h : W.rangeAt q o cs) (hb : Keeps S W W') (hq : q < W.heap.size) (hS : ¬ S q) : W'.rangeAt q o cs := fun j v hv => (hb.cell (p := ⟨q, o + j, none⟩) hq hS).trans (h j v hv)

set_option maxHeartbeats 3200000 in
theorem again_in (av bv : Option Addr) (ca cb : Nat) (a b : List UInt8) (w : World) (ha : Bytes w (.slice av a.length ca) a) (hb : Bytes w (.slice bv b.length cb) b) (la : (a.length : Int) ≤ 5000) (lb : (b.length : Int) ≤ 5000) :
    Calls Try.prog 10 #[.slice av a.length ca, .slice bv b.length cb] w fun e w' => e = .returned (.bool true) ∧ Below w.heap.size w w' := by
  obtain ⟨i0, hi, hz0, hz1, hz2⟩ := info_parts info5
  have b1 : 0 + (u8s a).length ≤ maxLen := by simp only [u8s_length]; unfold maxLen; omega
  have b2 : (0 + (u8s a).length) * 1 ≤ 140737488355328 := by simp only [u8s_length]; omega
  have b3 : a.length + (u8s b).length ≤ maxLen := by simp only [u8s_length]; unfold maxLen; omega
  have b4 : (a.length + (u8s b).length) * 1 ≤ 140737488355328 := by simp only [u8s_length]; omega
  have B1 := Lib.hid b1
  have B2 := Lib.hid b2
  have B3 := Lib.hid b3
  have B4 := Lib.hid b4
  have HA := Lib.hid ha
  have HB := Lib.hid hb
  have LA : Hid (a.length ≤ 5000) := by show _ ≤ _; omega
  have LB : Hid (b.length ≤ 5000) := by show _ ≤ _; omega
  clear b1 b2 b3 b4 ha hb
  go_enter Try.func10, Try.ntmps10
  go_wp2_with fail
  refine (alive_any _).mono ?_
  rintro e w1 ⟨rfl, hb1⟩
  have BB1 := Lib.hid hb1
  clear hb1
  go_wp2_with fail
  refine (new_dig w1).mono ?_
  rintro e w2 ⟨rfl, hd2, hb2⟩
  have BB2 : Hid (Below w.heap.size w w2) := BB1.out.trans (hb2.mono BB1.out.size)
  have HP : Hid (w.heap.size ≤ w1.heap.size) := BB1.out.size
  have HD2 := Lib.hid hd2
  clear hd2 hb2 BB1
  generalize w1.heap.size = p at *
  go_wp2_with fail
  refine (add_dig HD2.out _ a (Bytes.below HA.out BB2.out) (by simp) (by have := LA.out; omega)).mono ?_
  rintro e w3 ⟨rfl, v3, hd3, hk3⟩
  rw [List.nil_append] at hd3
  have BB3 : Hid (Below w.heap.size w w3) := BB2.out.trans (hk3.below_of BB2.out.size (fun k hk h => by
    have := HP.out
    rcases h with rfl | h
    · omega
    · cases h))
  have HD3 := Lib.hid hd3
  have HV3 : Hid (w.heap.size ≤ w2.heap.size) := BB2.out.size
  clear hd3 hk3 HD2 BB2
  go_wp2_with fail
  refine (sum_digL HD3.out (by have := LA.out; omega)).mono ?_
  rintro e w4 ⟨rfl, hb4⟩
  have HD4 := Lib.hid (HD3.out.below hb4)
  have BB4 : Hid (Below w.heap.size w w4) := BB3.out.trans (hb4.mono BB3.out.size)
  clear hb4 HD3 BB3
  have HDGA := Lib.hid (isDigL a)
  have HIA : Hid ((Try.prog.info? 30).map (·.size) = some (shaL a).length) := by show _ = _; rw [shaL_len]; exact info30
  have HOA := Lib.hid (shaL_one a)
  have HSA : Hid ((shaL a).toArray.size = 32) := by show _ = _; rw [List.size_toArray, shaL_len]
  have SA := Lib.hid (fun w h => sha_anyL (.slice av a.length ca) a w h (by have := LA.out; omega))
  have SUMA := Lib.hid (fun (w : World) v lim (h : Digested w p lim a v) => sum_digL h (by have := LA.out; omega))
  have HDGB := Lib.hid (isDigL (a ++ b))
  have HIB : Hid ((Try.prog.info? 30).map (·.size) = some (shaL (a ++ b)).length) := by show _ = _; rw [shaL_len]; exact info30
  have HOB := Lib.hid (shaL_one (a ++ b))
  have HSB : Hid ((shaL (a ++ b)).toArray.size = 32) := by show _ = _; rw [List.size_toArray, shaL_len]
  have HABL : Hid ((a ++ b).length = a.length + b.length) := List.length_append
  have HABI : Hid (((a ++ b).length : Int) = (a.length : Int) + (b.length : Int)) := by show _ = _; rw [List.length_append]; rfl
  have SB := Lib.hid (fun v w h => sha_anyL v (a ++ b) w h (by have := LA.out; have := LB.out; rw [List.length_append]; omega))
  have SUMB := Lib.hid (fun (w : World) v lim (h : Digested w p lim (a ++ b) v) => sum_digL h (by have := LA.out; have := LB.out; rw [List.length_append]; omega))
  generalize shaL a = csA at *
  generalize shaL (a ++ b) = csB at *
  go_wp2_with (refine wpList_store_row_to rfl 30 _ _ rfl w4.heap.size csA.toArray rfl rfl 30 _ (heap_alloc_new w4 _) HIA.out (by rw [HSA.out]; rfl) HOA.out ?_)
  intro w5 hr hbx
  have hx : Below w4.heap.size w4 w5 := ((Below.refl _ _).alloc (Nat.le_refl _) _).trans (hbx _ (Nat.le_refl _))
  have HR1 : Hid (w5.rangeAt w4.heap.size 0 csA) := range_new hr
  have hq1 : w4.heap.size < w5.heap.size := (Array.getElem?_eq_some_iff.1 hr).1
  have HD5 := Lib.hid (HD4.out.below hx)
  have BB5 : Hid (Below w.heap.size w w5) := BB4.out.trans (hx.mono BB4.out.size)
  have HP1 : Hid (p < w4.heap.size ∧ ∀ k, v3.ownBlock = some k → k < w4.heap.size) := ⟨HD4.out.lt, HD4.out.vlt⟩
  clear hr hbx hx HD4 BB4
  generalize w4.heap.size = q1 at *
  go_wp2_with fail
  refine (SUMA.out _ _ _ HD5.out).mono ?_
  rintro e w6 ⟨rfl, hb6⟩
  have HD6 := Lib.hid (HD5.out.below hb6)
  have BB6 : Hid (Below w.heap.size w w6) := BB5.out.trans (hb6.mono BB5.out.size)
  have HR1b : Hid (w6.rangeAt q1 0 csA) := rangeAt_below HR1.out hb6 hq1
  have hq1b : q1 < w6.heap.size := Nat.lt_of_lt_of_le hq1 hb6.size
  clear hb6 HD5 BB5 HR1 hq1
  go_wp2_with (refine wpList_store_row_to rfl 30 _ _ rfl w6.heap.size csA.toArray rfl rfl 30 _ (heap_alloc_new w6 _) HIA.out (by rw [HSA.out]; rfl) HOA.out ?_)
  intro w7 hr hbx
  have hx : Below w6.heap.size w6 w7 := ((Below.refl _ _).alloc (Nat.le_refl _) _).trans (hbx _ (Nat.le_refl _))
  have HR2 : Hid (w7.rangeAt w6.heap.size 0 csA) := range_new hr
  have hq2 : w6.heap.size < w7.heap.size := (Array.getElem?_eq_some_iff.1 hr).1
  have HR1 : Hid (w7.rangeAt q1 0 csA) := rangeAt_below HR1b.out hx hq1b
  have HD7 := Lib.hid (HD6.out.below hx)
  have BB7 : Hid (Below w.heap.size w w7) := BB6.out.trans (hx.mono BB6.out.size)
  have HW7b : Hid (w.heap.size ≤ w7.heap.size) := BB7.out.size
  clear hr hbx hx HD6 BB6 HR1b
  generalize w6.heap.size = q2 at *
  go_wp2_with fail
  refine (add_dig HD7.out _ b (Bytes.below HB.out BB7.out) (by have := LA.out; omega) (by have := LB.out; omega)).mono ?_
  rintro e w8 ⟨rfl, v8, hd8, hk8⟩
  have HD8 := Lib.hid hd8
  have hn1 : ¬ (q1 = p ∨ v3.ownBlock = some q1) := fun h => by
    have := HP1.out
    rcases h with h | h
    · omega
    · have := this.2 _ h; omega
  have hn2 : ¬ (q2 = p ∨ v3.ownBlock = some q2) := fun h => by
    have := HP1.out
    rcases h with h | h
    · omega
    · have := this.2 _ h; omega
  have HR1c : Hid (w8.rangeAt q1 0 csA) := rangeAt_keeps HR1.out hk8 (by omega) hn1
  have HR2c : Hid (w8.rangeAt q2 0 csA) := rangeAt_keeps HR2.out hk8 hq2 hn2
  have hq1c : q1 < w8.heap.size := by have := hk8.size; omega
  have hq2c : q2 < w8.heap.size := by have := hk8.size; omega
  have HW7 : Hid (q2 < w7.heap.size) := hq2
  have HQ12 : Hid (q1 < q2) := hq1b
  have BB8 : Hid (Below w.heap.size w w8) := BB7.out.trans (hk8.below_of BB7.out.size (fun k hk h => by
    have := HP.out
    rcases h with rfl | h
    · omega
    · have := HD7.out.vlow _ h; have := HV3.out; omega))
  clear hd8 hk8 HD7 BB7 HR1 HR2 hn1 hn2 hq2 hq1b
  go_wp2_with fail
  refine (SUMB.out _ _ _ HD8.out).mono ?_
  rintro e w9 ⟨rfl, hb9⟩
  have HD9 := Lib.hid (HD8.out.below hb9)
  have BB9 : Hid (Below w.heap.size w w9) := BB8.out.trans (hb9.mono BB8.out.size)
  have HR1d : Hid (w9.rangeAt q1 0 csA) := rangeAt_below HR1c.out hb9 hq1c
  have HR2d : Hid (w9.rangeAt q2 0 csA) := rangeAt_below HR2c.out hb9 hq2c
  have hq1d : q1 < w9.heap.size := Nat.lt_of_lt_of_le hq1c hb9.size
  have hq2d : q2 < w9.heap.size := Nat.lt_of_lt_of_le hq2c hb9.size
  clear hb9 HD8 BB8 HR1c HR2c hq1c hq2c
  go_wp2_with (refine wpList_store_row_to rfl 30 _ _ rfl w9.heap.size csB.toArray rfl rfl 30 _ (heap_alloc_new w9 _) HIB.out (by rw [HSB.out]; rfl) HOB.out ?_)
  intro wa hr hbx
  have hx : Below w9.heap.size w9 wa := ((Below.refl _ _).alloc (Nat.le_refl _) _).trans (hbx _ (Nat.le_refl _))
  have HR3 : Hid (wa.rangeAt w9.heap.size 0 csB) := range_new hr
  have hq3 : w9.heap.size < wa.heap.size := (Array.getElem?_eq_some_iff.1 hr).1
  have HR1 : Hid (wa.rangeAt q1 0 csA) := rangeAt_below HR1d.out hx hq1d
  have HR2 : Hid (wa.rangeAt q2 0 csA) := rangeAt_below HR2d.out hx hq2d
  have HDa := Lib.hid (HD9.out.below hx)
  have BBa : Hid (Below w.heap.size w wa) := BB9.out.trans (hx.mono BB9.out.size)
  have HP3 : Hid (p < w9.heap.size ∧ ∀ k, v8.ownBlock = some k → k < w9.heap.size) := ⟨HD9.out.lt, HD9.out.vlt⟩
  have HV8 : Hid (∀ k, v8.ownBlock = some k → w7.heap.size ≤ k) := HD9.out.vlow
  clear hr hbx hx HD9 BB9 HR1d HR2d
  generalize w9.heap.size = q3 at *
  go_wp2_with fail
  refine (add_dig HDa.out (.slice none 0 0) [] (.inl ⟨rfl, rfl⟩) (by have := HABL.out; have := LA.out; have := LB.out; omega) (by simp)).mono ?_
  rintro e wb ⟨rfl, vb, hdb, hkb⟩
  rw [List.append_nil] at hdb
  have HDb := Lib.hid hdb
  have hn : ∀ q, q1 ≤ q → q < w7.heap.size → ¬ (q = p ∨ v8.ownBlock = some q) := fun q h1 h2 h => by
    have := HP1.out
    rcases h with h | h
    · omega
    · have := HV8.out _ h; omega
  have hn3 : ¬ (q3 = p ∨ v8.ownBlock = some q3) := fun h => by
    have := HP3.out
    rcases h with h | h
    · omega
    · have := this.2 _ h; omega
  have HR1e : Hid (wb.rangeAt q1 0 csA) := rangeAt_keeps HR1.out hkb (by omega) (hn q1 (Nat.le_refl _) (by have := HW7.out; have := HQ12.out; omega))
  have HR2e : Hid (wb.rangeAt q2 0 csA) := rangeAt_keeps HR2.out hkb (by omega) (hn q2 (by have := HQ12.out; omega) HW7.out)
  have HR3e : Hid (wb.rangeAt q3 0 csB) := rangeAt_keeps HR3.out hkb hq3 hn3
  have BBb : Hid (Below w.heap.size w wb) := BBa.out.trans (hkb.below_of BBa.out.size (fun k hk h => by
    have := HP.out
    rcases h with rfl | h
    · omega
    · have := HV8.out _ h; have := HW7b.out; omega))
  have hsz : wa.heap.size ≤ wb.heap.size := hkb.size
  have hqa : q1 < wb.heap.size ∧ q2 < wb.heap.size ∧ q3 < wb.heap.size := ⟨by omega, by omega, by omega⟩
  have HQA := Lib.hid hqa
  clear hdb hkb hn hn3 HDa BBa HR1 HR2 HR3 hq3 hsz hqa hq1d hq2d
  go_wp2_with (at_builtin; refine wpList_append_row rfl (.const (.slice none 0 0)) (.tmp 42) 22 rfl wb.heap.size 5 i0 (.int .u8 0) 1 Try.underlying22 hi hz0 hz1 hz2 rfl (.slice none 0 0) 0 [] rfl (World.ownsRow_nil _ _ _ _) _ (u8s a) rfl (Bytes.below HA.out BBb.out) (u8s_one a) B1.out B2.out (Nat.le_refl _) ?_)
  intro va wc hownc hgrowc hnilc
  have HBc : Hid (Below wb.heap.size wb wc) := (Below.refl _ _).grown hgrowc (Nat.le_refl _) (by simp [Value.ownBlock])
  have HOc : Hid (wc.ownsRow wb.heap.size 5 1 va a.length (u8s a)) := by show wc.ownsRow _ _ _ _ _ _; simpa using hownc
  have hlc : ∀ k, va.ownBlock = some k → wb.heap.size ≤ k := by
    intro k hk
    rcases owns_shape hownc with ⟨h', _⟩ | ⟨g, cap, h', _, _, hg, _⟩
    · rw [h'] at hk; cases hk
    · rw [h'] at hk; simp [Value.ownBlock] at hk; omega
  have HLc := Lib.hid hlc
  clear hownc hgrowc hnilc hlc
  go_wp2_with (at_builtin; refine wpList_append_row rfl (.tmp 43) (.tmp 44) 22 rfl wb.heap.size 5 i0 (.int .u8 0) 1 Try.underlying22 hi hz0 hz1 hz2 rfl va a.length (u8s a) rfl HOc.out _ (u8s b) rfl (Bytes.below HB.out (BBb.out.trans (HBc.out.mono BBb.out.size))) (u8s_one b) B3.out B4.out HBc.out.size ?_)
  intro vd wd hownd hgrowd hnild
  have HBd : Hid (Below wb.heap.size wb wd) := HBc.out.grown hgrowd HBc.out.size HLc.out
  have hshd : ∃ ad cd, vd = .slice ad (a.length + b.length) cd := by
    have hownd2 : wd.ownsRow wb.heap.size 5 1 vd (a.length + b.length) (u8s a ++ u8s b) := by simpa using hownd
    rcases owns_shape hownd2 with ⟨h, h0⟩ | ⟨g, cap, h, _⟩
    · exact ⟨none, 0, by rw [h, h0]⟩
    · exact ⟨_, cap, h⟩
  have HALL : Hid (Bytes wd vd (a ++ b)) := by
    show RowAt _ _ _
    rw [u8s_append]
    exact RowAt.of_owns hownd
  obtain ⟨ad, cd, rfl⟩ := hshd
  have BBd : Hid (Below w.heap.size w wd) := BBb.out.trans (HBd.out.mono BBb.out.size)
  have HDd := Lib.hid (HDb.out.below HBd.out)
  have HR1f : Hid (wd.rangeAt q1 0 csA) := rangeAt_below HR1e.out HBd.out HQA.out.1
  have HR2f : Hid (wd.rangeAt q2 0 csA) := rangeAt_below HR2e.out HBd.out HQA.out.2.1
  have HR3f : Hid (wd.rangeAt q3 0 csB) := rangeAt_below HR3e.out HBd.out HQA.out.2.2
  have HQD : Hid (q1 < wd.heap.size ∧ q2 < wd.heap.size ∧ q3 < wd.heap.size) := by have := HQA.out; have := HBd.out.size; exact ⟨by omega, by omega, by omega⟩
  clear hownd hgrowd hnild HOc HBc HLc HDb HR1e HR2e HR3e HBd BBb HQA
  have HBW : Hid (Below wd.heap.size wd wd) := Below.refl _ _
  go_wp2_with fail
  have hu30 := under30
  have hi30 := HIA.out
  have hi30b := HIB.out
  have hdigA := HDGA.out
  have hdigB := HDGB.out
  refine wp_region_noPanic ?_
  refine wp_region_ord [0, 1, 2, 3, 4, 5, 6, 7, 8, 9, 10, 11, 12, 13, 14, 15, 16, 18, 17, 19, 20, 21, 22, 24, 25, 23, 26, 27, 28] (fun W => W.rangeAt q1 0 csA ∧ W.rangeAt q2 0 csA ∧ W.rangeAt q3 0 csB ∧ Below wd.heap.size wd W) (by kernel_rfl) (by kernel_rfl) rfl (by kernel_rfl) (fun _ _ _ _ _ h => h) ⟨HR1f.out, HR2f.out, HR3f.out, HBW.out.drew⟩ ?_
  repeat (first
    | (refine held_row rfl (by rfl) (by rfl) 30 _ rfl q1 0 rfl csA (.array 32 5) (fun W h => h.1) hu30 rfl hi30 ?_; (try simp only [Act.put, List.setIfInBounds_toArray, List.set_cons_zero, List.set_cons_succ]))
    | (refine held_row rfl (by rfl) (by rfl) 30 _ rfl q2 0 rfl csA (.array 32 5) (fun W h => h.2.1) hu30 rfl hi30 ?_; (try simp only [Act.put, List.setIfInBounds_toArray, List.set_cons_zero, List.set_cons_succ]))
    | (refine held_row rfl (by rfl) (by rfl) 30 _ rfl q3 0 rfl csB (.array 32 5) (fun W h => h.2.2.1) hu30 rfl hi30b ?_; (try simp only [Act.put, List.setIfInBounds_toArray, List.set_cons_zero, List.set_cons_succ]))
    | (apply held_run rfl (by rfl) (by rfl); (intro w hSw; go_simp; with_reducible rfl); (try simp only [Act.put, List.setIfInBounds_toArray, List.set_cons_zero, List.set_cons_succ])))
  refine held_step rfl (by rfl) (by rfl) (fun K hK => ?_)
  go_simp
  refine (SA.out _ (HA.out.below (BBd.out.trans (HBW.out.drew.mono BBd.out.size)))).mono ?_
  rintro e w' ⟨rfl, hb⟩
  have hb2 : Below wd.heap.size wd w' := HBW.out.drew.trans (hb.mono HBW.out.size)
  replace HBW := Lib.hid hb2
  clear hb hb2
  refine hK.out _ _ ⟨rangeAt_below HR1f.out HBW.out HQD.out.1, rangeAt_below HR2f.out HBW.out HQD.out.2.1, rangeAt_below HR3f.out HBW.out HQD.out.2.2, HBW.out⟩ (fun _ => ?_)
  clear hK K
  (try simp only [Act.put, List.setIfInBounds_toArray, List.set_cons_zero, List.set_cons_succ])
  repeat (first
    | (refine held_row rfl (by rfl) (by rfl) 30 _ rfl q1 0 rfl csA (.array 32 5) (fun W h => h.1) hu30 rfl hi30 ?_; (try simp only [Act.put, List.setIfInBounds_toArray, List.set_cons_zero, List.set_cons_succ]))
    | (refine held_row rfl (by rfl) (by rfl) 30 _ rfl q2 0 rfl csA (.array 32 5) (fun W h => h.2.1) hu30 rfl hi30 ?_; (try simp only [Act.put, List.setIfInBounds_toArray, List.set_cons_zero, List.set_cons_succ]))
    | (refine held_row rfl (by rfl) (by rfl) 30 _ rfl q3 0 rfl csB (.array 32 5) (fun W h => h.2.2.1) hu30 rfl hi30b ?_; (try simp only [Act.put, List.setIfInBounds_toArray, List.set_cons_zero, List.set_cons_succ]))
    | (apply held_run rfl (by rfl) (by rfl); (intro w hSw; go_simp; with_reducible rfl); (try simp only [Act.put, List.setIfInBounds_toArray, List.set_cons_zero, List.set_cons_succ])))
  refine held_step rfl (by rfl) (by rfl) (fun K hK => ?_)
  go_simp
  refine (SB.out _ _ (HALL.out.below HBW.out)).mono ?_
  rintro e w' ⟨rfl, hb⟩
  have hb2 : Below wd.heap.size wd w' := HBW.out.trans (hb.mono HBW.out.size)
  replace HBW := Lib.hid hb2
  clear hb hb2
  refine hK.out _ _ ⟨rangeAt_below HR1f.out HBW.out HQD.out.1, rangeAt_below HR2f.out HBW.out HQD.out.2.1, rangeAt_below HR3f.out HBW.out HQD.out.2.2, HBW.out⟩ (fun _ => ?_)
  clear hK K
  (try simp only [Act.put, List.setIfInBounds_toArray, List.set_cons_zero, List.set_cons_succ])
  repeat (first
    | (refine held_row rfl (by rfl) (by rfl) 30 _ rfl q1 0 rfl csA (.array 32 5) (fun W h => h.1) hu30 rfl hi30 ?_; (try simp only [Act.put, List.setIfInBounds_toArray, List.set_cons_zero, List.set_cons_succ]))
    | (refine held_row rfl (by rfl) (by rfl) 30 _ rfl q2 0 rfl csA (.array 32 5) (fun W h => h.2.1) hu30 rfl hi30 ?_; (try simp only [Act.put, List.setIfInBounds_toArray, List.set_cons_zero, List.set_cons_succ]))
    | (refine held_row rfl (by rfl) (by rfl) 30 _ rfl q3 0 rfl csB (.array 32 5) (fun W h => h.2.2.1) hu30 rfl hi30b ?_; (try simp only [Act.put, List.setIfInBounds_toArray, List.set_cons_zero, List.set_cons_succ]))
    | (apply held_run rfl (by rfl) (by rfl); (intro w hSw; go_simp; with_reducible rfl); (try simp only [Act.put, List.setIfInBounds_toArray, List.set_cons_zero, List.set_cons_succ])))
  refine held_step rfl (by rfl) (by rfl) (fun K hK => ?_)
  go_simp
  refine (SUMB.out _ _ _ (HDd.out.below HBW.out)).mono ?_
  rintro e w' ⟨rfl, hb⟩
  have hb2 : Below wd.heap.size wd w' := HBW.out.trans (hb.mono HBW.out.size)
  replace HBW := Lib.hid hb2
  clear hb hb2
  refine hK.out _ _ ⟨rangeAt_below HR1f.out HBW.out HQD.out.1, rangeAt_below HR2f.out HBW.out HQD.out.2.1, rangeAt_below HR3f.out HBW.out HQD.out.2.2, HBW.out⟩ (fun _ => ?_)
  clear hK K
  (try simp only [Act.put, List.setIfInBounds_toArray, List.set_cons_zero, List.set_cons_succ])
  repeat (first
    | (refine held_row rfl (by rfl) (by rfl) 30 _ rfl q1 0 rfl csA (.array 32 5) (fun W h => h.1) hu30 rfl hi30 ?_; (try simp only [Act.put, List.setIfInBounds_toArray, List.set_cons_zero, List.set_cons_succ]))
    | (refine held_row rfl (by rfl) (by rfl) 30 _ rfl q2 0 rfl csA (.array 32 5) (fun W h => h.2.1) hu30 rfl hi30 ?_; (try simp only [Act.put, List.setIfInBounds_toArray, List.set_cons_zero, List.set_cons_succ]))
    | (refine held_row rfl (by rfl) (by rfl) 30 _ rfl q3 0 rfl csB (.array 32 5) (fun W h => h.2.2.1) hu30 rfl hi30b ?_; (try simp only [Act.put, List.setIfInBounds_toArray, List.set_cons_zero, List.set_cons_succ]))
    | (apply held_run rfl (by rfl) (by rfl); (intro w hSw; go_simp; with_reducible rfl); (try simp only [Act.put, List.setIfInBounds_toArray, List.set_cons_zero, List.set_cons_succ])))
  refine held_step rfl (by rfl) (by rfl) (fun K hK => ?_)
  go_simp
  refine (size_dig (HDd.out.below HBW.out)).mono ?_
  rw [HABI.out]
  rintro e w' ⟨rfl, rfl⟩
  refine hK.out _ _ ⟨rangeAt_below HR1f.out HBW.out HQD.out.1, rangeAt_below HR2f.out HBW.out HQD.out.2.1, rangeAt_below HR3f.out HBW.out HQD.out.2.2, HBW.out⟩ (fun _ => ?_)
  clear hK K
  (try simp only [Act.put, List.setIfInBounds_toArray, List.set_cons_zero, List.set_cons_succ])
  repeat (apply held_run rfl (by rfl) (by rfl); (intro w hSw; go_simp; with_reducible rfl); (try simp only [Act.put, List.setIfInBounds_toArray, List.set_cons_zero, List.set_cons_succ]))
  refine held_nil (NoPanic.normal ?_)
  go_wp2
  go_ret
  exact ⟨rfl, BBd.out.trans (HBW.out.mono BBd.out.size)⟩

set_option maxHeartbeats 400000 in
theorem again_out (av bv : Option Addr) (ca cb la lb : Nat) (w : World) (h : 5000 < (la : Int) ∨ ((la : Int) ≤ 5000 ∧ 5000 < (lb : Int))) :
    Calls Try.prog 10 #[.slice av la ca, .slice bv lb cb] w fun e w' => e = .returned (.bool true) ∧ Below w.heap.size w w' := by
  rcases h with h | ⟨h1, h⟩
  all_goals
    go_enter Try.func10, Try.ntmps10
    go_wp2_with fail
    refine (alive_any _).mono ?_
    rintro e w1 ⟨rfl, hb1⟩
    go_wp2_with fail
    go_ret
    exact ⟨rfl, hb1⟩
theorem again_walk (a0 : Option Addr) (len0 cap0 : Nat) (z0 : List Int) (a1 : Option Addr) (len1 cap1 : Nat) (z1 : List Int) (w : World)
    (w0 : RowIn .u8 w a0 len0 cap0 z0) (w1 : RowIn .u8 w a1 len1 cap1 z1) :
    Calls Try.prog 10 #[.slice a0 len0 cap0, .slice a1 len1 cap1] w fun e w' => e = .returned (.bool true) ∧ Below w.heap.size w w' := by
  obtain ⟨a, rfl, _, _, ha⟩ := bytes_of_row w0
  obtain ⟨b, rfl, _, _, hb⟩ := bytes_of_row w1
  by_cases h1 : (a.length : Int) ≤ 5000
  · by_cases h2 : (b.length : Int) ≤ 5000
    · exact again_in _ _ _ _ a b w ha hb h1 h2
    · exact again_out _ _ _ _ _ _ w (.inr ⟨h1, by omega⟩)
  · exact again_out _ _ _ _ _ _ w (.inl (by omega))
end Go.Proofs.Ytgeagbhfpjhonaa
