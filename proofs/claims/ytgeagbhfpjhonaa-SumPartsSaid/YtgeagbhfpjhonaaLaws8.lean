/- SumParts: the walk. -/
import Derived.Test.YtgeagbhfpjhonaaLaws5
import Derived.Test.YtgeagbhfpjhonaaLentW
import Derived.Test.YtgeagbhfpjhonaaDig
import Derived.Test.YtgeagbhfpjhonaaText
namespace Go.Proofs.Ytgeagbhfpjhonaa
open Go.RowKit

set_option maxHeartbeats 800000 in
theorem neq30 (ev : Operand → Value) (x y : Operand) (W : World) (dst : Option Tmp) (rt : TypeId) (pos : String) (after : Array Edge) (guard : Option (Nat × Bool)) (h : IsDig (ev x)) (he : ev x = ev y) :
    (execOp ev ⟨dst, .binOp .neq 30 x y 30, rt, pos, after, guard⟩).run Try.prog W = .ok (.value (.bool false)) W := by
  obtain ⟨L, hv, hl⟩ := h
  have h10 : (Op.equalIn 10000 30 (.agg (L.map b8).toArray) (.agg (L.map b8).toArray)).run Try.prog W = .ok true W := run_equalIn_dig 9998 L hl W
  unfold execOp
  simp only [← he, hv]
  generalize (L.map b8).toArray = D at *
  go_simp
attribute [local go_sem ↓] eql30 neq30

/-- How much the first k parts weigh in the law's own count. -/
def wt : List (List UInt8) → Nat → Nat
  | [], _ => 0
  | _, 0 => 0
  | b :: l, k + 1 => b.length + 1 + wt l k
def cat (l : List (List UInt8)) (k : Nat) : List UInt8 := (l.take k).flatten
theorem wt_zero (l : List (List UInt8)) : wt l 0 = 0 := by cases l <;> rfl
theorem wt_succ : ∀ (l : List (List UInt8)) (k : Nat) (h : k < l.length), wt l (k + 1) = wt l k + l[k].length + 1
  | [], k, h => by simp at h
  | b :: l, 0, _ => by simp [wt, wt_zero]
  | b :: l, k + 1, h => by
    have := wt_succ l k (by simpa using h)
    simp only [wt, this, List.getElem_cons_succ]
    omega
theorem cat_succ (l : List (List UInt8)) (k : Nat) (h : k < l.length) : cat l (k + 1) = cat l k ++ l[k] := by
  unfold cat
  rw [List.take_succ_eq_append_getElem h, List.flatten_append]
  simp
theorem cat_length : ∀ (l : List (List UInt8)) (k : Nat), k ≤ l.length → (cat l k).length + k = wt l k
  | l, 0, _ => by simp [cat, wt_zero]
  | l, k + 1, h => by
    rw [cat_succ l k h, wt_succ l k h, List.length_append]
    have := cat_length l k (by omega)
    omega
theorem wt_mono (l : List (List UInt8)) : ∀ (j k : Nat), k + j ≤ l.length → wt l k ≤ wt l (k + j)
  | 0, k, _ => Nat.le_refl _
  | j + 1, k, h => by
    have := wt_mono l j k (by omega)
    rw [← Nat.add_assoc, wt_succ l (k + j) (by omega)]
    omega

theorem own_low {w : World} {base base' : Nat} {e : TypeId} {size : Nat} {v : Value} {n : Nat} {xs : List Value} (h : w.ownsRow base e size v n xs) (hb : base' ≤ base) : w.ownsRow base' e size v n xs := by
  refine ⟨h.1, h.2.imp id ?_⟩
  rintro ⟨g, cap, cur, h1, h2, h3⟩
  exact ⟨g, cap, cur, h1, Nat.le_trans hb h2, h3⟩

theorem lent_keeps {S : Nat → Prop} {w w' : World} {v : Value} {b : List UInt8} {g cap : Nat} (h : LentAt w v b g cap) (hb : Keeps S w w') (hg : ¬ S g) : LentAt w' v b g cap := by
  obtain ⟨rfl, hc, hcell⟩ := h
  refine ⟨rfl, hc, fun i u hi => ?_⟩
  have h1 := hcell i u hi
  exact (hb.cell (p := ⟨g, i, none⟩) (World.block_lt_of_cell? _ _ h1) hg).trans h1

/-- The law behind the first loop and its tests. -/
def Small (bss : List (List UInt8)) : Prop := wt bss bss.length ≤ 5000 ∧ bss.length ≤ 40

set_option maxRecDepth 100000 in
set_option maxHeartbeats 6400000 in
theorem parts_in (pb po pc : Nat) (bv : Option Addr) (cb : Nat) (bss : List (List UInt8)) (o : List UInt8) (w : World)
    (hp : RowsW w (.slice (some ⟨pb, po, none⟩) bss.length pc) bss) (ho : Bytes w (.slice bv o.length cb) o) (lo : (o.length : Int) ≤ 5000) (hsm : Small bss) :
    Calls Try.prog 8 #[.slice (some ⟨pb, po, none⟩) bss.length pc, .slice bv o.length cb] w fun e w' => e = .returned (.bool true) ∧ Below w.heap.size w w' := by
  obtain ⟨i0, hi, hz0, hz1, hz2⟩ := info_parts info5
  have hpart : ∀ i (h : i < bss.length), ∃ a c, w.cell? ⟨pb, po + i, none⟩ = some (.slice a bss[i].length c) ∧ BytesW w (.slice a bss[i].length c) bss[i] := by
    rcases hp with ⟨h, _⟩ | ⟨b, off, cap, h, h1, h2, h3⟩
    · cases h
    · simp only [Value.slice.injEq, Option.some.injEq, Addr.mk.injEq] at h
      obtain ⟨⟨rfl, rfl, _⟩, _, rfl⟩ := h
      intro i hi
      obtain ⟨u, hc, hu, _⟩ := h3 i hi
      obtain ⟨a, c, rfl, _⟩ := hu.shape
      exact ⟨a, c, hc, hu⟩
  have hpc : bss.length ≤ pc := by
    rcases hp with ⟨h, _⟩ | ⟨b, off, cap, h, h1, h2, h3⟩
    · cases h
    · cases h; exact h1
  have HPT := Lib.hid hpart
  have HO := Lib.hid ho
  have HSM := Lib.hid hsm
  have np1 : (bss.length : Int) ≤ 40 := by have := hsm.2; omega
  have HW : Hid (∀ k, k ≤ bss.length → wt bss k ≤ 5000) := fun k hk => by
    have := wt_mono bss (bss.length - k) k (by omega)
    rw [show k + (bss.length - k) = bss.length by omega] at this
    have := hsm.1
    omega
  clear hp hpart ho hsm
  go_enter Try.func8, Try.ntmps8
  go_wp2_with fail
  refine (alive_any _).mono ?_
  rintro e w1 ⟨rfl, hb1⟩
  have BB1 := Lib.hid hb1
  clear hb1
  go_wp2_with fail
  go_loop [6, 7] (fun n i => ∃ k m : Nat, m = wt bss k ∧ k ≤ bss.length ∧ i = .int .i64 k ∧ n = .int .i64 m) (fun _ i => bss.length - (intOf i).toNat)
  case atStart => exact ⟨0, 0, (wt_zero _).symm, Nat.zero_le _, rfl, rfl⟩
  case round =>
    obtain ⟨k, m, hm, hk, rfl, rfl⟩ := hrel
    have hm5 : m ≤ 5000 := by rw [hm]; exact HW.out k hk
    have m5 : (m : Int) ≤ 5000 := by omega
    by_cases hlt : k < bss.length
    · obtain ⟨a, c, hc, hu⟩ := HPT.out k hlt
      have hc1 := (BB1.out.cell (p := ⟨pb, po + k, none⟩) (World.block_lt_of_cell? _ _ hc)).trans hc
      have hs := wt_succ bss k hlt
      have hw5 := HW.out (k + 1) (by omega)
      have hl : bss[k].length ≤ 5000 := by omega
      rw [← hm] at hs
      have HS := Lib.hid hs
      clear hm hs hu hc hw5
      generalize bss[k].length = q at *
      have k0 : (0 : Int) ≤ (k : Int) := by omega
      have k1 : (k : Int) < (bss.length : Int) := by omega
      have q1 : (q : Int) ≤ 5000 := by omega
      go_wp2_with fail
      go_round
      case rel => exact ⟨k + 1, m + q + 1, by have := HS.out; omega, by omega, by go_num, by go_num⟩
      case measure => simp [intOf]; omega
    · have hke : k = bss.length := by omega
      subst hke
      clear hm hlt
      go_wp2_with fail
      refine (new_dig w1).mono ?_
      rintro e w2 ⟨rfl, hd2, hb2⟩
      have BB2 : Hid (Below w.heap.size w w2) := BB1.out.trans (hb2.mono BB1.out.size)
      have HD2 := Lib.hid hd2
      have HPW : Hid (w.heap.size ≤ w1.heap.size) := BB1.out.size
      have hpl : w1.heap.size < w2.heap.size := hd2.lt
      clear hd2 hb2 BB1
      generalize w1.heap.size = p at *
      go_wp2_with fail
      refine (new_dig w2).mono ?_
      rintro e w3 ⟨rfl, hd3, hb3⟩
      have BB3 : Hid (Below w.heap.size w w3) := BB2.out.trans (hb3.mono BB2.out.size)
      have HD3 := Lib.hid hd3
      have HD3h := Lib.hid (HD2.out.below hb3)
      have HPW2 : Hid (w.heap.size ≤ w2.heap.size) := BB2.out.size
      clear hd3 hb3 BB2 HD2
      generalize w2.heap.size = p2 at *
      go_wp2_with fail
      refine (add_dig HD3.out _ o (RowAt.below HO.out BB3.out (Nat.le_refl _)) (by simp) (by omega)).mono ?_
      rintro e w4 ⟨rfl, vg, hdg, hkg⟩
      rw [List.nil_append] at hdg
      have HG4 : Hid (Digested w4 p2 w.heap.size o vg) := ⟨hdg.hash, own_low hdg.own BB3.out.size, Nat.le_trans BB3.out.size hdg.low, hdg.none⟩
      have HH4 : Hid (Digested w4 p w.heap.size (cat bss 0) (.slice none 0 0)) := by
        have h := HD3h.out.kept hkg (fun h => by
          rcases h with h | h
          · omega
          · cases h) (fun k hk => by cases hk)
        exact ⟨h.hash, own_low h.own HPW.out, Nat.le_trans BB3.out.size hkg.size, h.none⟩
      have BB4 : Hid (Below w.heap.size w w4) := BB3.out.trans (hkg.below_of BB3.out.size (fun k hk h => by
        have := HPW2.out
        rcases h with rfl | h
        · omega
        · cases h))
      have hpp : p ≠ p2 := by omega
      clear hdg hkg HD3 HD3h BB3 hpl
      go_wp2_with fail
      go_loopw [10, 11] (fun va i wr => ∃ k : Nat, k ≤ bss.length ∧ i = .int .i64 k ∧ wr.ownsRow w.heap.size 5 1 va (cat bss k).length (u8s (cat bss k)) ∧ Below w.heap.size w wr ∧
        Digested wr p2 w.heap.size o vg ∧ ∃ vh, Digested wr p w.heap.size (cat bss k) vh ∧ (∀ b, vg.ownBlock = some b → vh.ownBlock ≠ some b ∧ va.ownBlock ≠ some b) ∧ (∀ b, va.ownBlock = some b → vh.ownBlock ≠ some b)) (fun _ i _ => bss.length - (intOf i).toNat)
      case atStart => exact ⟨0, Nat.zero_le _, rfl, World.ownsRow_nil _ _ _ _, BB4.out, HG4.out, _, HH4.out, fun b _ => ⟨by simp [Value.ownBlock], by simp [Value.ownBlock]⟩, fun b _ => by simp [Value.ownBlock]⟩
      case round =>
        obtain ⟨k, hk, rfl, hoa, hbw, hdg, vh, hdh, hap1, hap2⟩ := hrel
        have HOA := Lib.hid hoa
        have HDG := Lib.hid hdg
        have HDH := Lib.hid hdh
        have HAP1 := Lib.hid hap1
        have HAP2 := Lib.hid hap2
        have HBW := Lib.hid hbw
        clear hoa hdg hdh hap1 hap2 hbw
        by_cases hlt : k < bss.length
        · obtain ⟨ap, cp, hc, hu⟩ := HPT.out k hlt
          have hcw : wr.cell? ⟨pb, po + k, none⟩ = some (.slice ap bss[k].length cp) := (HBW.out.cell (p := ⟨pb, po + k, none⟩) (World.block_lt_of_cell? _ _ hc)).trans hc
          have hul := cat_length bss (k + 1) hlt
          have hu5 := HW.out (k + 1) hlt
          have hcat := cat_succ bss k hlt
          rw [hcat, List.length_append] at hul
          have HC0 := Lib.hid hc
          have HU0 := Lib.hid hu
          have HCAT := Lib.hid hcat
          have hx5 : (cat bss k).length + bss[k].length ≤ 5000 := by omega
          clear hc hu hul hu5 hcat
          generalize hC2 : cat bss (k + 1) = c2 at *
          have HC2 := Lib.hid hC2
          clear hC2
          generalize cat bss k = c1 at *
          generalize bss[k] = x at *
          have k0 : (0 : Int) ≤ (k : Int) := by omega
          have k1 : (k : Int) < (bss.length : Int) := by omega
          go_wp2_with fail
          refine (lentW_any _ x _ (HU0.out.below HBW.out (Nat.le_refl _)) (by omega)).mono ?_
          rintro e w5 ⟨g, cap, rfl, hf5, hg5, hb5, hz5⟩
          have HF5 := Lib.hid hf5
          have HZ5 := Lib.hid hz5
          have hgl5 := hf5.lt
          have HDH5 := Lib.hid (HDH.out.below hb5)
          have HDG5 := Lib.hid (HDG.out.below hb5)
          have HOA5 := Lib.hid (owns_below HOA.out hb5)
          have HBW5 : Hid (Below w.heap.size w w5) := HBW.out.trans (hb5.mono HBW.out.size)
          have hgp : g ≠ p ∧ g ≠ p2 ∧ (∀ b, vh.ownBlock = some b → b ≠ g) ∧ (∀ b, vg.ownBlock = some b → b ≠ g) ∧ (∀ b, u10.ownBlock = some b → b ≠ g) := by
            refine ⟨?_, ?_, fun b hb => ?_, fun b hb => ?_, fun b hb => ?_⟩
            · have := HDH.out.lt; omega
            · have := HDG.out.lt; omega
            · have := HDH.out.vlt b hb; omega
            · have := HDG.out.vlt b hb; omega
            · rcases owns_shape HOA.out with ⟨h', _⟩ | ⟨g', cap', h', _, _, _, hl⟩
              · rw [h'] at hb; cases hb
              · rw [h'] at hb; simp [Value.ownBlock] at hb; omega
          have HGP := Lib.hid hgp
          have HWG : Hid (w.heap.size ≤ g) := Nat.le_trans HBW.out.size hg5
          clear hf5 hz5 hb5 hg5 hgp HDH HDG HOA HBW
          go_wp2_with fail
          refine (add_dig HDH5.out _ x HF5.out.bytes (by omega) (by omega)).mono ?_
          rintro e w6 ⟨rfl, vh2, hd6, hk6⟩
          have hpn : p2 ≠ p := fun h => hpp h.symm
          have hgb : ∀ b, vg.ownBlock = some b → ¬ (b = p ∨ vh.ownBlock = some b) := fun b hb h => by
            rcases h with h | h
            · exact own_ne HDH5.out.hash HDG5.out.own (by rw [hb, h])
            · exact (HAP1.out b hb).1 h
          have hab : ∀ b, u10.ownBlock = some b → ¬ (b = p ∨ vh.ownBlock = some b) := fun b hb h => by
            rcases h with h | h
            · exact own_ne HDH5.out.hash HOA5.out (by rw [hb, h])
            · exact HAP2.out b hb h
          have HDG6 : Hid (Digested w6 p2 w.heap.size o vg) := HDG5.out.kept hk6 (fun h => by
            rcases h with h | h
            · exact hpn h
            · exact own_ne HDG5.out.hash HDH5.out.own h) hgb
          have HOA6 : Hid (w6.ownsRow w.heap.size 5 1 u10 c1.length (u8s c1)) := owns_kept HOA5.out (fun b hb hl => hk6.block b hl (hab b hb))
          have hng : ¬ (g = p ∨ vh.ownBlock = some g) := fun h => by
            rcases h with h | h
            · exact HGP.out.1 h
            · exact HGP.out.2.2.1 g h rfl
          have HF6 : Hid (LentAt w6 (.slice (some ⟨g, 0, none⟩) x.length cap) x g cap) := lent_keeps HF5.out hk6 hng
          have HZ6 : Hid (∀ i, w6.frozen? ⟨g, i, none⟩ = false) := fun i => (hk6.frozen (p := ⟨g, i, none⟩) hgl5 hng).trans (HZ5.out i)
          have HBW6 : Hid (Below w.heap.size w w6) := HBW5.out.trans (hk6.below_of HBW5.out.size (fun b hb h => by
            have := HPW.out
            rcases h with rfl | h
            · omega
            · have := HDH5.out.vlow b h; omega))
          have HDH6 : Hid (Digested w6 p w5.heap.size (c1 ++ x) vh2) := hd6
          have HV5 : Hid (∀ b, vg.ownBlock = some b ∨ u10.ownBlock = some b → b < w5.heap.size) := fun b hb => by
            rcases hb with hb | hb
            · exact HDG5.out.vlt b hb
            · rcases owns_shape HOA5.out with ⟨h', _⟩ | ⟨g', cap', h', _, _, _, hl⟩
              · rw [h'] at hb; cases hb
              · rw [h'] at hb; simp [Value.ownBlock] at hb; omega
          have hgl6 : g < w6.heap.size := Nat.lt_of_lt_of_le hgl5 hk6.size
          have HW5 : Hid (w.heap.size ≤ w5.heap.size ∧ g < w5.heap.size) := ⟨HBW5.out.size, hgl5⟩
          have hcw6 : w6.cell? ⟨pb, po + k, none⟩ = some (.slice ap x.length cp) := (HBW6.out.cell (p := ⟨pb, po + k, none⟩) (World.block_lt_of_cell? _ _ HC0.out)).trans HC0.out
          clear hd6 hk6 hgb hab hng HF5 HZ5 HDH5 HDG5 HOA5 HBW5 hgl5 hcw
          go_wp2_with fail
          refine (staysW_any _ _ x g cap _ HF6.out (HU0.out.below HBW6.out (Nat.le_refl _)) (by omega)).mono ?_
          rintro e w7 ⟨rfl, rfl⟩
          go_wp2_with fail
          go_loopw [13] (fun i wq => ∃ j : Nat, j ≤ x.length ∧ i = .int .i64 j ∧ Keeps (fun b => b = g) w6 wq ∧ (∀ i, i < x.length → ∃ u : Int, wq.cell? ⟨g, i, none⟩ = some (.int .u8 u)) ∧ (∀ i, wq.frozen? ⟨g, i, none⟩ = false)) (fun i _ => x.length - (intOf i).toNat)
          case atStart =>
            refine ⟨0, Nat.zero_le _, rfl, Keeps.refl _ _, fun i hi => ?_, HZ6.out⟩
            obtain ⟨_, _, hcell⟩ := HF6.out
            have := hcell i (u8 x[i]) (by rw [u8s_append, List.getElem?_append_left (by simpa using hi), u8s_getElem?]; simp [hi])
            exact ⟨_, this⟩
          case round =>
            obtain ⟨j, hj, rfl, hkq, hcq, hzq⟩ := hrel
            have hcapx : x.length ≤ cap := by have := HF6.out.2.1; omega
            by_cases hjx : j < x.length
            · obtain ⟨u, hcu⟩ := hcq j hjx
              have hfu := hzq j
              have HCQ := Lib.hid hcq
              have HZQ := Lib.hid hzq
              have HKQ := Lib.hid hkq
              clear hcq hzq hkq
              have j0 : (0 : Int) ≤ (j : Int) := by omega
              have j1 : (j : Int) < (x.length : Int) := by omega
              go_wp2_with fail
              go_roundw
              case rel =>
                refine ⟨j + 1, by omega, by go_num, HKQ.out.setCell _ _ (.inl rfl), fun i hi => ?_, fun i => by rw [World.frozen?_setCell]; exact HZQ.out i⟩
                by_cases e : i = j
                · subst e
                  exact ⟨_, World.cell?_setCell_same' _ _ _ (by rw [hcu]; rfl)⟩
                · obtain ⟨u', hu'⟩ := HCQ.out i hi
                  exact ⟨u', by rw [World.cell?_setCell_other (h := by intro e'; have := congrArg Addr.off e'; simp at this; omega)]; exact hu'⟩
              case measure => simp [intOf]; omega
            · have hjl : j = x.length := by omega
              subst hjl
              clear hcq hzq hjx
              have hgn : ∀ b, vg.ownBlock = some b → ¬ b = g := HGP.out.2.2.2.1
              have HDG7 : Hid (Digested wr p2 w.heap.size o vg) := HDG6.out.kept hkq (fun h => HGP.out.2.1 h.symm) hgn
              have HDH7 : Hid (Digested wr p w5.heap.size (c1 ++ x) vh2) := HDH6.out.kept hkq (fun h => HGP.out.1 h.symm) (fun b hb h => by
                have := HDH6.out.vlow b hb
                have := HW5.out.2
                omega)
              have HOA7 : Hid (wr.ownsRow w.heap.size 5 1 u10 c1.length (u8s c1)) := owns_kept HOA6.out (fun b hb hl => hkq.block b hl (HGP.out.2.2.2.2 b hb))
              have HBW7 : Hid (Below w.heap.size w wr) := HBW6.out.trans (hkq.below_of HBW6.out.size (fun b hb h => by have := HWG.out; omega))
              have hcw7 : wr.cell? ⟨pb, po + k, none⟩ = some (.slice ap x.length cp) := (HBW7.out.cell (p := ⟨pb, po + k, none⟩) (World.block_lt_of_cell? _ _ HC0.out)).trans HC0.out
              have HUW : Hid (BytesW wr (.slice ap x.length cp) x) := HU0.out.below HBW7.out (Nat.le_refl _)
              have C3 : Hid (c1.length + (u8s x).length ≤ maxLen) := by show c1.length + (u8s x).length ≤ maxLen; rw [u8s_length]; unfold maxLen; omega
              have C4 : Hid ((c1.length + (u8s x).length) * 1 ≤ 140737488355328) := by show (c1.length + (u8s x).length) * 1 ≤ _; rw [u8s_length]; omega
              clear hkq HDG6 HDH6 HOA6 HBW6 HF6 HZ6 hcw6 hcapx hgn
              go_wp2_with (at_builtin; refine wpList_append_rowAt rfl (.tmp 92) (.tmp 96) 22 rfl w.heap.size 5 i0 (.int .u8 0) 1 Try.underlying22 hi hz0 hz1 hz2 rfl u10 c1.length (u8s c1) rfl HOA7.out _ (u8s x) rfl HUW.out.rowAt (u8s_one x) C3.out C4.out HBW7.out.size ?_)
              intro v8 w8 hown8 hgrow8 hat8
              replace hown8 : w8.ownsRow w.heap.size 5 1 v8 c2.length (u8s c2) := by rw [HCAT.out, List.length_append, u8s_append]; simpa using hown8
              have hk8 : Keeps (fun b => u10.ownBlock = some b) wr w8 := Keeps.of_grown hgrow8 (fun b h => h)
              have HDG8 : Hid (Digested w8 p2 w.heap.size o vg) := HDG7.out.kept hk8 (fun h => own_ne HDG7.out.hash HOA7.out h) (fun b hb h => (HAP1.out b hb).2 h)
              have HDH8 : Hid (Digested w8 p w.heap.size c2 vh2) := by
                have h := HDH7.out.kept hk8 (fun h => own_ne HDH7.out.hash HOA7.out h) (fun b hb h => by
                  have := HDH7.out.vlow b hb
                  have := HV5.out b (.inr h)
                  omega)
                rw [← HCAT.out] at h
                exact ⟨h.hash, own_low h.own HW5.out.1, Nat.le_trans HW5.out.1 h.low, h.none⟩
              have HBW8 : Hid (Below w.heap.size w w8) := HBW7.out.grown hgrow8 HBW7.out.size (fun b hb => by
                rcases owns_shape HOA7.out with ⟨h', _⟩ | ⟨g', cap', h', _, _, hl, _⟩
                · rw [h'] at hb; cases hb
                · rw [h'] at hb; simp [Value.ownBlock] at hb; omega)
              have HAPN : Hid ((∀ b, vg.ownBlock = some b → vh2.ownBlock ≠ some b ∧ v8.ownBlock ≠ some b) ∧ (∀ b, v8.ownBlock = some b → vh2.ownBlock ≠ some b)) := by
                have hlo := HDH7.out.vlow
                have hlt2 := HDH7.out.vlt
                have hgt := HDG7.out.vlt
                refine ⟨fun b hb => ⟨fun h => ?_, fun h => ?_⟩, fun b hb h => ?_⟩
                · have := hlo b h; have := HV5.out b (.inl hb); omega
                · rcases hat8 with e | e
                  · rw [e] at h; exact (HAP1.out b hb).2 h
                  · rw [e] at h; have := hgt b hb; cases h; omega
                · rcases hat8 with e | e
                  · rw [e] at hb; have := hlo b h; have := HV5.out b (.inr hb); omega
                  · rw [e] at hb; cases hb; have := hlt2 _ h; omega
              have hsh8 : ∃ a8 cp8, v8 = .slice a8 c2.length cp8 := by
                rcases owns_shape hown8 with ⟨h, h0⟩ | ⟨g', cap', h, _⟩
                · exact ⟨none, 0, by rw [h, h0]⟩
                · exact ⟨_, cap', h⟩
              obtain ⟨a8, cp8, rfl⟩ := hsh8
              have HOA8 := Lib.hid hown8
              have hc25 : c2.length ≤ 5000 := by rw [HCAT.out, List.length_append]; exact hx5
              clear hown8 hgrow8 hat8 hk8 HDG7 HDH7 HOA7 HBW7 hcw7 HUW C3 C4 HCAT HAP1 HAP2
              have C1 := Lib.hid (fun (w : World) v lim (h : Digested w p lim c2 v) => sum_digL h (by omega))
              have C2 := Lib.hid (fun v w h => refSHA_anyL v c2 w h (by omega))
              have hdig := isDigL c2
              have c25 : (c2.length : Int) ≤ 5000 := by omega
              by_cases h3 : (k : Int) % 3 = 0
              · have hb3 : ((k : Int) % 3 == 0) = true := by rw [h3]; rfl
                clear h3
                generalize shaL c2 = cs at *
                go_wp2_with fail
                refine (C1.out _ _ _ HDH8.out).mono ?_
                rintro e w9 ⟨rfl, hb9⟩
                have HDH9 := Lib.hid (HDH8.out.below hb9)
                have HDG9 := Lib.hid (HDG8.out.below hb9)
                have HOA9 := Lib.hid (owns_below HOA8.out hb9)
                have HBW9 : Hid (Below w.heap.size w w9) := HBW8.out.trans (hb9.mono HBW8.out.size)
                clear hb9 HDH8 HDG8 HOA8 HBW8
                go_wp2_with fail
                refine (C2.out _ _ (RowAt.of_owns HOA9.out)).mono ?_
                rintro e wa ⟨rfl, hba⟩
                have HDHa := Lib.hid (HDH9.out.below hba)
                have HDGa := Lib.hid (HDG9.out.below hba)
                have HOAa := Lib.hid (owns_below HOA9.out hba)
                have HBWa : Hid (Below w.heap.size w wa) := HBW9.out.trans (hba.mono HBW9.out.size)
                clear hba HDH9 HDG9 HOA9 HBW9
                go_wp2_with fail
                refine (size_dig HDHa.out).mono ?_
                rintro e wb ⟨rfl, rfl⟩
                go_wp2_with fail
                go_roundw
                case rel => exact ⟨k + 1, by omega, by go_num, by rw [HC2.out]; exact HOAa.out, HBWa.out, HDGa.out, vh2, by rw [HC2.out]; exact HDHa.out, HAPN.out.1, HAPN.out.2⟩
                case measure => simp [intOf]; omega
              · have hb3 : ((k : Int) % 3 == 0) = false := by simpa using h3
                clear h3
                go_wp2_with fail
                go_roundw
                case rel => exact ⟨k + 1, by omega, by go_num, by rw [HC2.out]; exact HOA8.out, HBW8.out, HDG8.out, vh2, by rw [HC2.out]; exact HDH8.out, HAPN.out.1, HAPN.out.2⟩
                case measure => simp [intOf]; omega
        · have hke : k = bss.length := by omega
          have hcl := cat_length bss k hk
          have hcw := HW.out k hk
          have hc15 : (cat bss k).length ≤ 5000 := by omega
          clear hcl hcw
          subst hke
          generalize cat bss bss.length = c1 at *
          have hsh8 : ∃ a8 cp8, u10 = .slice a8 c1.length cp8 := by
            rcases owns_shape HOA.out with ⟨h, h0⟩ | ⟨g', cap', h, _⟩
            · exact ⟨none, 0, by rw [h, h0]⟩
            · exact ⟨_, cap', h⟩
          obtain ⟨a8, cp8, rfl⟩ := hsh8
          have C1 := Lib.hid (fun (w : World) v lim (h : Digested w p lim c1 v) => sum_digL h (by omega))
          have C2 := Lib.hid (fun v w h => refSHA_anyL v c1 w h (by omega))
          have C3 := Lib.hid (fun (w : World) v lim (h : Digested w p2 lim o v) => sum_digL h (by omega))
          have C4 := Lib.hid (fun v w h => refSHA_anyL v o w h (by omega))
          have hdig := isDigL c1
          have hdig2 := isDigL o
          have c15 : (c1.length : Int) ≤ 5000 := by omega
          have HOI : Hid (Bytes w (.slice bv o.length cb) o) := HO.out
          generalize shaL c1 = cs at *
          generalize shaL o = co at *
          go_wp2_with fail
          refine (C1.out _ _ _ HDH.out).mono ?_
          rintro e w9 ⟨rfl, hb9⟩
          have HDH9 := Lib.hid (HDH.out.below hb9)
          have HDG9 := Lib.hid (HDG.out.below hb9)
          have HOA9 := Lib.hid (owns_below HOA.out hb9)
          have HBW9 : Hid (Below w.heap.size w w9) := HBW.out.trans (hb9.mono HBW.out.size)
          clear hb9 HDH HDG HOA HBW
          go_wp2_with fail
          refine (C2.out _ _ (RowAt.of_owns HOA9.out)).mono ?_
          rintro e wa ⟨rfl, hba⟩
          have HDHa := Lib.hid (HDH9.out.below hba)
          have HDGa := Lib.hid (HDG9.out.below hba)
          have HBWa : Hid (Below w.heap.size w wa) := HBW9.out.trans (hba.mono HBW9.out.size)
          clear hba HDH9 HDG9 HOA9 HBW9
          go_wp2_with fail
          refine (size_dig HDHa.out).mono ?_
          rintro e wb ⟨rfl, rfl⟩
          go_wp2_with fail
          refine (C3.out _ _ _ HDGa.out).mono ?_
          rintro e wb ⟨rfl, hbb⟩
          have HDGb := Lib.hid (HDGa.out.below hbb)
          have HBWb : Hid (Below w.heap.size w wb) := HBWa.out.trans (hbb.mono HBWa.out.size)
          clear hbb HDHa HDGa HBWa
          go_wp2_with fail
          refine (C4.out _ _ (RowAt.below HOI.out HBWb.out (Nat.le_refl _))).mono ?_
          rintro e wc ⟨rfl, hbc⟩
          have HDGc := Lib.hid (HDGb.out.below hbc)
          have HBWc : Hid (Below w.heap.size w wc) := HBWb.out.trans (hbc.mono HBWb.out.size)
          clear hbc HDGb HBWb
          go_wp2_with fail
          refine (size_dig HDGc.out).mono ?_
          rintro e wd ⟨rfl, rfl⟩
          go_wp2_with fail
          go_ret
          exact ⟨rfl, HBWc.out⟩

set_option maxRecDepth 100000 in
set_option maxHeartbeats 6400000 in
theorem parts_nil (bv : Option Addr) (cb : Nat) (bss : List (List UInt8)) (hb0 : bss = []) (o : List UInt8) (w : World)
    (ho : Bytes w (.slice bv o.length cb) o) (lo : (o.length : Int) ≤ 5000) :
    Calls Try.prog 8 #[.slice none 0 0, .slice bv o.length cb] w fun e w' => e = .returned (.bool true) ∧ Below w.heap.size w w' := by
  obtain ⟨i0, hi, hz0, hz1, hz2⟩ := info_parts info5
  have HO := Lib.hid ho
  have hl0 : bss.length = 0 := by rw [hb0]; rfl
  have HB0 := Lib.hid hb0
  have HL0 := Lib.hid hl0
  clear ho hb0 hl0
  go_enter Try.func8, Try.ntmps8
  go_wp2_with fail
  refine (alive_any _).mono ?_
  rintro e w1 ⟨rfl, hb1⟩
  have BB1 := Lib.hid hb1
  clear hb1
  go_wp2_with fail
  go_loop [6, 7] (fun n i => ∃ k m : Nat, m = 0 ∧ k = 0 ∧ i = .int .i64 k ∧ n = .int .i64 m) (fun _ i => 0)
  case atStart => exact ⟨0, 0, rfl, rfl, rfl, rfl⟩
  case round =>
    obtain ⟨k, m, hm, hk, rfl, rfl⟩ := hrel
    have m5 : (m : Int) ≤ 5000 := by omega
    have k0 : (0 : Int) ≤ (k : Int) := by omega
    have kn : ¬ (k : Int) < 0 := by omega
    clear hk
    clear hm
    go_wp2_with fail
    refine (new_dig w1).mono ?_
    rintro e w2 ⟨rfl, hd2, hb2⟩
    have BB2 : Hid (Below w.heap.size w w2) := BB1.out.trans (hb2.mono BB1.out.size)
    have HD2 := Lib.hid hd2
    have HPW : Hid (w.heap.size ≤ w1.heap.size) := BB1.out.size
    have hpl : w1.heap.size < w2.heap.size := hd2.lt
    clear hd2 hb2 BB1
    generalize w1.heap.size = p at *
    go_wp2_with fail
    refine (new_dig w2).mono ?_
    rintro e w3 ⟨rfl, hd3, hb3⟩
    have BB3 : Hid (Below w.heap.size w w3) := BB2.out.trans (hb3.mono BB2.out.size)
    have HD3 := Lib.hid hd3
    have HD3h := Lib.hid (HD2.out.below hb3)
    have HPW2 : Hid (w.heap.size ≤ w2.heap.size) := BB2.out.size
    clear hd3 hb3 BB2 HD2
    generalize w2.heap.size = p2 at *
    go_wp2_with fail
    refine (add_dig HD3.out _ o (RowAt.below HO.out BB3.out (Nat.le_refl _)) (by simp) (by omega)).mono ?_
    rintro e w4 ⟨rfl, vg, hdg, hkg⟩
    rw [List.nil_append] at hdg
    have HG4 : Hid (Digested w4 p2 w.heap.size o vg) := ⟨hdg.hash, own_low hdg.own BB3.out.size, Nat.le_trans BB3.out.size hdg.low, hdg.none⟩
    have HH4 : Hid (Digested w4 p w.heap.size (cat bss 0) (.slice none 0 0)) := by
      have h := HD3h.out.kept hkg (fun h => by
        rcases h with h | h
        · omega
        · cases h) (fun k hk => by cases hk)
      exact ⟨h.hash, own_low h.own HPW.out, Nat.le_trans BB3.out.size hkg.size, h.none⟩
    have BB4 : Hid (Below w.heap.size w w4) := BB3.out.trans (hkg.below_of BB3.out.size (fun k hk h => by
      have := HPW2.out
      rcases h with rfl | h
      · omega
      · cases h))
    have hpp : p ≠ p2 := by omega
    clear hdg hkg HD3 HD3h BB3 hpl
    go_wp2_with fail
    go_loopw [10, 11] (fun va i wr => ∃ k : Nat, k ≤ bss.length ∧ i = .int .i64 k ∧ wr.ownsRow w.heap.size 5 1 va (cat bss k).length (u8s (cat bss k)) ∧ Below w.heap.size w wr ∧
      Digested wr p2 w.heap.size o vg ∧ ∃ vh, Digested wr p w.heap.size (cat bss k) vh ∧ (∀ b, vg.ownBlock = some b → vh.ownBlock ≠ some b ∧ va.ownBlock ≠ some b) ∧ (∀ b, va.ownBlock = some b → vh.ownBlock ≠ some b)) (fun _ i _ => bss.length - (intOf i).toNat)
    case atStart => exact ⟨0, Nat.zero_le _, rfl, World.ownsRow_nil _ _ _ _, BB4.out, HG4.out, _, HH4.out, fun b _ => ⟨by simp [Value.ownBlock], by simp [Value.ownBlock]⟩, fun b _ => by simp [Value.ownBlock]⟩
    case round =>
      obtain ⟨k, hk, rfl, hoa, hbw, hdg, vh, hdh, hap1, hap2⟩ := hrel
      have HOA := Lib.hid hoa
      have HDG := Lib.hid hdg
      have HDH := Lib.hid hdh
      have HAP1 := Lib.hid hap1
      have HAP2 := Lib.hid hap2
      have HBW := Lib.hid hbw
      clear hoa hdg hdh hap1 hap2 hbw
      have kn2 : ¬ (k : Int) < 0 := by omega
      have hke : k = bss.length := by have := HL0.out; omega
      have hcl := cat_length bss k hk
      have hc15 : (cat bss k).length ≤ 5000 := by rw [HB0.out]; simp [cat]
      clear hcl
      subst hke
      generalize cat bss bss.length = c1 at *
      have hsh8 : ∃ a8 cp8, u10 = .slice a8 c1.length cp8 := by
        rcases owns_shape HOA.out with ⟨h, h0⟩ | ⟨g', cap', h, _⟩
        · exact ⟨none, 0, by rw [h, h0]⟩
        · exact ⟨_, cap', h⟩
      obtain ⟨a8, cp8, rfl⟩ := hsh8
      have C1 := Lib.hid (fun (w : World) v lim (h : Digested w p lim c1 v) => sum_digL h (by omega))
      have C2 := Lib.hid (fun v w h => refSHA_anyL v c1 w h (by omega))
      have C3 := Lib.hid (fun (w : World) v lim (h : Digested w p2 lim o v) => sum_digL h (by omega))
      have C4 := Lib.hid (fun v w h => refSHA_anyL v o w h (by omega))
      have hdig := isDigL c1
      have hdig2 := isDigL o
      have c15 : (c1.length : Int) ≤ 5000 := by omega
      have HOI : Hid (Bytes w (.slice bv o.length cb) o) := HO.out
      generalize shaL c1 = cs at *
      generalize shaL o = co at *
      go_wp2_with fail
      refine (C1.out _ _ _ HDH.out).mono ?_
      rintro e w9 ⟨rfl, hb9⟩
      have HDH9 := Lib.hid (HDH.out.below hb9)
      have HDG9 := Lib.hid (HDG.out.below hb9)
      have HOA9 := Lib.hid (owns_below HOA.out hb9)
      have HBW9 : Hid (Below w.heap.size w w9) := HBW.out.trans (hb9.mono HBW.out.size)
      clear hb9 HDH HDG HOA HBW
      go_wp2_with fail
      refine (C2.out _ _ (RowAt.of_owns HOA9.out)).mono ?_
      rintro e wa ⟨rfl, hba⟩
      have HDHa := Lib.hid (HDH9.out.below hba)
      have HDGa := Lib.hid (HDG9.out.below hba)
      have HBWa : Hid (Below w.heap.size w wa) := HBW9.out.trans (hba.mono HBW9.out.size)
      clear hba HDH9 HDG9 HOA9 HBW9
      go_wp2_with fail
      refine (size_dig HDHa.out).mono ?_
      rintro e wb ⟨rfl, rfl⟩
      go_wp2_with fail
      refine (C3.out _ _ _ HDGa.out).mono ?_
      rintro e wb ⟨rfl, hbb⟩
      have HDGb := Lib.hid (HDGa.out.below hbb)
      have HBWb : Hid (Below w.heap.size w wb) := HBWa.out.trans (hbb.mono HBWa.out.size)
      clear hbb HDHa HDGa HBWa
      go_wp2_with fail
      refine (C4.out _ _ (RowAt.below HOI.out HBWb.out (Nat.le_refl _))).mono ?_
      rintro e wc ⟨rfl, hbc⟩
      have HDGc := Lib.hid (HDGb.out.below hbc)
      have HBWc : Hid (Below w.heap.size w wc) := HBWb.out.trans (hbc.mono HBWb.out.size)
      clear hbc HDGb HBWb
      go_wp2_with fail
      refine (size_dig HDGc.out).mono ?_
      rintro e wd ⟨rfl, rfl⟩
      go_wp2_with fail
      go_ret
      exact ⟨rfl, HBWc.out⟩

set_option maxRecDepth 100000 in
set_option maxHeartbeats 1600000 in
theorem parts_out (pb po pc : Nat) (bv : Option Addr) (cb lo : Nat) (bss : List (List UInt8)) (w : World)
    (hp : RowsW w (.slice (some ⟨pb, po, none⟩) bss.length pc) bss) (hx : ¬ Small bss ∨ 5000 < (lo : Int)) :
    Calls Try.prog 8 #[.slice (some ⟨pb, po, none⟩) bss.length pc, .slice bv lo cb] w fun e w' => e = .returned (.bool true) ∧ Below w.heap.size w w' := by
  have hpart : ∀ i (h : i < bss.length), ∃ a c, w.cell? ⟨pb, po + i, none⟩ = some (.slice a bss[i].length c) ∧ bss[i].length ≤ 140737488351232 := by
    rcases hp with ⟨h, _⟩ | ⟨b, off, cap, h, h1, h2, h3⟩
    · cases h
    · simp only [Value.slice.injEq, Option.some.injEq, Addr.mk.injEq] at h
      obtain ⟨⟨rfl, rfl, _⟩, _, rfl⟩ := h
      intro i hi
      obtain ⟨u, hc, hu, hl⟩ := h3 i hi
      obtain ⟨a, c, rfl, _⟩ := hu.shape
      exact ⟨a, c, hc, hl⟩
  have hpc : bss.length ≤ pc ∧ pc ≤ 140737488351232 := by
    rcases hp with ⟨h, _⟩ | ⟨b, off, cap, h, h1, h2, h3⟩
    · cases h
    · cases h; exact ⟨h1, h2⟩
  have hpl : bss.length ≤ 140737488355328 := by have := hpc.1; have := hpc.2; omega
  have HPT := Lib.hid hpart
  have HX := Lib.hid hx
  clear hp hpart hx hpc
  go_enter Try.func8, Try.ntmps8
  go_wp2_with fail
  refine (alive_any _).mono ?_
  rintro e w1 ⟨rfl, hb1⟩
  have BB1 := Lib.hid hb1
  clear hb1
  go_wp2_with fail
  go_loop [6, 7] (fun n i => ∃ k m : Nat, m = wt bss k ∧ k ≤ bss.length ∧ m ≤ 140737488360000 ∧ i = .int .i64 k ∧ n = .int .i64 m) (fun _ i => bss.length - (intOf i).toNat)
  case atStart => exact ⟨0, 0, (wt_zero _).symm, Nat.zero_le _, by omega, rfl, rfl⟩
  case round =>
    obtain ⟨k, m, hm, hk, hm2, rfl, rfl⟩ := hrel
    by_cases hlt : k < bss.length
    · obtain ⟨a, c, hc, hu⟩ := HPT.out k hlt
      have hc1 := (BB1.out.cell (p := ⟨pb, po + k, none⟩) (World.block_lt_of_cell? _ _ hc)).trans hc
      have hs := wt_succ bss k hlt
      rw [← hm] at hs
      have HS := Lib.hid hs
      have k0 : (0 : Int) ≤ (k : Int) := by omega
      have k1 : (k : Int) < (bss.length : Int) := by omega
      by_cases h5 : m ≤ 5000
      · have m5 : (m : Int) ≤ 5000 := by omega
        clear hm hs hc
        generalize bss[k].length = q at *
        have q1 : (q : Int) ≤ 140737488355327 := by omega
        go_wp2_with fail
        go_round
        case rel => exact ⟨k + 1, m + q + 1, by have := HS.out; omega, by omega, by omega, by go_num, by go_num⟩
        case measure => simp [intOf]; omega
      · have m5 : 5000 < (m : Int) := by omega
        clear hm hs hc hc1 hu HS
        go_wp2_with fail
        go_ret
        exact ⟨rfl, BB1.out⟩
    · have hke : k = bss.length := by omega
      subst hke
      by_cases h5 : m ≤ 5000
      · have m5 : (m : Int) ≤ 5000 := by omega
        by_cases h6 : 5000 < (lo : Int)
        · clear hm hlt
          go_wp2_with fail
          go_ret
          exact ⟨rfl, BB1.out⟩
        · have h7 : 40 < (bss.length : Int) := by
            rcases HX.out with h | h
            · unfold Small at h
              omega
            · omega
          have h6' : (lo : Int) ≤ 5000 := by omega
          clear hm hlt h6
          go_wp2_with fail
          go_ret
          exact ⟨rfl, BB1.out⟩
      · have m5 : 5000 < (m : Int) := by omega
        clear hm hlt
        go_wp2_with fail
        go_ret
        exact ⟨rfl, BB1.out⟩

set_option maxHeartbeats 400000 in
theorem parts_nil_out (bv : Option Addr) (cb lo : Nat) (w : World) (h : 5000 < (lo : Int)) :
    Calls Try.prog 8 #[.slice none 0 0, .slice bv lo cb] w fun e w' => e = .returned (.bool true) ∧ Below w.heap.size w w' := by
  go_enter Try.func8, Try.ntmps8
  go_wp2_with fail
  refine (alive_any _).mono ?_
  rintro e w1 ⟨rfl, hb1⟩
  have BB1 := Lib.hid hb1
  clear hb1
  go_wp2_with fail
  refine wp_loop_rounds 1 ?_
  rw [rounds_succ]
  go_wp2_with fail
  go_ret
  exact ⟨rfl, BB1.out⟩

theorem parts_walk (pv : Value) (bss : List (List UInt8)) (a1 : Option Addr) (len1 cap1 : Nat) (z1 : List Int) (w : World) (hp : RowsW w pv bss) (w1 : RowIn .u8 w a1 len1 cap1 z1) :
    Calls Try.prog 8 #[pv, .slice a1 len1 cap1] w fun e w' => e = .returned (.bool true) ∧ Below w.heap.size w w' := by
  obtain ⟨o, rfl, _, _, ho⟩ := bytes_of_row w1
  have hp0 := hp
  rcases hp with ⟨rfl, rfl⟩ | ⟨pb, po, pc, rfl, _⟩
  · by_cases h1 : (o.length : Int) ≤ 5000
    · exact parts_nil _ _ [] rfl o w ho h1
    · exact parts_nil_out _ _ _ w (by omega)
  · by_cases h1 : (o.length : Int) ≤ 5000
    · by_cases h2 : Small bss
      · exact parts_in _ _ _ _ _ bss o w hp0 ho h1 h2
      · exact parts_out _ _ _ _ _ _ bss w hp0 (.inl h2)
    · exact parts_out _ _ _ _ _ _ bss w hp0 (.inr (by omega))
end Go.Proofs.Ytgeagbhfpjhonaa
