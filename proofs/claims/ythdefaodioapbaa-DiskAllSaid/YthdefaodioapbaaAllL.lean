/- DiskAll. -/
import Derived.Test.YthdefaodioapbaaTwinsL
namespace Go.Proofs.Ythdefaodioapbaa
open Go.RowKit

variable {w w' : World} {p B : Nat} {d : DS}
attribute [local irreducible] blk bits

theorem DS.flush_never (d : DS) (h : d.left ≤ 0) : d.flush = { d with fast := layAll d.fast d.back, back := [] } := by
  unfold DS.flush DS.step
  rw [if_neg (by simp; omega)]
def DS.Whole (d : DS) : Prop := d.now = layAll d.fast d.back
theorem whole_fill (d : DS) (ks : Nat → Int) (hl : d.left ≤ 0) (hw : d.Whole) : ∀ i, (fillTo d ks i).Whole
  | 0 => hw
  | i + 1 => by
    have hi := whole_fill d ks hl hw i
    have hf := fillTo_facts d ks hl i
    rw [fillTo, DS.write_never _ _ _ (by omega)]
    unfold DS.Whole at hi ⊢
    show putAt (fillTo d ks i).now _ _ = layAll (fillTo d ks i).fast _
    rw [layAll_snoc, ← hi]
theorem kept_all (d : DS) (kb : Nat → Bool) (h : ∀ k, k < d.back.length → kb k = true) : d.kept kb = d.back := by
  unfold DS.kept selI
  rw [List.filter_eq_self.2 (fun x _ => h x.1 x.2), uptoI_back, List.take_length]
theorem kept_none (d : DS) (kb : Nat → Bool) (h : ∀ k, kb k = false) : d.kept kb = [] := by
  unfold DS.kept selI
  rw [List.filter_eq_nil_iff.2 (fun x _ => by simp [h])]
  rfl
attribute [local irreducible] fillTo

set_option maxHeartbeats 4000000 in
theorem all_in (ka : Option Addr) (kn kcap : Nat) (ks : Nat → Int) (ma : Option Addr) (mn mcap : Nat) (ms : Nat → Int) (w : World)
    (hk : IntsAt w ka kn ks ∧ ∀ x, ka = some x → 0 < kn → x.block < w.heap.size) (hl : IntsAt w ma mn ms ∧ ∀ x, ma = some x → 0 < mn → x.block < w.heap.size)
    (hkn : kn ≤ 60) (hmn : mn ≤ 60) :
    Calls Try.prog 6 #[.slice ka kn kcap, .slice ma mn mcap] w fun e w' => e = .returned (.bool true) ∧ Below w.heap.size w w' := by
  have k1 : (kn : Int) ≤ 60 := by omega
  have k2 : (mn : Int) ≤ 60 := by omega
  obtain ⟨i0, hi, hz0, hz1, hz2⟩ := info_parts infoI
  have HI := Lib.hid (And.intro hi (And.intro hz0 hz1))
  have M1 : Hid (i0.bytes * mn ≤ 281474976710656) := by show i0.bytes * mn ≤ _; rw [hz2]; omega
  have M2 : Hid (mn ≤ maxLen) := by show mn ≤ maxLen; unfold maxLen; omega
  clear hi hz0 hz1 hz2
  have HA := Lib.hid (And.intro hk hl)
  have HN := Lib.hid (And.intro hkn hmn)
  obtain ⟨D1, e1⟩ : ∃ D1, D1 = fillTo (DS.new 6) ks kn := ⟨_, rfl⟩
  have F1 := fillTo_facts (DS.new 6) ks (by decide) kn
  have W1 := whole_fill (DS.new 6) ks (by decide) rfl kn
  rw [← e1] at F1 W1
  have l1 : D1.left = -1 := F1.2.2.1
  have e2 := DS.flush_never D1 (by rw [l1]; decide)
  rw [← show D1.now = layAll D1.fast D1.back from W1] at e2
  obtain ⟨D2, e2'⟩ : ∃ D2, D2 = D1.flush := ⟨_, rfl⟩
  have G2 : D2.n = 6 ∧ D2.off = false ∧ D2.left = -1 ∧ D2.back = [] ∧ D2.fast = D2.now := by
    rw [e2', e2]
    exact ⟨F1.1, F1.2.1, l1, rfl, rfl⟩
  have W2 : D2.Whole := by unfold DS.Whole; rw [G2.2.2.2.1, ← G2.2.2.2.2]; rfl
  obtain ⟨D3, e3⟩ : ∃ D3, D3 = fillTo D2 ms mn := ⟨_, rfl⟩
  have F3 := fillTo_facts D2 ms (by rw [G2.2.2.1]; decide) mn
  have W3 := whole_fill D2 ms (by rw [G2.2.2.1]; decide) W2 mn
  rw [← e3] at F3 W3
  have G3 : D3.n = 6 ∧ D3.off = false ∧ D3.left = -1 ∧ D3.back.length = mn := ⟨F3.1.trans G2.1, F3.2.1.trans G2.2.1, F3.2.2.1.trans G2.2.2.1, by rw [F3.2.2.2.2, G2.2.2.2.1]; show 0 + mn = mn; omega⟩
  have A3 : (D3.crash (keepB mn (fun _ => 1))).now = D3.flush.now := by
    rw [DS.flush_never D3 (by rw [G3.2.2.1]; decide)]
    show layAll D3.fast (D3.kept _) = D3.now
    rw [kept_all D3 _ (fun k hk => by simp [keepB]; omega)]
    exact W3.symm
  have N3 : (D3.crash (keepB 0 (fun _ => 0))).now = D2.now := by
    show layAll D3.fast (D3.kept _) = D2.now
    rw [kept_none D3 _ (fun k => by simp [keepB]), F3.2.2.2.1, G2.2.2.2.2]
    rfl
  have P3 : D3.flush.back.length = 0 ∧ D3.flush.n = 6 ∧ D3.flush.off = false := by
    rw [DS.flush_never D3 (by rw [G3.2.2.1]; decide)]
    exact ⟨rfl, G3.1, G3.2.1⟩
  have E1 := Lib.hid e1
  have E2 := Lib.hid e2'
  have E3 := Lib.hid e3
  have G1 : Hid (D1.n = 6 ∧ D1.off = false ∧ D1.left = -1 ∧ D1.back.length = kn) := ⟨F1.1, F1.2.1, l1, by rw [F1.2.2.2.2]; show 0 + kn = kn; omega⟩
  have G2 := Lib.hid G2
  have G3 := Lib.hid G3
  have HP := Lib.hid (And.intro A3 (And.intro N3 P3))
  have HC1 : Hid ((D3.crash (keepB mn (fun _ => 1))).n = 6 ∧ (D3.crash (keepB mn (fun _ => 1))).off = false) := ⟨G3.out.1, rfl⟩
  have HC2 : Hid ((D3.crash (keepB 0 (fun _ => 0))).n = 6 ∧ (D3.crash (keepB 0 (fun _ => 0))).off = false) := ⟨G3.out.1, rfl⟩
  clear e1 e2 e2' e3 F1 F3 W1 W2 W3 l1 A3 N3 P3 hk hl hkn hmn
  go_enter Try.func6, Try.ntmps6
  go_wp2_with fail
  refine (alive_any _).mono ?_
  rintro e w0 ⟨rfl, hb0⟩
  have HB0 := Lib.hid hb0
  clear hb0
  go_wp2_with fail
  refine (new_d (Disks.nil w0 w0.heap.size) (Nat.le_refl _) 6 (by omega) (by omega)).mono ?_
  rintro e w1 ⟨p, rfl, hd, hb⟩
  have HD := Lib.hid hd
  have HB : Hid (Below w.heap.size w w1) := HB0.out.trans (hb.mono HB0.out.size)
  have HZ : Hid (w0.heap.size ≤ w1.heap.size) := hb.size
  have HS : Hid (w.heap.size ≤ w0.heap.size) := HB0.out.size
  clear hd hb HB0
  generalize w0.heap.size = B at *
  have H := Lib.hid (fill_d HD.out HZ.out rfl rfl (by decide) ka kn kcap ks (HA.out.1.1.below HB.out) (fun x hx h0 => Nat.lt_of_lt_of_le (HA.out.1.2 x hx h0) HS.out) (by have := HN.out.1; show 0 + kn ≤ 60000; omega))
  rw [← E1.out] at H
  go_wp2_with fail
  refine (H.out).mono ?_
  rintro e w2 ⟨⟨v, rfl⟩, hd, hb⟩
  have HD := Lib.hid hd
  have HB : Hid (Below w.heap.size w w2) := HB.out.trans (hb.mono HS.out)
  have HZ : Hid (B ≤ w2.heap.size) := Nat.le_trans HZ.out hb.size
  clear hd hb H
  have H := Lib.hid (flush_d HD.out HZ.out G1.out.2.1 (by rw [G1.out.2.2.1]; decide))
  rw [← E2.out] at H
  go_wp2_with fail
  refine (H.out).mono ?_
  rintro e w3 ⟨rfl, hd, hb⟩
  have HD := Lib.hid hd
  have HB : Hid (Below w.heap.size w w3) := HB.out.trans (hb.mono HS.out)
  have HZ : Hid (B ≤ w3.heap.size) := Nat.le_trans HZ.out hb.size
  clear hd hb H
  have H := Lib.hid (twin_d HD.out HZ.out)
  go_wp2_with fail
  refine (H.out).mono ?_
  rintro e w4 ⟨q, rfl, hd, hb⟩
  have HD := Lib.hid hd.two
  have HB : Hid (Below w.heap.size w w4) := HB.out.trans (hb.mono HB.out.size)
  have HZ : Hid (B ≤ w4.heap.size) := Nat.le_trans HZ.out hb.size
  clear hd hb H
  have H := Lib.hid (fill_d HD.out HZ.out G2.out.1 G2.out.2.1 (by rw [G2.out.2.2.1]; decide) ma mn mcap ms (HA.out.2.1.below HB.out) (fun x hx h0 => Nat.lt_of_lt_of_le (HA.out.2.2 x hx h0) HS.out) (by have := HN.out; rw [G2.out.2.2.2.1]; show 0 + mn ≤ 60000; omega))
  rw [← E3.out] at H
  go_wp2_with fail
  refine (H.out).mono ?_
  rintro e w5 ⟨⟨v, rfl⟩, hd, hb⟩
  have HD := Lib.hid hd
  have HB : Hid (Below w.heap.size w w5) := HB.out.trans (hb.mono HS.out)
  have HZ : Hid (B ≤ w5.heap.size) := Nat.le_trans HZ.out hb.size
  clear hd hb H
  have H := Lib.hid (twin_d HD.out HZ.out)
  go_wp2_with fail
  refine (H.out).mono ?_
  rintro e w6 ⟨a, rfl, hd, hb⟩
  have HD := Lib.hid hd.two
  have HB : Hid (Below w.heap.size w w6) := HB.out.trans (hb.mono HB.out.size)
  have HZ : Hid (B ≤ w6.heap.size) := Nat.le_trans HZ.out hb.size
  clear hd hb H
  have H := Lib.hid (twin_d HD.out HZ.out)
  go_wp2_with fail
  refine (H.out).mono ?_
  rintro e w7 ⟨n, rfl, hd, hb⟩
  have HD := Lib.hid hd.three
  have HB : Hid (Below w.heap.size w w7) := HB.out.trans (hb.mono HB.out.size)
  have HZ : Hid (B ≤ w7.heap.size) := Nat.le_trans HZ.out hb.size
  clear hd hb H
  -- keep
  go_wp2_with (at_make; refine wpList_make_full _ rfl (.tmp 56) (.tmp 56) 22 rfl w7.heap.size 3 i0 (.int .i64 0) 1 Try.underlying22 HI.out.1 HI.out.2.1 HI.out.2.2 .i64 .i64 _ _ mn rfl rfl rfl rfl M1.out M2.out (Nat.le_refl _) ?_)
  intro w8 hown hgr
  have hb8 : Below w7.heap.size w7 w8 := (Below.refl _ _).grown hgr (Nat.le_refl _) (by simp)
  have hrow : RowAt w8 (.slice (some ⟨w7.heap.size, 0, none⟩) mn mn) (List.replicate mn (.int .i64 0)) := by
    have := RowAt.of_owns hown
    rwa [toList_madeCells_one] at this
  have hfz : ∀ i, w8.frozen? ⟨w7.heap.size, i, none⟩ = false := fun i => by
    rcases hown.2 with ⟨h, _⟩ | ⟨g', cap', cur, h, _, hg, _⟩
    · cases h
    · cases h; exact frozen_of_row w8 _ _ _ _ hg
  have HROW := Lib.hid hrow
  have HFZ := Lib.hid hfz
  have HB8 := Lib.hid hb8
  clear hown hgr hrow hfz hb8
  go_wp2_with fail
  go_loopw [12] (fun i wr => ∃ k : Nat, k ≤ mn ∧ i = .int .i64 k ∧ RowAt wr (.slice (some ⟨w7.heap.size, 0, none⟩) mn mn) (List.replicate k (.int .i64 1) ++ List.replicate (mn - k) (.int .i64 0)) ∧ (∀ i, wr.frozen? ⟨w7.heap.size, i, none⟩ = false) ∧ Below w7.heap.size w7 wr) (fun i _ => mn - (intOf i).toNat)
  case atStart => exact ⟨0, by omega, rfl, by simpa using HROW.out, HFZ.out, HB8.out⟩
  case round =>
    obtain ⟨k, hk, rfl, hc, hf, hb⟩ := hrel
    by_cases hlt : k < mn
    · have hlen : k < (List.replicate k (Value.int .i64 1) ++ List.replicate (mn - k) (Value.int .i64 0)).length := by simp; omega
      have hcl := RowAt.cell hc hlen
      rw [Nat.zero_add] at hcl
      have hu : (List.replicate k (Value.int .i64 1) ++ List.replicate (mn - k) (Value.int .i64 0))[k] = .int .i64 0 := by rw [List.getElem_append_right (by simp)]; simp
      rw [hu] at hcl
      have hfu := hf k
      have hst := RowAt.set (u := .int .i64 1) hc hlen
      have hse : (List.replicate k (Value.int .i64 1) ++ List.replicate (mn - k) (Value.int .i64 0)).set k (.int .i64 1) = List.replicate (k + 1) (.int .i64 1) ++ List.replicate (mn - (k + 1)) (.int .i64 0) := by
        rw [List.set_append_right _ _ (by simp), List.length_replicate, Nat.sub_self, show mn - k = (mn - (k + 1)) + 1 by omega, List.replicate_succ, List.set_cons_zero, List.replicate_succ', List.append_assoc]
        rfl
      rw [hse, Nat.zero_add] at hst
      have HST := Lib.hid hst
      have HF := Lib.hid hf
      have HBB := Lib.hid hb
      clear hc hf hb hst hse hu hlen
      have k0 : (0 : Int) ≤ (k : Int) := by omega
      have k1 : (k : Int) < (mn : Int) := by omega
      go_wp2_with fail
      go_roundw
      case rel => exact ⟨k + 1, by omega, by go_num, HST.out, fun i => by rw [World.frozen?_setCell]; exact HF.out i, HBB.out.setCell (Nat.le_refl _) _⟩
      case measure => simp [intOf]; omega
    · obtain rfl : k = mn := by omega
      rw [Nat.sub_self, List.replicate_zero, List.append_nil] at hc
      have H := Lib.hid (crash_d HD.out HZ.out hb (some ⟨w7.heap.size, 0, none⟩) k k (fun _ => 1) ⟨by have := HN.out; omega, .inr ⟨_, _, rfl, fun i hi => by
        have := RowAt.cell (k := i) hc (by simpa using hi)
        rw [this]
        simp⟩⟩ (fun x hx _ => by cases hx; exact .inr (Nat.le_refl _)))
      have HB9 : Hid (Below w.heap.size w wr) := HB.out.trans (hb.mono HB.out.size)
      have HZ9 : Hid (B ≤ wr.heap.size) := Nat.le_trans HZ.out hb.size
      clear hc hf hb HROW HFZ HB8 HB HZ HD
      generalize w7.heap.size = gk at *
      go_wp2_with fail
      refine (H.out).mono ?_
      rintro e v1 ⟨⟨v, rfl⟩, hd, hb⟩
      have HD := Lib.hid hd.two
      have HB : Hid (Below w.heap.size w v1) := HB9.out.trans (hb.mono HS.out)
      have HZ : Hid (B ≤ v1.heap.size) := Nat.le_trans HZ9.out hb.size
      clear hd hb H HB9 HZ9
      have H := Lib.hid (crash_d HD.out HZ.out (Below.refl _ _) none 0 0 (fun _ => 0) ⟨by omega, .inl rfl⟩ (fun x hx _ => by cases hx))
      go_wp2_with fail
      refine (H.out).mono ?_
      rintro e v2 ⟨⟨v, rfl⟩, hd, hb⟩
      have HD := Lib.hid hd.three
      have HB : Hid (Below w.heap.size w v2) := HB.out.trans (hb.mono HS.out)
      have HZ : Hid (B ≤ v2.heap.size) := Nat.le_trans HZ.out hb.size
      clear hd hb H
      generalize D3.crash (keepB k (fun _ => 1)) = C1 at *
      generalize D3.crash (keepB 0 (fun _ => 0)) = C2 at *
      have H := Lib.hid (flush_d HD.out HZ.out G3.out.2.1 (by rw [G3.out.2.2.1]; decide))
      generalize D3.flush = D4 at *
      go_wp2_with fail
      refine (H.out).mono ?_
      rintro e v3 ⟨rfl, hd, hb⟩
      have HD := Lib.hid hd
      have HB : Hid (Below w.heap.size w v3) := HB.out.trans (hb.mono HS.out)
      have HZ : Hid (B ≤ v3.heap.size) := Nat.le_trans HZ.out hb.size
      clear hd hb H
      have H := Lib.hid (same_yes (HD.out.get (p := a) (d := C1) (by simp)) (HD.out.get (p := p) (d := D4) (by simp)) HC1.out.1 HP.out.2.2.2.1 HC1.out.2 HP.out.2.2.2.2 (fun _ _ => by rw [HP.out.1]))
      go_wp2_with fail
      refine (H.out).mono ?_
      rintro e v4 ⟨rfl, hb⟩
      have HD := Lib.hid (HD.out.below hb)
      have HB : Hid (Below w.heap.size w v4) := HB.out.trans (hb.mono HB.out.size)
      clear hb H
      have H := Lib.hid (same_yes (HD.out.get (p := n) (d := C2) (by simp)) (HD.out.get (p := q) (d := D2) (by simp)) HC2.out.1 G2.out.1 HC2.out.2 G2.out.2.1 (fun _ _ => by rw [HP.out.2.1]))
      go_wp2_with fail
      refine (H.out).mono ?_
      rintro e v5 ⟨rfl, hb⟩
      have HD := Lib.hid (HD.out.below hb)
      have HB : Hid (Below w.heap.size w v5) := HB.out.trans (hb.mono HB.out.size)
      clear hb H
      have H := Lib.hid (pending_in (HD.out.get (p := p) (d := D4) (by simp)))
      rw [HP.out.2.2.1] at H
      go_wp2_with fail
      refine (H.out).mono ?_
      rintro e v6 ⟨aa, cap, rfl, _, hb⟩
      have HB : Hid (Below w.heap.size w v6) := HB.out.trans (hb.mono HB.out.size)
      clear hb H
      go_wp2_with fail
      go_ret
      exact ⟨rfl, HB.out⟩

set_option maxHeartbeats 800000 in
theorem all_out (ka : Option Addr) (kn kcap : Nat) (la : Option Addr) (ln lcap : Nat) (w : World) (h : (60 : Int) < (kn : Int) ∨ ((kn : Int) ≤ 60 ∧ (60 : Int) < (ln : Int))) :
    Calls Try.prog 6 #[.slice ka kn kcap, .slice la ln lcap] w fun e w' => e = .returned (.bool true) ∧ Below w.heap.size w w' := by
  rcases h with h | ⟨h1, h⟩
  all_goals
    go_enter Try.func6, Try.ntmps6
    go_wp2_with fail
    refine (alive_any _).mono ?_
    rintro e w1 ⟨rfl, hb1⟩
    go_wp2_with fail
    go_ret
    exact ⟨rfl, hb1⟩
theorem all_walk (a0 : Option Addr) (len0 cap0 : Nat) (z0 : List Int) (a1 : Option Addr) (len1 cap1 : Nat) (z1 : List Int) (w : World) (w0 : RowIn .i64 w a0 len0 cap0 z0) (w1 : RowIn .i64 w a1 len1 cap1 z1) :
    Calls Try.prog 6 #[.slice a0 len0 cap0, .slice a1 len1 cap1] w fun e w' => e = .returned (.bool true) ∧ Below w.heap.size w w' := by
  by_cases h0 : len0 ≤ 60
  · by_cases h1 : len1 ≤ 60
    · exact all_in a0 len0 cap0 _ a1 len1 cap1 _ w (ints_of_row w0 (by omega)) (ints_of_row w1 (by omega)) h0 h1
    · exact all_out _ _ _ _ _ _ w (.inr ⟨by omega, by omega⟩)
  · exact all_out _ _ _ _ _ _ w (.inl (by omega))
end Go.Proofs.Ythdefaodioapbaa
