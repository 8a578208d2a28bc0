/- DiskTwins. -/
import Derived.Test.YthdefaodioapbaaFam
namespace Go.Proofs.Ythdefaodioapbaa
open Go.RowKit

variable {w w' : World} {p B : Nat} {d : DS}
attribute [local irreducible] blk bits fillTo

theorem IntsAt.below {ka : Option Addr} {kn : Nat} {ks : Nat → Int} (h : IntsAt w ka kn ks) (hb : Below w.heap.size w w') : IntsAt w' ka kn ks :=
  h.keeps (Keeps.of_below (S := fun _ => False) hb) (fun _ _ _ => id)
theorem ints_of_row {w : World} {a : Option Addr} {len cap : Nat} {zs : List Int} (h : RowIn .i64 w a len cap zs) (hl : len ≤ 1000000000000) : IntsAt w a len (fun i => zs.getD i 0) ∧ ∀ x, a = some x → 0 < len → x.block < w.heap.size := by
  rcases h with ⟨rfl, rfl, rfl, rfl⟩ | ⟨x, rfl, hs, hlc, hm, hz, hcell, hwf⟩
  · exact ⟨⟨hl, .inl rfl⟩, fun x hx => by cases hx⟩
  · obtain ⟨xb, xo, xs⟩ := x
    simp only at hs
    subst hs
    refine ⟨⟨hl, .inr ⟨xb, xo, rfl, fun i hi => ?_⟩⟩, fun x hx h0 => ?_⟩
    · have := hcell i (by omega)
      rw [addr_add] at this
      exact this
    · cases hx
      exact World.block_lt_of_cell? _ _ (hcell 0 (by omega))

set_option maxHeartbeats 4000000 in
theorem twins_in (ka : Option Addr) (kn kcap : Nat) (ks : Nat → Int) (la : Option Addr) (ln lcap : Nat) (ls : Nat → Int) (ra : Option Addr) (rn rcap : Nat) (rs : Nat → Int) (f : Int) (w : World)
    (hk : IntsAt w ka kn ks ∧ ∀ x, ka = some x → 0 < kn → x.block < w.heap.size) (hl : IntsAt w la ln ls ∧ ∀ x, la = some x → 0 < ln → x.block < w.heap.size) (hr : IntsAt w ra rn rs ∧ ∀ x, ra = some x → 0 < rn → x.block < w.heap.size)
    (hkn : kn ≤ 40) (hln : ln ≤ 40) (hrn : rn ≤ 40) (f1 : 1 ≤ f) (f2 : f ≤ 200) :
    Calls Try.prog 10 #[.slice ka kn kcap, .slice la ln lcap, .slice ra rn rcap, .int .i64 f] w fun e w' => e = .returned (.bool true) ∧ Below w.heap.size w w' := by
  have k1 : (kn : Int) ≤ 40 := by omega
  have k2 : (ln : Int) ≤ 40 := by omega
  have k3 : (rn : Int) ≤ 40 := by omega
  have HA := Lib.hid (And.intro hk (And.intro hl hr))
  have HN := Lib.hid (And.intro hkn (And.intro hln hrn))
  obtain ⟨D1, e1⟩ : ∃ D1, D1 = fillTo (DS.new 6) ks kn := ⟨_, rfl⟩
  have F1 := Lib.hid (fillTo_facts (DS.new 6) ks (by decide) kn)
  rw [← e1] at F1
  obtain ⟨D2, e2⟩ : ∃ D2, D2 = fillTo D1 ls ln := ⟨_, rfl⟩
  have F2 := Lib.hid (fillTo_facts D1 ls (by rw [F1.out.2.2.1]; decide) ln)
  rw [← e2] at F2
  obtain ⟨D3, e3⟩ : ∃ D3, D3 = fillTo D1 rs rn := ⟨_, rfl⟩
  have F3 := Lib.hid (fillTo_facts D1 rs (by rw [F1.out.2.2.1]; decide) rn)
  rw [← e3] at F3
  have E1 := Lib.hid e1
  have E2 := Lib.hid e2
  have E3 := Lib.hid e3
  have G1 : Hid (D1.n = 6 ∧ D1.off = false ∧ D1.left = -1 ∧ D1.back.length = kn) := ⟨F1.out.1, F1.out.2.1, F1.out.2.2.1, by rw [F1.out.2.2.2.2]; show 0 + kn = kn; omega⟩
  have G2 : Hid (D2.n = 6 ∧ D2.off = false ∧ D2.left = -1 ∧ D2.back.length = kn + ln) := ⟨F2.out.1.trans G1.out.1, F2.out.2.1.trans G1.out.2.1, F2.out.2.2.1.trans G1.out.2.2.1, by rw [F2.out.2.2.2.2, G1.out.2.2.2]⟩
  have G3 : Hid (D3.n = 6 ∧ D3.off = false ∧ D3.left = -1 ∧ D3.back.length = kn + rn) := ⟨F3.out.1.trans G1.out.1, F3.out.2.1.trans G1.out.2.1, F3.out.2.2.1.trans G1.out.2.2.1, by rw [F3.out.2.2.2.2, G1.out.2.2.2]⟩
  clear e1 e2 e3 F1 F2 F3 hk hl hr hkn hln hrn
  go_enter Try.func10, Try.ntmps10
  go_wp2_with fail
  refine (alive_any _).mono ?_
  rintro e w0 ⟨rfl, hb0⟩
  have HB0 := Lib.hid hb0
  clear hb0
  go_wp2_with fail
  refine (new_d (Disks.nil w0 w0.heap.size) (Nat.le_refl _) 6 (by omega) (by omega)).mono ?_
  rintro e w1 ⟨p, rfl, hd, hb⟩
  have HD := Lib.hid hd
  have HB : Hid (Below w.heap.size w w1) := HB0.out.trans (hb.mono HB0.out.size)
  have HZ : Hid (w0.heap.size ≤ w1.heap.size) := hb.size
  have HS : Hid (w.heap.size ≤ w0.heap.size) := HB0.out.size
  clear hd hb HB0
  generalize w0.heap.size = B at *
  -- fill(d, ats)
  have H := Lib.hid (fill_d HD.out HZ.out rfl rfl (by decide) ka kn kcap ks (HA.out.1.1.below HB.out) (fun x hx h0 => Nat.lt_of_lt_of_le (HA.out.1.2 x hx h0) HS.out) (by have := HN.out.1; show 0 + kn ≤ 60000; omega))
  rw [← E1.out] at H
  go_wp2_with fail
  refine (H.out).mono ?_
  rintro e w2 ⟨⟨v, rfl⟩, hd, hb⟩
  have HD := Lib.hid hd
  have HB : Hid (Below w.heap.size w w2) := HB.out.trans (hb.mono HS.out)
  have HZ : Hid (B ≤ w2.heap.size) := Nat.le_trans HZ.out hb.size
  clear hd hb H
  -- its twin
  have H := Lib.hid (twin_d HD.out HZ.out)
  go_wp2_with fail
  refine (H.out).mono ?_
  rintro e w3 ⟨q, rfl, hd, hb⟩
  have HD := Lib.hid hd
  have HB : Hid (Below w.heap.size w w3) := HB.out.trans (hb.mono HB.out.size)
  have HZ : Hid (B ≤ w3.heap.size) := Nat.le_trans HZ.out hb.size
  clear hd hb H
  have H := Lib.hid (new_d HD.out HZ.out 6 (by omega) (by omega))
  go_wp2_with fail
  refine (H.out).mono ?_
  rintro e w4 ⟨r, rfl, hd, hb⟩
  have HD := Lib.hid hd
  have HB : Hid (Below w.heap.size w w4) := HB.out.trans (hb.mono HB.out.size)
  have HZ : Hid (B ≤ w4.heap.size) := Nat.le_trans HZ.out hb.size
  clear hd hb H
  -- plain
  have H := Lib.hid (fill_d HD.out HZ.out rfl rfl (by decide) ka kn kcap ks (HA.out.1.1.below HB.out) (fun x hx h0 => Nat.lt_of_lt_of_le (HA.out.1.2 x hx h0) HS.out) (by have := HN.out.1; show 0 + kn ≤ 60000; omega))
  rw [← E1.out] at H
  go_wp2_with fail
  refine (H.out).mono ?_
  rintro e w5 ⟨⟨v, rfl⟩, hd, hb⟩
  have HD := Lib.hid hd
  have HB : Hid (Below w.heap.size w w5) := HB.out.trans (hb.mono HS.out)
  have HZ : Hid (B ≤ w5.heap.size) := Nat.le_trans HZ.out hb.size
  clear hd hb H
  have H := Lib.hid (fill_d HD.out HZ.out G1.out.1 G1.out.2.1 (by rw [G1.out.2.2.1]; decide) la ln lcap ls (HA.out.2.1.1.below HB.out) (fun x hx h0 => Nat.lt_of_lt_of_le (HA.out.2.1.2 x hx h0) HS.out) (by have := HN.out; rw [G1.out.2.2.2]; omega))
  rw [← E2.out] at H
  go_wp2_with fail
  refine (H.out).mono ?_
  rintro e w6 ⟨⟨v, rfl⟩, hd, hb⟩
  have HD := Lib.hid hd.three
  have HB : Hid (Below w.heap.size w w6) := HB.out.trans (hb.mono HS.out)
  have HZ : Hid (B ≤ w6.heap.size) := Nat.le_trans HZ.out hb.size
  clear hd hb H
  have H := Lib.hid (fill_d HD.out HZ.out G1.out.1 G1.out.2.1 (by rw [G1.out.2.2.1]; decide) la ln lcap ls (HA.out.2.1.1.below HB.out) (fun x hx h0 => Nat.lt_of_lt_of_le (HA.out.2.1.2 x hx h0) HS.out) (by have := HN.out; rw [G1.out.2.2.2]; omega))
  rw [← E2.out] at H
  go_wp2_with fail
  refine (H.out).mono ?_
  rintro e w7 ⟨⟨v, rfl⟩, hd, hb⟩
  have HD := Lib.hid hd.three
  have HB : Hid (Below w.heap.size w w7) := HB.out.trans (hb.mono HS.out)
  have HZ : Hid (B ≤ w7.heap.size) := Nat.le_trans HZ.out hb.size
  clear hd hb H
  have H := Lib.hid (fill_d HD.out HZ.out G1.out.1 G1.out.2.1 (by rw [G1.out.2.2.1]; decide) ra rn rcap rs (HA.out.2.2.1.below HB.out) (fun x hx h0 => Nat.lt_of_lt_of_le (HA.out.2.2.2 x hx h0) HS.out) (by have := HN.out; rw [G1.out.2.2.2]; omega))
  rw [← E3.out] at H
  go_wp2_with fail
  refine (H.out).mono ?_
  rintro e w8 ⟨⟨v, rfl⟩, hd, hb⟩
  have HD := Lib.hid hd
  have HB : Hid (Below w.heap.size w w8) := HB.out.trans (hb.mono HS.out)
  have HZ : Hid (B ≤ w8.heap.size) := Nat.le_trans HZ.out hb.size
  clear hd hb H
  -- e.Flush()
  have H := Lib.hid (flush_d HD.out HZ.out G3.out.2.1 (by rw [G3.out.2.2.1]; decide))
  have G4 : Hid (D3.flush.off = false) := by
    show _ = _
    unfold DS.flush DS.step
    rw [if_neg (by show ¬ 0 < D3.left; rw [G3.out.2.2.1]; decide)]
    exact G3.out.2.1
  generalize D3.flush = D4 at *
  go_wp2_with fail
  refine (H.out).mono ?_
  rintro e w9 ⟨rfl, hd, hb⟩
  have HD := Lib.hid hd
  have HB : Hid (Below w.heap.size w w9) := HB.out.trans (hb.mono HS.out)
  have HZ : Hid (B ≤ w9.heap.size) := Nat.le_trans HZ.out hb.size
  clear hd hb H
  have H := Lib.hid (fuse_d HD.out HZ.out f (by omega) G4.out)
  go_wp2_with fail
  refine (H.out).mono ?_
  rintro e w10 ⟨rfl, hd, hb⟩
  have HD := Lib.hid hd
  have HB : Hid (Below w.heap.size w w10) := HB.out.trans (hb.mono HS.out)
  have HZ : Hid (B ≤ w10.heap.size) := Nat.le_trans HZ.out hb.size
  clear hd hb H
  -- e.Crash([]int{1, 1})
  have hbA : Below w10.heap.size w10 (w10.alloc (.cells #[.int .i64 1, .int .i64 1] 3)) := (Below.refl _ _).alloc (Nat.le_refl _) _
  have hcA := heap_alloc_new w10 (.cells #[.int .i64 1, .int .i64 1] 3)
  have H := Lib.hid (crash_d HD.out HZ.out hbA (some ⟨w10.heap.size, 0, none⟩) 2 2 (fun _ => 1) ⟨by omega, .inr ⟨_, _, rfl, fun i hi => by
    rw [cell_of_row _ _ _ _ _ _ hcA]
    rcases (by omega : i = 0 ∨ i = 1) with rfl | rfl <;> rfl⟩⟩ (fun x hx _ => by cases hx; exact .inr (Nat.le_refl _)))
  have HBA : Hid (Below w.heap.size w (w10.alloc (.cells #[.int .i64 1, .int .i64 1] 3))) := HB.out.trans (hbA.mono HB.out.size)
  have HZA : Hid (B ≤ (w10.alloc (.cells #[.int .i64 1, .int .i64 1] 3)).heap.size) := Nat.le_trans HZ.out hbA.size
  clear hbA hcA HB HZ
  go_wp2_with fail
  refine (H.out).mono ?_
  rintro e w11 ⟨⟨v, rfl⟩, hd, hb⟩
  have HD := Lib.hid hd
  have HB : Hid (Below w.heap.size w w11) := HBA.out.trans (hb.mono HS.out)
  have HZ : Hid (B ≤ w11.heap.size) := Nat.le_trans HZA.out hb.size
  clear hd hb H
  have H := Lib.hid (fuse_d HD.out HZ.out 0 (by omega) rfl)
  go_wp2_with fail
  refine (H.out).mono ?_
  rintro e w12 ⟨rfl, hd, hb⟩
  have HD := Lib.hid hd
  have HB : Hid (Below w.heap.size w w12) := HB.out.trans (hb.mono HS.out)
  clear hd hb H
  generalize hDZ : ({ DS.crash _ _ with left := 0, off := (0 : Int) == 0 } : DS) = DZ at *
  have HDZ : Hid (DZ.off = true) := by show _ = _; rw [← hDZ]; rfl
  clear hDZ
  -- the answers
  have H := Lib.hid (same_yes (HD.out.get (p := p) (d := D2) (by simp)) (HD.out.get (p := r) (d := D2) (by simp)) G2.out.1 G2.out.1 G2.out.2.1 G2.out.2.1 (fun _ _ => rfl))
  go_wp2_with fail
  refine (H.out).mono ?_
  rintro e w13 ⟨rfl, hb⟩
  have HD := Lib.hid (HD.out.below hb)
  have HB : Hid (Below w.heap.size w w13) := HB.out.trans (hb.mono HB.out.size)
  clear hb H
  have H := Lib.hid (on_in (HD.out.get (p := p) (d := D2) (by simp)))
  rw [G2.out.2.1] at H
  go_wp2_with fail
  refine (H.out).mono ?_
  rintro e w14 ⟨rfl, rfl⟩
  have H := Lib.hid (on_in (HD.out.get (p := q) (d := DZ) (by simp)))
  rw [HDZ.out] at H
  go_wp2_with fail
  refine (H.out).mono ?_
  rintro e w15 ⟨rfl, rfl⟩
  have H := Lib.hid (pending_in (HD.out.get (p := p) (d := D2) (by simp)))
  rw [G2.out.2.2.2] at H
  go_wp2_with fail
  refine (H.out).mono ?_
  rintro e w16 ⟨a, cap, rfl, _, hb⟩
  have HB : Hid (Below w.heap.size w w16) := HB.out.trans (hb.mono HB.out.size)
  clear hb H
  go_wp2_with fail
  go_ret
  exact ⟨rfl, HB.out⟩

set_option maxHeartbeats 800000 in
theorem twins_out (ka : Option Addr) (kn kcap : Nat) (la : Option Addr) (ln lcap : Nat) (ra : Option Addr) (rn rcap : Nat) (f : Int) (w : World) (h : (40 : Int) < (kn : Int) ∨ ((kn : Int) ≤ 40 ∧ (40 : Int) < (ln : Int)) ∨ ((kn : Int) ≤ 40 ∧ (ln : Int) ≤ 40 ∧ (40 : Int) < (rn : Int)) ∨ ((kn : Int) ≤ 40 ∧ (ln : Int) ≤ 40 ∧ (rn : Int) ≤ 40 ∧ f < 1) ∨ ((kn : Int) ≤ 40 ∧ (ln : Int) ≤ 40 ∧ (rn : Int) ≤ 40 ∧ 1 ≤ f ∧ 200 < f)) :
    Calls Try.prog 10 #[.slice ka kn kcap, .slice la ln lcap, .slice ra rn rcap, .int .i64 f] w fun e w' => e = .returned (.bool true) ∧ Below w.heap.size w w' := by
  rcases h with h | ⟨h1, h⟩ | ⟨h1, h2, h⟩ | ⟨h1, h2, h3, h⟩ | ⟨h1, h2, h3, h4, h⟩
  all_goals
    go_enter Try.func10, Try.ntmps10
    go_wp2_with fail
    refine (alive_any _).mono ?_
    rintro e w1 ⟨rfl, hb1⟩
    go_wp2_with fail
    go_ret
    exact ⟨rfl, hb1⟩
theorem twins_walk (a0 : Option Addr) (len0 cap0 : Nat) (z0 : List Int) (a1 : Option Addr) (len1 cap1 : Nat) (z1 : List Int) (a2 : Option Addr) (len2 cap2 : Nat) (z2 : List Int) (a3 : Int) (w : World) (w0 : RowIn .i64 w a0 len0 cap0 z0) (w1 : RowIn .i64 w a1 len1 cap1 z1) (w2 : RowIn .i64 w a2 len2 cap2 z2) (_ : (Lit.int .i64 a3).wf = true) :
    Calls Try.prog 10 #[.slice a0 len0 cap0, .slice a1 len1 cap1, .slice a2 len2 cap2, .int .i64 a3] w fun e w' => e = .returned (.bool true) ∧ Below w.heap.size w w' := by
  by_cases h0 : len0 ≤ 40
  · by_cases h1 : len1 ≤ 40
    · by_cases h2 : len2 ≤ 40
      · by_cases h3 : 1 ≤ a3
        · by_cases h4 : a3 ≤ 200
          · exact twins_in a0 len0 cap0 _ a1 len1 cap1 _ a2 len2 cap2 _ a3 w (ints_of_row w0 (by omega)) (ints_of_row w1 (by omega)) (ints_of_row w2 (by omega)) h0 h1 h2 h3 h4
          · exact twins_out _ _ _ _ _ _ _ _ _ _ w (.inr (.inr (.inr (.inr ⟨by omega, by omega, by omega, h3, by omega⟩))))
        · exact twins_out _ _ _ _ _ _ _ _ _ _ w (.inr (.inr (.inr (.inl ⟨by omega, by omega, by omega, by omega⟩))))
      · exact twins_out _ _ _ _ _ _ _ _ _ _ w (.inr (.inr (.inl ⟨by omega, by omega, by omega⟩)))
    · exact twins_out _ _ _ _ _ _ _ _ _ _ w (.inr (.inl ⟨by omega, by omega⟩))
  · exact twins_out _ _ _ _ _ _ _ _ _ _ w (.inl (by omega))
end Go.Proofs.Ythdefaodioapbaa
