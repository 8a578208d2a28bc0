/- fill. -/
import Derived.Test.YthdefaodioapbaaDisk10
import Derived.Test.YthdefaodioapbaaAnd7
namespace Go.Proofs.Ythdefaodioapbaa
open Go.RowKit

variable {w w' : World} {p B : Nat} {d : DS} {O R : Nat → Prop}
attribute [local irreducible] blk bits

def fillTo (d : DS) (ks : Nat → Int) : Nat → DS
  | 0 => d
  | i + 1 => (fillTo d ks i).write (fillAt (ks i)) (blk (100 + (i : Int)))
theorem fillTo_facts (d : DS) (ks : Nat → Int) (hl : d.left ≤ 0) : ∀ i, (fillTo d ks i).n = d.n ∧ (fillTo d ks i).off = d.off ∧ (fillTo d ks i).left = d.left ∧ (fillTo d ks i).fast = d.fast ∧ (fillTo d ks i).back.length = d.back.length + i
  | 0 => ⟨rfl, rfl, rfl, rfl, rfl⟩
  | i + 1 => by
    obtain ⟨h1, h2, h3, h4, h5⟩ := fillTo_facts d ks hl i
    rw [fillTo, DS.write_never _ _ _ (by omega)]
    exact ⟨h1, h2, h3, h4, by show (_ ++ [_]).length = _; rw [List.length_append, h5]; rfl⟩
theorem IntsAt.keeps {S : Nat → Prop} {ka : Option Addr} {kn : Nat} {ks : Nat → Int} (h : IntsAt w ka kn ks) (k : Keeps S w w') (hS : ∀ x, ka = some x → 0 < kn → ¬ S x.block) : IntsAt w' ka kn ks := by
  refine ⟨h.1, h.2.imp id ?_⟩
  intro ⟨g, off, he, hc⟩
  refine ⟨g, off, he, fun i hi => ?_⟩
  exact (k.cell (p := ⟨g, off + i, none⟩) (World.block_lt_of_cell? _ _ (hc i hi)) (hS ⟨g, off, none⟩ he (by omega))).trans (hc i hi)

set_option maxHeartbeats 2000000 in
theorem fill_o (h : DiskO w O R p d) (hn : d.n = 6) (ho : d.off = false) (hl : d.left ≤ 0) (ka : Option Addr) (kn kcap : Nat) (ks : Nat → Int) (hk : IntsAt w ka kn ks) (hka : ∀ x, ka = some x → 0 < kn → ¬ O x.block) (hm : d.back.length + kn ≤ 60000) :
    Calls Try.prog 22 #[.pointer (some ⟨p, 0, none⟩), .slice ka kn kcap] w fun e w' => (∃ v, e = .returned v) ∧ ∃ O' R', DiskO w' O' R' p (fillTo d ks kn) ∧ Turned w w' O R O' R' := by
  have H0 := Lib.hid h
  have HF := Lib.hid (fillTo_facts d ks hl)
  have HK := Lib.hid hk
  have HKA := Lib.hid hka
  have HH := Lib.hid (And.intro hn (And.intro ho (And.intro hl hm)))
  have kn0 : (kn : Int) ≤ 60000 := by omega
  clear h hn ho hl hk hka hm
  go_enter Try.func22, Try.ntmps22
  go_wp2_with fail
  go_loopw [4] (fun i wr => ∃ k : Nat, k ≤ kn ∧ i = .int .i64 k ∧ ∃ O' R', DiskO wr O' R' p (fillTo d ks k) ∧ Turned w wr O R O' R') (fun i _ => kn - (intOf i).toNat)
  case atStart => exact ⟨0, by omega, rfl, O, R, H0.out, Turned.refl _ _ _⟩
  case round =>
    obtain ⟨k, hk, rfl, O1, R1, hd, ht⟩ := hrel
    by_cases hlt : k < kn
    · have k0 : (0 : Int) ≤ (k : Int) := by omega
      have k1 : (k : Int) < (kn : Int) := by omega
      have hcell : ∃ g off, ka = some ⟨g, off, none⟩ ∧ wr.cell? ⟨g, off + k, none⟩ = some (.int .i64 (ks k)) := by
        rcases (HK.out.keeps ht.keeps HKA.out).2 with h0 | ⟨g, off, rfl, hc⟩
        · omega
        · exact ⟨g, off, rfl, hc k hlt⟩
      obtain ⟨g, off, rfl, hcell⟩ := hcell
      have a7 := and7 (ks k)
      have a0 := a7.1
      have a1 := a7.2
      have a2 := fillAt_tmod (ks k)
      have a3 : IntKind.i64.wrap (100 + (k : Int)) = 100 + (k : Int) := IntWalk.i64_in _ (by omega)
      have HD := Lib.hid hd
      have HT := Lib.hid ht
      have HFK := Lib.hid (HF.out k)
      clear hd ht a7 H0
      go_wp2_with fail
      refine wp_region_noPanic ?_
      refine wp_region_ordL 10 [] [0, 1, 2, 3, 4, 5, 6, 7, 8, 9, 10] (fun V => V.cell? ⟨g, off + k, none⟩ = some (.int .i64 (ks k))) (by kernel_rfl) (by kernel_rfl) rfl (by kernel_rfl) (fun _ _ _ _ _ h => h) hcell ?_
      repeat (apply heldL_run rfl (by rfl) (by rfl); (intro w hSw; go_simp; with_reducible rfl); (try simp only [Act.put, List.setIfInBounds_toArray, List.set_cons_zero, List.set_cons_succ]))
      refine heldL_step rfl (by rfl) (by rfl) (fun K hK => ?_)
      go_simp
      refine (block_any _ _).mono ?_
      rintro e w2 ⟨rfl, hx2, hb2⟩
      have hlt2 : wr.heap.size < w2.heap.size := RowAt.lt hx2 (by intro h; have := congrArg List.length h; rw [u8s_length, blk_length] at this; cases this) _ rfl
      have hbw : Below wr.heap.size wr w2 := (Below.refl _ wr).drew.trans hb2
      have hF := HFK.out
      have H3 := Lib.hid (write_o (HD.out.below hbw) wr.heap.size 512 (fun h => by have := HD.out.2.1 _ h; omega) hlt2 (fillAt (ks k)) (by rw [hF.1, HH.out.1]; exact fillAt_lt _) (by rw [hF.2.1]; exact HH.out.2.1) (by rw [hF.2.2.1]; have := HH.out.2.2.1; omega) (by rw [hF.2.2.2.2]; have := HH.out.2.2.2; omega) _ hx2 (blk_length _))
      have HB2 : Hid (Turned wr w2 O1 R1 O1 R1) := Turned.of_below hbw _ _
      have hc2 : w2.cell? ⟨g, off + k, none⟩ = some (.int .i64 (ks k)) := (hbw.cell (p := ⟨g, off + k, none⟩) (World.block_lt_of_cell? _ _ hcell)).trans hcell
      clear hx2 hb2 hlt2 hbw hF
      refine hK.out _ _ (.inr hc2) ?_
      clear hK K
      (try simp only [Act.put, List.setIfInBounds_toArray, List.set_cons_zero, List.set_cons_succ])
      repeat (apply heldL_run rfl (by rfl) (by rfl); (intro w hSw; go_simp; with_reducible rfl); (try simp only [Act.put, List.setIfInBounds_toArray, List.set_cons_zero, List.set_cons_succ]))
      refine heldL_step rfl (by rfl) (by rfl) (fun K hK => ?_)
      go_simp
      refine (H3.out).mono ?_
      rintro e w3 ⟨rfl, O2, R2, hd3, ht3⟩
      have HD3 := Lib.hid hd3
      have HT3 : Hid (Turned w w3 O R O2 R2) := (HT.out.trans HB2.out).trans ht3
      clear hd3 ht3 H3
      refine hK.out _ _ (.inl rfl) ?_
      clear hK K
      (try simp only [Act.put, List.setIfInBounds_toArray, List.set_cons_zero, List.set_cons_succ])
      refine heldL_nil (NoPanic.normal ?_)
      go_wp2_with fail
      go_roundw
      case rel => exact ⟨k + 1, by omega, by go_num, O2, R2, HD3.out, HT3.out⟩
      case measure => simp [intOf]; omega
    · obtain rfl : k = kn := by omega
      go_wp2_with fail
      go_end0
      exact ⟨⟨_, rfl⟩, O1, R1, hd, ht⟩
end Go.Proofs.Ythdefaodioapbaa
