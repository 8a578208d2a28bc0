/- opened. (PRINTED by genopen.py.) -/
import Derived.Test.YthfncgbkigmmcaaCrA
namespace Go.Proofs.Ythfncgbkigmmcaa
open Go.RowKit
set_option linter.unusedVariables false

variable {w w' w1 wr : World} {O R S T : Nat → Prop} {B lp p n : Nat} {d D : DS} {dead : Bool} {c : Nat → Bs} {P : Bs → Prop}
/-- numbers that no call on the disk turns -/
def Clear (w : World) (T : Nat → Prop) (a : Option Addr) (n : Nat) : Prop := ∀ x, a = some x → 0 < n → x.block < w.heap.size ∧ ¬ T x.block
set_option maxRecDepth 8000 in
set_option maxHeartbeats 3200000 in
theorem opened_fo {C : (Nat → Bs) → Prop} (h : CrS w T p n (fun I => ∃ c, C c ∧ Has n c I)) (hn : 97 ≤ n) (x1 x2 : Int) (aa : Option Addr) (an ac : Nat) (fs : Nat → Int) (v3 : Value) (ka : Option Addr) (kn kc : Nat) (ks : Nat → Int)
    (ha : IntsB w aa an fs) (haT : Clear w T aa an) (hk : IntsAt w ka kn ks) (hkT : Clear w T ka kn) :
    Calls Try.prog 36 #[.pointer (some ⟨p, 0, none⟩), .agg #[.int .i64 x1, .int .i64 x2, .slice aa an ac, v3, .slice ka kn kc]] w fun e w' => ∃ lp c T', e = .returned (.tuple #[.pointer (some ⟨lp, 0, none⟩), .bool true]) ∧ C c ∧ QO w' T' lp p n c ∧ Since w w' T T' := by
  obtain ⟨X, hX⟩ : ∃ X, X = Obj.cells #[.int .i64 x1, .int .i64 x2, .slice aa an ac, v3, .slice ka kn kc] 52 (0, 0) := ⟨_, rfl⟩
  have HBX : Hid (Below w.heap.size w (w.alloc X)) := (Below.refl _ w).alloc (Nat.le_refl _) X
  have HSX : Hid ((w.alloc X).heap.size = w.heap.size + 1) := by show _ = _; simp
  have hxb : (w.alloc X).heap[w.heap.size]? = some (.cells #[.int .i64 x1, .int .i64 x2, .slice aa an ac, v3, .slice ka kn kc] 52 (0, 0)) := by rw [heap_alloc_new, hX]
  obtain ⟨S, hS⟩ : ∃ S : Nat → Prop, S = fun j => (T j ∧ j < w.heap.size) ∨ w.heap.size + 1 ≤ j := ⟨_, rfl⟩
  have HCR : Hid (CrS (w.alloc X) S p n (fun I => ∃ c, C c ∧ Has n c I)) := by
    rw [hS]
    exact ((h.sub (T := fun j => T j ∧ j < w.heap.size) (fun j hj q => ⟨q, hj⟩)).below HBX.out).sub (fun j _ q => .inl q)
  have HUP : Hid (∀ W : World, (w.alloc X).heap.size ≤ W.heap.size → Up W S) := fun W h1 j hj => by rw [hS]; exact .inr (by have := HSX.out; omega)
  have HSG : Hid (¬ S w.heap.size) := by rw [hS]; rintro (q | q) <;> omega
  have HIA : Hid (∀ W, Keeps S (w.alloc X) W → IntsB W aa an fs) := fun W hW => (ha.below HBX.out).keep hW (fun x hx h0 q => by rw [hS] at q; have := haT x hx h0; rcases q with q | q; exact this.2 q.1; omega)
  have HIK : Hid (∀ W, Keeps S (w.alloc X) W → IntsAt W ka kn ks) := fun W hW => (hk.below HBX.out).keep hW (fun x hx h0 q => by rw [hS] at q; have := hkT x hx h0; rcases q with q | q; exact this.2 q.1; omega)
  have HKT : Hid (∀ x, ka = some x → 0 < kn → ¬ S x.block) := fun x hx h0 q => by rw [hS] at q; have := hkT x hx h0; rcases q with q | q; exact this.2 q.1; omega
  have HOUT : Hid (∀ W lp c, Keeps S (w.alloc X) W → QO W S lp p n c → ∃ T', QO W T' lp p n c ∧ Since w W T T') := fun W lp c hW hq => by
    have hk0 : Keeps (fun j => T j ∨ w.heap.size ≤ j) w W := (Keeps.of_below HBX.out).trans' (hW.mono (fun j hj q => by rw [hS] at q; rcases q with q | q; exact .inl q.1; exact .inr (by omega)))
    exact ⟨_, hq.sub (fun j hj q => ⟨by rw [hS] at q; rcases q with q | q; exact .inl q.1; exact .inr (by omega), hj⟩), since_of hk0⟩
  have HXC : Hid (∀ W, Keeps S (w.alloc X) W → W.cell? ⟨w.heap.size, 2, none⟩ = some (.slice aa an ac) ∧ W.cell? ⟨w.heap.size, 4, none⟩ = some (.slice ka kn kc)) := fun W hW => by
    have hl : w.heap.size < (w.alloc X).heap.size := by rw [HSX.out]; omega
    exact ⟨by rw [hW.cell (p := ⟨w.heap.size, 2, none⟩) hl HSG.out, cell_of_row _ _ _ _ _ _ hxb]; rfl, by rw [hW.cell (p := ⟨w.heap.size, 4, none⟩) hl HSG.out, cell_of_row _ _ _ _ _ _ hxb]; rfl⟩
  clear h ha haT hk hkT hS hxb
  have HXX := Lib.hid hX
  go_enter Try.func36, Try.ntmps36
  go_wp2_with fail
  rw [← hX]
  clear hX
  generalize w.alloc X = W0 at *
  go_loopw [6] (fun i wr => ∃ k : Nat, i = .int .i64 (k : Int) ∧ k ≤ 3 ∧ CrS wr S p n (fun I => ∃ c, C c ∧ Has n c I) ∧ Keeps S W0 wr) (fun i _ => 4 - (intOf i).toNat)
  case atStart => exact ⟨0, rfl, by omega, HCR.out, Keeps.refl _ _⟩
  case round =>
    obtain ⟨k, rfl, hk, hcr, hkp⟩ := hrel
    have HKP := Lib.hid hkp
    have k0 : (0 : Int) ≤ (k : Int) := by omega
    have k4 : (k : Int) < 4 := by omega
    have HC1 := Lib.hid (crash_s hcr (HUP.out _ hkp.size) ka kn kc ks (HIK.out _ hkp) HKT.out)
    obtain ⟨hx2, hx4⟩ := HXC.out _ hkp
    clear hcr hkp
    go_wp2_with fail
    refine (HC1.out).mono ?_
    rintro e w2 ⟨⟨v2, rfl⟩, hl2, hk2⟩
    have HK2 := Lib.hid (HKP.out.trans' hk2)
    have HL2 := Lib.hid hl2
    obtain ⟨hx2, hx4⟩ := HXC.out _ HK2.out
    clear hl2 hk2 HC1
    by_cases hk3 : k < 3
    · have k3 : (k : Int) < 3 := by omega
      by_cases hak : k < an
      · have k5 : (k : Int) < (an : Int) := by omega
        obtain ⟨g, off, hg, hcell⟩ : ∃ g off, aa = some ⟨g, off, none⟩ ∧ ∀ i, i < an → w2.cell? ⟨g, off + i, none⟩ = some (.int .i64 (fs i)) := (HIA.out _ HK2.out).elim (fun e => by omega) id
        have hck := hcell k hak
        obtain ⟨m, hm, hbits⟩ := and_low (fs k) 31 (by omega)
        have hbits : bits BinOp.and IntKind.i64 (fs k) 31 = (m : Int) := hbits
        have HFU := Lib.hid (fuse_ls HL2.out (HUP.out _ HK2.out.size) (m : Int) (by omega) (by omega))
        subst hg
        clear hcell hak
        go_wp2_with fail
        refine (HFU.out).mono ?_
        rintro e w3 ⟨rfl, hf3, hk3'⟩
        have HK3 := Lib.hid (HK2.out.trans' hk3')
        have HF3 := Lib.hid hf3
        clear hf3 hk3' HFU hbits hck hx2 hx4 hm
        have HOP := Lib.hid (open_fs HF3.out (HUP.out _ HK3.out.size) hn (C := C) (fun I hI => hI))
        go_wp2_with fail
        refine (HOP.out).mono ?_
        rintro e w4 ⟨⟨lp, c, rfl, hc4, ha4⟩ | ⟨rfl, hc4⟩, hk4⟩
        · have HK4 := Lib.hid (HK3.out.trans' hk4)
          have HA4 := Lib.hid ha4
          have HC4 := Lib.hid hc4
          have HON := Lib.hid (on_as ha4)
          clear hc4 ha4 hk4 HOP
          go_wp2_with fail
          refine (num_any _ _).mono ?_
          rintro e w5 ⟨rfl, rfl⟩
          go_wp2_with fail
          refine (HON.out).mono ?_
          rintro e w5 ⟨⟨b, rfl, hb⟩, rfl⟩
          cases b with
          | true =>
            have HQ := Lib.hid (HOUT.out _ _ _ HK4.out (hb rfl))
            clear hb
            go_wp2_with fail
            go_ret2
            obtain ⟨T', q1, q2⟩ := HQ.out
            exact ⟨lp, c, T', rfl, HC4.out, q1, q2⟩
          | false =>
            have HN : Hid (CrS w5 S p n (fun I => ∃ c, C c ∧ Has n c I)) := HA4.out.crS.mono (fun I hI => ⟨c, HC4.out, hI⟩)
            clear hb
            go_wp2_with fail
            refine (num_any _ _).mono ?_
            rintro e w6 ⟨rfl, rfl⟩
            go_wp2_with fail
            refine (num_any _ _).mono ?_
            rintro e w6 ⟨rfl, rfl⟩
            go_wp2_with fail
            go_roundw
            case rel => exact ⟨k + 1, by go_num, by omega, HN.out, HK4.out⟩
            case measure => simp [intOf]; omega
        · have HK4 := Lib.hid (HK3.out.trans' hk4)
          have HN := Lib.hid hc4
          clear hc4 hk4 HOP
          go_wp2_with fail
          refine (num_any _ _).mono ?_
          rintro e w5 ⟨rfl, rfl⟩
          go_wp2_with fail
          refine (num_any _ _).mono ?_
          rintro e w5 ⟨rfl, rfl⟩
          go_wp2_with fail
          go_roundw
          case rel => exact ⟨k + 1, by go_num, by omega, HN.out, HK4.out⟩
          case measure => simp [intOf]; omega
      · have k5 : ¬ (k : Int) < (an : Int) := by omega
        have HK3 := HK2
        have HF3 := Lib.hid HL2.out.fused
        clear hak
        have HOP := Lib.hid (open_fs HF3.out (HUP.out _ HK3.out.size) hn (C := C) (fun I hI => hI))
        go_wp2_with fail
        refine (HOP.out).mono ?_
        rintro e w4 ⟨⟨lp, c, rfl, hc4, ha4⟩ | ⟨rfl, hc4⟩, hk4⟩
        · have HK4 := Lib.hid (HK3.out.trans' hk4)
          have HA4 := Lib.hid ha4
          have HC4 := Lib.hid hc4
          have HON := Lib.hid (on_as ha4)
          clear hc4 ha4 hk4 HOP
          go_wp2_with fail
          refine (num_any _ _).mono ?_
          rintro e w5 ⟨rfl, rfl⟩
          go_wp2_with fail
          refine (HON.out).mono ?_
          rintro e w5 ⟨⟨b, rfl, hb⟩, rfl⟩
          cases b with
          | true =>
            have HQ := Lib.hid (HOUT.out _ _ _ HK4.out (hb rfl))
            clear hb
            go_wp2_with fail
            go_ret2
            obtain ⟨T', q1, q2⟩ := HQ.out
            exact ⟨lp, c, T', rfl, HC4.out, q1, q2⟩
          | false =>
            have HN : Hid (CrS w5 S p n (fun I => ∃ c, C c ∧ Has n c I)) := HA4.out.crS.mono (fun I hI => ⟨c, HC4.out, hI⟩)
            clear hb
            go_wp2_with fail
            refine (num_any _ _).mono ?_
            rintro e w6 ⟨rfl, rfl⟩
            go_wp2_with fail
            refine (num_any _ _).mono ?_
            rintro e w6 ⟨rfl, rfl⟩
            go_wp2_with fail
            go_roundw
            case rel => exact ⟨k + 1, by go_num, by omega, HN.out, HK4.out⟩
            case measure => simp [intOf]; omega
        · have HK4 := Lib.hid (HK3.out.trans' hk4)
          have HN := Lib.hid hc4
          clear hc4 hk4 HOP
          go_wp2_with fail
          refine (num_any _ _).mono ?_
          rintro e w5 ⟨rfl, rfl⟩
          go_wp2_with fail
          refine (num_any _ _).mono ?_
          rintro e w5 ⟨rfl, rfl⟩
          go_wp2_with fail
          go_roundw
          case rel => exact ⟨k + 1, by go_num, by omega, HN.out, HK4.out⟩
          case measure => simp [intOf]; omega
    · have k3 : ¬ (k : Int) < 3 := by omega
      have HOP := Lib.hid (open_ls HL2.out (HUP.out _ HK2.out.size) hn (C := C) (fun I hI => hI))
      go_wp2_with fail
      refine (HOP.out).mono ?_
      rintro e w4 ⟨lp, c, rfl, hc4, ha4, hk4⟩
      have HK4 := Lib.hid (HK2.out.trans' hk4)
      have HC4 := Lib.hid hc4
      have HQ4 := Lib.hid ha4.qo
      obtain ⟨D, q1, q2, q3⟩ := ha4
      have hon := on_s q1.disk
      rw [q3.1] at hon
      have HON := Lib.hid hon
      clear hc4 q1 q2 q3 hk4 hon HOP
      go_wp2_with fail
      refine (num_any _ _).mono ?_
      rintro e w5 ⟨rfl, rfl⟩
      go_wp2_with fail
      refine (HON.out).mono ?_
      rintro e w5 ⟨rfl, rfl⟩
      have HQ := Lib.hid (HOUT.out _ _ _ HK4.out HQ4.out)
      go_wp2_with fail
      go_ret2
      obtain ⟨T', q1, q2⟩ := HQ.out
      exact ⟨lp, c, T', rfl, HC4.out, q1, q2⟩
end Go.Proofs.Ythfncgbkigmmcaa
