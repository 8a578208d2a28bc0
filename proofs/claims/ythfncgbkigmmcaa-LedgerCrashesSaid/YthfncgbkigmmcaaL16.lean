/- Open: a ledger. -/
import Derived.Test.YthfncgbkigmmcaaL15
namespace Go.Proofs.Ythfncgbkigmmcaa
open Go.RowKit

variable {w w' w1 wr : World} {O R O1 R1 : Nat → Prop} {lp p : Nat} {d D : DS} {dead dead1 : Bool}
theorem run_n (o : LOp) (d : DS) : (o.run d).n = d.n := by cases o with
  | w k x => exact write_n d k x
  | f => exact flush_n d
theorem runL_n : ∀ (L : List LOp) (d : DS), (runL L d).1.n = d.n
  | [], d => rfl
  | o :: r, d => by
    rw [runL]
    split
    · rfl
    · rw [runL_n r, run_n]
theorem runL_room : ∀ (L : List LOp) (d : DS) {m : Nat}, Room (m + L.length) d → Room m (runL L d).1
  | [], d, m, h => h
  | o :: r, d, m, h => by
    rw [runL]
    split
    · exact h.less (by omega)
    · refine runL_room r _ ?_
      rw [List.length_cons] at h
      cases o with
      | w k x => exact Room.write (m := m + r.length) (h.less (by omega)) k x
      | f => exact Room.flush (h.less (by omega))
theorem settleW_length (l : Bs) : ∀ (ps : List Nat) (i : Nat), (settleW l i ps).length = ps.length
  | [], i => rfl
  | a :: r, i => by rw [settleW, List.length_cons, settleW_length l r, List.length_cons]
theorem natsF_own {b : Nat} {v : Value} {ps : List Nat} (h : w.ownsRow b 3 1 v ps.length (natsV ps)) : NatsF w (fun j => j < b) v ps := by
  obtain ⟨a, cap, e, h1⟩ := natsW_own h
  refine ⟨a, cap, e, fun k hk => ?_⟩
  obtain ⟨g, off, e1, c⟩ := h1 k hk
  exact ⟨g, off, e1, fun hlt => by have := (h.lt g (by rw [e, e1]; rfl)).1; omega, c⟩
theorem way_far (g cap : Nat) (bs : Bs) (w : World) (hb : Bytes w (.slice (some ⟨g, 0, none⟩) 512 cap) bs) (hl : bs.length = 512) (hc : 512 ≤ cap) {l : List Nat} (hw : wayB bs = some l) :
    Calls Try.prog 49 #[.slice (some ⟨g, 0, none⟩) 512 cap] w fun e w' => (∃ v, e = .returned (.tuple #[v, .bool true]) ∧ NatsF w' (fun j => j < w.heap.size) v l) ∧ Below w.heap.size w w' := by
  unfold wayB at hw
  split at hw
  · rename_i h
    cases hw
    refine (way_yes g cap bs w hb hl hc h.1 h.2.1 h.2.2).mono ?_
    rintro e w' ⟨⟨v, rfl, hv⟩, hb⟩
    exact ⟨⟨v, rfl, natsF_own hv⟩, hb⟩
  · cases hw
theorem NatsF.weaken {v : Value} {ps : List Nat} (h : NatsF w O v ps) (ho : ∀ j, O1 j → O j) : NatsF w O1 v ps := by
  obtain ⟨a, cap, e, h1⟩ := h
  refine ⟨a, cap, e, fun k hk => ?_⟩
  obtain ⟨g, off, e1, hg, c⟩ := h1 k hk
  exact ⟨g, off, e1, fun e => hg (ho g e), c⟩
theorem settle_at {n m : Nat} (h : At0 w O R p n m D O1 R1 wr) (hm : 60 ≤ m) (hn : 97 ≤ n) (hn2 : n ≤ 4096) (ps : List Nat) (v : Value) (hp : NatsF wr O1 v ps) (hl : ps.length ≤ 40) (hps : ∀ x ∈ ps, x + 96 < n) :
    Calls Try.prog 50 #[.pointer (some ⟨w.heap.size + 1 + 1, 0, none⟩), v] wr fun e w' => Ends wr O1 R1 (w.heap.size + 1 + 1) p false (runL (settleOps D.now ps) D) e w' :=
  settle_any h.1 ps v hp hl (by rw [h.2.2.1]; exact hn) (by rw [h.2.2.1]; exact hn2) (by rw [h.2.2.1]; exact hps) (h.2.2.2.less hm)
set_option maxRecDepth 10000 in
set_option maxHeartbeats 3200000 in
theorem open_any (h : DiskO w O R p d) (hr : Room 60 d) (ho : d.off = false) (hn : 97 ≤ d.n) (hn2 : d.n ≤ 4096) (l : List Nat) (hl : wayB (blockAt d.now 0) = some l) (hll : ∀ x ∈ l, x + 96 < d.n) :
    Calls Try.prog 24 #[.pointer (some ⟨p, 0, none⟩)] w fun e w' => Opened w O R p (runL (openOps d l) d) 11 e w' := by
  have hmf : ∀ (fn : Fn) (first cap : Array Value) (w : World), (Instr.makeFunc fn first cap).run Try.prog w = .ok (.func fn first cap) w := fun _ _ _ _ => rfl
  have HD := Lib.hid h
  have A0 : Hid (At0 w O R p d.n 60 d (startO w O) R (startW w p)) := ⟨start_led h, Turned.refl _ _ _, rfl, hr⟩
  generalize hZ : runL (openOps d l) d = Z
  rw [openOps, runL_on ho] at hZ
  have HZ := Lib.hid hZ
  have HLL := Lib.hid hll
  have hl40 := way_len hl
  clear h hr hZ hll
  obtain ⟨W1, hW1⟩ : ∃ W1, W1 = startW w p := ⟨_, rfl⟩
  rw [← hW1] at A0
  unfold startW at hW1
  have HON := Lib.hid (on_led A0.out.1)
  have HBL := Lib.hid (blocks_led A0.out.1)
  rw [ho] at HON
  have hlc := A0.out.lc HD.out
  have n1 : ¬ (d.n : Int) ≤ 96 := by omega
  have HRD := Lib.hid (lread_any A0.out.1 0 (by omega))
  have HNL := Lib.hid (nlen_of A0.out.1)
  go_enter_defers Try.func24, Try.ntmps24
  go_wp2_with fail
  refine wp_scope_jumps 0 (fun _ _ => False) (fun _ _ => 0) rfl ?_ (fun _ _ h => h.elim)
  go_wp2_with fail
  rw [← hW1]
  clear hW1
  refine (HON.out).mono ?_
  rintro e w1 ⟨rfl, rfl⟩
  go_wp2_with fail
  refine (HBL.out).mono ?_
  rintro e w1 ⟨rfl, rfl⟩
  go_wp2_with fail
  refine (HRD.out).mono ?_
  rintro e w2 (⟨ho2, _⟩ | ⟨_, g, cap, rfl, q1, q2, q3, q4⟩)
  · rw [ho] at ho2
    cases ho2
  have HWY := Lib.hid (way_far g cap _ w2 q1 (blockAt_length HNL.out (by omega)) q3 hl)
  have A2 : Hid (At0 w O R p d.n 60 d (startO w O) R w2) := A0.out.below q4
  clear q1 q2 q3 q4
  go_wp2_with fail
  refine (HWY.out).mono ?_
  rintro e w3 ⟨⟨v, rfl, hv⟩, hb⟩
  have A3 : Hid (At0 w O R p d.n 60 d (startO w O) R w3) := A2.out.below hb
  have hvf := hv.weaken (fun j hj => A2.out.1.lt j hj)
  obtain ⟨a, cv, rfl, _⟩ := id hvf
  have HV := Lib.hid hvf
  have hlc3 := A3.out.lc HD.out
  clear hb hv hvf
  go_wp2_with fail
  go_loopw [32] (fun i wr => ∃ k : Nat, k ≤ l.length ∧ i = .int .i64 k ∧ Hid (wr = w3)) (fun i _ => l.length - (intOf i).toNat)
  case atStart => exact ⟨0, Nat.zero_le _, rfl, rfl⟩
  case round =>
    obtain ⟨k, hk, rfl, hw⟩ := hrel
    have hw' : wr = w3 := hw
    subst hw'
    clear hw
    have k0 : (0 : Int) ≤ (k : Int) := by omega
    by_cases hlt : k < l.length
    · have k1 : (k : Int) < (l.length : Int) := by omega
      obtain ⟨g2, off, e2, hcell⟩ := HV.out.at k hlt
      subst e2
      have hlb := Lib.hid (lblocks_any A3.out.1)
      have hx : ¬ (d.n : Int) - 96 ≤ (l[k] : Int) := by have := HLL.out _ (List.getElem_mem hlt); omega
      generalize l[k] = x at *
      have x0 : ¬ (x : Int) < 0 := by omega
      go_wp2_with fail
      refine (hlb.out).mono ?_
      rintro e w4 ⟨rfl, rfl⟩
      go_wp2_with fail
      go_roundw
      case rel => exact ⟨k + 1, by omega, by go_num, (by first | exact trivial | rfl : _)⟩
      case measure => simp [intOf]; omega
    · obtain rfl : k = l.length := by omega
      go_wp2_with fail
      refine (A3.out.flush).mono ?_
      rintro e w4 (⟨ho2, _⟩ | ⟨_, rfl, O4, R4, q1, q2⟩)
      · rw [ho] at ho2
        cases ho2
      have A4 := Lib.hid q1
      have HV4 := Lib.hid (HV.out.turned q2)
      have hlc := A4.out.lc HD.out
      have hnow : d.flush.now = d.now := flush_now d
      have HNOW := Lib.hid hnow
      clear q1 q2 hnow
      by_cases hl0 : l = []
      · have hlen : ¬ (0 : Int) < (l.length : Int) := by rw [hl0]; simp
        have hz := HZ.out
        rw [if_pos hl0] at hz
        change (d.flush, true) = Z at hz
        subst hz
        have HL0 := Lib.hid hl0
        clear hl0
        change Hid (At0 w O R p d.n 60 d.flush O4 R4 w4) at A4
        obtain ⟨hcl, hce, _, _⟩ := start_cells HD.out A4.out.2.1
        have hlc := A4.out.lc HD.out
        have hce1 : w4.cell? ⟨w.heap.size + 1, 0, none⟩ = some (.int .i64 0) := by rw [cell_of_row w4 _ 0 _ _ _ hce]; rfl
        have hfl := frozen_of_row w4 _ 0 _ _ hcl
        have hfe := frozen_of_row w4 _ 0 _ _ hce
        clear hcl hce
        go_wp2_with fail
        refine door_ok shutO HD.out (wr := w4) (((Keeps.refl (fun j => j = w.heap.size ∨ j = w.heap.size + 1) w4).setCell ⟨w.heap.size, 0, none⟩ _ (.inl (.inl rfl))).setCell ⟨w.heap.size + 1, 0, none⟩ _ (.inl (.inr rfl))) A4.out.1 A4.out.2.1 ?_ ?_ rfl rfl rfl 11
        · rw [World.cell?_setCell_other (h := by intro e; have := congrArg Addr.block e; simp at this)]
          exact World.cell?_setCell_same' _ _ _ (by rw [hlc]; rfl)
        · exact World.cell?_setCell_same' _ _ _ (by rw [World.cell?_setCell_other (h := by intro e; have := congrArg Addr.block e; simp at this), hce1]; rfl)
      · have hlen : (0 : Int) < (l.length : Int) := by have := List.length_pos_iff.2 hl0; omega
        have hz := HZ.out
        rw [if_neg hl0] at hz
        have HST := Lib.hid (settle_at A4.out (Nat.le_refl _) hn hn2 l _ HV4.out hl40 HLL.out)
        rw [show d.flush.now = d.now from HNOW.out] at HST
        change Hid (Calls Try.prog 50 _ w4 fun e w' => Ends w4 O4 R4 (w.heap.size + 1 + 1) p false (runL (settleOps d.now l) (LOp.f.run d)) e w') at HST
        rw [hz] at HST
        have HL0 := Lib.hid hl0
        have HN5 : Hid (Z.1.n = d.n) := by show _ = _; rw [← hz, runL_n]; exact flush_n d
        have HR5 : Hid (Room 0 Z.1) := by
          show Room 0 Z.1
          rw [← hz]
          refine runL_room _ _ (Room.less (m := 60) A4.out.2.2.2 ?_)
          rw [settleOps, List.length_append, settleW_length]
          simp only [mark3, List.length_cons, List.length_nil]
          omega
        clear hl0 hz
        go_wp2_with fail
        refine (HST.out).mono ?_
        rintro e w5 ⟨rfl, O5, R5, q1, q2⟩
        obtain ⟨ZD, ZB⟩ := Z
        have hn5 : ZD.n = d.n := HN5.out
        have hr5 : Room 0 ZD := HR5.out
        have A5 : Hid (At0 w O R p d.n 0 ZD O5 R5 w5) := ⟨q1, A4.out.2.1.trans q2, hn5, hr5⟩
        clear q1 q2
        cases ZB with
        | false =>
          go_wp2_with fail
          exact A5.out.bad HD.out shutO rfl rfl rfl rfl
        | true =>
          obtain ⟨hcl, hce, _, _⟩ := start_cells HD.out A5.out.2.1
          have hlc := A5.out.lc HD.out
          have hce1 : w5.cell? ⟨w.heap.size + 1, 0, none⟩ = some (.int .i64 0) := by rw [cell_of_row w5 _ 0 _ _ _ hce]; rfl
          have hfl := frozen_of_row w5 _ 0 _ _ hcl
          have hfe := frozen_of_row w5 _ 0 _ _ hce
          clear hcl hce
          go_wp2_with fail
          refine door_ok shutO HD.out (wr := w5) (((Keeps.refl (fun j => j = w.heap.size ∨ j = w.heap.size + 1) w5).setCell ⟨w.heap.size, 0, none⟩ _ (.inl (.inl rfl))).setCell ⟨w.heap.size + 1, 0, none⟩ _ (.inl (.inr rfl))) A5.out.1 A5.out.2.1 ?_ ?_ rfl rfl rfl 11
          · rw [World.cell?_setCell_other (h := by intro e; have := congrArg Addr.block e; simp at this)]
            exact World.cell?_setCell_same' _ _ _ (by rw [hlc]; rfl)
          · exact World.cell?_setCell_same' _ _ _ (by rw [World.cell?_setCell_other (h := by intro e; have := congrArg Addr.block e; simp at this), hce1]; rfl)
end Go.Proofs.Ythfncgbkigmmcaa
