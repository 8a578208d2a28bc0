/- settle. -/
import Derived.Test.YthfncgbkigmmcaaL10
namespace Go.Proofs.Ythfncgbkigmmcaa
open Go.RowKit

variable {w w' w1 : World} {O R O1 R1 : Nat → Prop} {lp p : Nat} {d d1 : DS} {dead dead1 : Bool}
/-- Numbers that no call on the ledger turns. -/
def NatsF (w : World) (O : Nat → Prop) (v : Value) (ps : List Nat) : Prop := ∃ a cap, v = .slice a ps.length cap ∧ ∀ k (h : k < ps.length), ∃ g off, a = some ⟨g, off, none⟩ ∧ ¬ O g ∧ w.cell? ⟨g, off + k, none⟩ = some (.int .i64 (ps[k] : Int))
theorem NatsF.nats {v : Value} {ps : List Nat} (h : NatsF w O v ps) : NatsW w v ps := by
  obtain ⟨a, cap, e, h1⟩ := h
  refine ⟨a, cap, e, fun k hk => ?_⟩
  obtain ⟨g, off, e1, _, c⟩ := h1 k hk
  exact ⟨g, off, e1, c⟩
theorem NatsF.nil (w : World) (O : Nat → Prop) : NatsF w O (.slice none 0 0) [] := ⟨none, 0, rfl, fun k h => by cases h⟩
theorem NatsF.turned {v : Value} {ps : List Nat} (h : NatsF w O v ps) (t : Turned w w1 O R O1 R1) : NatsF w1 O1 v ps := by
  obtain ⟨a, cap, e, h1⟩ := h
  refine ⟨a, cap, e, fun k hk => ?_⟩
  obtain ⟨g, off, e1, hg, c⟩ := h1 k hk
  have hl : g < w.heap.size := World.block_lt_of_cell? _ _ c
  exact ⟨g, off, e1, fun ho => (t.o _ ho).elim hg (fun h3 => by have := h3.1; omega), (t.keeps.cell (p := ⟨g, off + k, none⟩) hl hg).trans c⟩
theorem NatsF.below {v : Value} {ps : List Nat} (h : NatsF w O v ps) (hb : Below w.heap.size w w1) : NatsF w1 O v ps := by
  obtain ⟨a, cap, e, h1⟩ := h
  refine ⟨a, cap, e, fun k hk => ?_⟩
  obtain ⟨g, off, e1, hg, c⟩ := h1 k hk
  exact ⟨g, off, e1, hg, (hb.cell (p := ⟨g, off + k, none⟩) (World.block_lt_of_cell? _ _ c)).trans c⟩
theorem NatsF.at {a : Option Addr} {n cap : Nat} {ps : List Nat} (h : NatsF w O (.slice a n cap) ps) (k : Nat) (hk : k < ps.length) : ∃ g off, a = some ⟨g, off, none⟩ ∧ w.cell? ⟨g, off + k, none⟩ = some (.int .i64 (ps[k] : Int)) := by
  obtain ⟨a', cap', h1, h2⟩ := h
  cases h1
  obtain ⟨g, off, e1, _, c⟩ := h2 k hk
  exact ⟨g, off, e1, c⟩

/-- a write, a flush: with power or without -/
theorem lwrite_any (h : LedO w O R lp p d dead) (hr : Room 1 d) (k : Nat) (hk : k < d.n) (g0 off cap : Nat) (hg : ¬ O g0) (x : Bs) (hx : Bytes w (.slice (some ⟨g0, off, none⟩) 512 cap) x) (hxl : x.length = 512) :
    Calls Try.prog 39 #[.pointer (some ⟨lp, 0, none⟩), .int .i64 k, .slice (some ⟨g0, off, none⟩) 512 cap] w fun e w' =>
      (d.off = true ∧ e = .panicked (stopP 11) ∧ w' = w) ∨ (d.off = false ∧ e = .returned (.tuple #[]) ∧ ∃ O' R', LedO w' O' R' lp p (d.write k x) dead ∧ Turned w w' O R O' R') := by
  cases ho : d.off with
  | true => exact (lwrite_off h ho k _).mono fun e w' ⟨h1, h2⟩ => .inl ⟨rfl, h1, h2⟩
  | false =>
    have hgl : g0 < w.heap.size := World.block_lt_of_cell? _ _ (bytes_cell hx (k := 0) (by omega))
    exact (lwrite_ok h ho hr.1 (by have := hr.2; omega) k hk g0 off cap hg hgl x hx hxl).mono fun e w' ⟨h1, h2⟩ => .inr ⟨rfl, h1, h2⟩
theorem lflush_any (h : LedO w O R lp p d dead) (hr : Room 0 d) :
    Calls Try.prog 40 #[.pointer (some ⟨lp, 0, none⟩)] w fun e w' =>
      (d.off = true ∧ e = .panicked (stopP 11) ∧ Below w.heap.size w w') ∨ (d.off = false ∧ e = .returned (.tuple #[]) ∧ ∃ O' R', LedO w' O' R' lp p d.flush dead ∧ Turned w w' O R O' R') := by
  cases ho : d.off with
  | true => exact (lflush_off h ho).mono fun e w' ⟨h1, h2⟩ => .inl ⟨rfl, h1, h2⟩
  | false => exact (lflush_ok h ho hr.1).mono fun e w' ⟨h1, h2⟩ => .inr ⟨rfl, h1, h2⟩
theorem lread_any (h : LedO w O R lp p d dead) (k : Nat) (hk : k < d.n) :
    Calls Try.prog 43 #[.pointer (some ⟨lp, 0, none⟩), .int .i64 k] w fun e w' =>
      (d.off = true ∧ e = .panicked (stopP 11) ∧ w' = w) ∨ (d.off = false ∧ ∃ g cap, e = .returned (.slice (some ⟨g, 0, none⟩) 512 cap) ∧ Bytes w' (.slice (some ⟨g, 0, none⟩) 512 cap) (blockAt d.now k) ∧ w.heap.size ≤ g ∧ 512 ≤ cap ∧ Below w.heap.size w w') := by
  cases ho : d.off with
  | true =>
    have := lread_bad h k (by rw [there_off ho]; rfl)
    rw [there_off ho] at this
    exact this.mono fun e w' ⟨h1, h2⟩ => .inl ⟨rfl, h1, h2⟩
  | false => exact (lread_ok h ho k hk).mono fun e w' ⟨g, cap, h1, h2, h3, _, h5, _, h6⟩ => .inr ⟨rfl, g, cap, h1, h2, h3, h5, h6⟩
/-- so far: the ledger is here, and what is still to be done does what all of it does -/
def Far (w : World) (O R : Nat → Prop) (lp p : Nat) (dead : Bool) (n m : Nat) (Z : DS × Bool) (rest : List LOp) (wr : World) : Prop := ∃ D O1 R1, LedO wr O1 R1 lp p D dead ∧ Turned w wr O R O1 R1 ∧ D.n = n ∧ Room m D ∧ Z = runL rest D
/-- how a row of operations ends -/
def Ends (w : World) (O R : Nat → Prop) (lp p : Nat) (dead : Bool) (Z : DS × Bool) (e : Ending) (w' : World) : Prop :=
  (e = if Z.2 = true then .returned (.tuple #[]) else .panicked (stopP 11)) ∧ ∃ O' R', LedO w' O' R' lp p Z.1 dead ∧ Turned w w' O R O' R'
theorem nlen_of (h : LedO w O R lp p d dead) : d.now.length = 512 * d.n := by
  obtain ⟨Od, hd, _, _⟩ := h.disk
  obtain ⟨gn, gf, vb, vs, hda⟩ := disk_at hd
  exact hda.nlen
set_option maxHeartbeats 1600000 in
theorem settle_any (h : LedO w O R lp p d dead) (ps : List Nat) (v : Value) (hp : NatsF w O v ps) (hl : ps.length ≤ 40) (hn : 97 ≤ d.n) (hn2 : d.n ≤ 4096) (hps : ∀ x ∈ ps, x + 96 < d.n) (hr : Room 60 d) :
    Calls Try.prog 50 #[.pointer (some ⟨lp, 0, none⟩), v] w fun e w' => Ends w O R lp p dead (runL (settleOps d.now ps) d) e w' := by
  obtain ⟨a, cap, rfl, _⟩ := id hp
  have HP := Lib.hid hp
  have HPS := Lib.hid hps
  generalize hZ : runL (settleOps d.now ps) d = Z
  have HZ := Lib.hid hZ
  have H0 := Lib.hid h
  clear hp hps hZ h
  go_enter Try.func50, Try.ntmps50
  go_wp2_with fail
  go_loopw [8] (fun i wr => ∃ (k : Nat) (D : DS) (O1 R1 : Nat → Prop), k ≤ ps.length ∧ i = .int .i64 k ∧ LedO wr O1 R1 lp p D dead ∧ Turned w wr O R O1 R1 ∧ D.n = d.n ∧ Room (60 - k) D ∧ Hid ((∀ j, j < 96 → blockAt D.now j = blockAt d.now j) ∧ Z = runL (settleW d.now k (ps.drop k) ++ mark3 []) D)) (fun i _ => ps.length - (intOf i).toNat)
  case atStart => exact ⟨0, d, O, R, Nat.zero_le _, rfl, H0.out, Turned.refl _ _ _, rfl, hr, fun _ _ => rfl, HZ.out.symm⟩
  case round =>
    obtain ⟨k, D, O1, R1, hk, rfl, h1, t1, e1, r1, HX⟩ := hrel
    have k0 : (0 : Int) ≤ (k : Int) := by omega
    have hz1 := t1.keeps.size
    by_cases hlt : k < ps.length
    · have k1 : (k : Int) < (ps.length : Int) := by omega
      obtain ⟨g2, off, e2, hcell⟩ := (HP.out.turned t1).at k hlt
      subst e2
      have hpk := HPS.out _ (List.getElem_mem hlt)
      have HDR : Hid (settleW d.now k (ps.drop k) = .w (96 + ps[k]) (blockAt d.now (1 + k)) :: settleW d.now (k + 1) (ps.drop (k + 1))) := by
        show _ = _
        rw [List.drop_eq_getElem_cons hlt, settleW]
      generalize ps[k] = x at *
      have hrd := lread_any h1 (1 + k) (by omega)
      rw [show ((1 + k : Nat) : Int) = 1 + (k : Int) by omega] at hrd
      have HRD := Lib.hid hrd
      have HW : Hid (∀ w2 g cap, Below wr.heap.size wr w2 → wr.heap.size ≤ g → Bytes w2 (.slice (some ⟨g, 0, none⟩) 512 cap) (blockAt D.now (1 + k)) → Calls Try.prog 39 #[.pointer (some ⟨lp, 0, none⟩), .int .i64 (96 + (x : Int)), .slice (some ⟨g, 0, none⟩) 512 cap] w2 fun e w' =>
          (D.off = true ∧ e = .panicked (stopP 11) ∧ w' = w2) ∨ (D.off = false ∧ e = .returned (.tuple #[]) ∧ ∃ O' R', LedO w' O' R' lp p (D.write (96 + x) (blockAt D.now (1 + k))) dead ∧ Turned w2 w' O1 R1 O' R')) := fun w2 g cap hb hg hx => by
        have := lwrite_any (h1.below hb) (r1.less (by omega)) (96 + x) (by omega) g 0 cap (fun e => by have := h1.lt _ e; omega) _ hx (blockAt_length (nlen_of h1) (by omega))
        rw [show ((96 + x : Nat) : Int) = 96 + (x : Int) by omega] at this
        exact this
      have HNX : Hid (D.off = false → (∀ j, j < 96 → blockAt (D.write (96 + x) (blockAt D.now (1 + k))).now j = blockAt d.now j) ∧ Z = runL (settleW d.now (k + 1) (ps.drop (k + 1)) ++ mark3 []) (D.write (96 + x) (blockAt D.now (1 + k)))) := fun ho => by
        refine ⟨fun j hj => ?_, ?_⟩
        · rw [write_now, blockAt_other (nlen_of h1) (by omega) (blockAt_length (nlen_of h1) (by omega)) (by omega)]
          exact HX.out.1 j hj
        · rw [HX.out.2, HDR.out, List.cons_append, runL_on ho, HX.out.1 (1 + k) (by omega)]
          rfl
      have HOFF : Hid (D.off = true → Z = (D, false)) := fun ho => by rw [HX.out.2, HDR.out, List.cons_append, runL_off ho]
      have HL1 := Lib.hid h1
      have HT1 := Lib.hid t1
      have HR1 := Lib.hid r1
      clear hrd h1 t1 r1
      go_wp2_with fail
      refine (HRD.out).mono ?_
      rintro e w2 (⟨ho, rfl, rfl⟩ | ⟨ho, g, cap2, rfl, q1, q2, q3, q4⟩)
      · have hz := HOFF.out ho
        go_wp2_with fail
        exact ⟨rfl, by rw [hz]; rfl, O1, R1, by rw [hz]; exact HL1.out, HT1.out⟩
      · have HWX := Lib.hid (HW.out w2 g cap2 q4 q2 q1)
        have HB2 := Lib.hid q4
        clear q1 q2 q3 q4
        go_wp2_with fail
        refine (HWX.out).mono ?_
        rintro e w3 (⟨ho2, _⟩ | ⟨_, rfl, O2, R2, q1, q2⟩)
        · rw [ho] at ho2
          cases ho2
        · have HQ1 := Lib.hid q1
          have HQ2 : Hid (Turned w w3 O R O2 R2) := HT1.out.trans ((Turned.of_below HB2.out O1 R1).trans q2)
          have HNN := Lib.hid (HNX.out ho)
          have HRR : Hid (Room (60 - (k + 1)) (D.write (96 + x) (blockAt D.now (1 + k)))) := Room.write (HR1.out.less (by omega)) _ _
          clear q1 q2
          go_wp2_with fail
          go_roundw
          case rel => exact ⟨k + 1, _, O2, R2, by omega, by go_num, HQ1.out, HQ2.out, by rw [write_n]; exact e1, HRR.out, HNN.out⟩
          case measure => simp [intOf]; omega
    · obtain rfl : k = ps.length := by omega
      have hz : Z = runL (mark3 []) D := by
        rw [HX.out.2, List.drop_of_length_le (Nat.le_refl _)]
        rfl
      have r20 : Room 20 D := r1.less (by omega)
      have hn1 : D.n ≤ 4096 := by omega
      have hn0 : 0 < D.n := by omega
      have HZ1 := Lib.hid hz
      have HL1 := Lib.hid h1
      have HT1 := Lib.hid t1
      have HR1 := Lib.hid r20
      clear h1 t1 r20 hz r1 hz1 HX
      go_wp2_with fail
      refine (lflush_any HL1.out (HR1.out.less (by omega))).mono ?_
      rintro e w2 (⟨ho, rfl, hb⟩ | ⟨ho, rfl, O2, R2, q1, q2⟩)
      · have hz := HZ1.out
        rw [mark3, runL_off ho] at hz
        have HB := Lib.hid hb
        clear hb
        go_wp2_with fail
        exact ⟨rfl, by rw [hz]; rfl, O1, R1, by rw [hz]; exact HL1.out.below HB.out, HT1.out.trans (Turned.of_below HB.out O1 R1)⟩
      · have hz := HZ1.out
        rw [mark3, runL_on ho] at hz
        change Z = runL [.w 0 (headB []), .f] D.flush at hz
        have HZ2 := Lib.hid hz
        have HL2 := Lib.hid q1
        have HT2 := Lib.hid (HT1.out.trans q2)
        have HR2 := Lib.hid HR1.out.flush
        have hn2 : 0 < D.flush.n := by rw [flush_n]; exact hn0
        clear hz q1 q2 HZ1
        generalize D.flush = D2 at *
        go_wp2_with fail
        refine (head_any [] (.slice none 0 0) w2 (NatsW.nil _) (by simp) (fun x hx => by cases hx)).mono ?_
        rintro e w3 ⟨rfl, q1, q2, q3⟩
        have HW := Lib.hid (lwrite_any (HL2.out.below q2) (HR2.out.less (by omega)) 0 hn2 w2.heap.size 0 512 (fun e => by have := HL2.out.lt _ e; omega) _ q1 (headB_length _))
        have HB3 := Lib.hid q2
        clear q1 q2 q3
        go_wp2_with fail
        refine (HW.out).mono ?_
        rintro e w4 (⟨ho, rfl, rfl⟩ | ⟨ho, rfl, O3, R3, q1, q2⟩)
        · have hz := HZ2.out
          rw [runL_off ho] at hz
          go_wp2_with fail
          exact ⟨rfl, by rw [hz]; rfl, O2, R2, by rw [hz]; exact HL2.out.below HB3.out, HT2.out.trans (Turned.of_below HB3.out O2 R2)⟩
        · have hz := HZ2.out
          rw [runL_on ho] at hz
          change Z = runL [.f] (D2.write 0 (headB [])) at hz
          have HZ3 := Lib.hid hz
          have HL3 := Lib.hid q1
          have HT3 := Lib.hid (HT2.out.trans ((Turned.of_below HB3.out O2 R2).trans q2))
          have HR3 : Hid (Room 0 (D2.write 0 (headB []))) := Room.write (HR2.out.less (by omega)) _ _
          clear hz q1 q2 HZ2
          generalize D2.write 0 (headB []) = D3 at *
          go_wp2_with fail
          refine (lflush_any HL3.out HR3.out).mono ?_
          rintro e w5 (⟨ho, rfl, hb⟩ | ⟨ho, rfl, O4, R4, q1, q2⟩)
          · have hz := HZ3.out
            rw [runL_off ho] at hz
            have HB := Lib.hid hb
            clear hb
            go_wp2_with fail
            exact ⟨rfl, by rw [hz]; rfl, O3, R3, by rw [hz]; exact HL3.out.below HB.out, HT3.out.trans (Turned.of_below HB.out O3 R3)⟩
          · have hz := HZ3.out
            rw [runL_on ho] at hz
            have HL4 := Lib.hid q1
            have HT4 := Lib.hid (HT3.out.trans q2)
            clear q1 q2
            go_wp2_with fail
            go_end0
            exact ⟨by rw [hz]; rfl, O4, R4, by rw [hz]; exact HL4.out, HT4.out⟩
end Go.Proofs.Ythfncgbkigmmcaa
