/- Format. -/
import Derived.Test.YthfncgbkigmmcaaL13
import Derived.Test.YthfncgbkigmmcaaDoor
namespace Go.Proofs.Ythfncgbkigmmcaa
open Go.RowKit

variable {w w' w1 wr : World} {O R O1 R1 : Nat → Prop} {lp p : Nat} {d D : DS} {dead dead1 : Bool}
def zeroB : Bs := List.replicate 512 0
theorem zeroB_length : zeroB.length = 512 := List.length_replicate
/-- the writes of Format: noughts where there are none -/
def fmtW (l : Bs) : List Nat → List LOp
  | [] => []
  | a :: r => if blockAt l a = zeroB then fmtW l r else .w a zeroB :: fmtW l r
def fmtOps (d : DS) : List LOp := .w 0 zeroB :: .f :: (fmtW d.now (List.range' 96 (d.n - 96)) ++ mark3 [])
theorem runL_never {L : List LOp} {d : DS} (h : d.off = true) (hL : L ≠ []) : runL L d = (d, false) := by
  cases L with
  | nil => exact absurd rfl hL
  | cons o r => exact runL_off h
theorem bytes_turned {g off cap : Nat} {x : Bs} (h : Bytes w (.slice (some ⟨g, off, none⟩) 512 cap) x) (hg : ¬ O g) (hx : x.length = 512) (t : Turned w w1 O R O1 R1) : Bytes w1 (.slice (some ⟨g, off, none⟩) 512 cap) x ∧ ¬ O1 g := by
  have hl : g < w.heap.size := World.block_lt_of_cell? _ _ (bytes_cell h (k := 0) (by omega))
  exact ⟨RowAt.keeps h t.keeps (fun k e => by cases e; exact hg), fun e => (t.o _ e).elim hg (fun e => by have := e.1; omega)⟩
theorem blocks_led (h : LedO w O R lp p d dead) : Calls Try.prog 48 #[.pointer (some ⟨p, 0, none⟩)] w fun e w' => e = .returned (.int .i64 d.n) ∧ w = w' := by
  obtain ⟨Od, hd, _, _⟩ := h.disk
  obtain ⟨gn, gf, vb, vs, hda⟩ := disk_at hd
  exact blocks_any hda
theorem on_led (h : LedO w O R lp p d dead) : Calls Try.prog 35 #[.pointer (some ⟨p, 0, none⟩)] w fun e w' => e = .returned (.bool !d.off) ∧ w = w' := by
  obtain ⟨Od, hd, _, _⟩ := h.disk
  obtain ⟨gn, gf, vb, vs, hda⟩ := disk_at hd
  exact on_any hda
/-- as a ledger that is being made lies -/
def At0 (w : World) (O R : Nat → Prop) (p n m : Nat) (D : DS) (O1 R1 : Nat → Prop) (wr : World) : Prop :=
  LedO wr O1 R1 (w.heap.size + 1 + 1) p D false ∧ Turned (startW w p) wr (startO w O) R O1 R1 ∧ D.n = n ∧ Room m D
theorem At0.lc {n m : Nat} (h : At0 w O R p n m D O1 R1 wr) (hd : DiskO w O R p d) : wr.cell? ⟨w.heap.size, 0, none⟩ = some (.pointer (some ⟨w.heap.size + 1 + 1, 0, none⟩)) := by
  rw [cell_of_row wr _ 0 _ _ _ (start_cells hd h.2.1).1]; rfl
theorem At0.below {n m : Nat} (h : At0 w O R p n m D O1 R1 wr) (hb : Below wr.heap.size wr w1) : At0 w O R p n m D O1 R1 w1 := ⟨h.1.below hb, h.2.1.trans (Turned.of_below hb O1 R1), h.2.2⟩
theorem At0.write {n m : Nat} (h : At0 w O R p n (m + 1) D O1 R1 wr) (k : Nat) (hk : k < n) (g0 off cap : Nat) (hg : ¬ O1 g0) (x : Bs) (hx : Bytes wr (.slice (some ⟨g0, off, none⟩) 512 cap) x) (hxl : x.length = 512) :
    Calls Try.prog 39 #[.pointer (some ⟨w.heap.size + 1 + 1, 0, none⟩), .int .i64 k, .slice (some ⟨g0, off, none⟩) 512 cap] wr fun e w' =>
      (D.off = true ∧ e = .panicked (stopP 11) ∧ w' = wr) ∨ (D.off = false ∧ e = .returned (.tuple #[]) ∧ ∃ O' R', At0 w O R p n m (D.write k x) O' R' w' ∧ Turned wr w' O1 R1 O' R') :=
  (lwrite_any h.1 (h.2.2.2.less (by omega)) k (by rw [h.2.2.1]; exact hk) g0 off cap hg x hx hxl).mono fun e w' h' => h'.imp id fun ⟨a, b, O', R', c1, c2⟩ => ⟨a, b, O', R', ⟨c1, h.2.1.trans c2, by rw [write_n]; exact h.2.2.1, h.2.2.2.write k x⟩, c2⟩
theorem At0.flush {n m : Nat} (h : At0 w O R p n m D O1 R1 wr) :
    Calls Try.prog 40 #[.pointer (some ⟨w.heap.size + 1 + 1, 0, none⟩)] wr fun e w' =>
      (D.off = true ∧ e = .panicked (stopP 11) ∧ At0 w O R p n m D O1 R1 w') ∨ (D.off = false ∧ e = .returned (.tuple #[]) ∧ ∃ O' R', At0 w O R p n m D.flush O' R' w' ∧ Turned wr w' O1 R1 O' R') :=
  (lflush_any h.1 (h.2.2.2.less (by omega))).mono fun e w' h' => h'.imp (fun ⟨a, b, c⟩ => ⟨a, b, h.below c⟩) fun ⟨a, b, O', R', c1, c2⟩ => ⟨a, b, O', R', ⟨c1, h.2.1.trans c2, by rw [flush_n]; exact h.2.2.1, h.2.2.2.flush⟩, c2⟩
theorem At0.bad {n m : Nat} (h : At0 w O R p n m D O1 R1 wr) (hd : DiskO w O R p d) {sh : FuncId} (hs : Shut sh) {fn : Func} {tmps : Array Value} {Z : DS × Bool} (hz : Z = (D, false)) (hr : fn.results = #[.cell 2 28, .cell 3 31]) (h2 : tmps.getD 2 undef = .pointer (some ⟨w.heap.size, 0, none⟩)) (h3 : tmps.getD 3 undef = .pointer (some ⟨w.heap.size + 1, 0, none⟩)) :
    Leaves Try.prog fn tmps (fun e w' => Opened w O R p Z 11 e w') [defd (w.heap.size + 1 + 1) (w.heap.size + 1), clos sh (w.heap.size + 1) w.heap.size] (.panicking (stopP 11)) wr := by
  subst hz
  exact door_bad hs hd h.1 h.2.1 11 rfl hr h2 h3

set_option maxRecDepth 10000 in
set_option maxHeartbeats 3200000 in
theorem format_any (h : DiskO w O R p d) (hn : 97 ≤ d.n) (hn2 : d.n ≤ 4096) (hr : Room 5000 d) (ho : d.off = false) :
    Calls Try.prog 26 #[.pointer (some ⟨p, 0, none⟩)] w fun e w' => Opened w O R p (runL (fmtOps d) d) 11 e w' := by
  have hmf : ∀ (fn : Fn) (first cap : Array Value) (w : World), (Instr.makeFunc fn first cap).run Try.prog w = .ok (.func fn first cap) w := fun _ _ _ _ => rfl
  obtain ⟨X, hX⟩ : ∃ X, X = Obj.cells (u8s zeroB).toArray 5 (0, 0) := ⟨_, rfl⟩
  have hmk : ∀ w, (Instr.makeSlice 24 (.int .i64 512) (.int .i64 512)).run Try.prog w = .ok (.slice (some ⟨w.heap.size, 0, none⟩) 512 512) (w.alloc X) := fun w => by
    have := run_make_row' (P := Try.prog) 24 5 (.int .u8 0) 1 Try.underlying24 info5 rfl .i64 .i64 512 (by omega) (by omega) w
    rw [made_u8s] at this
    rw [hX]
    exact this
  have HX := Lib.hid hX
  generalize hZ : runL (fmtOps d) d = Z
  have HZ := Lib.hid hZ
  have HD := Lib.hid h
  have A0 : Hid (At0 w O R p d.n 5000 d (startO w O) R (startW w p)) := ⟨start_led h, Turned.refl _ _ _, rfl, hr⟩
  have n1 : ¬ (d.n : Int) ≤ 96 := by omega
  have hsz := start_size w p
  have HSZ := Lib.hid hsz
  clear hX hZ h hr hsz
  go_enter_defers Try.func26, Try.ntmps26
  go_wp2_with fail
  obtain ⟨W1, hW1⟩ : ∃ W1, W1 = startW w p := ⟨_, rfl⟩
  rw [← hW1] at A0 HSZ
  unfold startW at hW1
  rw [← hW1]
  clear hW1
  have HON := Lib.hid (on_led A0.out.1)
  rw [ho] at HON
  have HBL := Lib.hid (blocks_led A0.out.1)
  refine (HON.out).mono ?_
  rintro e w1 ⟨rfl, rfl⟩
  go_wp2_with fail
  refine (HBL.out).mono ?_
  rintro e w1 ⟨rfl, rfl⟩
  have AX : Hid (At0 w O R p d.n 5000 d (startO w O) R (W1.alloc X)) := A0.out.below ((Below.refl _ _).alloc (Nat.le_refl _) X)
  have hlc := AX.out.lc HD.out
  have hmk1 := hmk W1
  have hbx : Bytes (W1.alloc X) (.slice (some ⟨W1.heap.size, 0, none⟩) 512 512) zeroB := by
    have := bytes_row (off := 0) (n := 512) (cap := 512) (show (W1.alloc X).heap[W1.heap.size]? = some (.cells (u8s zeroB).toArray 5 (0, 0)) by rw [heap_alloc_new, HX.out]) (by rw [zeroB_length]) (Nat.le_refl _)
    exact this
  have hgx : ¬ startO w O W1.heap.size := fun e => by have := A0.out.1.lt _ e; omega
  have HBX := Lib.hid hbx
  have HGX := Lib.hid hgx
  obtain ⟨g, hg⟩ : ∃ g, g = W1.heap.size := ⟨_, rfl⟩
  rw [← hg] at hmk1 HBX HGX
  have HW0 := Lib.hid (AX.out.write (m := 4999) 0 (by omega) g 0 512 HGX.out zeroB HBX.out zeroB_length)
  clear hmk hbx hgx HON HBL
  generalize hWX : W1.alloc X = WX at *
  clear hWX hg
  go_wp2_with fail
  refine (HW0.out).mono ?_
  rintro e w2 (⟨ho2, _⟩ | ⟨_, rfl, O2, R2, q1, q2⟩)
  · rw [ho] at ho2
    cases ho2
  have A2 := Lib.hid q1
  have HB2 := Lib.hid (bytes_turned HBX.out HGX.out zeroB_length q2)
  have HZ2 : Hid (Z = runL (.f :: (fmtW d.now (List.range' 96 (d.n - 96)) ++ mark3 [])) (d.write 0 zeroB)) := by
    show _ = _
    rw [← HZ.out, fmtOps, runL_on ho]
    rfl
  have hlc := A2.out.lc HD.out
  have HN2 : Hid (∀ j, 96 ≤ j → j < d.n → blockAt (d.write 0 zeroB).now j = blockAt d.now j) := fun j h1 h2 => by
    rw [write_now, blockAt_other (nlen_of A0.out.1) (by omega) zeroB_length (by omega)]
  clear q1 q2 HW0 hmk1
  generalize d.write 0 zeroB = D2 at *
  go_wp2_with fail
  refine (A2.out.flush).mono ?_
  rintro e w3 (⟨ho2, rfl, q1⟩ | ⟨ho2, rfl, O3, R3, q1, q2⟩)
  · have hz := HZ2.out
    rw [runL_off ho2] at hz
    have HQ := Lib.hid q1
    clear q1
    go_wp2_with fail
    exact HQ.out.bad HD.out shutF hz rfl rfl rfl
  have A3 := Lib.hid q1
  have HB3 := Lib.hid (bytes_turned HB2.out.1 HB2.out.2 zeroB_length q2)
  have HZ3 : Hid (Z = runL (fmtW d.now (List.range' 96 (d.n - 96)) ++ mark3 []) D2.flush) := by
    show _ = _
    rw [HZ2.out, runL_on ho2]
    rfl
  have HN3 : Hid (∀ j, 96 ≤ j → j < d.n → blockAt D2.flush.now j = blockAt d.now j) := fun j h1 h2 => by rw [flush_now]; exact HN2.out j h1 h2
  have hlc := A3.out.lc HD.out
  clear q1 q2
  generalize D2.flush = D3 at *
  go_wp2_with fail
  go_loopw [5] (fun i wr => ∃ (k : Nat) (D : DS) (O1 R1 : Nat → Prop), 96 ≤ k ∧ k ≤ d.n ∧ i = .int .i64 k ∧ At0 w O R p d.n (4998 - k) D O1 R1 wr ∧ Hid (Bytes wr (.slice (some ⟨g, 0, none⟩) 512 512) zeroB ∧ ¬ O1 g) ∧ Hid ((∀ j, 96 ≤ j → k ≤ j → j < d.n → blockAt D.now j = blockAt d.now j) ∧ Z = runL (fmtW d.now (List.range' k (d.n - k)) ++ mark3 []) D)) (fun i _ => d.n - (intOf i).toNat)
  case atStart => exact ⟨96, D3, O3, R3, Nat.le_refl _, by omega, rfl, ⟨A3.out.1, A3.out.2.1, A3.out.2.2.1, A3.out.2.2.2.less (by omega)⟩, HB3.out, fun j h1 _ h3 => HN3.out j h1 h3, HZ3.out⟩
  case round =>
    obtain ⟨k, D, O1, R1, hk0, hk, rfl, A1, HB1, HX1⟩ := hrel
    have k0 : (0 : Int) ≤ (k : Int) := by omega
    have HBL := Lib.hid (blocks_led A1.1)
    rw [show D.n = d.n from A1.2.2.1] at HBL
    have hlc := A1.lc HD.out
    have HA1 := Lib.hid A1
    clear A1
    by_cases hlt : k < d.n
    · have k1 : (k : Int) < (d.n : Int) := by omega
      have HRG : Hid (List.range' k (d.n - k) = k :: List.range' (k + 1) (d.n - (k + 1))) := by
        show _ = _
        rw [show d.n - k = (d.n - (k + 1)) + 1 by omega, List.range'_succ]
      have hne : fmtW d.now (List.range' k (d.n - k)) ++ mark3 [] ≠ [] := by simp [mark3]
      have HNE := Lib.hid hne
      clear hne
      have AD : Hid (At0 w O R p d.n (4998 - k) D O1 R1 wr.drew) := HA1.out.below (Below.refl _ _).drew
      have HRD : Hid (Calls Try.prog 43 #[.pointer (some ⟨w.heap.size + 1 + 1, 0, none⟩), .int .i64 k] wr.drew fun e w' =>
          (D.off = true ∧ e = .panicked (stopP 11) ∧ w' = wr.drew) ∨ (D.off = false ∧ ∃ g cap, e = .returned (.slice (some ⟨g, 0, none⟩) 512 cap) ∧ (convert 24 9 (.slice (some ⟨g, 0, none⟩) 512 cap)).run Try.prog w' = .ok (.string ⟨(blockAt D.now k).toArray⟩) w' ∧ Below wr.heap.size wr w')) := by
        refine (lread_any AD.out.1 k (by rw [AD.out.2.2.1]; exact hlt)).mono ?_
        rintro e w' (⟨a, b, c⟩ | ⟨a, g2, cap, b, c1, _, _, c4⟩)
        · exact .inl ⟨a, b, c⟩
        · exact .inr ⟨a, g2, cap, b, run_string_of w' 24 5 Try.underlying24 Try.underlying5 c1 9 Try.underlying9, ((Below.refl _ wr).drew).trans (c4.mono (Nat.le_refl _))⟩
      have hcv : ∀ W, Below wr.heap.size wr W → (convert 24 9 (.slice (some ⟨g, 0, none⟩) 512 512)).run Try.prog W = .ok (.string ⟨zeroB.toArray⟩) W := fun W hW => run_string_of W 24 5 Try.underlying24 Try.underlying5 (RowAt.below HB1.out.1 hW (Nat.le_refl _)) 9 Try.underlying9
      have hlcw : ∀ W, Below wr.heap.size wr W → W.cell? ⟨w.heap.size, 0, none⟩ = some (.pointer (some ⟨w.heap.size + 1 + 1, 0, none⟩)) := fun W hW => (HA1.out.below hW).lc HD.out
      have HS0 : Hid (Below wr.heap.size wr wr.drew) := (Below.refl _ _).drew
      have HKB : Hid (blockAt D.now k = blockAt d.now k) := HX1.out.1 k (by omega) (Nat.le_refl _) hlt
      go_wp2_with fail
      refine (HBL.out).mono ?_
      rintro e w4 ⟨rfl, rfl⟩
      go_wp2_with fail
      refine wp_region_ordLD not23 6 [3, 6] [0, 1, 4, 5, 2, 3, 6] (fun W => W.cell? ⟨w.heap.size, 0, none⟩ = some (.pointer (some ⟨w.heap.size + 1 + 1, 0, none⟩)) ∧ Below wr.heap.size wr W) (by kernel_rfl) (by kernel_rfl) rfl (by kernel_rfl) (by kernel_rfl) (fun c a d v w hd h => leaves_put rfl c a d v w hd h) ⟨hlcw _ HS0.out, HS0.out⟩ ?_
      repeat (apply heldL_run rfl (by rfl) (by rfl); (intro w hSw; go_simp; with_reducible rfl); (try simp only [Act.put, List.setIfInBounds_toArray, List.set_cons_zero, List.set_cons_succ]))
      refine heldL_step rfl (by rfl) (by rfl) (fun K hK => ?_)
      go_simp
      refine (HRD.out).mono ?_
      rintro e w4 (⟨hoff, rfl, rfl⟩ | ⟨hoff, g2, cap2, rfl, hcv2, hb4⟩)
      · exact AD.out.bad HD.out shutF (by rw [HX1.out.2, runL_never hoff HNE.out]) rfl rfl rfl
      have HB4 := Lib.hid hb4
      clear hb4
      refine hK.out _ _ (.inr ⟨hlcw _ HB4.out, HB4.out⟩) ?_
      clear hK K
      (try simp only [Act.put, List.setIfInBounds_toArray, List.set_cons_zero, List.set_cons_succ])
      repeat (apply heldL_run rfl (by rfl) (by rfl); (intro w hSw; go_simp; with_reducible rfl); (try simp only [Act.put, List.setIfInBounds_toArray, List.set_cons_zero, List.set_cons_succ]))
      refine heldL_step rfl (by rfl) (by rfl) (fun K hK => ?_)
      go_simp
      refine hK.out _ _ (.inr ⟨hlcw _ HB4.out, HB4.out⟩) ?_
      clear hK K
      (try simp only [Act.put, List.setIfInBounds_toArray, List.set_cons_zero, List.set_cons_succ])
      repeat (apply heldL_run rfl (by rfl) (by rfl); (intro w hSw; go_simp; with_reducible rfl); (try simp only [Act.put, List.setIfInBounds_toArray, List.set_cons_zero, List.set_cons_succ]))
      have A4 : Hid (At0 w O R p d.n (4998 - k) D O1 R1 w4) := HA1.out.below HB4.out
      have HBZ : Hid (Bytes w4 (.slice (some ⟨g, 0, none⟩) 512 512) zeroB) := RowAt.below HB1.out.1 HB4.out (Nat.le_refl _)
      have hlc4 := A4.out.lc HD.out
      have hnlen := nlen_of HA1.out.1
      rw [show D.n = d.n from HA1.out.2.2.1] at hnlen
      have HNL := Lib.hid hnlen
      by_cases hbz : blockAt D.now k = zeroB
      · have hbe : (blockAt D.now k == zeroB) = true := by simpa using hbz
        have HNX : Hid (Z = runL (fmtW d.now (List.range' (k + 1) (d.n - (k + 1))) ++ mark3 []) D) := by
          show _ = _
          rw [HX1.out.2, HRG.out, fmtW, if_pos (HKB.out ▸ hbz)]
        have HXX := Lib.hid HX1.out.1
        rw [hbz]
        clear hcv2 hcv hlcw hnlen hbz hbe
        refine heldL_step rfl (by rfl) (by rfl) (fun K hK => ?_)
        go_simp
        refine hK.out _ _ (.inl rfl) ?_
        clear hK K
        (try simp only [Act.put, List.setIfInBounds_toArray, List.set_cons_zero, List.set_cons_succ])
        refine heldL_nil ?_
        go_wp2_with fail
        go_roundw
        case rel => exact ⟨k + 1, D, O1, R1, by omega, by omega, by go_num, ⟨A4.out.1, A4.out.2.1, A4.out.2.2.1, A4.out.2.2.2.less (by omega)⟩, ⟨HBZ.out, HB1.out.2⟩, fun j h1 h2 h3 => HXX.out j h1 (by omega) h3, HNX.out⟩
        case measure => simp [intOf]; omega
      · have hbe : (blockAt D.now k == zeroB) = false := by simpa using hbz
        have HNX : Hid (Z = runL (fmtW d.now (List.range' (k + 1) (d.n - (k + 1))) ++ mark3 []) (D.write k zeroB)) := by
          show _ = _
          rw [HX1.out.2, HRG.out, fmtW, if_neg (HKB.out ▸ hbz), List.cons_append, runL_on hoff]
          rfl
        have HXX : Hid (∀ j, 96 ≤ j → k + 1 ≤ j → j < d.n → blockAt (D.write k zeroB).now j = blockAt d.now j) := fun j h1 h2 h3 => by
          rw [write_now, blockAt_other HNL.out hlt zeroB_length (by omega)]
          exact HX1.out.1 j h1 (by omega) h3
        have HWR := Lib.hid (At0.write (m := 4998 - (k + 1)) ⟨A4.out.1, A4.out.2.1, A4.out.2.2.1, A4.out.2.2.2.less (by omega)⟩ k hlt g 0 512 HB1.out.2 zeroB HBZ.out zeroB_length)
        have HB1g := Lib.hid HB1.out.2
        clear hcv2 hcv hlcw hnlen hbz
        generalize blockAt D.now k = bk at *
        refine heldL_step rfl (by rfl) (by rfl) (fun K hK => ?_)
        go_simp
        refine hK.out _ _ (.inl rfl) ?_
        clear hK K
        (try simp only [Act.put, List.setIfInBounds_toArray, List.set_cons_zero, List.set_cons_succ])
        refine heldL_nil ?_
        go_wp2_with fail
        refine (HWR.out).mono ?_
        rintro e w5 (⟨ho2, _⟩ | ⟨_, rfl, O2', R2', q1, q2⟩)
        · rw [hoff] at ho2
          cases ho2
        have A5 := Lib.hid q1
        have HB5 := Lib.hid (bytes_turned HBZ.out HB1g.out zeroB_length q2)
        clear q1 q2
        go_wp2_with fail
        go_roundw
        case rel => exact ⟨k + 1, _, O2', R2', by omega, by omega, by go_num, A5.out, HB5.out, HXX.out, HNX.out⟩
        case measure => simp [intOf]; omega
    · obtain rfl : k = d.n := by omega
      have hz : Z = runL (mark3 []) D := by
        rw [HX1.out.2, Nat.sub_self]
        rfl
      have HZ4 := Lib.hid hz
      clear HX1 HB1 hz
      go_wp2_with fail
      refine (HBL.out).mono ?_
      rintro e w4 ⟨rfl, rfl⟩
      go_wp2_with fail
      refine (HA1.out.flush).mono ?_
      rintro e w4 (⟨ho4, rfl, q1⟩ | ⟨ho4, rfl, O4, R4, q1, _⟩)
      · have hz := HZ4.out
        rw [mark3, runL_off ho4] at hz
        have HQ := Lib.hid q1
        clear q1
        go_wp2_with fail
        exact HQ.out.bad HD.out shutF hz rfl rfl rfl
      have A4 := Lib.hid q1
      have HZ5 : Hid (Z = runL [.w 0 (headB []), .f] D.flush) := by
        show _ = _
        rw [HZ4.out, mark3, runL_on ho4]
        rfl
      clear q1 HZ4
      generalize D.flush = D4 at *
      have hlcw : ∀ W, Below w4.heap.size w4 W → W.cell? ⟨w.heap.size, 0, none⟩ = some (.pointer (some ⟨w.heap.size + 1 + 1, 0, none⟩)) := fun W hW => (A4.out.below hW).lc HD.out
      have HS4 : Hid (Below w4.heap.size w4 w4.drew) := (Below.refl _ _).drew
      have HLCW := Lib.hid hlcw
      clear hlcw hlc
      go_wp2_with fail
      refine wp_region_ordLD not23 2 [] [0, 1, 2] (fun W => W.cell? ⟨w.heap.size, 0, none⟩ = some (.pointer (some ⟨w.heap.size + 1 + 1, 0, none⟩)) ∧ Below w4.heap.size w4 W) (by kernel_rfl) (by kernel_rfl) rfl (by kernel_rfl) (by kernel_rfl) (fun c a d v w hd h => leaves_put rfl c a d v w hd h) ⟨HLCW.out _ HS4.out, HS4.out⟩ ?_
      repeat (apply heldL_run rfl (by rfl) (by rfl); (intro w hSw; go_simp; with_reducible rfl); (try simp only [Act.put, List.setIfInBounds_toArray, List.set_cons_zero, List.set_cons_succ]))
      refine heldL_step rfl (by rfl) (by rfl) (fun K hK => ?_)
      go_simp
      refine (head_any [] (.slice none 0 0) w4.drew (NatsW.nil _) (by simp) (fun x hx => by cases hx)).mono ?_
      rintro e w5 ⟨rfl, q1, q2, q3⟩
      have HB5 : Hid (Below w4.heap.size w4 w5) := HS4.out.trans q2
      have A5 : Hid (At0 w O R p d.n (4998 - d.n) D4 O4 R4 w5) := A4.out.below HB5.out
      have HW := Lib.hid (At0.write (m := 0) (w := w) (O := O) (R := R) (p := p) (n := d.n) ⟨A5.out.1, A5.out.2.1, A5.out.2.2.1, A5.out.2.2.2.less (by omega)⟩ 0 (by omega) w4.drew.heap.size 0 512 (fun e => by have := A4.out.1.lt _ e; simp at this) _ q1 (headB_length _))
      clear q1 q2 q3
      refine hK.out _ _ (.inr ⟨HLCW.out _ HB5.out, HB5.out⟩) ?_
      clear hK K
      (try simp only [Act.put, List.setIfInBounds_toArray, List.set_cons_zero, List.set_cons_succ])
      repeat (apply heldL_run rfl (by rfl) (by rfl); (intro w hSw; go_simp; with_reducible rfl); (try simp only [Act.put, List.setIfInBounds_toArray, List.set_cons_zero, List.set_cons_succ]))
      refine heldL_step rfl (by rfl) (by rfl) (fun K hK => ?_)
      go_simp
      refine (HW.out).mono ?_
      rintro e w6 (⟨ho5, rfl, rfl⟩ | ⟨ho5, rfl, O6, R6, q1, _⟩)
      · have hz := HZ5.out
        rw [runL_off ho5] at hz
        exact A5.out.bad HD.out shutF hz rfl rfl rfl
      have A6 := Lib.hid q1
      have HZ6 : Hid (Z = runL [.f] (D4.write 0 (headB []))) := by
        show _ = _
        rw [HZ5.out, runL_on ho5]
        rfl
      clear q1 HZ5
      generalize D4.write 0 (headB []) = D5 at *
      refine hK.out _ _ (.inl rfl) ?_
      clear hK K
      (try simp only [Act.put, List.setIfInBounds_toArray, List.set_cons_zero, List.set_cons_succ])
      refine heldL_nil ?_
      have hlc := A6.out.lc HD.out
      go_wp2_with fail
      refine (A6.out.flush).mono ?_
      rintro e w7 (⟨ho6, rfl, q1⟩ | ⟨ho6, rfl, O7, R7, q1, _⟩)
      · have hz := HZ6.out
        rw [runL_off ho6] at hz
        have HQ := Lib.hid q1
        clear q1
        go_wp2_with fail
        exact HQ.out.bad HD.out shutF hz rfl rfl rfl
      have A7 := Lib.hid q1
      have HZ7 : Hid (Z = (D5.flush, true)) := by
        show _ = _
        rw [HZ6.out, runL_on ho6]
        rfl
      clear q1 HZ6
      generalize D5.flush = D7 at *
      have hlc := A7.out.lc HD.out
      obtain ⟨hcl, hce, _, _⟩ := start_cells HD.out A7.out.2.1
      have hce1 : w7.cell? ⟨w.heap.size + 1, 0, none⟩ = some (.int .i64 0) := by rw [cell_of_row w7 _ 0 _ _ _ hce]; rfl
      have hfl := frozen_of_row w7 _ 0 _ _ hcl
      have hfe := frozen_of_row w7 _ 0 _ _ hce
      clear hcl hce
      go_wp2_with fail
      have hz := HZ7.out
      subst hz
      refine door_ok shutF HD.out (wr := w7) (((Keeps.refl (fun j => j = w.heap.size ∨ j = w.heap.size + 1) w7).setCell ⟨w.heap.size, 0, none⟩ _ (.inl (.inl rfl))).setCell ⟨w.heap.size + 1, 0, none⟩ _ (.inl (.inr rfl))) A7.out.1 A7.out.2.1 ?_ ?_ rfl rfl rfl 11
      · rw [World.cell?_setCell_other (h := by intro e; have := congrArg Addr.block e; simp at this)]
        exact World.cell?_setCell_same' _ _ _ (by rw [hlc]; rfl)
      · exact World.cell?_setCell_same' _ _ _ (by rw [World.cell?_setCell_other (h := by intro e; have := congrArg Addr.block e; simp at this), hce1]; rfl)
end Go.Proofs.Ythfncgbkigmmcaa
