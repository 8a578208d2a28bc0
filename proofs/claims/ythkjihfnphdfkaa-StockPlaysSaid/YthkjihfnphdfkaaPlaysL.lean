/- StockPlays: the walk. -/
import Derived.Test.YthkjihfnphdfkaaPlaysC
namespace Go.Proofs.Ythkjihfnphdfkaa
open Go.RowKit Go.Maps

attribute [local irreducible] addE addT place total

theorem opsW_get {w : World} {a : Option Addr} {n c : Nat} {ops : List (Int × Int × Bs)} (h : OpsW w (.slice a n c) ops) : n = ops.length ∧ ops.length ≤ 140737488351232 ∧ ∀ i (h : i < ops.length), ∃ g off ua uc, a = some ⟨g, off, none⟩ ∧
    w.cell? ⟨g, off + i * 3, none⟩ = some (.int .i64 ops[i].1) ∧ w.cell? ⟨g, off + i * 3 + 1, none⟩ = some (.int .i64 ops[i].2.1) ∧ (Lit.int .i64 ops[i].1).wf = true ∧ (Lit.int .i64 ops[i].2.1).wf = true ∧ ops[i].2.2.length ≤ 140737488351232 ∧
    w.cell? ⟨g, off + i * 3 + 2, none⟩ = some (.slice ua ops[i].2.2.length uc) ∧ BytesW w (.slice ua ops[i].2.2.length uc) ops[i].2.2 := by
  rcases h with ⟨h, rfl⟩ | ⟨g, off, cap, h, hl, hc⟩
  · cases h
    exact ⟨rfl, by simp, fun i hi => by simp at hi⟩
  · cases h
    refine ⟨rfl, hl, fun i hi => ?_⟩
    obtain ⟨h1, h2, h3, h4, h5, ua, uc, h6, h7⟩ := hc i hi
    exact ⟨g, off, ua, uc, rfl, h1, h2, h3, h4, h5, h6, h7⟩
theorem OpsW.below {w w' : World} {v : Value} {ops : List (Int × Int × Bs)} (h : OpsW w v ops) (hb : Below w.heap.size w w') : OpsW w' v ops := by
  refine h.imp id fun ⟨g, off, cap, h1, h2, h3⟩ => ⟨g, off, cap, h1, h2, fun i hi => ?_⟩
  obtain ⟨h4, h5, h6, h7, h8, ua, uc, h9, h10⟩ := h3 i hi
  have hg := World.block_lt_of_cell? _ _ h4
  exact ⟨(hb.cell (p := ⟨g, off + i * 3, none⟩) hg).trans h4, (hb.cell (p := ⟨g, off + i * 3 + 1, none⟩) hg).trans h5, h6, h7, h8, ua, uc, (hb.cell (p := ⟨g, off + i * 3 + 2, none⟩) hg).trans h9, h10.below hb (Nat.le_refl _)⟩
theorem refFind_q (v u : Value) (L : List Bs) (b : Bs) (w : World) (h : Rd w v L) (hu : BytesW w u b) (hl : L.length ≤ 140737488351232) (n : Nat) : Calls Try.prog 18 #[v, u] (w.drewN n) fun e w'' => e = .returned (.int .i64 (place L b)) ∧ ∃ m, w'' = w.drewN m :=
  (refFind_any v u L b _ (h.below (below_drewN (Below.refl _ _) n)) (hu.below (below_drewN (Below.refl _ _) n) (Nat.le_refl _)) hl).mono fun _ _ ⟨a, m, b⟩ => ⟨a, n + m, by rw [b, World.drewN_drewN]⟩
theorem size_o {w : World} {O : Nat → Prop} {p lim : Nat} {L : List Bs} (h : StockO w O p lim L) : Calls Try.prog 14 #[.pointer (some ⟨p, 0, none⟩)] w fun e w' => e = .returned (.int .i64 (total L)) ∧ w = w' := size_any' h.1

set_option maxHeartbeats 16000000 in
set_option maxRecDepth 100000 in
theorem plays_in (lim : Nat) (hlim : lim ≤ 65536) (oa : Option Addr) (on oc : Nat) (ops : List (Int × Int × Bs)) (w : World) (ho : OpsW w (.slice oa on oc) ops) :
    Calls Try.prog 4 #[.int .i64 lim, .slice oa on oc] w fun e w' => e = .returned (.bool true) ∧ Below w.heap.size w w' := by
  have HOW := Lib.hid ho
  obtain ⟨rfl, hom, hO⟩ := opsW_get ho
  have HO := Lib.hid hO
  clear ho hO
  have hl0 : (0 : Int) ≤ (lim : Int) := by omega
  have hl1 : (lim : Int) ≤ 65536 := by omega
  obtain ⟨i28, hi, hz0, hz1, hz2⟩ := info_parts info28
  have HI28 := Lib.hid (And.intro hi (And.intro hz0 (And.intro hz1 hz2)))
  clear hi hz0 hz1 hz2
  obtain ⟨i5, hi, hz0, hz1, hz2⟩ := info_parts info5
  have HI5 := Lib.hid (And.intro hi (And.intro hz0 (And.intro hz1 hz2)))
  clear hi hz0 hz1 hz2
  go_enter Try.func4, Try.ntmps4
  go_wp2_with fail
  refine (alive_any _).mono ?_
  rintro e w1 ⟨rfl, hb1⟩
  have HB1 := Lib.hid hb1
  have HOW1 : Hid (OpsW w1 (.slice oa ops.length oc) ops) := HOW.out.below hb1
  clear hb1
  go_wp2_with fail
  refine (much_any _ ops _ HOW1.out).mono ?_
  rintro e w2 ⟨⟨heavy, rfl⟩, rfl⟩
  cases heavy with
  | true =>
    go_wp2_with fail
    go_ret
    exact ⟨rfl, HB1.out⟩
  | false =>
    go_wp2_with fail
    refine (new_yes lim _ hlim).mono ?_
    rintro e w2 ⟨p, rfl, hs, hb2⟩
    have hP : Play w w2 (fun _ => False) p lim [] [] (.slice none 0 0) := Play.begin_ (hs.mono (fun j hj => ⟨Nat.le_trans HB1.out.size hj.1, hj.2⟩)) (HB1.out.trans (hb2.mono HB1.out.size))
    have HP := Lib.hid hP
    clear hP hs hb2
    go_wp2_with fail
    refine (num_any _ _).mono ?_
    rintro e w3 ⟨rfl, rfl⟩
    have T0 : Hid ((0 : Int) = (total [] : Nat)) := by unfold total; rfl
    go_wp2_with fail
    go_loopw [9, 10, 11] (fun v s i wr => ∃ (k : Nat) (L : List Bs), k ≤ ops.length ∧ i = .int .i64 k ∧ s = .int .i64 (total L) ∧ Play w wr (fun _ => False) p lim L L v) (fun _ _ i _ => ops.length - (intOf i).toNat)
    case atStart => exact ⟨0, [], by omega, rfl, by rw [T0.out], HP.out⟩
    case round =>
      obtain ⟨k, L, hk, rfl, rfl, hP⟩ := hrel
      have HP := Lib.hid hP
      have HF : Hid (L.Nodup ∧ total L ≤ lim ∧ lim ≤ 65536 ∧ L.length ≤ 65537 ∧ ∀ b ∈ L, b.length ≤ 8192) := let ⟨_, h⟩ := hP.stock; h.1.facts
      have k0 : (0 : Int) ≤ (k : Int) := by omega
      obtain ⟨aa, ac, rfl, _⟩ := hP.rd
      have n0 : L.length ≤ 65537 := HF.out.2.2.2.1
      clear hP
      by_cases hlt : k < ops.length
      · have k1 : (k : Int) < (ops.length : Int) := by omega
        obtain ⟨g, off, ua, uc, rfl, c0, c1, w0, w1', hbl, c2, hbw⟩ := HO.out k hlt
        have hg := World.block_lt_of_cell? _ _ c0
        have d0 := (HP.out.bel.cell (p := ⟨g, off + k * 3, none⟩) hg).trans c0
        have d1 := (HP.out.bel.cell (p := ⟨g, off + k * 3 + 1, none⟩) hg).trans c1
        have d2 := (HP.out.bel.cell (p := ⟨g, off + k * 3 + 2, none⟩) hg).trans c2
        have HBW := Lib.hid hbw
        have HW := Lib.hid (And.intro w0 w1')
        clear c0 c1 c2 hbw w0 w1'
        generalize ops[k] = o at *
        obtain ⟨kind, at_, b⟩ := o
        simp only at *
        obtain ⟨W1, hW1⟩ : ∃ W1, W1 = wr.alloc (.cells #[.int .i64 kind, .int .i64 at_, .slice ua b.length uc] 38) := ⟨_, rfl⟩
        have hrow1 : W1.heap[wr.heap.size]? = some (.cells #[.int .i64 kind, .int .i64 at_, .slice ua b.length uc] 38 (0, 0)) := by rw [hW1]; exact heap_alloc_new wr _
        have hb1 : Below wr.heap.size wr W1 := by rw [hW1]; exact (Below.refl _ _).alloc (Nat.le_refl _) _
        have HW1 := Lib.hid hW1
        have HROW1 := Lib.hid hrow1
        have HBel1 := Lib.hid hb1
        have HP1 := Lib.hid (HP.out.below hb1)
        clear hW1 hrow1 hb1
        have hkind : kind.tmod 3 = 1 ∨ kind.tmod 3 = 2 ∨ (kind.tmod 3 ≠ 1 ∧ kind.tmod 3 ≠ 2) := by omega
        rcases hkind with hm | hm | ⟨hm1, hm2⟩
        · -- Get
          have hx : (at_ < 0 ∨ (0 ≤ at_ ∧ (L.length : Int) ≤ at_)) ∨ ∃ j : Nat, at_ = j ∧ j < L.length := by
            by_cases h0 : 0 ≤ at_
            · obtain ⟨j, rfl⟩ := Int.eq_ofNat_of_zero_le h0
              by_cases hj : j < L.length
              · exact .inr ⟨j, rfl, hj⟩
              · exact .inl (.inr ⟨h0, by omega⟩)
            · exact .inl (.inl (by omega))
          rcases hx with hx | ⟨j, rfl, hj⟩
          · go_wp2_with fail
            rw [← HW1.out]
            have e0 : W1.cell? ⟨wr.heap.size, 0, none⟩ = some (.int .i64 kind) := by rw [cell_of_row _ _ _ _ _ _ HROW1.out]; rfl
            have e1 : W1.cell? ⟨wr.heap.size, 1, none⟩ = some (.int .i64 at_) := by rw [cell_of_row _ _ _ _ _ _ HROW1.out]; rfl
            obtain ⟨Os, hos⟩ := HP1.out.stock
            have HOS := Lib.hid hos
            clear hos d0 d1 d2
            refine (get_no HOS.out at_ hx).mono ?_
            rintro e w4 ⟨rfl, rfl⟩
            rcases hx with hx | ⟨hx0, hx1⟩
            all_goals
              go_wp2_with fail
              refine (num_any _ _).mono ?_
              rintro e w5 ⟨rfl, rfl⟩
              go_wp2_with fail
              go_roundw
              case rel => exact ⟨k + 1, L, by omega, by go_num, rfl, HP1.out⟩
              case measure => simp [intOf]; omega
          · go_wp2_with fail
            rw [← HW1.out]
            have e0 : W1.cell? ⟨wr.heap.size, 0, none⟩ = some (.int .i64 kind) := by rw [cell_of_row _ _ _ _ _ _ HROW1.out]; rfl
            have e1 : W1.cell? ⟨wr.heap.size, 1, none⟩ = some (.int .i64 (j : Int)) := by rw [cell_of_row _ _ _ _ _ _ HROW1.out]; rfl
            have HEX := Lib.hid (World.block_lt_of_cell? _ _ e0)
            obtain ⟨Os, hos⟩ := HP1.out.stock
            have HG := Lib.hid (get_ok hos j hj)
            have h8 : L[j].length ≤ 8192 := HF.out.2.2.2.2 _ (List.getElem_mem hj)
            clear hos d0 d1 d2
            refine (HG.out).mono ?_
            rintro e W2 ⟨va, vc, rfl, hF, hb2, hz⟩
            have HP2 := Lib.hid (HP1.out.start hb2)
            have HX : Hid (∀ m, (Value.slice va L[j].length vc).ownBlock = some m → NewIn W1 W2 m) := fun m e => hF.2 m e
            have HJ2 := Lib.hid (Junk.of_bytes hF.1 rfl hz)
            obtain ⟨aa', ac', h1, hrd⟩ := HP2.out.rd
            simp only [Value.slice.injEq] at h1
            obtain ⟨rfl, _, rfl⟩ := h1
            obtain ⟨g2, off2, xa, xc, rfl, hc2, hb3⟩ := hrd j hj
            have e1' := (hb2.cell (p := ⟨wr.heap.size, 1, none⟩) HEX.out).trans e1
            have hc3 : ∀ nq, (convert 28 9 (.slice va L[j].length vc)).run Try.prog (W2.drewN nq) = .ok (.string ⟨L[j].toArray⟩) (W2.drewN nq) := fun nq => run_string_of (W2.drewN nq) 28 5 Try.underlying28 Try.underlying5 (RowAt.below hF.1 (below_drewN (Below.refl _ _) nq) (Nat.le_refl _)) 9 Try.underlying9
            have hc4 : ∀ nq, (convert 28 9 (.slice xa L[j].length xc)).run Try.prog (W2.drewN nq) = .ok (.string ⟨L[j].toArray⟩) (W2.drewN nq) := fun nq => run_string_ofW (W2.drewN nq) 28 5 Try.underlying28 Try.underlying5 (hb3.below (below_drewN (Below.refl _ _) nq) (Nat.le_refl _)) 9 Try.underlying9
            have j0 : (0 : Int) ≤ (j : Int) := by omega
            have j1 : (j : Int) < (L.length : Int) := by omega
            clear hF hb2 hz hrd hb3 e0 e1 HG
            generalize hbj : L[j] = b at *
            clear hbj
            go_wp2_with fail
            go_quiet ((first | (go_at_call 11; exact num_q _ _ _)))
            obtain ⟨W4, hW4⟩ : ∃ W4, W4 = W2.drewN nq := ⟨_, rfl⟩
            rw [← hW4]
            have HP4 : Hid (Play w W4 (NewIn W1 W2) p lim L L (.slice (some ⟨g2, off2, none⟩) L.length ac)) := by rw [hW4]; exact HP2.out.below (below_drewN (Below.refl _ _) _)
            have HJ : Hid (Junk W4 va b.length) := by rw [hW4]; exact HJ2.out.kept (fun _ _ _ => rfl)
            clear hW4 hc2 hc3 hc4 e1' HJ2 HP2
            go_wp2_with fail
            go_loopw [15] (fun i wq => ∃ j : Nat, j ≤ b.length ∧ i = .int .i64 j ∧ Junk wq va b.length ∧ Keeps (fun m => (Value.slice va b.length vc).ownBlock = some m) W4 wq) (fun i _ => b.length - (intOf i).toNat)
            case atStart => exact ⟨0, by omega, rfl, HJ.out, Keeps.refl _ _⟩
            case round =>
              obtain ⟨j, hj, rfl, hJ, hkq⟩ := hrel
              have j0 : (0 : Int) ≤ (j : Int) := by omega
              by_cases hlt : j < b.length
              · have j1 : (j : Int) < (b.length : Int) := by omega
                have hJ' := hJ
                rcases hJ with h0 | ⟨g2, off2, rfl, hJ⟩
                · omega
                obtain ⟨⟨x, hx⟩, hf⟩ := hJ j hlt
                have HJ := Lib.hid hJ'
                have HKQ := Lib.hid hkq
                clear hJ hkq hJ'
                go_wp2_with fail
                go_roundw
                case rel => exact ⟨j + 1, by omega, by go_num, HJ.out.set _ _, HKQ.out.setCell _ _ (.inl rfl)⟩
                case measure => simp [intOf]; omega
              · obtain rfl : j = b.length := by omega
                have HR : Hid (Play w _ (fun _ => False) p lim _ _ _) := (HP4.out.wipe hkq (fun m e => HX.out m e)).stop
                clear hJ hkq
                go_wp2_with fail
                go_roundw
                case rel => exact ⟨k + 1, L, by omega, by go_num, rfl, HR.out⟩
                case measure => simp [intOf]; omega
        · -- Find
          have e2 : W1.cell? ⟨wr.heap.size, 2, none⟩ = some (.slice ua b.length uc) := by rw [cell_of_row _ _ _ _ _ _ HROW1.out]; rfl
          obtain ⟨Os, hos⟩ := HP1.out.stock
          have hbw1 := HBW.out.below HP1.out.bel (Nat.le_refl _)
          have Q1 := Lib.hid (fun n => find_q hos _ b hbw1 (by omega) n)
          have Q2 := Lib.hid (fun n => refFind_q _ _ L b W1 HP1.out.rd hbw1 (by omega) n)
          clear hos hbw1
          go_wp2_with fail
          rw [← HW1.out]
          clear d0 d1 d2
          generalize place L b = pl at *
          go_quiet ((first | (go_at_call 17; exact Q1.out _) | (go_at_call 18; exact Q2.out _)))
          go_wp2_with fail
          go_roundw
          case rel => exact ⟨k + 1, L, by omega, by go_num, rfl, HP1.out.below (below_drewN (Below.refl _ _) _)⟩
          case measure => simp [intOf]; omega
        · -- Add
          have hm1' : (kind.tmod 3 == 1) = false := by simpa using hm1
          have hm2' : (kind.tmod 3 == 2) = false := by simpa using hm2
          have hbw1 := HBW.out.below HP1.out.bel (Nat.le_refl _)
          have HBW1 := Lib.hid hbw1
          have B1 : Hid (0 + b.length ≤ maxLen) := by show _ ≤ _; unfold maxLen; omega
          have B2 : Hid ((0 + b.length) * 1 ≤ 140737488355328) := by show _ ≤ _; omega
          clear hbw1
          go_wp2_with (at_builtin; rw [← HW1.out]; refine wpList_append_rowW rfl (.const (.slice none 0 0)) (.tmp 74) 28 rfl W1.heap.size 5 i5 (.int .u8 0) 1 Try.underlying28 HI5.out.1 HI5.out.2.1 HI5.out.2.2.1 HI5.out.2.2.2 rfl (.slice none 0 0) 0 [] rfl (World.ownsRow_nil _ _ _ _) (.slice ua b.length uc) b rfl HBW1.out B1.out B2.out (Nat.le_refl _) ?_)
          intro v2 W2 hown hgrow _
          obtain ⟨va, vc, rfl, hby, hin, hz, hb2⟩ := app_new hown hgrow
          have HP2 := Lib.hid (HP.out.start ((HBel1.out.trans (hb2.mono HBel1.out.size))))
          have hin2 : InB (.slice va b.length vc) (NewIn wr W2) := hin.mono (fun j e => ⟨Nat.le_trans HBel1.out.size e.1, e.2⟩)
          have HX := Lib.hid hin2
          have HROW2 : Hid (W2.heap[wr.heap.size]? = some (.cells #[.int .i64 kind, .int .i64 at_, .slice ua b.length uc] 38 (0, 0))) := (hb2.block _ (Array.getElem?_eq_some_iff.1 HROW1.out).1).trans HROW1.out
          have HA := Lib.hid (HP2.out.add _ b (.inl hby) hin2)
          have HJ2 := Lib.hid (Junk.of_bytes hby rfl hz)
          clear hown hgrow hby hin hz hb2 hin2 d0 d1 d2
          have hx : 8192 < b.length ∨ (b.length ≤ 8192 ∧ (b ∈ L ∨ (b ∉ L ∧ (lim < total L + b.length ∨ total L + b.length ≤ lim)))) := by
            by_cases h1 : 8192 < b.length
            · exact .inl h1
            · by_cases h2 : b ∈ L
              · exact .inr ⟨by omega, .inl h2⟩
              · exact .inr ⟨by omega, .inr ⟨h2, by omega⟩⟩
          obtain ⟨ae, be, at2, hadd⟩ : ∃ (ae be : Int) (at2 : List Bs), addE lim L b = (ae, be) ∧ addT lim L b = at2 := ⟨_, _, _, rfl, rfl⟩
          rw [hadd.1, hadd.2] at HA
          have HADD := Lib.hid hadd
          clear hadd
          go_wp2_with fail
          refine (HA.out).mono ?_
          rintro e W3 ⟨rfl, hP3, hk3⟩
          have hxo : NewIn wr W2 wr.heap.size := ⟨Nat.le_refl _, (Array.getElem?_eq_some_iff.1 HROW2.out).1⟩
          have HROW3 : Hid (W3.heap[wr.heap.size]? = some (.cells #[.int .i64 kind, .int .i64 at_, .slice ua b.length uc] 38 (0, 0))) := (hk3.block _ hxo.2 (fun e => e.2 hxo)).trans HROW2.out
          have e2 : W3.cell? ⟨wr.heap.size, 2, none⟩ = some (.slice ua b.length uc) := by rw [cell_of_row _ _ _ _ _ _ HROW3.out]; rfl
          have HJ3 : Hid (Junk W3 va b.length) := HJ2.out.kept (fun k e hk => hk3.block k hk (fun e' => e'.2 (HX.out k (by cases va with | none => cases e | some a => simpa [Value.ownBlock] using e))))
          have HP3 := Lib.hid hP3
          have HR3 := Lib.hid (refFind_any _ _ L b W3 hP3.rd (HBW.out.below hP3.bel (Nat.le_refl _)) (by omega))
          clear hP3 hk3 hxo HA HP2 HJ2
          go_wp2_with fail
          refine (HR3.out).mono ?_
          rintro e w4 ⟨rfl, m, rfl⟩
          obtain ⟨W4, hW4⟩ : ∃ W4, W4 = W3.drewN m := ⟨_, rfl⟩
          have HP4 : Hid (Play w W4 (NewIn wr W2) p lim at2 L (.slice aa L.length ac)) := by rw [hW4]; exact HP3.out.below (below_drewN (Below.refl _ _) _)
          have HJ : Hid (Junk W4 va b.length) := by rw [hW4]; exact HJ3.out.kept (fun _ _ _ => rfl)
          have HROW4 : Hid (W4.heap[wr.heap.size]? = some (.cells #[.int .i64 kind, .int .i64 at_, .slice ua b.length uc] 38 (0, 0))) := by rw [hW4]; exact HROW3.out
          have e4 : W4.cell? ⟨wr.heap.size, 2, none⟩ = some (.slice ua b.length uc) := by rw [cell_of_row _ _ _ _ _ _ HROW4.out]; rfl
          rw [← hW4]
          clear hW4 HJ3 HP3 HROW3 HR3 e2
          rcases hx with hx | ⟨h8, hx | ⟨hx, hx2 | hx2⟩⟩
          · obtain ⟨q1, q2⟩ := add_longE lim L b hx
            obtain ⟨q3, q4⟩ := HADD.out
            rw [q1] at q3
            rw [q2] at q4
            cases q3
            subst q4
            clear q1 q2
            generalize place L b = pl at *
            have hx' : (8192 : Int) < (b.length : Int) := by omega
            go_wp2_with fail
            refine (num_any _ _).mono ?_
            rintro e w5 ⟨rfl, rfl⟩
            go_wp2_with fail
            go_loopw [21] (fun i wq => ∃ j : Nat, j ≤ b.length ∧ i = .int .i64 j ∧ Junk wq va b.length ∧ Keeps (fun m => (Value.slice va b.length vc).ownBlock = some m) W4 wq) (fun i _ => b.length - (intOf i).toNat)
            case atStart => exact ⟨0, by omega, rfl, HJ.out, Keeps.refl _ _⟩
            case round =>
              obtain ⟨j, hj, rfl, hJ, hkq⟩ := hrel
              have j0 : (0 : Int) ≤ (j : Int) := by omega
              by_cases hlt : j < b.length
              · have j1 : (j : Int) < (b.length : Int) := by omega
                have hJ' := hJ
                rcases hJ with h0 | ⟨g2, off2, rfl, hJ⟩
                · omega
                obtain ⟨⟨x, hx⟩, hf⟩ := hJ j hlt
                have HJ := Lib.hid hJ'
                have HKQ := Lib.hid hkq
                clear hJ hkq hJ'
                go_wp2_with fail
                go_roundw
                case rel => exact ⟨j + 1, by omega, by go_num, HJ.out.set _ _, HKQ.out.setCell _ _ (.inl rfl)⟩
                case measure => simp [intOf]; omega
              · obtain rfl : j = b.length := by omega
                have HR : Hid (Play w _ (fun _ => False) p lim _ _ _) := (HP4.out.wipe hkq (fun m e => HX.out m e)).stop
                clear hJ hkq
                go_wp2_with fail
                go_roundw
                case rel => exact ⟨k + 1, L, by omega, by go_num, rfl, HR.out⟩
                case measure => simp [intOf]; omega
          · obtain ⟨q1, q2, q5⟩ := add_hasE (lim := lim) h8 hx
            obtain ⟨q3, q4⟩ := HADD.out
            rw [q1] at q3
            rw [q2] at q4
            cases q3
            subst q4
            rw [q5]
            clear q1 q2 q5 HADD
            generalize L.idxOf b = pl at *
            have p0 : (0 : Int) ≤ (pl : Int) := by omega
            have hx' : (b.length : Int) ≤ 8192 := by omega
            go_wp2_with fail
            refine (num_any _ _).mono ?_
            rintro e w5 ⟨rfl, rfl⟩
            go_wp2_with fail
            go_loopw [21] (fun i wq => ∃ j : Nat, j ≤ b.length ∧ i = .int .i64 j ∧ Junk wq va b.length ∧ Keeps (fun m => (Value.slice va b.length vc).ownBlock = some m) W4 wq) (fun i _ => b.length - (intOf i).toNat)
            case atStart => exact ⟨0, by omega, rfl, HJ.out, Keeps.refl _ _⟩
            case round =>
              obtain ⟨j, hj, rfl, hJ, hkq⟩ := hrel
              have j0 : (0 : Int) ≤ (j : Int) := by omega
              by_cases hlt : j < b.length
              · have j1 : (j : Int) < (b.length : Int) := by omega
                have hJ' := hJ
                rcases hJ with h0 | ⟨g2, off2, rfl, hJ⟩
                · omega
                obtain ⟨⟨x, hx⟩, hf⟩ := hJ j hlt
                have HJ := Lib.hid hJ'
                have HKQ := Lib.hid hkq
                clear hJ hkq hJ'
                go_wp2_with fail
                go_roundw
                case rel => exact ⟨j + 1, by omega, by go_num, HJ.out.set _ _, HKQ.out.setCell _ _ (.inl rfl)⟩
                case measure => simp [intOf]; omega
              · obtain rfl : j = b.length := by omega
                have HR : Hid (Play w _ (fun _ => False) p lim _ _ _) := (HP4.out.wipe hkq (fun m e => HX.out m e)).stop
                clear hJ hkq
                go_wp2_with fail
                go_roundw
                case rel => exact ⟨k + 1, L, by omega, by go_num, rfl, HR.out⟩
                case measure => simp [intOf]; omega
          · obtain ⟨q1, q2, q5⟩ := add_fullE h8 hx hx2
            obtain ⟨q3, q4⟩ := HADD.out
            rw [q1] at q3
            rw [q2] at q4
            cases q3
            subst q4
            rw [q5]
            clear q1 q2 q5 HADD
            have t1 : total L ≤ 65536 := by have := HF.out.2.1; omega
            have hx' : (b.length : Int) ≤ 8192 := by omega
            have hx3 : (lim : Int) < (total L : Int) + (b.length : Int) := by omega
            have HL := Lib.hid (Eq.refl (total L))
            go_wp2_with fail
            refine (num_any _ _).mono ?_
            rintro e w5 ⟨rfl, rfl⟩
            go_wp2_with fail
            go_loopw [21] (fun i wq => ∃ j : Nat, j ≤ b.length ∧ i = .int .i64 j ∧ Junk wq va b.length ∧ Keeps (fun m => (Value.slice va b.length vc).ownBlock = some m) W4 wq) (fun i _ => b.length - (intOf i).toNat)
            case atStart => exact ⟨0, by omega, rfl, HJ.out, Keeps.refl _ _⟩
            case round =>
              obtain ⟨j, hj, rfl, hJ, hkq⟩ := hrel
              have j0 : (0 : Int) ≤ (j : Int) := by omega
              by_cases hlt : j < b.length
              · have j1 : (j : Int) < (b.length : Int) := by omega
                have hJ' := hJ
                rcases hJ with h0 | ⟨g2, off2, rfl, hJ⟩
                · omega
                obtain ⟨⟨x, hx⟩, hf⟩ := hJ j hlt
                have HJ := Lib.hid hJ'
                have HKQ := Lib.hid hkq
                clear hJ hkq hJ'
                go_wp2_with fail
                go_roundw
                case rel => exact ⟨j + 1, by omega, by go_num, HJ.out.set _ _, HKQ.out.setCell _ _ (.inl rfl)⟩
                case measure => simp [intOf]; omega
              · obtain rfl : j = b.length := by omega
                have HR : Hid (Play w _ (fun _ => False) p lim _ _ _) := (HP4.out.wipe hkq (fun m e => HX.out m e)).stop
                clear hJ hkq
                go_wp2_with fail
                go_roundw
                case rel => exact ⟨k + 1, L, by omega, by go_num, rfl, HR.out⟩
                case measure => simp [intOf]; omega
          · obtain ⟨q1, q2, q5⟩ := add_newE h8 hx hx2
            obtain ⟨q3, q4⟩ := HADD.out
            rw [q1] at q3
            rw [q2] at q4
            cases q3
            subst q4
            rw [q5]
            clear q1 q2 q5 HADD
            have t1 : total L ≤ 65536 := by have := HF.out.2.1; omega
            have hx' : (b.length : Int) ≤ 8192 := by omega
            have hx3 : (total L : Int) + (b.length : Int) ≤ (lim : Int) := by omega
            have HTS : Hid (total (L ++ [b]) = total L + b.length) := total_snoc L b
            have HBW4 := Lib.hid (HBW.out.below HP4.out.bel (Nat.le_refl _))
            obtain ⟨us, hrow, hgo⟩ := HP4.out.grow
            have HROW := Lib.hid hrow
            have HGO := Lib.hid hgo
            have C1 : Hid (L.length + [Value.slice none b.length 0].length ≤ maxLen) := by show _ ≤ _; simp only [List.length_singleton]; unfold maxLen; omega
            have C2 : Hid ((L.length + [Value.slice none b.length 0].length) * 24 ≤ 140737488355328) := by show _ ≤ _; simp only [List.length_singleton]; omega
            clear hrow hgo
            go_wp2_with fail
            refine (num_any _ _).mono ?_
            rintro e w5 ⟨rfl, rfl⟩
            go_wp2_with (at_builtin; refine wpList_append_rowW rfl (.const (.slice none 0 0)) (.tmp 121) 28 rfl W4.heap.size 5 i5 (.int .u8 0) 1 Try.underlying28 HI5.out.1 HI5.out.2.1 HI5.out.2.2.1 HI5.out.2.2.2 rfl (.slice none 0 0) 0 [] rfl (World.ownsRow_nil _ _ _ _) (.slice ua b.length uc) b rfl HBW4.out B1.out B2.out (Nat.le_refl _) ?_)
            intro v5 W5 hown5 hgrow5 _
            obtain ⟨xa, xc, rfl, hby5, hin5, _, hb5⟩ := app_new hown5 hgrow5
            have hb6 : Below W4.heap.size W4 (W5.alloc (.cells #[.slice xa b.length xc] 28)) := hb5.alloc hb5.size _
            have HBY5 : Hid (Bytes (W5.alloc (.cells #[.slice xa b.length xc] 28)) (.slice xa b.length xc) b) := RowAt.below hby5 ((Below.refl W5.heap.size W5).alloc (Nat.le_refl _) _) (Nat.le_refl _)
            have HIN5 : Hid (InB (.slice xa b.length xc) (NewIn W4 (W5.alloc (.cells #[.slice xa b.length xc] 28)))) := hin5.mono (fun j e => ⟨e.1, by rw [World.size_alloc]; exact Nat.lt_succ_of_lt e.2⟩)
            have HB6 := Lib.hid hb6
            have HO6 := Lib.hid (owns_below HROW.out hb6)
            have HONE : Hid (∀ u ∈ [Value.slice xa b.length xc], u.oneCell' = true) := fun u hu => by rw [List.mem_singleton] at hu; subst hu; rfl
            clear hown5 hgrow5 hby5 hin5 hb5 hb6
            go_wp2_with (at_builtin; refine wpList_append_rowAt rfl (.tmp 119) (.tmp 123) 36 rfl 0 28 i28 (.slice none 0 0) 24 Try.underlying36 HI28.out.1 HI28.out.2.1 HI28.out.2.2.1 HI28.out.2.2.2 rfl (.slice aa L.length ac) L.length us rfl HO6.out (.slice (some ⟨W5.heap.size, 0, none⟩) 1 1) [.slice xa b.length xc] rfl (.inl (row_new W5 #[.slice xa b.length xc] 28 (0, 0) 1 (Nat.le_refl _))) HONE.out C1.out C2.out (Nat.zero_le _) ?_)
            intro v7 W7 hown7 hgrow7 hat7
            obtain ⟨hP7, hk7⟩ := HGO.out _ _ _ _ _ HB6.out HBY5.out HIN5.out hown7 hgrow7 (by simpa using hat7)
            have hxo : NewIn wr W2 wr.heap.size := ⟨Nat.le_refl _, (Array.getElem?_eq_some_iff.1 HROW2.out).1⟩
            have HROW7 : Hid (W7.heap[wr.heap.size]? = some (.cells #[.int .i64 kind, .int .i64 at_, .slice ua b.length uc] 38 (0, 0))) := (hk7.block _ (Array.getElem?_eq_some_iff.1 HROW4.out).1 (fun e => e.2 hxo)).trans HROW4.out
            have e7 : W7.cell? ⟨wr.heap.size, 2, none⟩ = some (.slice ua b.length uc) := by rw [cell_of_row _ _ _ _ _ _ HROW7.out]; rfl
            have HJ7 : Hid (Junk W7 va b.length) := HJ.out.kept (fun k e hk => hk7.block k hk (fun e' => e'.2 (HX.out k (by cases va with | none => cases e | some a => simpa [Value.ownBlock] using e))))
            have HP4 := Lib.hid hP7
            obtain ⟨aa7, ac7, rfl, _⟩ := hP7.rd
            have ev : (L ++ [b]).length = L.length + 1 := by simp
            rw [ev] at HP4
            have HJ := HJ7
            clear hown7 hgrow7 hat7 hP7 hk7 hxo HJ7 HROW4 HROW e4 ev
            rw [List.length_append]
            generalize W7 = W4 at *
            go_wp2_with fail
            go_loopw [21] (fun i wq => ∃ j : Nat, j ≤ b.length ∧ i = .int .i64 j ∧ Junk wq va b.length ∧ Keeps (fun m => (Value.slice va b.length vc).ownBlock = some m) W4 wq) (fun i _ => b.length - (intOf i).toNat)
            case atStart => exact ⟨0, by omega, rfl, HJ.out, Keeps.refl _ _⟩
            case round =>
              obtain ⟨j, hj, rfl, hJ, hkq⟩ := hrel
              have j0 : (0 : Int) ≤ (j : Int) := by omega
              by_cases hlt : j < b.length
              · have j1 : (j : Int) < (b.length : Int) := by omega
                have hJ' := hJ
                rcases hJ with h0 | ⟨g2, off2, rfl, hJ⟩
                · omega
                obtain ⟨⟨x, hx⟩, hf⟩ := hJ j hlt
                have HJ := Lib.hid hJ'
                have HKQ := Lib.hid hkq
                clear hJ hkq hJ'
                go_wp2_with fail
                go_roundw
                case rel => exact ⟨j + 1, by omega, by go_num, HJ.out.set _ _, HKQ.out.setCell _ _ (.inl rfl)⟩
                case measure => simp [intOf]; omega
              · obtain rfl : j = b.length := by omega
                have HR : Hid (Play w _ (fun _ => False) p lim _ _ _) := (HP4.out.wipe hkq (fun m e => HX.out m e)).stop
                clear hJ hkq
                go_wp2_with fail
                go_roundw
                case rel => exact ⟨k + 1, L ++ [b], by omega, by go_num, by rw [HTS.out]; go_num, HR.out⟩
                case measure => simp [intOf]; omega
      · obtain rfl : k = ops.length := by omega
        obtain ⟨Os, hos⟩ := HP.out.stock
        have HALL := Lib.hid (all_ok hos)
        clear hos
        go_wp2_with fail
        refine (HALL.out).mono ?_
        rintro e Wg ⟨gv, us, rfl, hall, hbg⟩
        obtain ⟨ga, gc, hsh, _⟩ := (RowAt.of_owns hall.row).shape
        rw [hall.len] at hsh
        subst hsh
        obtain ⟨SX, hSX⟩ : ∃ SX, SX = NewIn wr Wg := ⟨_, rfl⟩
        have hgj := hall.gotJ HF.out.2.2.2.2
        have hpg := HP.out.start hbg
        rw [← hSX] at hpg
        have hgj : GotJ Wg SX ga L.length := by rw [hSX]; exact hgj
        have HPG := Lib.hid hpg
        have HGJ := Lib.hid hgj
        clear hSX hgj hpg
        obtain ⟨Os, hos⟩ := HPG.out.stock
        have HOS := Lib.hid hos
        have HSM := Lib.hid (sameAll_any _ _ L Wg hall.rd HPG.out.rd (by omega))
        clear hall hbg hos HALL
        go_wp2_with fail
        refine (len_o HOS.out).mono ?_
        rintro e w5 ⟨rfl, rfl⟩
        go_wp2_with fail
        refine (size_o HOS.out).mono ?_
        rintro e w5 ⟨rfl, rfl⟩
        go_wp2_with fail
        refine (HSM.out).mono ?_
        rintro e w5 ⟨rfl, m, rfl⟩
        obtain ⟨W4, hW4⟩ : ∃ W4, W4 = Wg.drewN m := ⟨_, rfl⟩
        have HP4 : Hid (Play w W4 SX p lim L L (.slice aa L.length ac)) := by rw [hW4]; exact HPG.out.below (below_drewN (Below.refl _ _) _)
        have HGJ4 : Hid (GotJ W4 SX ga L.length) := by rw [hW4]; exact HGJ.out
        rw [← hW4]
        clear hW4 HPG HOS HSM HGJ
        go_wp2_with fail
        go_loopw [24] (fun i wq => ∃ j : Nat, j ≤ L.length ∧ i = .int .i64 j ∧ GotJ wq SX ga L.length ∧ Play w wq SX p lim L L (.slice aa L.length ac)) (fun i _ => L.length - (intOf i).toNat)
        case atStart => exact ⟨0, by omega, rfl, HGJ4.out, HP4.out⟩
        case round =>
          obtain ⟨j, hj, rfl, hG, hP⟩ := hrel
          have HG := Lib.hid hG
          have HPJ := Lib.hid hP
          clear hP hG
          have j0 : (0 : Int) ≤ (j : Int) := by omega
          by_cases hlt : j < L.length
          · have j1 : (j : Int) < (L.length : Int) := by omega
            obtain ⟨g, ua, m2, uc, rfl, hc, _, hm8, hkk⟩ := HG.out j hlt
            have HC := Lib.hid hc
            have HKK := Lib.hid hkk
            clear hc hkk
            go_wp2_with fail
            go_loopw [25] (fun i wq => ∃ c : Nat, c ≤ m2 ∧ i = .int .i64 c ∧ wq.cell? ⟨g, j, none⟩ = some (.slice ua m2 uc) ∧ GotJ wq SX (some ⟨g, 0, none⟩) L.length ∧ Play w wq SX p lim L L (.slice aa L.length ac)) (fun i _ => m2 - (intOf i).toNat)
            case atStart => exact ⟨0, by omega, rfl, HC.out, HG.out, HPJ.out⟩
            case round =>
              obtain ⟨c, hc, rfl, hcell, hG, hP⟩ := hrel
              have c0 : (0 : Int) ≤ (c : Int) := by omega
              by_cases hlc : c < m2
              · have c1 : (c : Int) < (m2 : Int) := by omega
                obtain ⟨g', ua', m3, uc', h1, h2, hjk, _, _⟩ := hG j hlt
                cases h1
                rw [hcell] at h2
                cases h2
                rcases hjk with h0 | ⟨g2, off2, rfl, hjk⟩
                · omega
                obtain ⟨⟨x, hx⟩, hf⟩ := hjk c hlc
                obtain ⟨hne, hS⟩ := HKK.out g2 rfl
                have HST : Hid (∀ y : Int, (wr.setCell ⟨g2, off2 + c, none⟩ (.int .u8 y)).drew.cell? ⟨g, j, none⟩ = some (.slice (some ⟨g2, off2, none⟩) m2 uc)) := fun y => by
                  show (wr.setCell ⟨g2, off2 + c, none⟩ (.int .u8 y)).cell? _ = _
                  rw [World.cell?_setCell_other (h := fun e => hne (congrArg Addr.block e))]
                  exact hcell
                have HGS : Hid (∀ y : Int, GotJ (wr.setCell ⟨g2, off2 + c, none⟩ (.int .u8 y)).drew SX (some ⟨g, 0, none⟩) L.length) := fun y => hG.set rfl _ hne y
                have HPS : Hid (∀ y : Int, Play w (wr.setCell ⟨g2, off2 + c, none⟩ (.int .u8 y)).drew SX p lim L L (.slice aa L.length ac)) := fun y => hP.wipe (((Keeps.refl (fun b => b = g2) wr).setCell ⟨g2, off2 + c, none⟩ _ (.inl rfl)).drew) (fun b e => by cases e; exact hS)
                clear hjk hG hP hne hS
                go_wp2_with fail
                refine wp_region_noPanic ?_
                refine wp_region_ordL 14 [] [0, 1, 2, 3, 4, 5, 6, 7, 8, 9, 10, 11, 12, 13, 14] (fun W => W.cell? ⟨g, j, none⟩ = some (.slice (some ⟨g2, off2, none⟩) m2 uc) ∧ W.cell? ⟨g2, off2 + c, none⟩ = some (.int .u8 x)) (by kernel_rfl) (by kernel_rfl) rfl (by kernel_rfl) (fun _ _ _ _ _ h => h) ⟨hcell, hx⟩ ?_
                repeat (apply heldL_run rfl (by rfl) (by rfl); (intro w hSw; go_simp; with_reducible rfl); (try simp only [Act.put, List.setIfInBounds_toArray, List.set_cons_zero, List.set_cons_succ]))
                refine heldL_step rfl (by rfl) (by rfl) (fun K hK => ?_)
                go_simp
                refine hK.out _ _ (.inl rfl) ?_
                clear hK K
                (try simp only [Act.put, List.setIfInBounds_toArray, List.set_cons_zero, List.set_cons_succ])
                refine heldL_nil (NoPanic.normal ?_)
                go_wp2_with fail
                go_roundw
                case rel => exact ⟨c + 1, by omega, by go_num, HST.out _, HGS.out _, HPS.out _⟩
                case measure => simp [intOf]; omega
              · obtain rfl : c = m2 := by omega
                have HG := Lib.hid hG
                have HPQ := Lib.hid hP
                clear hG hP
                go_wp2_with fail
                go_roundw
                case rel => exact ⟨j + 1, by omega, by go_num, HG.out, HPQ.out⟩
                case measure => simp [intOf]; omega
          · obtain rfl : j = L.length := by omega
            obtain ⟨Os, hos⟩ := HPJ.out.stock
            have HALL := Lib.hid (all_ok hos)
            clear hos
            go_wp2_with fail
            refine (HALL.out).mono ?_
            rintro e Wh ⟨hv, us2, rfl, hall, hbh⟩
            have HPH := Lib.hid (HPJ.out.below hbh)
            have HSM := Lib.hid (sameAll_any _ _ L Wh hall.rd HPH.out.rd (by omega))
            clear hall hbh HALL
            go_wp2_with fail
            refine (HSM.out).mono ?_
            rintro e w5 ⟨rfl, m, rfl⟩
            go_wp2_with fail
            go_ret
            exact ⟨rfl, HPH.out.bel.trans (below_drewN (Below.refl _ _) _)⟩
end Go.Proofs.Ythkjihfnphdfkaa
