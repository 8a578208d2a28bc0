/- StockTight: the walk. -/
import Derived.Test.YthkjihfnphdfkaaTightL
import Derived.Test.YthkjihfnphdfkaaMany
namespace Go.Proofs.Ythkjihfnphdfkaa
open Go.RowKit Go.Maps

theorem add_full' {w : World} {O : Nat → Prop} {p lim : Nat} {L : List Bs} (h : IsStock w O p lim L) (v : Value) (b : Bs) (hv : Bytes w v b) (hb : b.length ≤ 8192) (hm : b ∉ L) (hf : lim < total L + b.length) :
    Calls Try.prog 12 #[.pointer (some ⟨p, 0, none⟩), v] w fun e w' => e = .returned (.tuple #[.int .i64 0, .int .i64 27]) ∧ ∃ k, w' = w.drewN k := let ⟨_, _, _, h⟩ := h; add_full h v b hv hb hm hf

/-- what holds at the head of round k. -/
structure TightAt (w wr : World) (p lim n q k : Nat) : Prop where
  st : ∃ O : Nat → Prop, IsStock wr O p lim (conts n (min k q)) ∧ ∀ j, O j → w.heap.size ≤ j ∧ j < wr.heap.size
  bel : Below w.heap.size w wr

theorem TightAt.next {w wr W w4 : World} {O : Nat → Prop} {p lim n q k : Nat} (hb : Below w.heap.size w wr) (hbW : Below wr.heap.size wr W) (hO : ∀ j, O j → w.heap.size ≤ j ∧ j < wr.heap.size)
    (hS4 : IsStock w4 (fun j => O j ∨ NewIn W w4 j) p lim (conts n (k + 1))) (hk4 : Keeps O W w4) (hkq : k < q) : TightAt w w4 p lim n q (k + 1) where
  st := by
    refine ⟨_, (show min (k + 1) q = k + 1 by omega) ▸ hS4, fun j hj => ?_⟩
    have z1 := hb.size
    have z2 := hbW.size
    have z3 := hk4.size
    rcases hj with h | h
    · have := hO j h; omega
    · have h1 := h.1
      have h2 := h.2
      omega
  bel := by
    refine (hb.trans (hbW.mono hb.size)).trans (hk4.below_of (Nat.le_trans hb.size hbW.size) fun j hj h => ?_)
    have := (hO j h).1
    omega
theorem TightAt.last {w wr W : World} {O : Nat → Prop} {p lim n q d : Nat} (hb : Below w.heap.size w wr) (hbW : Below wr.heap.size wr W) (hO : ∀ j, O j → w.heap.size ≤ j ∧ j < wr.heap.size)
    (hS : IsStock W O p lim (conts n q)) : TightAt w (W.drewN d) p lim n q (q + 1) where
  st := by
    have e : min (q + 1) q = q := by omega
    refine ⟨O, by rw [e]; exact hS.keep ((Keeps.refl (fun _ => False) W).drewN d) (fun _ _ => id), fun j hj => ?_⟩
    have z2 := hbW.size
    have := hO j hj
    exact ⟨this.1, Nat.lt_of_lt_of_le this.2 z2⟩
  bel := below_drewN (hb.trans (hbW.mono hb.size)) d

theorem size_any'' {w : World} {O : Nat → Prop} {p lim : Nat} {L : List Bs} (h : IsStock w O p lim L) (n : Nat) : Calls Try.prog 14 #[.pointer (some ⟨p, 0, none⟩)] (w.drewN n) fun e w' => e = .returned (.int .i64 (total L)) ∧ w' = w.drewN n := (size_any' (w := w.drewN n) (h.keep ((Keeps.refl (fun _ => False) w).drewN n) (fun _ _ => id))).mono fun _ _ ⟨a, b⟩ => ⟨a, b.symm⟩
theorem len_any'' {w : World} {O : Nat → Prop} {p lim : Nat} {L : List Bs} (h : IsStock w O p lim L) (n : Nat) : Calls Try.prog 13 #[.pointer (some ⟨p, 0, none⟩)] (w.drewN n) fun e w' => e = .returned (.int .i64 L.length) ∧ w' = w.drewN n := (len_any' (w := w.drewN n) (h.keep ((Keeps.refl (fun _ => False) w).drewN n) (fun _ _ => id))).mono fun _ _ ⟨a, b⟩ => ⟨a, b.symm⟩

set_option maxHeartbeats 600000 in
set_option maxRecDepth 100000 in
theorem tight_in (lim n q : Nat) (w : World) (hlim : lim ≤ 65536) (hn1 : 2 ≤ n) (hn2 : n ≤ 8192) (hq : q = lim / n) (hq2 : q ≤ 300) : Calls Try.prog 3 #[.int .i64 lim, .int .i64 n] w fun e w' => e = .returned (.bool true) ∧ Below w.heap.size w w' := by
  obtain ⟨i5, hi5, hy0, hy1, hy2⟩ := info_parts info5
  have hdiv : (lim : Int) / (n : Int) = (q : Int) := by rw [hq]; simp
  have hqn : q * n ≤ lim := by rw [hq]; exact Nat.div_mul_le_self lim n
  have hqn' : lim < q * n + n := by rw [hq]; have := Nat.lt_div_mul_add (a := lim) (b := n) (by omega); omega
  have M1 : Hid (i5.bytes * n ≤ 281474976710656) := by show i5.bytes * n ≤ _; rw [hy2]; omega
  have M2 : Hid (n ≤ maxLen) := by show n ≤ maxLen; unfold maxLen; omega
  have HQ := Lib.hid hq
  have HQN := Lib.hid hqn
  have HQN' := Lib.hid hqn'
  clear hq hqn hqn'
  go_enter Try.func3, Try.ntmps3
  go_wp2_with fail
  refine (alive_any _).mono ?_
  rintro e w1 ⟨rfl, hb1⟩
  go_wp2_with fail
  refine (new_yes lim _ hlim).mono ?_
  rintro e w2 ⟨p, rfl, hS, hb2⟩
  go_wp2_with (go_at_call 11; refine (num_any _ _).mono ?_; rintro e w' ⟨rfl, rfl⟩)
  go_loopw [8] (fun i wr => ∃ k : Nat, k ≤ q + 1 ∧ i = .int .i64 k ∧ TightAt w wr p lim n q k) (fun i _ => q + 1 - (intOf i).toNat)
  case atStart => exact ⟨0, by omega, rfl, ⟨NewIn w1 w2, by simpa [conts] using hS, fun j hj => ⟨Nat.le_trans hb1.size hj.1, hj.2⟩⟩, hb1.trans (hb2.mono hb1.size)⟩
  case round =>
    obtain ⟨k, hk, rfl, ⟨O, hst, hO⟩, hbr⟩ := hrel
    by_cases hlt : k ≤ q
    · go_wp2_with (at_make; refine wpList_make_full _ rfl _ _ 28 rfl wr.heap.size 5 i5 (.int .u8 0) 1 Try.underlying28 hi5 hy0 hy1 .i64 .i64 _ _ n rfl rfl rfl rfl M1.out M2.out (Nat.le_refl _) ?_)
      intro w3 hm3 hg3
      rw [toList_madeCells_one] at hm3
      have c0 : w3.cell? ⟨wr.heap.size, 0, none⟩ = some (.int .u8 0) := by rw [hm3.cellAt 0 (by omega), List.getElem?_replicate, if_pos (by omega)]
      have c1 : w3.cell? ⟨wr.heap.size, 1, none⟩ = some (.int .u8 0) := by rw [hm3.cellAt 1 (by omega), List.getElem?_replicate, if_pos (by omega)]
      have f0 : w3.frozen? ⟨wr.heap.size, 0, none⟩ = false := hm3.frozenAt 0
      have f1 : w3.frozen? ⟨wr.heap.size, 1, none⟩ = false := hm3.frozenAt 1
      have hb3 : Below wr.heap.size wr w3 := (Below.refl _ _).grown hg3 (Nat.le_refl _) (by simp)
      have z3 : wr.heap.size < w3.heap.size := (hm3.lt wr.heap.size rfl).2
      have H3 := Lib.hid hm3
      clear hm3 hg3
      go_wp2_with fail
      generalize hW : (w3.setCell ⟨wr.heap.size, 0, none⟩ (.int .u8 ((k : Int) % 256))).setCell ⟨wr.heap.size, 1, none⟩ (.int .u8 ((k : Int) / 256)) = W
      have hB : Bytes W (.slice (some ⟨wr.heap.size, 0, none⟩) n n) (cont n k) := by
        have := ((H3.out.stored 0 (.int .u8 ((k : Int) % 256))).1.stored 1 (.int .u8 ((k : Int) / 256))).1
        have hu := u8s_cont n k
        rw [show (k : Int) / 256 % 256 = (k : Int) / 256 by omega] at hu
        rw [hW, ← hu] at this
        exact RowAt.of_owns this
      have hbW : Below wr.heap.size wr W := by
        rw [← hW]
        exact (hb3.setCell (Nat.le_refl _) _).setCell (Nat.le_refl _) _
      have hSW : IsStock W O p lim (conts n (min k q)) := hst.keep (Keeps.of_below (S := fun _ => False) hbW) (fun _ _ => id)
      clear hW c0 c1 f0 f1 hb3 z3
      by_cases hkq : k < q
      · have hmin : min k q = k := by omega
        rw [hmin] at hSW
        have hfit : k * n + n ≤ lim := by
          have h1 : (k + 1) * n ≤ q * n := Nat.mul_le_mul_right n hkq
          have h2 := HQN.out
          rw [Nat.succ_mul] at h1
          omega
        have HF := Lib.hid hfit
        have HMIN := Lib.hid hmin
        clear hfit hmin
        refine (add_new' hSW _ (cont n k) hB (InB.at_ (fun h => by have := (hO _ h).2; omega)) (by rw [cont_length]; omega) (cont_new (by omega) (by omega) (by omega)) (by rw [total_conts, cont_length]; exact HF.out)).mono ?_
        rintro e w4 ⟨rfl, hS4, hk4⟩
        rw [conts_length, ← conts_succ] at *
        have hkk : (k == q) = false := by simp; omega
        go_wp2_with (go_at_call 11; refine (num_any _ _).mono ?_; rintro e w' ⟨rfl, rfl⟩)
        go_roundw
        case rel => exact ⟨k + 1, by omega, by go_num, TightAt.next hbr hbW hO hS4 hk4 hkq⟩
        case measure => simp [intOf]; omega
      · have hkq' : k = q := by omega
        subst hkq'
        have hmin : min k k = k := by omega
        rw [hmin] at hSW
        clear hmin
        have hkk : ((k : Int) == (k : Int)) = true := by simp
        refine (add_full' hSW _ (cont n k) hB (by rw [cont_length]; omega) (cont_new (by omega) (by omega) (by omega)) (by rw [total_conts, cont_length]; exact HQN'.out)).mono ?_
        rintro e w4 ⟨rfl, d, rfl⟩
        go_wp2_with (go_at_call 11; refine (num_any _ _).mono ?_; rintro e w' ⟨rfl, rfl⟩)
        go_roundw
        case rel => exact ⟨k + 1, by omega, by go_num, TightAt.last hbr hbW hO hSW⟩
        case measure => simp [intOf]
    · have hke : k = q + 1 := by omega
      subst hke
      have hmin : min (q + 1) q = q := by omega
      rw [hmin] at hst
      have ht : total (conts n q) = q * n := total_conts n q
      have hl : (conts n q).length = q := conts_length n q
      have hqn1 : (q : Int) * (n : Int) ≤ 65536 := by
        have h1 := HQN.out
        have h2 : ((q * n : Nat) : Int) = (q : Int) * (n : Int) := by simp
        omega
      have hqn0 : 0 ≤ (q : Int) * (n : Int) := Int.mul_nonneg (by omega) (by omega)
      have S1 := size_any'' hst
      have S2 := len_any'' hst
      rw [ht] at S1
      rw [hl] at S2
      have T1 := Lib.hid S1
      have T2 := Lib.hid S2
      clear hmin ht hl S1 S2
      go_wp2_with fail
      go_quiet ((first | (go_at_call 13; exact Calls.quiet_of_same (T2.out _)) | (go_at_call 14; exact Calls.quiet_of_same (T1.out _))))
      go_wp2
      go_ret
      exact ⟨by simp, below_drewN hbr _⟩
set_option maxHeartbeats 600000 in
set_option maxRecDepth 100000 in
theorem tight_one (lim n q : Nat) (w : World) (hlim : lim ≤ 65536) (hn1 : 1 ≤ n) (hn2 : n ≤ 1) (hq : q = lim / n) (hq2 : q ≤ 300) : Calls Try.prog 3 #[.int .i64 lim, .int .i64 n] w fun e w' => e = .returned (.bool true) ∧ Below w.heap.size w w' := by
  obtain ⟨i5, hi5, hy0, hy1, hy2⟩ := info_parts info5
  have hdiv : (lim : Int) / (n : Int) = (q : Int) := by rw [hq]; simp
  have hqn : q * n ≤ lim := by rw [hq]; exact Nat.div_mul_le_self lim n
  have hqn' : lim < q * n + n := by rw [hq]; have := Nat.lt_div_mul_add (a := lim) (b := n) (by omega); omega
  have M1 : Hid (i5.bytes * n ≤ 281474976710656) := by show i5.bytes * n ≤ _; rw [hy2]; omega
  have M2 : Hid (n ≤ maxLen) := by show n ≤ maxLen; unfold maxLen; omega
  have HQ := Lib.hid hq
  have HQN := Lib.hid hqn
  have HQN' := Lib.hid hqn'
  clear hq hqn hqn'
  go_enter Try.func3, Try.ntmps3
  go_wp2_with fail
  refine (alive_any _).mono ?_
  rintro e w1 ⟨rfl, hb1⟩
  go_wp2_with fail
  refine (new_yes lim _ hlim).mono ?_
  rintro e w2 ⟨p, rfl, hS, hb2⟩
  go_wp2_with (go_at_call 11; refine (num_any _ _).mono ?_; rintro e w' ⟨rfl, rfl⟩)
  go_loopw [8] (fun i wr => ∃ k : Nat, k ≤ q + 1 ∧ i = .int .i64 k ∧ TightAt w wr p lim n q k) (fun i _ => q + 1 - (intOf i).toNat)
  case atStart => exact ⟨0, by omega, rfl, ⟨NewIn w1 w2, by simpa [conts] using hS, fun j hj => ⟨Nat.le_trans hb1.size hj.1, hj.2⟩⟩, hb1.trans (hb2.mono hb1.size)⟩
  case round =>
    obtain ⟨k, hk, rfl, ⟨O, hst, hO⟩, hbr⟩ := hrel
    by_cases hlt : k ≤ q
    · by_cases h255 : 255 < k
      · go_wp2_with (at_make; refine wpList_make_full _ rfl _ _ 28 rfl wr.heap.size 5 i5 (.int .u8 0) 1 Try.underlying28 hi5 hy0 hy1 .i64 .i64 _ _ n rfl rfl rfl rfl M1.out M2.out (Nat.le_refl _) ?_)
        intro w3 hm3 hg3
        rw [toList_madeCells_one] at hm3
        have c0 : w3.cell? ⟨wr.heap.size, 0, none⟩ = some (.int .u8 0) := by rw [hm3.cellAt 0 (by omega), List.getElem?_replicate, if_pos (by omega)]
        have f0 : w3.frozen? ⟨wr.heap.size, 0, none⟩ = false := hm3.frozenAt 0
        have hb3 : Below wr.heap.size wr w3 := (Below.refl _ _).grown hg3 (Nat.le_refl _) (by simp)
        clear hm3 hg3
        go_wp2_with fail
        go_ret
        exact ⟨rfl, (hbr.trans (hb3.mono hbr.size)).setCell hbr.size _⟩
      · go_wp2_with (at_make; refine wpList_make_full _ rfl _ _ 28 rfl wr.heap.size 5 i5 (.int .u8 0) 1 Try.underlying28 hi5 hy0 hy1 .i64 .i64 _ _ n rfl rfl rfl rfl M1.out M2.out (Nat.le_refl _) ?_)
        intro w3 hm3 hg3
        rw [toList_madeCells_one] at hm3
        have c0 : w3.cell? ⟨wr.heap.size, 0, none⟩ = some (.int .u8 0) := by rw [hm3.cellAt 0 (by omega), List.getElem?_replicate, if_pos (by omega)]
        have f0 : w3.frozen? ⟨wr.heap.size, 0, none⟩ = false := hm3.frozenAt 0
        have hb3 : Below wr.heap.size wr w3 := (Below.refl _ _).grown hg3 (Nat.le_refl _) (by simp)
        have z3 : wr.heap.size < w3.heap.size := (hm3.lt wr.heap.size rfl).2
        have H3 := Lib.hid hm3
        clear hm3 hg3
        go_wp2_with fail
        have hkm : (k : Int) % 256 = (k : Int) := by omega
        generalize hW : w3.setCell ⟨wr.heap.size, 0, none⟩ (.int .u8 (k : Int)) = W
        have hB : Bytes W (.slice (some ⟨wr.heap.size, 0, none⟩) n n) (cont n k) := by
          have := (H3.out.stored 0 (.int .u8 (k : Int))).1
          have hu := u8s_cont n k
          rw [hkm, List.set_eq_of_length_le (by simp; omega)] at hu
          rw [hW, ← hu] at this
          exact RowAt.of_owns this
        have hbW : Below wr.heap.size wr W := by
          rw [← hW]
          exact hb3.setCell (Nat.le_refl _) _
        have hSW : IsStock W O p lim (conts n (min k q)) := hst.keep (Keeps.of_below (S := fun _ => False) hbW) (fun _ _ => id)
        clear hW c0 f0 hb3 z3 hkm
        by_cases hkq : k < q
        · have hmin : min k q = k := by omega
          rw [hmin] at hSW
          have hfit : k * n + n ≤ lim := by
            have h1 : (k + 1) * n ≤ q * n := Nat.mul_le_mul_right n hkq
            have h2 := HQN.out
            rw [Nat.succ_mul] at h1
            omega
          have HF := Lib.hid hfit
          have HMIN := Lib.hid hmin
          clear hfit hmin
          refine (add_new' hSW _ (cont n k) hB (InB.at_ (fun h => by have := (hO _ h).2; omega)) (by rw [cont_length]; omega) (cont_new (by omega) (by omega) (by omega)) (by rw [total_conts, cont_length]; exact HF.out)).mono ?_
          rintro e w4 ⟨rfl, hS4, hk4⟩
          rw [conts_length, ← conts_succ] at *
          have hkk : (k == q) = false := by simp; omega
          go_wp2_with (go_at_call 11; refine (num_any _ _).mono ?_; rintro e w' ⟨rfl, rfl⟩)
          go_roundw
          case rel => exact ⟨k + 1, by omega, by go_num, TightAt.next hbr hbW hO hS4 hk4 hkq⟩
          case measure => simp [intOf]; omega
        · have hkq' : k = q := by omega
          subst hkq'
          have hmin : min k k = k := by omega
          rw [hmin] at hSW
          clear hmin
          have hkk : ((k : Int) == (k : Int)) = true := by simp
          refine (add_full' hSW _ (cont n k) hB (by rw [cont_length]; omega) (cont_new (by omega) (by omega) (by omega)) (by rw [total_conts, cont_length]; exact HQN'.out)).mono ?_
          rintro e w4 ⟨rfl, d, rfl⟩
          go_wp2_with (go_at_call 11; refine (num_any _ _).mono ?_; rintro e w' ⟨rfl, rfl⟩)
          go_roundw
          case rel => exact ⟨k + 1, by omega, by go_num, TightAt.last hbr hbW hO hSW⟩
          case measure => simp [intOf]
    · have hke : k = q + 1 := by omega
      subst hke
      have hmin : min (q + 1) q = q := by omega
      rw [hmin] at hst
      have ht : total (conts n q) = q * n := total_conts n q
      have hl : (conts n q).length = q := conts_length n q
      have hqn1 : (q : Int) * (n : Int) ≤ 65536 := by
        have h1 := HQN.out
        have h2 : ((q * n : Nat) : Int) = (q : Int) * (n : Int) := by simp
        omega
      have hqn0 : 0 ≤ (q : Int) * (n : Int) := Int.mul_nonneg (by omega) (by omega)
      have S1 := size_any'' hst
      have S2 := len_any'' hst
      rw [ht] at S1
      rw [hl] at S2
      have T1 := Lib.hid S1
      have T2 := Lib.hid S2
      clear hmin ht hl S1 S2
      go_wp2_with fail
      go_quiet ((first | (go_at_call 13; exact Calls.quiet_of_same (T2.out _)) | (go_at_call 14; exact Calls.quiet_of_same (T1.out _))))
      go_wp2
      go_ret
      exact ⟨by simp, below_drewN hbr _⟩

set_option maxHeartbeats 400000 in
theorem tight_out (lim n : Int) (w : World) (h : lim < 0 ∨ 65536 < lim ∨ n < 1 ∨ 8192 < n ∨ (1 ≤ n ∧ 0 ≤ lim ∧ 300 < lim / n)) : Calls Try.prog 3 #[.int .i64 lim, .int .i64 n] w fun e w' => e = .returned (.bool true) ∧ Below w.heap.size w w' := by
  by_cases h1 : lim < 0
  · go_enter Try.func3, Try.ntmps3
    go_wp2_with fail
    refine (alive_any _).mono ?_
    rintro e w1 ⟨rfl, hb1⟩
    go_wp2_with fail
    go_ret
    exact ⟨rfl, hb1⟩
  · by_cases h2 : 65536 < lim
    · go_enter Try.func3, Try.ntmps3
      go_wp2_with fail
      refine (alive_any _).mono ?_
      rintro e w1 ⟨rfl, hb1⟩
      go_wp2_with fail
      go_ret
      exact ⟨rfl, hb1⟩
    · by_cases h3 : n < 1
      · go_enter Try.func3, Try.ntmps3
        go_wp2_with fail
        refine (alive_any _).mono ?_
        rintro e w1 ⟨rfl, hb1⟩
        go_wp2_with fail
        go_ret
        exact ⟨rfl, hb1⟩
      · by_cases h4 : 8192 < n
        · go_enter Try.func3, Try.ntmps3
          go_wp2_with fail
          refine (alive_any _).mono ?_
          rintro e w1 ⟨rfl, hb1⟩
          go_wp2_with fail
          go_ret
          exact ⟨rfl, hb1⟩
        · have h5 : 300 < lim / n := by omega
          clear h
          generalize hd : lim / n = d at h5
          go_enter Try.func3, Try.ntmps3
          go_wp2_with fail
          refine (alive_any _).mono ?_
          rintro e w1 ⟨rfl, hb1⟩
          go_wp2_with fail
          go_ret
          exact ⟨rfl, hb1⟩

theorem tight_walk (lim n : Int) (w : World) : Calls Try.prog 3 #[.int .i64 lim, .int .i64 n] w fun e w' => e = .returned (.bool true) ∧ Below w.heap.size w w' := by
  by_cases h : 0 ≤ lim ∧ lim ≤ 65536 ∧ 1 ≤ n ∧ n ≤ 8192 ∧ lim / n ≤ 300
  · obtain ⟨a, b, c, d, e⟩ := h
    obtain ⟨l, rfl⟩ := Int.eq_ofNat_of_zero_le a
    obtain ⟨m, rfl⟩ := Int.eq_ofNat_of_zero_le (show 0 ≤ n by omega)
    have e' : l / m ≤ 300 := by
      have : ((l / m : Nat) : Int) = (l : Int) / (m : Int) := by simp
      omega
    by_cases hm : 2 ≤ m
    · exact tight_in l m _ w (by omega) hm (by omega) rfl e'
    · exact tight_one l m _ w (by omega) (by omega) (by omega) rfl e'
  · exact tight_out lim n w (by omega)
end Go.Proofs.Ythkjihfnphdfkaa
