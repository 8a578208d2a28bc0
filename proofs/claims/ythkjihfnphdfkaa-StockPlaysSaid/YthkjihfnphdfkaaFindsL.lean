/- StockFinds: the plain law, the walk. -/
import Derived.Test.YthkjihfnphdfkaaStockF
namespace Go.Proofs.Ythkjihfnphdfkaa
open Go.RowKit Go.Maps

variable {w w' : World} {O : Nat → Prop} {p q lim : Nat} {L : List Bs}

theorem total_addT (lim : Nat) (L : List Bs) (b : Bs) : total (addT lim L b) ≤ total L + b.length := by
  unfold addT
  split
  · omega
  · split
    · omega
    · split
      · omega
      · rw [total_snoc]; exact Nat.le_refl _
/-- What is added is found at its place. -/
theorem add_found (lim : Nat) (L : List Bs) (b : Bs) (h8 : b.length ≤ 8192) (hf : total L + b.length ≤ lim) :
    ∃ k : Nat, addE lim L b = ((k : Int), 0) ∧ ∃ hk : k < (addT lim L b).length, (addT lim L b)[k] = b ∧ addE lim (addT lim L b) b = ((k : Int), 0) ∧ addT lim (addT lim L b) b = addT lim L b ∧ place (addT lim L b) b = (k : Int) := by
  have h8' : ¬ 8192 < b.length := by omega
  by_cases hm : b ∈ L
  · have e : addT lim L b = L := by unfold addT; rw [if_neg h8', if_pos hm]
    have e2 : addE lim L b = (((L.idxOf b : Nat) : Int), 0) := by unfold addE; rw [if_neg h8', if_pos hm]
    refine ⟨L.idxOf b, e2, ?_⟩
    rw [e]
    exact ⟨List.idxOf_lt_length_of_mem hm, List.getElem_idxOf _, e2, e, by unfold place; rw [if_pos hm]⟩
  · have e : addT lim L b = L ++ [b] := by unfold addT; rw [if_neg h8', if_neg hm, if_neg (by omega)]
    have e2 : addE lim L b = (((L.length : Nat) : Int), 0) := by unfold addE; rw [if_neg h8', if_neg hm, if_neg (by omega)]
    have hx : (L ++ [b]).idxOf b = L.length := by
      rw [List.idxOf_append, if_neg hm]
      simp
    have hm2 : b ∈ L ++ [b] := by simp
    refine ⟨L.length, e2, ?_⟩
    rw [e]
    refine ⟨by simp, by simp, ?_, ?_, ?_⟩
    · unfold addE; rw [if_neg h8', if_pos hm2, hx]
    · unfold addT; rw [if_neg h8', if_pos hm2]
    · unfold place; rw [if_pos hm2, hx]

/-- bytes in the first k of them, and their number -/
def cnt (l : List Bs) : Nat → Nat
  | 0 => 0
  | k + 1 => cnt l k + 1 + (l.getD k []).length
def sz (l : List Bs) : Nat → Nat
  | 0 => 0
  | k + 1 => sz l k + (l.getD k []).length
theorem sz_le (l : List Bs) : ∀ k, sz l k ≤ cnt l k
  | 0 => Nat.le_refl _
  | k + 1 => by have := sz_le l k; simp only [sz, cnt]; omega
theorem cnt_mono (l : List Bs) {i : Nat} : ∀ {k : Nat}, i ≤ k → cnt l i ≤ cnt l k
  | 0, h => by obtain rfl : i = 0 := by omega
               exact Nat.le_refl _
  | k + 1, h => by
    rcases Nat.lt_or_ge i (k + 1) with h1 | h1
    · have := cnt_mono l (i := i) (k := k) (by omega); simp only [cnt]; omega
    · obtain rfl : i = k + 1 := by omega
      exact Nat.le_refl _

theorem rowsW_get {a : Option Addr} {n c : Nat} {bss : List Bs} (h : RowsW w (.slice a n c) bss) : n = bss.length ∧ bss.length ≤ 140737488351232 ∧ ∀ k (hk : k < bss.length), ∃ g off ua uc, a = some ⟨g, off, none⟩ ∧ w.cell? ⟨g, off + k, none⟩ = some (.slice ua bss[k].length uc) ∧ BytesW w (.slice ua bss[k].length uc) bss[k] ∧ bss[k].length ≤ 140737488351232 := by
  rcases h with ⟨h, rfl⟩ | ⟨g, off, cap, h, hx, hy, hc⟩
  · cases h
    exact ⟨rfl, by simp, fun k hk => by simp at hk⟩
  · cases h
    refine ⟨rfl, by omega, fun k hk => ?_⟩
    obtain ⟨u, h1, h2, h3⟩ := hc k hk
    obtain ⟨ua, uc, rfl, _⟩ := h2.shape
    exact ⟨g, off, ua, uc, rfl, h1, h2, h3⟩
theorem BytesW.lt {v : Value} {b : Bs} (h : BytesW w v b) (hb : b ≠ []) : InB v (fun k => k < w.heap.size) := by
  rcases h with h | ⟨h, _⟩
  · exact fun k e => RowAt.lt h (by intro h; have := congrArg List.length h; rw [u8s_length] at this; exact hb (List.eq_nil_of_length_eq_zero (by simpa using this))) k e
  · exact absurd h hb

/-- Two stocks of the law's own. -/
def Two (w wr : World) (p q : Nat) (Ls Lt : List Bs) : Prop := ∃ Os Ot, StockO wr Os p 65536 Ls ∧ StockO wr Ot q 65536 Lt ∧ (∀ j, Os j → ¬ Ot j) ∧ (∀ j, Os j ∨ Ot j → w.heap.size ≤ j) ∧ Below w.heap.size w wr
theorem Two.bel {wr : World} {Ls Lt : List Bs} (h : Two w wr p q Ls Lt) : Below w.heap.size w wr := let ⟨_, _, _, _, _, _, h⟩ := h; h
theorem Two.below {wr : World} {Ls Lt : List Bs} (h : Two w wr p q Ls Lt) (hb : Below wr.heap.size wr w') : Two w w' p q Ls Lt := by
  obtain ⟨Os, Ot, h1, h2, h3, h4, h5⟩ := h
  exact ⟨Os, Ot, h1.below hb, h2.below hb, h3, h4, h5.trans (hb.mono h5.size)⟩
theorem Two.s {wr : World} {Ls Lt : List Bs} (h : Two w wr p q Ls Lt) : ∃ O, StockO wr O p 65536 Ls := let ⟨Os, _, h, _⟩ := h; ⟨Os, h⟩
theorem Two.t {wr : World} {Ls Lt : List Bs} (h : Two w wr p q Ls Lt) : ∃ O, StockO wr O q 65536 Lt := let ⟨_, Ot, _, h, _⟩ := h; ⟨Ot, h⟩
theorem Two.turn {wr : World} {O O' : Nat → Prop} (h : ∀ j, O j → w.heap.size ≤ j) (hb : Below w.heap.size w wr) (t : Turned wr w' O O') : Below w.heap.size w w' ∧ ∀ j, O' j → w.heap.size ≤ j :=
  ⟨hb.trans (t.keeps.below_of hb.size (fun k hk e => by have := h k e; omega)), fun j hj => (t.o j hj).elim (h j) (fun e => Nat.le_trans hb.size e.1)⟩
theorem two_s {wr : World} {Ls Lt : List Bs} (h : Two w wr p q Ls Lt) (v : Value) (b : Bs) (hv : BytesW w v b) : Calls Try.prog 12 #[.pointer (some ⟨p, 0, none⟩), v] wr fun e w' => e = .returned (.tuple #[.int .i64 (addE 65536 Ls b).1, .int .i64 (addE 65536 Ls b).2]) ∧ Two w w' p q (addT 65536 Ls b) Lt := by
  obtain ⟨Os, Ot, h1, h2, h3, h4, h5⟩ := h
  refine (add_o h1 v b (hv.below h5 (Nat.le_refl _)) (fun hb k e hO => by have := hv.lt hb k e; have := h4 k (.inl hO); omega)).mono ?_
  rintro e w' ⟨rfl, O', h6, t⟩
  obtain ⟨h7, h8⟩ := Two.turn (fun j hj => h4 j (.inl hj)) h5 t
  obtain ⟨h9, h10⟩ := h2.other t (fun j hj e => h3 j e hj)
  exact ⟨rfl, O', Ot, h6, h9, fun j hj e => h10 j e hj, fun j hj => hj.elim (h8 j) (fun e => h4 j (.inr e)), h7⟩
theorem two_t {wr : World} {Ls Lt : List Bs} (h : Two w wr p q Ls Lt) (v : Value) (b : Bs) (hv : BytesW w v b) : Calls Try.prog 12 #[.pointer (some ⟨q, 0, none⟩), v] wr fun e w' => (∃ x, e = .returned x) ∧ Two w w' p q Ls (addT 65536 Lt b) := by
  obtain ⟨Os, Ot, h1, h2, h3, h4, h5⟩ := h
  refine (add_o h2 v b (hv.below h5 (Nat.le_refl _)) (fun hb k e hO => by have := hv.lt hb k e; have := h4 k (.inr hO); omega)).mono ?_
  rintro e w' ⟨rfl, O', h6, t⟩
  obtain ⟨h7, h8⟩ := Two.turn (fun j hj => h4 j (.inr hj)) h5 t
  obtain ⟨h9, h10⟩ := h1.other t h3
  exact ⟨⟨_, rfl⟩, Os, O', h9, h6, h10, fun j hj => hj.elim (fun e => h4 j (.inl e)) (h8 j), h7⟩

theorem len_o {L : List Bs} (h : StockO w O p lim L) : Calls Try.prog 13 #[.pointer (some ⟨p, 0, none⟩)] w fun e w' => e = .returned (.int .i64 L.length) ∧ w = w' := len_any' h.1
theorem find_o {L : List Bs} (h : StockO w O p lim L) (v : Value) (b : Bs) (hv : BytesW w v b) (hb : b.length ≤ 140737488355328) : Calls Try.prog 17 #[.pointer (some ⟨p, 0, none⟩), v] w fun e w' => e = .returned (.int .i64 (place L b)) ∧ ∃ k, w' = w.drewN k := by
  obtain ⟨⟨lv, m, vs, h⟩, _⟩ := h
  exact find_any h v b hv hb

theorem num_q (e : Int) (w : World) (n : Nat) : Calls Try.prog 11 #[.int .i64 e] (w.drewN n) fun x w'' => x = .returned (.int .i64 e) ∧ ∃ m, w'' = w.drewN m := (num_any e _).mono fun _ _ ⟨a, b⟩ => ⟨a, n, b.symm⟩
theorem len_q {L : List Bs} (h : StockO w O p lim L) (n : Nat) : Calls Try.prog 13 #[.pointer (some ⟨p, 0, none⟩)] (w.drewN n) fun e w'' => e = .returned (.int .i64 L.length) ∧ ∃ m, w'' = w.drewN m := (len_o (h.below (below_drewN (Below.refl _ _) n))).mono fun _ _ ⟨a, b⟩ => ⟨a, n, b.symm⟩
theorem find_q {L : List Bs} (h : StockO w O p lim L) (v : Value) (b : Bs) (hv : BytesW w v b) (hb : b.length ≤ 140737488355328) (n : Nat) : Calls Try.prog 17 #[.pointer (some ⟨p, 0, none⟩), v] (w.drewN n) fun e w'' => e = .returned (.int .i64 (place L b)) ∧ ∃ m, w'' = w.drewN m :=
  (find_o (h.below (below_drewN (Below.refl _ _) n)) v b (hv.below (below_drewN (Below.refl _ _) n) (Nat.le_refl _)) hb).mono fun _ _ ⟨a, m, b⟩ => ⟨a, n + m, by rw [b, World.drewN_drewN]⟩
theorem two_new {w0 w1 w2 w3 : World} {p q : Nat} (hb1 : Below w0.heap.size w0 w1) (hs : IsStock w2 (NewIn w1 w2) p 65536 []) (hb2 : Below w1.heap.size w1 w2) (ht : IsStock w3 (NewIn w2 w3) q 65536 []) (hb3 : Below w2.heap.size w2 w3) : Two w0 w3 p q [] [] := by
  have z1 := hb1.size
  have z2 := hb2.size
  have z3 := hb3.size
  refine ⟨NewIn w1 w2, NewIn w2 w3, ⟨hs.keep (Keeps.of_below (S := fun _ => False) hb3) (fun _ _ => id), fun j hj => Nat.lt_of_lt_of_le hj.2 z3⟩, ⟨ht, fun j hj => hj.2⟩, fun j h1 h2 => ?_, fun j hj => ?_, (hb1.trans (hb2.mono z1)).trans (hb3.mono (by omega))⟩
  · have := h1.2; have := h2.1; omega
  · rcases hj with h | h
    · exact Nat.le_trans z1 h.1
    · have := h.1; omega
theorem add_longE (lim : Nat) (L : List Bs) (b : Bs) (h : 8192 < b.length) : addE lim L b = (0, 2) ∧ addT lim L b = L := by unfold addE addT; rw [if_pos h, if_pos h]; exact ⟨rfl, rfl⟩

attribute [local irreducible] addE addT place cnt sz

set_option maxHeartbeats 8000000 in
set_option maxRecDepth 100000 in
theorem finds_in (la : Option Addr) (ln lc : Nat) (ls : List Bs) (oa : Option Addr) (on oc : Nat) (os : List Bs) (w : World) (hl : RowsW w (.slice la ln lc) ls) (ho : RowsW w (.slice oa on oc) os) :
    Calls Try.prog 7 #[.slice la ln lc, .slice oa on oc] w fun e w' => e = .returned (.bool true) ∧ Below w.heap.size w w' := by
  obtain ⟨rfl, hlm, hL⟩ := rowsW_get hl
  obtain ⟨rfl, hom, hO⟩ := rowsW_get ho
  have HL := Lib.hid hL
  have HO := Lib.hid hO
  have HC0 : Hid (cnt ls 0 = 0 ∧ cnt os 0 = 0 ∧ sz ls 0 = 0) := by constructor <;> simp [cnt, sz]
  have HLS : Hid (∀ k (h : k < ls.length), cnt ls (k + 1) = cnt ls k + 1 + ls[k].length ∧ sz ls (k + 1) = sz ls k + ls[k].length) := fun k h => by simp only [cnt, sz]; rw [List.getD_eq_getElem?_getD, List.getElem?_eq_getElem h]; exact ⟨rfl, rfl⟩
  have HOS : Hid (∀ k (h : k < os.length), cnt os (k + 1) = cnt os k + 1 + os[k].length) := fun k h => by simp only [cnt]; rw [List.getD_eq_getElem?_getD, List.getElem?_eq_getElem h]; rfl
  have HSZ : Hid (∀ k, k ≤ ls.length → sz ls k ≤ cnt ls ls.length) := fun k h => Nat.le_trans (sz_le ls k) (cnt_mono ls h)
  clear hl ho hL hO
  go_enter Try.func7, Try.ntmps7
  go_wp2_with fail
  refine (alive_any _).mono ?_
  rintro e w1 ⟨rfl, hb1⟩
  have HB1 := Lib.hid hb1
  clear hb1
  go_wp2_with fail
  go_loopw [6, 7] (fun n i wr => ∃ k N : Nat, k ≤ ls.length ∧ i = .int .i64 k ∧ n = .int .i64 N ∧ N = cnt ls k ∧ N ≤ 140737488411233 ∧ Below w.heap.size w wr) (fun _ i _ => ls.length - (intOf i).toNat)
  case atStart => exact ⟨0, 0, by omega, rfl, rfl, HC0.out.1.symm, by omega, HB1.out⟩
  case round =>
    obtain ⟨k, N, hk, rfl, rfl, hN, hle, hb1⟩ := hrel
    have HB1 := Lib.hid hb1
    have HN := Lib.hid hN
    clear hb1 hN
    have k0 : (0 : Int) ≤ (k : Int) := by omega
    by_cases hgo : k < ls.length ∧ N ≤ 60000
    · obtain ⟨hlt, hc⟩ := hgo
      have k1 : (k : Int) < (ls.length : Int) := by omega
      obtain ⟨g, off, ua, uc, rfl, hcell, hb, hbl⟩ := HL.out k hlt
      have hcr := (HB1.out.cell (p := ⟨g, off + k, none⟩) (World.block_lt_of_cell? _ _ hcell)).trans hcell
      have HM := Lib.hid (HLS.out k hlt).1
      clear hb hcell
      generalize ls[k].length = bl at *
      have c1 : (N : Int) ≤ 60000 := by omega
      go_wp2_with fail
      go_roundw
      case rel => exact ⟨k + 1, N + 1 + bl, by omega, by go_num, by go_num, by rw [HM.out, HN.out], by omega, HB1.out⟩
      case measure => simp [intOf]; omega
    · have HX : Hid (k = ls.length ∨ 60000 < N) := by show _ ∨ _; omega
      have hx : k = ls.length ∨ (k < ls.length ∧ 60000 < N) := by omega
      clear hgo
      rcases hx with rfl | ⟨hlt, hc⟩
      case inr =>
        have k1 : (k : Int) < (ls.length : Int) := by omega
        have c2 : (60000 : Int) < (N : Int) := by omega
        go_wp2_with fail
        go_loopw [6, 8] (fun n i wr => i = .int .i64 0 ∧ n = .int .i64 N ∧ Below w.heap.size w wr) (fun _ _ _ => 0)
        case atStart => exact ⟨rfl, rfl, HB1.out⟩
        case round =>
          obtain ⟨rfl, rfl, hb2⟩ := hrel
          have HB2 := Lib.hid hb2
          clear hb2
          by_cases h0 : 0 < os.length
          · have h1 : (0 : Int) < (os.length : Int) := by omega
            go_wp2_with fail
            go_ret
            exact ⟨rfl, HB2.out⟩
          · have h1 : (os.length : Int) = 0 := by omega
            go_wp2_with fail
            go_ret
            exact ⟨rfl, HB2.out⟩
      case inl =>
        go_wp2_with fail
        go_loopw [6, 8] (fun n i wr => ∃ k M : Nat, k ≤ os.length ∧ i = .int .i64 k ∧ n = .int .i64 M ∧ M = N + cnt os k ∧ M ≤ 140737488411233 ∧ Below w.heap.size w wr) (fun _ i _ => os.length - (intOf i).toNat)
        case atStart => exact ⟨0, N, by omega, rfl, rfl, by rw [HC0.out.2.1]; rfl, hle, HB1.out⟩
        case round =>
          obtain ⟨j, M, hj, rfl, rfl, hM, hle2, hb2⟩ := hrel
          have HB2 := Lib.hid hb2
          have HM := Lib.hid hM
          clear hb2 hM
          have j0 : (0 : Int) ≤ (j : Int) := by omega
          by_cases hgo : j < os.length ∧ M ≤ 60000
          · obtain ⟨hlt, hc⟩ := hgo
            have j1 : (j : Int) < (os.length : Int) := by omega
            obtain ⟨g, off, ua, uc, rfl, hcell, hb, hbl⟩ := HO.out j hlt
            have hcr := (HB2.out.cell (p := ⟨g, off + j, none⟩) (World.block_lt_of_cell? _ _ hcell)).trans hcell
            have HM2 := Lib.hid (HOS.out j hlt)
            clear hb hcell
            generalize os[j].length = bl at *
            have c1 : (M : Int) ≤ 60000 := by omega
            go_wp2_with fail
            go_roundw
            case rel => exact ⟨j + 1, M + 1 + bl, by omega, by go_num, by go_num, by rw [HM2.out, HM.out]; omega, by omega, HB2.out⟩
            case measure => simp [intOf]; omega
          · have hx : (j < os.length ∧ 60000 < M) ∨ (j = os.length ∧ (60000 < M ∨ (M ≤ 60000 ∧ (100 < ls.length ∨ (ls.length ≤ 100 ∧ (100 < os.length ∨ os.length ≤ 100)))))) := by omega
            clear hgo
            have l0 : (0 : Int) ≤ (ls.length : Int) := by omega
            rcases hx with ⟨hlt, hc⟩ | ⟨rfl, hc | ⟨hc, hl | ⟨hl, ho | ho⟩⟩⟩
            · have j1 : (j : Int) < (os.length : Int) := by omega
              have c2 : (60000 : Int) < (M : Int) := by omega
              go_wp2_with fail
              go_ret
              exact ⟨rfl, HB2.out⟩
            · have c2 : (60000 : Int) < (M : Int) := by omega
              go_wp2_with fail
              go_ret
              exact ⟨rfl, HB2.out⟩
            · have c2 : (M : Int) ≤ 60000 := by omega
              have c3 : (100 : Int) < (ls.length : Int) := by omega
              go_wp2_with fail
              go_ret
              exact ⟨rfl, HB2.out⟩
            · have c2 : (M : Int) ≤ 60000 := by omega
              have c3 : (ls.length : Int) ≤ 100 := by omega
              have c4 : (100 : Int) < (os.length : Int) := by omega
              go_wp2_with fail
              go_ret
              exact ⟨rfl, HB2.out⟩
            · have c2 : (M : Int) ≤ 60000 := by omega
              have c3 : (ls.length : Int) ≤ 100 := by omega
              have c4 : (os.length : Int) ≤ 100 := by omega
              have HSUM : Hid (∀ k, k ≤ ls.length → sz ls k ≤ 60000) := fun k h => by have := HSZ.out k h; have := HN.out; have := HM.out; omega
              clear HX HSZ
              go_wp2_with fail
              refine (new_yes 65536 _ (by omega)).mono ?_
              rintro e w2 ⟨p, rfl, hs, hb3⟩
              have HS := Lib.hid hs
              have HB3 := Lib.hid hb3
              clear hs hb3
              go_wp2_with fail
              refine (new_yes 65536 _ (by omega)).mono ?_
              rintro e w3 ⟨q, rfl, ht, hb4⟩
              have HT := Lib.hid (two_new HB2.out HS.out HB3.out ht hb4)
              clear ht hb4 HS HB3 HB2
              go_wp2_with fail
              go_loopw [13] (fun i wr => ∃ (k : Nat) (Lt : List Bs), k ≤ os.length ∧ i = .int .i64 k ∧ Two w wr p q [] Lt) (fun i _ => os.length - (intOf i).toNat)
              case atStart => exact ⟨0, [], by omega, rfl, HT.out⟩
              case round =>
                obtain ⟨j, Lt, hj, rfl, hT⟩ := hrel
                have HT := Lib.hid hT
                clear hT
                have j0 : (0 : Int) ≤ (j : Int) := by omega
                by_cases hlt : j < os.length
                · have j1 : (j : Int) < (os.length : Int) := by omega
                  obtain ⟨g, off, ua, uc, rfl, hcell, hb, hbl⟩ := HO.out j hlt
                  have hcr := (HT.out.bel.cell (p := ⟨g, off + j, none⟩) (World.block_lt_of_cell? _ _ hcell)).trans hcell
                  have HA := Lib.hid (two_t HT.out _ _ hb)
                  clear hb hcell
                  go_wp2_with fail
                  refine (HA.out).mono ?_
                  rintro e w4 ⟨⟨x, rfl⟩, hT⟩
                  have HT := Lib.hid hT
                  clear hT
                  go_wp2_with fail
                  go_roundw
                  case rel => exact ⟨j + 1, _, by omega, by go_num, HT.out⟩
                  case measure => simp [intOf]; omega
                · obtain rfl : j = os.length := by omega
                  obtain ⟨Ot, hot⟩ := HT.out.t
                  have HOT := Lib.hid hot
                  clear hot
                  go_wp2_with fail
                  refine (len_o HOT.out).mono ?_
                  rintro e w4 ⟨rfl, rfl⟩
                  clear HOT
                  go_wp2_with fail
                  go_loopw [15] (fun i wq => ∃ (k : Nat) (Ls : List Bs), k ≤ ls.length ∧ i = .int .i64 k ∧ Two w wq p q Ls Lt ∧ total Ls ≤ sz ls k) (fun i _ => ls.length - (intOf i).toNat)
                  case atStart => exact ⟨0, [], by omega, rfl, HT.out, by simp [total]⟩
                  case round =>
                    obtain ⟨k, Ls, hk, rfl, hT, htot⟩ := hrel
                    have HT := Lib.hid hT
                    have HTOT := Lib.hid htot
                    clear hT htot
                    have k0 : (0 : Int) ≤ (k : Int) := by omega
                    by_cases hlt : k < ls.length
                    · have k1 : (k : Int) < (ls.length : Int) := by omega
                      obtain ⟨g, off, ua, uc, rfl, hcell, hb, hbl⟩ := HL.out k hlt
                      have hcr := (HT.out.bel.cell (p := ⟨g, off + k, none⟩) (World.block_lt_of_cell? _ _ hcell)).trans hcell
                      have HCELL := Lib.hid hcell
                      have HBW := Lib.hid hb
                      have HA := Lib.hid (two_s HT.out _ _ hb)
                      have HSZ1 : Hid (sz ls (k + 1) = sz ls k + ls[k].length ∧ sz ls (k + 1) ≤ 60000) := ⟨(HLS.out k hlt).2, HSUM.out (k + 1) (by omega)⟩
                      have HK := Lib.hid hlt
                      clear hb hcell
                      generalize ls[k] = b at *
                      clear hlt
                      by_cases hlong : 8192 < b.length
                      · have hlo : (8192 : Int) < (b.length : Int) := by omega
                        obtain ⟨e1, e2⟩ := add_longE 65536 Ls b hlong
                        rw [e1, e2] at HA
                        clear e1 e2
                        go_wp2_with fail
                        refine (HA.out).mono ?_
                        rintro e w4 ⟨rfl, hT⟩
                        have HT := Lib.hid hT
                        have hcr := (hT.bel.cell (p := ⟨g, off + k, none⟩) (World.block_lt_of_cell? _ _ HCELL.out)).trans HCELL.out
                        clear hT HA
                        go_wp2_with fail
                        refine (num_any _ _).mono ?_
                        rintro e w5 ⟨rfl, rfl⟩
                        go_wp2_with fail
                        go_roundw
                        case rel => exact ⟨k + 1, Ls, by have := HK.out; omega, by go_num, HT.out, by rw [HSZ1.out.1]; have := HTOT.out; omega⟩
                        case measure => simp [intOf]; omega
                      · have hlo : (b.length : Int) ≤ 8192 := by omega
                        obtain ⟨kk, he, hkk, hget, he2, ht2, hpl⟩ := add_found 65536 Ls b (by omega) (by have := HSZ1.out; have := HTOT.out; omega)
                        have HTT : Hid (total (addT 65536 Ls b) ≤ sz ls (k + 1)) := by show _ ≤ _; rw [HSZ1.out.1]; exact Nat.le_trans (total_addT 65536 Ls b) (by have := HTOT.out; omega)
                        have hkk1 : (kk : Int) < ((addT 65536 Ls b).length : Int) := by omega
                        rw [he] at HA
                        have HE2 := Lib.hid he2
                        have HT2 := Lib.hid ht2
                        have HPL := Lib.hid hpl
                        have HGE := Lib.hid hget
                        have HKK := Lib.hid hkk
                        clear he he2 ht2 hpl hget
                        generalize hL1 : addT 65536 Ls b = L1 at *
                        clear hL1
                        have kk0 : (0 : Int) ≤ (kk : Int) := by omega
                        go_wp2_with fail
                        refine (HA.out).mono ?_
                        rintro e w4 ⟨rfl, hT⟩
                        have HT := Lib.hid hT
                        have hcr := (hT.bel.cell (p := ⟨g, off + k, none⟩) (World.block_lt_of_cell? _ _ HCELL.out)).trans HCELL.out
                        have HA := Lib.hid (two_s hT _ _ HBW.out)
                        rw [HE2.out, HT2.out] at HA
                        clear hT
                        go_wp2_with fail
                        refine (HA.out).mono ?_
                        rintro e w5 ⟨rfl, hT⟩
                        have HT := Lib.hid hT
                        obtain ⟨Os, hos⟩ := hT.s
                        have HG := Lib.hid (get_ok hos kk HKK.out)
                        rw [HGE.out] at HG
                        clear hT HA hos
                        go_wp2_with fail
                        refine (HG.out).mono ?_
                        rintro e w6 ⟨va, vc, rfl, hF, hb6, _⟩
                        have HT := Lib.hid (HT.out.below hb6)
                        have hcr := (HT.out.bel.cell (p := ⟨g, off + k, none⟩) (World.block_lt_of_cell? _ _ HCELL.out)).trans HCELL.out
                        obtain ⟨Os, hos⟩ := HT.out.s
                        have HBW6 := HBW.out.below HT.out.bel (Nat.le_refl _)
                        have Q1 := Lib.hid (fun n => len_q hos n)
                        have Q2 := Lib.hid (fun n => find_q hos _ b HBW6 (by omega) n)
                        rw [HPL.out] at Q2
                        have hc1 : ∀ nq, (convert 28 9 (.slice va b.length vc)).run Try.prog (w6.drewN nq) = .ok (.string ⟨b.toArray⟩) (w6.drewN nq) := fun nq => run_string_of (w6.drewN nq) 28 5 Try.underlying28 Try.underlying5 (RowAt.below hF.1 (below_drewN (Below.refl _ _) nq) (Nat.le_refl _)) 9 Try.underlying9
                        have hc2 : ∀ nq, (convert 28 9 (.slice ua b.length uc)).run Try.prog (w6.drewN nq) = .ok (.string ⟨b.toArray⟩) (w6.drewN nq) := fun nq => run_string_ofW (w6.drewN nq) 28 5 Try.underlying28 Try.underlying5 (HBW6.below (below_drewN (Below.refl _ _) nq) (Nat.le_refl _)) 9 Try.underlying9
                        clear hF hb6 HG hos HBW6
                        go_wp2_with fail
                        go_quiet ((first | (go_at_call 11; exact num_q _ _ _) | (go_at_call 13; exact Q1.out _) | (go_at_call 17; exact Q2.out _)))
                        go_wp2_with fail
                        go_roundw
                        case rel => exact ⟨k + 1, L1, by have := HK.out; omega, by go_num, HT.out.below (below_drewN (Below.refl _ _) _), HTT.out⟩
                        case measure => simp [intOf]; omega
                    · obtain rfl : k = ls.length := by omega
                      obtain ⟨Ot, hot⟩ := HT.out.t
                      have HOT := Lib.hid hot
                      obtain ⟨Os, hos⟩ := HT.out.s
                      have HOS2 := Lib.hid hos
                      clear hot hos
                      go_wp2_with fail
                      refine (len_o HOT.out).mono ?_
                      rintro e w4 ⟨rfl, rfl⟩
                      go_wp2_with fail
                      refine (all_ok HOS2.out).mono ?_
                      rintro e w5 ⟨v, us, rfl, hall, hb5⟩
                      obtain ⟨la, lc, hsh, _⟩ := (RowAt.of_owns hall.row).shape
                      rw [hall.len] at hsh
                      subst hsh
                      have HOS2 := Lib.hid (HOS2.out.below hb5)
                      have HT := Lib.hid (HT.out.below hb5)
                      clear hall hb5
                      go_wp2_with fail
                      refine (len_o HOS2.out).mono ?_
                      rintro e w6 ⟨rfl, rfl⟩
                      go_wp2_with fail
                      go_ret
                      exact ⟨by simp, HT.out.bel⟩
theorem finds_walk (la : Option Addr) (ln lc : Nat) (ls : List Bs) (oa : Option Addr) (on oc : Nat) (os : List Bs) (w : World) (hl : RowsW w (.slice la ln lc) ls) (ho : RowsW w (.slice oa on oc) os) :
    Calls Try.prog 7 #[.slice la ln lc, .slice oa on oc] w fun e w' => e = .returned (.bool true) ∧ Below w.heap.size w w' := finds_in la ln lc ls oa on oc os w hl ho
end Go.Proofs.Ythkjihfnphdfkaa
