/- StockBytes: the walk. -/
import Derived.Test.YthkjihfnphdfkaaMany
namespace Go.Proofs.Ythkjihfnphdfkaa
open Go.RowKit Go.Maps

/-- A slice of slices that the call owns, with these lengths. -/
def OwnLens (w : World) (B : Nat) (v : Value) (lens : List Nat) : Prop :=
  ∃ vs, w.ownsRow B 28 1 v lens.length vs ∧ vs.length = lens.length ∧ ∀ (i n : Nat), lens[i]? = some n → ∃ (a : Option Addr) (c : Nat), vs[i]? = some (Value.slice a n c) ∧ n ≤ maxLen

theorem OwnLens.nil (w : World) (B : Nat) : OwnLens w B (.slice none 0 0) [] := ⟨[], World.ownsRow_nil _ _ _ _, rfl, fun i n h => by simp at h⟩
theorem OwnLens.lens {w : World} {B : Nat} {v : Value} {lens : List Nat} (h : OwnLens w B v lens) : Lens w v lens := by
  obtain ⟨vs, h1, h2, h3⟩ := h
  exact ⟨vs, RowAt.of_owns h1, h2, h3⟩
theorem OwnLens.below {w w' : World} {B : Nat} {v : Value} {lens : List Nat} (h : OwnLens w B v lens) (hb : Below w.heap.size w w') : OwnLens w' B v lens := by
  obtain ⟨vs, h1, h2, h3⟩ := h
  exact ⟨vs, owns_below h1 hb, h2, h3⟩
theorem lens_snoc {vs : List Value} {lens : List Nat} {a : Option Addr} {n c : Nat} (h2 : vs.length = lens.length) (h3 : ∀ (i n : Nat), lens[i]? = some n → ∃ (a : Option Addr) (c : Nat), vs[i]? = some (Value.slice a n c) ∧ n ≤ maxLen) (hn : n ≤ maxLen) :
    ∀ (i m : Nat), (lens ++ [n])[i]? = some m → ∃ (a' : Option Addr) (c' : Nat), (vs ++ [Value.slice a n c])[i]? = some (Value.slice a' m c') ∧ m ≤ maxLen := by
  intro i m hi
  by_cases hl : i < lens.length
  · rw [List.getElem?_append_left hl] at hi
    obtain ⟨a', c', h4, h5⟩ := h3 i m hi
    exact ⟨a', c', by rw [List.getElem?_append_left (by omega)]; exact h4, h5⟩
  · rw [List.getElem?_append_right (by omega)] at hi
    obtain ⟨h6, h7⟩ := List.getElem?_eq_some_iff.1 hi
    simp at h6 h7
    subst h7
    exact ⟨a, c, by rw [List.getElem?_append_right (by omega)]; simp [show i - vs.length = 0 by omega], hn⟩

/-- one more slice put behind. -/
theorem wpList_append_lens {w : World} {ops : Array Oper} {rest : List Oper} {o : Oper} {a : Act} {Q : Exit → Act → World → Prop} (hgd : o.guard = none) (s x : Operand)
    (ho : o.op = .call { callee := .builtin .append, args := #[s, x], argTypes := #[36, 36] }) (B : Nat) (v : Value) (lens : List Nat) (hs : a.eval s = v) (W : World) (av : Option Addr) (n c : Nat) (hW : w = W.alloc (.cells #[.slice av n c] 28))
    (hown : OwnLens W B v lens) (hx : a.eval x = .slice (some ⟨W.heap.size, 0, none⟩) 1 1) (hn : n ≤ maxLen) (hl : lens.length ≤ 100000) (hB : B ≤ W.heap.size)
    (h : ∀ v' w', OwnLens w' B v' (lens ++ [n]) → w.grownBy w' v.ownBlock → InB v (fun k => B ≤ k) → wpList Try.prog ops Q rest (a.put o.dst v') w') : wpList Try.prog ops Q (o :: rest) a w := by
  obtain ⟨i0, hi, hz0, hz1, hz2⟩ := info_parts info28
  obtain ⟨vs, h1, h2, h3⟩ := hown
  subst hW
  refine wpList_append_own _ hgd s x 36 ho B 28 i0 (.slice none 0 0) 1 24 Try.underlying36 hi hz0 hz1 hz2 rfl (by decide) v lens.length vs hs (h1.alloc _) ⟨W.heap.size, 0, none⟩ 1 1 [.slice av n c] hx rfl ?_ ?_ (by unfold maxLen; omega) (by omega) (by simp; omega) ?_
  · intro j u hj
    match j, hj with
    | 0, hj => simp at hj; subst hj; simp [Addr.add]
  · intro u hu; simp at hu; subst hu; rfl
  · intro v' w' hown' hgrow _
    refine h v' w' ⟨vs ++ [.slice av n c], by simpa using hown', by simp [h2], lens_snoc h2 h3 hn⟩ hgrow fun k hk => (h1.lt k hk).1

set_option maxHeartbeats 400000 in
set_option maxRecDepth 100000 in
theorem bytes_in (m : Nat) (q : Int) (w : World) (hm : m ≤ 3) (hq : (m = 0 ∧ q = 0) ∨ (0 < m ∧ q = 2)) : Calls Try.prog 6 #[.int .i64 m] w fun e w' => e = .returned (.bool true) ∧ Below w.heap.size w w' := by
  obtain ⟨i5, hi5, hy0, hy1, hy2⟩ := info_parts info5
  have HQ1 : Hid (checkV [8192, 8192, 8192, 8192, 8192, 8192, 8192, 8192, m] = q) := by
    show checkV _ = _
    have : m = 0 ∨ m = 1 ∨ m = 2 ∨ m = 3 := by omega
    rcases this with rfl | rfl | rfl | rfl <;> rcases hq with ⟨h, rfl⟩ | ⟨h, rfl⟩ <;> first | omega | decide
  have HQ2 : Hid (checkV [8192 + m] = q) := by
    show checkV _ = _
    have : m = 0 ∨ m = 1 ∨ m = 2 ∨ m = 3 := by omega
    rcases this with rfl | rfl | rfl | rfl <;> rcases hq with ⟨h, rfl⟩ | ⟨h, rfl⟩ <;> first | omega | decide
  have HQ := Lib.hid hq
  clear hq
  go_enter Try.func6, Try.ntmps6
  go_wp2_with fail
  refine (alive_any _).mono ?_
  rintro e w1 ⟨rfl, hb1⟩
  go_wp2_with fail
  go_loopw [4, 5] (fun v i wr => ∃ k : Nat, k ≤ 8 ∧ i = .int .i64 k ∧ OwnLens wr w.heap.size v (List.replicate k 8192) ∧ Below w.heap.size w wr) (fun _ i _ => 8 - (intOf i).toNat)
  case atStart => exact ⟨0, by omega, rfl, OwnLens.nil _ _, hb1⟩
  case round =>
    obtain ⟨k, hk, rfl, hown, hbr⟩ := hrel
    by_cases hlt : k < 8
    · go_wp2_with (at_make; refine wpList_make_full _ rfl _ _ 28 rfl wr.heap.size 5 i5 (.int .u8 0) 1 Try.underlying28 hi5 hy0 hy1 .i64 .i64 _ _ 8192 rfl rfl rfl rfl (by rw [hy2]; omega) (by unfold maxLen; omega) (Nat.le_refl _) ?_)
      intro w2 hm2 hg2
      have hb2 : Below wr.heap.size wr w2 := (Below.refl _ _).grown hg2 (Nat.le_refl _) (by simp)
      have HO := Lib.hid (hown.below hb2)
      have c1 : (8192 : Nat) ≤ maxLen := by unfold maxLen; omega
      have c2 : (List.replicate k 8192).length ≤ 100000 := by simp; omega
      have c3 : w.heap.size ≤ w2.heap.size := Nat.le_trans hbr.size hb2.size
      have C2 := Lib.hid c2
      clear hm2 hg2 hown c2
      go_wp2_with (at_builtin; refine wpList_append_lens rfl _ _ rfl w.heap.size _ (List.replicate k 8192) rfl w2 _ 8192 8192 rfl HO.out rfl c1 C2.out c3 ?_)
      intro v' w3 hown3 hg3 hin
      have hb3 : Below w.heap.size w w3 := ((hbr.trans (hb2.mono hbr.size)).alloc c3 _).grown hg3 (by simp; omega) (fun j e => hin j e)
      rw [show List.replicate k 8192 ++ [8192] = List.replicate (k + 1) 8192 from (List.replicate_succ' ..).symm] at hown3
      clear hg3 hin
      go_wp2
      go_roundw
      case rel => exact ⟨k + 1, by omega, by go_num, hown3, hb3⟩
      case measure => simp [intOf]; omega
    · have : k = 8 := by omega
      subst this
      have M1 : Hid (i5.bytes * m ≤ 281474976710656) := by show i5.bytes * m ≤ _; rw [hy2]; omega
      have M2 : Hid (m ≤ maxLen) := by show m ≤ maxLen; unfold maxLen; omega
      go_wp2_with (at_make; refine wpList_make_full _ rfl _ _ 28 rfl wr.heap.size 5 i5 (.int .u8 0) 1 Try.underlying28 hi5 hy0 hy1 .i64 .i64 _ _ m rfl rfl rfl rfl M1.out M2.out (Nat.le_refl _) ?_)
      intro w2 hm2 hg2
      have hb2 : Below wr.heap.size wr w2 := (Below.refl _ _).grown hg2 (Nat.le_refl _) (by simp)
      have HO := Lib.hid (hown.below hb2)
      have C2 : Hid ((List.replicate 8 8192).length ≤ 100000) := by show (List.replicate 8 8192).length ≤ 100000; simp
      have c3 : w.heap.size ≤ w2.heap.size := Nat.le_trans hbr.size hb2.size
      clear hm2 hg2 hown
      go_wp2_with (at_builtin; refine wpList_append_lens rfl _ _ rfl w.heap.size _ (List.replicate 8 8192) rfl w2 _ m m rfl HO.out rfl M2.out C2.out c3 ?_)
      intro v' w3 hown3 hg3 hin
      have hb3 : Below w.heap.size w w3 := ((hbr.trans (hb2.mono hbr.size)).alloc c3 _).grown hg3 (by simp; omega) (fun j e => hin j e)
      have HL := Lib.hid hown3.lens
      clear hg3 hin hown3
      go_wp2_with fail
      refine (check_any _ _ _ HL.out (by simp)).mono ?_
      rw [HQ1.out]
      rintro e w' ⟨rfl, rfl⟩
      have M3 : Hid (i5.bytes * (8192 + m) ≤ 281474976710656) := by show i5.bytes * (8192 + m) ≤ _; rw [hy2]; omega
      have M4 : Hid (8192 + m ≤ maxLen) := by show 8192 + m ≤ maxLen; unfold maxLen; omega
      go_wp2_with (at_make; refine wpList_make_full _ rfl _ _ 28 rfl w3.heap.size 5 i5 (.int .u8 0) 1 Try.underlying28 hi5 hy0 hy1 .i64 .i64 _ _ (8192 + m) rfl rfl (by omega) (by omega) M3.out M4.out (Nat.le_refl _) ?_)
      intro w4 hm4 hg4
      have hb4 : Below w.heap.size w w4 := hb3.grown hg4 hb3.size (by simp)
      clear hm4 hg4
      have HL2 : Hid (Lens (w4.alloc (.cells #[.slice (some ⟨w3.heap.size, 0, none⟩) (8192 + m) (8192 + m)] 28)) (.slice (some ⟨w4.heap.size, 0, none⟩) 1 1) [8192 + m]) := by
        refine ⟨[.slice (some ⟨w3.heap.size, 0, none⟩) (8192 + m) (8192 + m)], row_new w4 #[.slice (some ⟨w3.heap.size, 0, none⟩) (8192 + m) (8192 + m)] 28 (0, 0) 1 (by simp), rfl, fun i n hi => ?_⟩
        match i, hi with
        | 0, hi => simp at hi; subst hi; exact ⟨_, _, rfl, M4.out⟩
      go_wp2_with fail
      refine (check_any _ _ _ HL2.out (by simp)).mono ?_
      rw [HQ2.out]
      rintro e w' ⟨rfl, rfl⟩
      rcases HQ.out with ⟨h, rfl⟩ | ⟨h, rfl⟩
      · subst h
        go_wp2_with (go_at_call 11; go_in)
        go_ret
        exact ⟨rfl, hb4.alloc hb4.size _⟩
      · have h0 : ((m : Int) == 0) = false := by simp; omega
        have h1 : decide ((0 : Int) < (m : Int)) = true := by simp; omega
        go_wp2_with (go_at_call 11; go_in)
        go_ret
        exact ⟨rfl, hb4.alloc hb4.size _⟩

set_option maxHeartbeats 400000 in
theorem bytes_out (n : Int) (w : World) (h : n < 0 ∨ 3 < n) : Calls Try.prog 6 #[.int .i64 n] w fun e w' => e = .returned (.bool true) ∧ Below w.heap.size w w' := by
  rcases h with h | h
  all_goals
    go_enter Try.func6, Try.ntmps6
    go_wp2_with fail
    refine (alive_any _).mono ?_
    rintro e w1 ⟨rfl, hb1⟩
    go_wp2_with fail
    go_ret
    exact ⟨rfl, hb1⟩

theorem bytes_walk (n : Int) (w : World) : Calls Try.prog 6 #[.int .i64 n] w fun e w' => e = .returned (.bool true) ∧ Below w.heap.size w w' := by
  by_cases h : 0 ≤ n ∧ n ≤ 3
  · obtain ⟨k, rfl⟩ := Int.eq_ofNat_of_zero_le h.1
    by_cases hb : k = 0
    · exact bytes_in k 0 w (by omega) (.inl ⟨hb, rfl⟩)
    · exact bytes_in k 2 w (by omega) (.inr ⟨by omega, rfl⟩)
  · exact bytes_out n w (by omega)
end Go.Proofs.Ythkjihfnphdfkaa
