/- each: the iterator over a path's names. -/
import Derived.Test.YtpnbmfibooglgaaDoorRValid
import Derived.RangeFuncNested
import Derived.RangeFuncBound
import Derived.RangeFuncBox
import Derived.RangeFuncCalls
import Derived.RangeFuncLeaves
import Derived.Shelf.Abstract
import Derived.Shelf.RegionOpen
import Derived.OwnWalkIn
import Derived.TacticsInMore
import Derived.LoopNIn
import Derived.LoopIn
namespace Go.Proofs.YtpnbmfibooglgaaDoor
open Go.RowKit Go.Shelf

attribute [local go_sem] Oper.semAt_some

abbrev Ix (N : Nat) := { k : Nat // k < N }
def uptoI (N : Nat) : (k : Nat) → k ≤ N → List (Ix N)
  | 0, _ => []
  | k + 1, h => uptoI N k (Nat.le_of_succ_le h) ++ [⟨k, h⟩]
theorem uptoI_length (N : Nat) : ∀ (k : Nat) (h : k ≤ N), (uptoI N k h).length = k
  | 0, _ => rfl
  | k + 1, h => by simp [uptoI, uptoI_length N k]
/-- What a round keeps: the text's box. -/
def KeptRow (b : Nat) (W W' : World) : Prop := W.heap.size ≤ W'.heap.size ∧ W'.heap[b]? = W.heap[b]?
/-- where the k-th name begins -/
def fromOf (L : List Bs) (k : Nat) : Nat := ((L.take k).map (fun l => l.length + 1)).sum
theorem fromOf_succ (L : List Bs) (k : Nat) (h : k < L.length) : fromOf L (k + 1) = fromOf L k + L[k].length + 1 := by
  unfold fromOf
  rw [List.take_succ_eq_append_getElem h, List.map_append, List.sum_append]
  simp
  omega
theorem index_no : ∀ (r l : Bs), Lib.indexByte r 47 = -1 → splitAux l r = [l ++ r]
  | [], l, _ => by simp [splitAux]
  | c :: r, l, h => by
    unfold Lib.indexByte at h
    split at h
    · cases h
    · rename_i hc
      have hc' : c ≠ 47 := by simpa using hc
      split at h
      · rename_i h2
        unfold splitAux
        rw [if_neg hc', index_no r _ (by simpa using h2)]
        simp
      · have := Lib.indexByte_ge r 47
        omega
theorem index_yes : ∀ (r l : Bs) (n : Nat), Lib.indexByte r 47 = n → n < r.length ∧ splitAux l r = (l ++ r.take n) :: splitAux [] (r.drop (n + 1))
  | [], l, n, h => by
    unfold Lib.indexByte at h
    omega
  | c :: r, l, n, h => by
    unfold Lib.indexByte at h
    split at h
    · rename_i hc
      obtain rfl : n = 0 := by omega
      have hc' : c = 47 := by simpa using hc
      refine ⟨Nat.succ_pos _, ?_⟩
      rw [show splitAux l (c :: r) = l :: splitAux [] r by rw [splitAux, if_pos hc']]
      simp
    · rename_i hc
      have hc' : c ≠ 47 := by simpa using hc
      split at h
      · omega
      · obtain ⟨m, rfl⟩ : ∃ m, n = m + 1 := ⟨n - 1, by have := Lib.indexByte_ge r 47; rename_i h2; simp at h2; omega⟩
        obtain ⟨h1, h2⟩ := index_yes r (l ++ [c]) m (by omega)
        conv => rhs; lhs; unfold splitAux
        rw [if_neg hc', h2]
        simp
        omega
theorem split_pos : ∀ (r l : Bs), 0 < (splitAux l r).length
  | [], _ => by simp [splitAux]
  | c :: r, l => by
    unfold splitAux
    split
    · exact Nat.succ_pos _
    · exact split_pos r _
/-- where the rounds stand -/
def EachAt (s : ByteArray) (L : List Bs) (k f : Nat) : Prop := f = fromOf L k ∧ ((k < L.length ∧ f ≤ s.size ∧ splitB (s.data.toList.drop f) = L.drop k) ∨ (k = L.length ∧ f = s.size + 1))

set_option maxHeartbeats 1000000 in
theorem each_in (s : ByteArray) (w : World) (n : Nat) : CallsIn Fence.wide n Tryd.prog 30 #[.string s] w fun e w' => e = .returned (.func (.func 36) #[] #[.pointer (some ⟨w.heap.size, 0, none⟩)]) ∧ w' = w.alloc (.cells #[.string s] 9) := by
  refine callsIn_wide.2 ?_
  go_enter Tryd.func30, Tryd.ntmps30
  go_wp2
  go_ret
  exact ⟨rfl, rfl⟩

set_option maxHeartbeats 2000000 in
theorem iter_in (n : Nat) (hn : 1 ≤ n) (l B : Nat) (s : ByteArray) (hs : s.size ≤ 1000000) (L : List Bs) (hL : splitB s.data.toList = L) (J Jx : List (Ix L.length) → World → Prop)
    (hY : ∀ pre (x : Ix L.length) W, J pre W → pre.length < L.length → YieldAt Fence.wide (n - 1) Tryd.prog l #[.int .i64 ((fromOf L x.1 + (L[x.1]'x.2).length : Nat) : Int), .string ⟨(L[x.1]'x.2).toArray⟩] W fun e W' =>
      (e = .returned (.bool true) ∧ J (pre ++ [x]) W' ∧ KeptRow B W W') ∨ (e = .returned (.bool false) ∧ Jx (pre ++ [x]) W'))
    (W : World) (hB : W.cell? ⟨B, 0, none⟩ = some (.string s)) (h0 : J [] W) :
    CallsIn Fence.wide n Tryd.prog 36 #[.func (.yield l) #[] #[], .pointer (some ⟨B, 0, none⟩)] W fun e W' => (∃ v, e = .returned v) ∧
      ((∃ ys, ys = uptoI L.length L.length (Nat.le_refl _) ∧ J ys W') ∨ (∃ pre, True ∧ Jx pre W')) := by
  refine callsIn_of_wp Tryd.func36 rfl trivial ?_ rfl
  simp only [Tryd.ntmps36, List.size_toArray, List.length_cons, List.length_nil, Nat.reduceAdd, Nat.reduceSub, Array.replicate_succ, Array.replicate_zero, List.push_toArray, List.append_toArray, List.nil_append, List.cons_append]
  gi_wp2
  gi_loopw [3] (fun i wr => ∃ (k f : Nat) (hk : k ≤ L.length), i = .int .i64 f ∧ EachAt s L k f ∧ J (uptoI L.length k hk) wr ∧ KeptRow B W wr)
    (fun i _ => s.size + 1 - (intOf i).toNat)
  case atStart =>
    refine ⟨0, 0, Nat.zero_le _, rfl, ⟨rfl, ?_⟩, h0, Nat.le_refl _, rfl⟩
    left
    refine ⟨?_, Nat.zero_le _, by simpa using hL⟩
    rw [← hL]
    unfold splitB
    generalize s.data.toList = r
    generalize ([] : Bs) = l
    induction r generalizing l with
    | nil => simp [splitAux]
    | cons c r ih => unfold splitAux; split <;> first | exact Nat.succ_pos _ | exact ih _
  case round =>
    obtain ⟨k, f, hk, rfl, ⟨hf, hcase⟩, hJs, hkr⟩ := hrel
    have hc : wr.cell? ⟨B, 0, none⟩ = some (.string s) := (World.cell?_of_block (w := W) hkr.2).trans hB
    rcases hcase with ⟨hlt, hfs, hsp⟩ | ⟨rfl, rfl⟩
    · have f0 : (0 : Int) ≤ (f : Int) := by omega
      have f1 : (f : Int) ≤ (s.size : Int) := by omega
      have hidx := Tryd.strings_IndexByte (s.extract f s.size) 47 wr
      rw [show (s.extract f s.size).data.toList = s.data.toList.drop f by rw [Lib.extract_data, List.take_of_length_le (by simp)]] at hidx
      change Calls Tryd.prog 37 #[.string (s.extract f s.size), .int .u8 47] wr fun e w' => e = .returned (.int .i64 (Lib.indexByte (s.data.toList.drop f) 47)) ∧ w' = wr at hidx
      have HIDX := Lib.hid (callsIn_wide (n := n - 1).2 hidx)
      have hget : L.drop k = L[k] :: L.drop (k + 1) := List.drop_eq_getElem_cons hlt
      have hfr := fromOf_succ L k hlt
      have hdl : (s.data.toList.drop f).length = s.size - f := by simp
      have hge := Lib.indexByte_ge (s.data.toList.drop f) 47
      obtain ⟨fn, tmps, assign, body, hy, hR⟩ := hY _ ⟨k, hlt⟩ _ hJs (by rw [uptoI_length]; exact hlt)
      dsimp only at hy hR
      clear hidx
      by_cases hno : Lib.indexByte (s.data.toList.drop f) 47 = -1
      · have h1 := index_no _ [] hno
        rw [hno] at HIDX
        unfold splitB at hsp
        rw [h1, hget] at hsp
        simp only [List.nil_append, List.cons.injEq] at hsp
        obtain ⟨e1, e2⟩ := hsp
        have e1' : L[k] = s.data.toList.drop f := e1.symm
        have hkl : k + 1 = L.length := by
          have := congrArg List.length e2
          simp at this
          omega
        have hto : fromOf L k + L[k].length = s.size := by rw [e1', hdl]; omega
        have hname : (⟨(L[k]).toArray⟩ : ByteArray) = s.extract f s.size := by
          rw [e1', Lib.extract_eq, List.take_of_length_le (by simp)]
        rw [hto, hname] at hy
        clear hge hdl hget e1 e2 hno h1
        have HJN : Hid (∃ hk' : k + 1 ≤ L.length, uptoI L.length (k + 1) hk' = uptoI L.length k hk ++ [⟨k, hlt⟩]) := ⟨hlt, rfl⟩
        have HE : Hid (EachAt s L (k + 1) (s.size + 1)) := ⟨by omega, .inr ⟨hkl, rfl⟩⟩
        have HF := Lib.hid hf
        clear hf hfr hto hname e1' hkl
        gi_wp2_with (refine ⟨trivial, ?_⟩; gi_at_call 37; refine (HIDX.out).mono ?_; rintro e w' ⟨rfl, rfl⟩)
        refine hR.mono ?_
        rintro e W3 (⟨rfl, hJ3, hk3⟩ | ⟨rfl, hJx3⟩)
        · have hk03 : KeptRow B W W3 := ⟨Nat.le_trans hkr.1 hk3.1, hk3.2.trans hkr.2⟩
          clear hk3 hR
          gi_wp2
          go_roundw
          case rel => exact ⟨k + 1, s.size + 1, hlt, by go_num, HE.out, hJ3, hk03⟩
          case measure => simp [intOf]; omega
        · gi_wp2
          refine bodyPost_ret (results_none rfl _ _ _) rfl ?_
          exact ⟨⟨_, rfl⟩, .inr ⟨_, trivial, hJx3⟩⟩
      · obtain ⟨m, hm⟩ : ∃ m : Nat, Lib.indexByte (s.data.toList.drop f) 47 = m := ⟨(Lib.indexByte (s.data.toList.drop f) 47).toNat, by omega⟩
        obtain ⟨hml, h1⟩ := index_yes _ [] m hm
        rw [hm] at HIDX
        unfold splitB at hsp
        rw [h1, hget] at hsp
        simp only [List.nil_append, List.cons.injEq] at hsp
        obtain ⟨e1, e2⟩ := hsp
        have e1' : L[k] = (s.data.toList.drop f).take m := e1.symm
        have hlen : L[k].length = m := by rw [e1', List.length_take]; omega
        have hto : fromOf L k + L[k].length = f + m := by rw [hlen]; omega
        have hname : (⟨(L[k]).toArray⟩ : ByteArray) = s.extract f (f + m) := by
          rw [e1', Lib.extract_eq, show f + m - f = m by omega]
        rw [hto, hname, Int.natCast_add] at hy
        have hne : k + 1 < L.length := by
          have := congrArg List.length e2
          rw [List.length_drop] at this
          have h2 : 0 < (splitAux [] (List.drop (m + 1) (s.data.toList.drop f))).length := split_pos _ _
          omega
        have HE : Hid (EachAt s L (k + 1) (f + m + 1)) := ⟨by omega, .inl ⟨hne, by omega, by unfold splitB; rw [← e2, List.drop_drop]; rfl⟩⟩
        have HF := Lib.hid hf
        have m1 : (f : Int) + (m : Int) ≤ (s.size : Int) := by omega
        have m2 : (f : Int) ≤ (f : Int) + (m : Int) := by omega
        have m3 : ¬ (m : Int) < 0 := by omega
        clear hf hfr hto hname e1' hget e1 e2 hno h1 hm hlen hge hdl hne hml
        gi_wp2_with (refine ⟨trivial, ?_⟩; gi_at_call 37; refine (HIDX.out).mono ?_; rintro e w' ⟨rfl, rfl⟩)
        refine hR.mono ?_
        rintro e W3 (⟨rfl, hJ3, hk3⟩ | ⟨rfl, hJx3⟩)
        · have hk03 : KeptRow B W W3 := ⟨Nat.le_trans hkr.1 hk3.1, hk3.2.trans hkr.2⟩
          clear hk3 hR
          gi_wp2
          go_roundw
          case rel => exact ⟨k + 1, f + m + 1, hlt, by go_num, HE.out, hJ3, hk03⟩
          case measure => simp [intOf]; omega
        · gi_wp2
          refine bodyPost_ret (results_none rfl _ _ _) rfl ?_
          exact ⟨⟨_, rfl⟩, .inr ⟨_, trivial, hJx3⟩⟩
    · have f1 : ¬ (((s.size + 1 : Nat)) : Int) ≤ (s.size : Int) := by omega
      gi_wp2
      go_end0
      exact ⟨⟨_, rfl⟩, .inl (by first | exact hJs | exact ⟨_, rfl, hJs⟩)⟩
end Go.Proofs.YtpnbmfibooglgaaDoor
