/- the document's split. -/
import Derived.Test.YtpnbmfibooglgaaDoorValid
import Derived.Test.YtpnbmfibooglgaaDoorSpec2
import Derived.Test.YtpnbmfibooglgaaDoorMem
import Derived.Test.YtpnbmfibooglgaaDoorRow
import Derived.Test.YtpnbmfibooglgaaDoorWide
namespace Go.Proofs.YtpnbmfibooglgaaDoor
open Go.RowKit

def strs (L : List Bs) : List Value := L.map fun l => .string ⟨l.toArray⟩
theorem strs_snoc (L : List Bs) (l : Bs) : strs (L ++ [l]) = strs L ++ [.string ⟨l.toArray⟩] := by simp [strs]
theorem infoS : (Tryd.prog.info? 9).map (fun i => (i.zero, i.size, i.bytes)) = some (some (.string ⟨#[]⟩), 1, 16) := by kernel_rfl
theorem take_drop_next (l : Bs) (f k : Nat) (h : f ≤ k) (hk : k < l.length) : (l.drop f).take (k + 1 - f) = (l.drop f).take (k - f) ++ [l[k]] := by
  rw [show k + 1 - f = (k - f) + 1 by omega, List.take_add_one, List.getElem?_drop, show f + (k - f) = k by omega, List.getElem?_eq_getElem hk]
  rfl
/-- split, behind k bytes, the last part begun at f -/
def SplitAt (s : Bs) (f k : Nat) (L : List Bs) : Prop := splitB s = L ++ splitAux ((s.drop f).take (k - f)) (s.drop k)
theorem SplitAt.other {s : Bs} {f k : Nat} {L : List Bs} (h : SplitAt s f k L) (hf : f ≤ k) (hk : k < s.length) (hc : s[k] ≠ 47) : SplitAt s f (k + 1) L := by
  unfold SplitAt at *
  rw [h, List.drop_eq_getElem_cons hk, take_drop_next s f k hf hk]
  conv => lhs; unfold splitAux
  rw [if_neg hc]
theorem SplitAt.slash {s : Bs} {f k : Nat} {L : List Bs} (h : SplitAt s f k L) (hk : k < s.length) (hc : s[k] = 47) : SplitAt s (k + 1) (k + 1) (L ++ [(s.drop f).take (k - f)]) := by
  unfold SplitAt at *
  rw [h, List.drop_eq_getElem_cons hk, Nat.sub_self, List.take_zero, List.append_assoc]
  conv => lhs; unfold splitAux
  rw [if_pos hc]
  rfl
theorem SplitAt.end_ {s : Bs} {f k : Nat} {L : List Bs} (h : SplitAt s f k L) (hk : s.length ≤ k) : splitB s = L ++ [s.drop f] := by
  unfold SplitAt at h
  rw [h, List.drop_eq_nil_of_le hk, List.take_of_length_le (by simp; omega)]
  rfl

theorem row_len' {w : World} {base : Nat} {e : TypeId} {size : Nat} {v : Value} {n : Nat} {xs : List Value} (h : w.ownsRow base e size v n xs) : ∃ a cap, v = .slice a n cap := by
  rcases owns_shape h with ⟨rfl, rfl⟩ | ⟨g, cap, rfl, _⟩
  · exact ⟨none, 0, rfl⟩
  · exact ⟨_, cap, rfl⟩
def OutS (w w' : World) (s : Bs) (v4 : Value) (v3 : Value) (k : Nat) : Prop := ∃ (f : Nat) (L : List Bs), v4 = .int .i64 f ∧ f ≤ k ∧ Hid (SplitAt s f k L) ∧ w'.ownsRow w.heap.size 9 1 v3 L.length (strs L) ∧ L.length ≤ k ∧ Below w.heap.size w w'
set_option maxHeartbeats 1600000 in
theorem split_any (s : ByteArray) (w : World) (hs : s.size ≤ 1000000) : Calls Tryd.prog 32 #[.string s] w fun e w' => ∃ v, e = .returned v ∧ w'.ownsRow w.heap.size 9 1 v (splitB s.data.toList).length (strs (splitB s.data.toList)) ∧ Below w.heap.size w w' := by
  obtain ⟨i0, hi, hz0, hz1, hz2⟩ := info_parts infoS
  have HI := Lib.hid (And.intro hi (And.intro hz0 (And.intro hz1 hz2)))
  clear hi hz0 hz1 hz2
  have HBA : Hid (∀ (W : World) (o : Obj), Below W.heap.size W (W.alloc o)) := fun W o => (Below.refl W.heap.size W).alloc (Nat.le_refl _) o
  have hone : ∀ (x : ByteArray), ∀ u ∈ [Value.string x], u.oneCell' = true := fun x u hu => by rw [List.mem_singleton] at hu; subst hu; rfl
  have HONE := Lib.hid hone
  clear hone
  have hsl : s.data.toList.length = s.size := by simp
  go_enter Tryd.func32, Tryd.ntmps32
  go_wp2_with fail
  go_loopw [3, 4, 5] (fun v3 v4 i wr => ∃ k : Nat, k ≤ s.size ∧ i = .int .i64 k ∧ OutS w wr s.data.toList v4 v3 k) (fun _ _ i _ => s.size - (intOf i).toNat)
  case atStart => exact ⟨0, Nat.zero_le _, rfl, 0, [], rfl, Nat.le_refl _, rfl, World.ownsRow_nil _ _ _ _, Nat.le_refl _, Below.refl _ _⟩
  case round =>
    obtain ⟨k, hk, rfl, f, L, rfl, hf, HSP, hown, hL, hb⟩ := hrel
    have HROW := Lib.hid hown
    have HB := Lib.hid hb
    have hz := hb.size
    obtain ⟨va, vc, hv⟩ := row_len' hown
    subst hv
    have L1 : Hid (L.length + 1 ≤ maxLen) := by show _ ≤ _; unfold maxLen; omega
    have L2 : Hid ((L.length + 1) * 16 ≤ 140737488355328) := by show _ ≤ _; omega
    have k0 : (0 : Int) ≤ (k : Int) := by omega
    have f0 : (0 : Int) ≤ (f : Int) := by omega
    clear hown hb
    by_cases hlt : k < s.size
    · have k1 : (k : Int) < (s.size : Int) := by omega
      have f1 : (f : Int) ≤ (k : Int) := by omega
      have k2 : (k : Int) ≤ (s.size : Int) := by omega
      by_cases hc : (s[k]'hlt).toNat = 47
      · have c1 : (((s[k]'hlt).toNat : Int) == 47) = true := by simp; omega
        have HC : Hid (s.data.toList[k]'(by omega) = 47) := UInt8.toNat_inj.1 hc
        go_wp2_with (at_builtin; refine wpList_append_rowAt rfl (.tmp 16) (.tmp 21) 30 rfl w.heap.size 9 i0 (.string ⟨#[]⟩) 16 Tryd.underlying30 HI.out.1 HI.out.2.1 HI.out.2.2.1 HI.out.2.2.2 rfl _ L.length _ rfl (owns_below HROW.out (HBA.out _ _)) _ [.string (s.extract f k)] rfl (.inl (row_new wr #[.string (s.extract f k)] 9 (0, 0) 1 (Nat.le_refl _))) (HONE.out _) L1.out L2.out (by simp; omega) ?_)
        intro v2 w2 hown2 hgrow2 _
        have HB2 : Hid (Below w.heap.size w w2) := (HB.out.trans ((HBA.out _ _).mono hz)).grown hgrow2 (by simp; omega) (fun j e => (HROW.out.lt j e).1)
        have HROW2 : Hid (w2.ownsRow w.heap.size 9 1 v2 (L ++ [(s.data.toList.drop f).take (k - f)]).length (strs (L ++ [(s.data.toList.drop f).take (k - f)]))) := by
          show World.ownsRow _ _ _ _ _ _ _
          rw [strs_snoc, List.length_append, ← Lib.extract_eq]
          exact hown2
        clear hown2 hgrow2
        go_wp2_with fail
        go_roundw
        case rel => exact ⟨k + 1, by omega, by go_num, k + 1, _, by go_num, Nat.le_refl _, HSP.out.slash (by omega) HC.out, HROW2.out, by simp; omega, HB2.out⟩
        case measure => simp [intOf]; omega
      · have c1 : (((s[k]'hlt).toNat : Int) == 47) = false := by simp; omega
        have HC : Hid (s.data.toList[k]'(by omega) ≠ 47) := fun e => hc (congrArg UInt8.toNat e)
        go_wp2_with fail
        go_roundw
        case rel => exact ⟨k + 1, by omega, by go_num, f, L, rfl, by omega, HSP.out.other hf (by omega) HC.out, HROW.out, by omega, HB.out⟩
        case measure => simp [intOf]; omega
    · obtain rfl : k = s.size := by omega
      have f1 : (f : Int) ≤ (s.size : Int) := by omega
      go_wp2_with (at_builtin; refine wpList_append_rowAt rfl (.tmp 25) (.tmp 29) 30 rfl w.heap.size 9 i0 (.string ⟨#[]⟩) 16 Tryd.underlying30 HI.out.1 HI.out.2.1 HI.out.2.2.1 HI.out.2.2.2 rfl _ L.length _ rfl (owns_below HROW.out (HBA.out _ _)) _ [.string (s.extract f s.size)] rfl (.inl (row_new wr #[.string (s.extract f s.size)] 9 (0, 0) 1 (Nat.le_refl _))) (HONE.out _) L1.out L2.out (by simp; omega) ?_)
      intro v2 w2 hown2 hgrow2 _
      have HB2 : Hid (Below w.heap.size w w2) := (HB.out.trans ((HBA.out _ _).mono hz)).grown hgrow2 (by simp; omega) (fun j e => (HROW.out.lt j e).1)
      have HROW2 : Hid (w2.ownsRow w.heap.size 9 1 v2 (splitB s.data.toList).length (strs (splitB s.data.toList))) := by
        show World.ownsRow _ _ _ _ _ _ _
        rw [HSP.out.end_ (by omega), strs_snoc, List.length_append]
        have e : s.extract f s.size = ⟨(s.data.toList.drop f).toArray⟩ := by
          rw [Lib.extract_eq, List.take_of_length_le (by simp)]
        rw [← e]
        exact hown2
      clear hown2 hgrow2
      go_wp2_with fail
      go_ret
      exact ⟨_, rfl, HROW2.out, HB2.out⟩
end Go.Proofs.YtpnbmfibooglgaaDoor
