/- Sums: every list. -/
import Derived.Test.YthkjihfnphdfkaaLsD
namespace Go.Proofs.Ythkjihfnphdfkaa
open Go.RowKit Go.Maps

theorem fold_list {α : Type} : ∀ (l : List α) (n : Nat) (A : Array α), n + l.length = A.size → ((l.zipIdx n).foldl (fun cs x => cs.setIfInBounds x.2 x.1) A).toList = A.toList.take n ++ l
  | [], n, A, h => by
    simp at h
    rw [h, List.take_of_length_le (by simp)]
    simp
  | x :: l, n, A, h => by
    simp only [List.length_cons] at h
    rw [List.zipIdx_cons, List.foldl_cons, fold_list l (n + 1) _ (by simp; omega)]
    have e : (A.toList.set n x).take (n + 1) = A.toList.take n ++ [x] := by
      rw [List.take_add_one, List.take_set_of_le (Nat.le_refl _), List.getElem?_set_self (by simp; omega)]
      rfl
    rw [Array.toList_setIfInBounds, e]
    simp
theorem fold_set {α : Type} (D A : Array α) (n : Nat) (hn : D.size = n) (h : A.size = D.size) : Array.foldl (fun cs x => cs.setIfInBounds x.snd x.fst) A D.zipIdx 0 n = D := by
  subst hn
  have h1 := fold_list D.toList 0 A (by simp [h])
  have h2 : Array.foldl (fun cs x => cs.setIfInBounds x.snd x.fst) A D.zipIdx 0 D.size = Array.foldl (fun cs x => cs.setIfInBounds x.snd x.fst) A D.zipIdx := by simp
  rw [h2, ← Array.foldl_toList, Array.toList_zipIdx]
  apply Array.toList_inj.1
  rw [h1]
  simp

theorem info54 : (Try.prog.info? 54).map (fun i => (i.zero, i.size, i.bytes)) = some (some (.agg (List.replicate 32 (.int .u8 0)).toArray), 32, 32) := by kernel_rfl

/-- The digests, one behind the other. -/
def digsOf (bss : List Bs) : List Value := bss.flatMap fun b => (Sha.shaOf b).toList
theorem sha_length (b : Bs) : (Sha.shaOf b).toList.length = 32 := by
  obtain ⟨L, h, hl⟩ := Sha.isDig_sha b
  simp only [Value.agg.injEq] at h
  rw [h]
  simp [hl]
theorem digsOf_snoc (l : List Bs) (b : Bs) : digsOf (l ++ [b]) = digsOf l ++ (Sha.shaOf b).toList := by simp [digsOf]
theorem digsOf_length (l : List Bs) : (digsOf l).length = 32 * l.length := by
  induction l with
  | nil => rfl
  | cons b l ih =>
    have h : digsOf (b :: l) = (Sha.shaOf b).toList ++ digsOf l := by simp [digsOf]
    rw [h, List.length_append, sha_length, ih, List.length_cons]
    omega
theorem digsOf_at (l : List Bs) (j : Nat) (hj : j < l.length) (i : Nat) (hi : i < 32) : (digsOf l)[32 * j + i]? = (Sha.shaOf l[j]).toList[i]? := by
  induction l generalizing j with
  | nil => simp at hj
  | cons b l ih =>
    have h : digsOf (b :: l) = (Sha.shaOf b).toList ++ digsOf l := by simp [digsOf]
    rw [h]
    cases j with
    | zero =>
      rw [List.getElem?_append_left (by rw [sha_length]; omega)]
      simp
    | succ j =>
      rw [List.getElem?_append_right (by rw [sha_length]; omega), sha_length]
      have := ih j (by simpa using hj)
      rw [show 32 * (j + 1) + i - 32 = 32 * j + i by omega, this]
      simp
theorem sha_one (b : Bs) : ∀ u ∈ (Sha.shaOf b).toList, u.oneCell' = true := by
  obtain ⟨L, h, hl⟩ := Sha.isDig_sha b
  simp only [Value.agg.injEq] at h
  rw [h]
  intro u hu
  simp only [List.mem_map] at hu
  obtain ⟨x, _, rfl⟩ := hu
  rfl

/-- A list whose elements hold these bytes. -/
def FullL (w : World) (g : Nat) (bss : List Bs) : Prop := ∀ j (h : j < bss.length), ∃ v, w.cell? ⟨g, j, none⟩ = some v ∧ Bytes w v bss[j]
theorem LentL.full {w : World} {B g cap : Nat} {bss : List Bs} (h : LentL w B g cap bss) : FullL w g bss := fun j hj => by
  obtain ⟨_, _, h3, _⟩ := h
  obtain ⟨e, c, h4, h5, _⟩ := h3 j hj
  exact ⟨_, h4, h5.bytes⟩
theorem FullL.below {w w' : World} {g : Nat} {bss : List Bs} (h : FullL w g bss) (hb : Below w.heap.size w w') : FullL w' g bss := fun j hj => by
  obtain ⟨v, h1, h2⟩ := h j hj
  exact ⟨v, (World.cell?_of_block (w := w) (hb.block g (World.block_lt_of_cell? _ _ h1))).trans h1, RowAt.below h2 hb (Nat.le_refl _)⟩

def lensOf (bss : List Bs) : List Nat := bss.map (·.length)

set_option maxHeartbeats 1000000 in
theorem sums_bad (g cap : Nat) (bss : List Bs) (w : World) (q : Int) (hc : checkV (lensOf bss) = q) (hq : q ≠ 0) (hlen : Lens w (.slice (some ⟨g, 0, none⟩) bss.length cap) (lensOf bss)) (hn : bss.length ≤ 90000) :
    Calls Try.prog 23 #[.slice (some ⟨g, 0, none⟩) bss.length cap] w fun e w' => e = .returned (.tuple #[.slice none 0 0, .int .i64 q]) ∧ w = w' := by
  have HK := Lib.hid (check_any _ _ _ hlen (by simp [lensOf]; omega))
  rw [hc] at HK
  have hb : (q != 0) = true := by simpa using hq
  clear hlen hc hq
  go_enter Try.func23, Try.ntmps23
  go_wp2_with fail
  refine HK.out.mono ?_
  rintro e w1 ⟨rfl, rfl⟩
  go_wp2_with fail
  go_ret2
  exact ⟨rfl, rfl⟩
set_option maxHeartbeats 1000000 in
theorem sums_ok (g cap : Nat) (bss : List Bs) (w : World) (hc : checkV (lensOf bss) = 0) (hlen : Lens w (.slice (some ⟨g, 0, none⟩) bss.length cap) (lensOf bss)) (hf : FullL w g bss) (hn : bss.length ≤ 90000) (hm : ∀ j (h : j < bss.length), bss[j].length ≤ 90000) :
    Calls Try.prog 23 #[.slice (some ⟨g, 0, none⟩) bss.length cap] w fun e w' => ∃ v, e = .returned (.tuple #[v, .int .i64 0]) ∧ w'.ownsRow w.heap.size 54 32 v bss.length (digsOf bss) ∧ Below w.heap.size w w' := by
  obtain ⟨i0, hi, hz0, hz1, hz2⟩ := info_parts info54
  have HI := Lib.hid (And.intro hi (And.intro hz0 (And.intro hz1 hz2)))
  have HK := Lib.hid (check_any _ _ _ hlen (by simp [lensOf]; omega))
  rw [hc] at HK
  have HM := Lib.hid hm
  have HF := Lib.hid hf
  clear hlen hc hm hf hi hz0 hz1 hz2
  go_enter Try.func23, Try.ntmps23
  go_wp2_with fail
  refine HK.out.mono ?_
  rintro e w1 ⟨rfl, rfl⟩
  clear HK
  go_wp2_with fail
  go_loopw [5, 7, 15] (fun v _ i wr => ∃ k : Nat, k ≤ bss.length ∧ i = .int .i64 k ∧ wr.ownsRow w.heap.size 54 32 v k (digsOf (bss.take k)) ∧ Below w.heap.size w wr) (fun _ _ i _ => bss.length - (intOf i).toNat)
  case atStart => exact ⟨0, by omega, rfl, World.ownsRow_nil _ _ _ _, Below.refl _ _⟩
  case round =>
    obtain ⟨k, hk, rfl, ho, hb⟩ := hrel
    have k0 : (0 : Int) ≤ (k : Int) := by omega
    have HB := Lib.hid hb
    have HO := Lib.hid ho
    clear ho hb
    by_cases hlt : k < bss.length
    · have k1 : (k : Int) < (bss.length : Int) := by omega
      obtain ⟨u, h1, h2⟩ := (HF.out.below HB.out) k hlt
      have hml := HM.out k hlt
      have HTK : Hid (bss.take (k + 1) = bss.take k ++ [bss[k]]) := by show _ = _; rw [List.take_add_one, List.getElem?_eq_getElem hlt]; rfl
      generalize bss[k] = x at *
      have HX := Lib.hid (Sha.sha_any u x wr h2 (by omega))
      clear h2
      go_wp2_with fail
      refine HX.out.mono ?_
      rintro e w2 ⟨rfl, hb2⟩
      have HB2 := Lib.hid hb2
      clear hb2 HX
      have hsz : w.heap.size ≤ w2.heap.size := Nat.le_trans HB.out.size HB2.out.size
      have HA : Hid (Below wr.heap.size wr (w2.alloc (.cells (Sha.shaOf x) 54 (0, 0)))) := HB2.out.alloc HB2.out.size _
      have HN1 : Hid (∀ j u, (Sha.shaOf x).toList[j]? = some u → (w2.alloc (.cells (Sha.shaOf x) 54 (0, 0))).cell? ((⟨w2.heap.size, 0, none⟩ : Addr).add j) = some u) := by
        show ∀ j u, _
        intro j u hj
        rw [addr_add, cell_of_row _ _ _ _ _ _ (heap_alloc_new w2 (.cells (Sha.shaOf x) 54 (0, 0)))]
        simpa using hj
      have HSL : Hid ((Sha.shaOf x).toList.length = 32) := sha_length x
      have HSO := Lib.hid (sha_one x)
      have HDS : Hid (digsOf (bss.take (k + 1)) = digsOf (bss.take k) ++ (Sha.shaOf x).toList) := by show _ = _; rw [HTK.out, digsOf_snoc]
      generalize Sha.shaOf x = D at *
      have hD : D.size = 32 := by have := HSL.out; simpa using this
      have HFO := Lib.hid (fold_set D #[Value.int IntKind.u8 0, Value.int IntKind.u8 0, Value.int IntKind.u8 0, Value.int IntKind.u8 0, Value.int IntKind.u8 0, Value.int IntKind.u8 0, Value.int IntKind.u8 0, Value.int IntKind.u8 0, Value.int IntKind.u8 0, Value.int IntKind.u8 0, Value.int IntKind.u8 0, Value.int IntKind.u8 0, Value.int IntKind.u8 0, Value.int IntKind.u8 0, Value.int IntKind.u8 0, Value.int IntKind.u8 0, Value.int IntKind.u8 0, Value.int IntKind.u8 0, Value.int IntKind.u8 0, Value.int IntKind.u8 0, Value.int IntKind.u8 0, Value.int IntKind.u8 0, Value.int IntKind.u8 0, Value.int IntKind.u8 0, Value.int IntKind.u8 0, Value.int IntKind.u8 0, Value.int IntKind.u8 0, Value.int IntKind.u8 0, Value.int IntKind.u8 0, Value.int IntKind.u8 0, Value.int IntKind.u8 0, Value.int IntKind.u8 0] 32 hD (by simp [hD]))

      go_wp2_with (at_builtin; go_loud (refine wpList_append_own _ rfl (.tmp 19) (.tmp 22) 49 rfl w.heap.size 54 i0 (.agg (List.replicate 32 (.int .u8 0)).toArray) 32 32 Try.underlying49 HI.out.1 HI.out.2.1 HI.out.2.2.1 HI.out.2.2.2 rfl (by decide) _ k _ rfl (by rw [HFO.out]; exact owns_below HO.out HA.out) ⟨w2.heap.size, 0, none⟩ 1 1 D.toList rfl HSL.out (by rw [HFO.out]; exact HN1.out) HSO.out (by unfold maxLen; omega) (by omega) (by simp; omega) ?_))
      intro v2 w3 hown hgr _
      rw [HFO.out] at hgr
      have HOW := Lib.hid hown
      have HG := Lib.hid hgr
      clear hown hgr
      go_wp2_with fail
      go_roundw
      case rel =>
        refine ⟨k + 1, by omega, by go_num, ?_, (HB.out.trans (HA.out.mono HB.out.size)).grown HG.out (by simp; omega) (fun i e => (HO.out.lt i e).1)⟩
        rw [HDS.out]
        exact HOW.out
      case measure => simp [intOf]; omega
    · have hke : k = bss.length := by omega
      subst hke
      go_wp2_with fail
      go_ret2
      exact ⟨_, rfl, by have := HO.out; rwa [List.take_length] at this, HB.out⟩
end Go.Proofs.Ythkjihfnphdfkaa
