/- way: what the first block tells. -/
import Derived.Test.YthfncgbkigmmcaaL5
namespace Go.Proofs.Ythfncgbkigmmcaa
open Go.RowKit

def natsV (l : List Nat) : List Value := l.map fun (x : Nat) => Value.int .i64 (x : Int)
def get2B (b : Bs) (i : Nat) : Nat := (b.getD i 0).toNat + 256 * (b.getD (i + 1) 0).toNat
def get4B (b : Bs) (i : Nat) : Nat := (b.getD i 0).toNat + 256 * (b.getD (i + 1) 0).toNat + 65536 * (b.getD (i + 2) 0).toNat + 16777216 * (b.getD (i + 3) 0).toNat
def listB (b : Bs) (n : Nat) : List Nat := (List.range n).map fun i => get2B b (22 + 2 * i)
/-- what the first block tells: what is under way -/
def wayB (b : Bs) : Option (List Nat) := if b.take 16 = mark ∧ get4B b 16 = Crc.more 0 (b.drop 20) ∧ get2B b 20 ≤ 40 then some (listB b (get2B b 20)) else none
theorem listB_snoc (b : Bs) (n : Nat) : listB b (n + 1) = listB b n ++ [get2B b (22 + 2 * n)] := by
  unfold listB
  rw [List.range_succ, List.map_append]
  rfl
theorem listB_length (b : Bs) (n : Nat) : (listB b n).length = n := by simp [listB]
theorem bytes_take {w : World} {g off n cap k c2 : Nat} {bs : Bs} (h : Bytes w (.slice (some ⟨g, off, none⟩) n cap) bs) (hm : k ≤ bs.length) (hc : k ≤ c2) : Bytes w (.slice (some ⟨g, off, none⟩) k c2) (bs.take k) := by
  rcases h with ⟨hh, _⟩ | ⟨b, o, c, hh, _, hcell⟩
  · cases hh
  · simp only [Value.slice.injEq, Option.some.injEq, Addr.mk.injEq] at hh
    obtain ⟨⟨rfl, rfl, _⟩, _, rfl⟩ := hh
    refine .inr ⟨g, off, c2, by simp; omega, by simp; omega, fun i v hi => ?_⟩
    refine hcell i v ?_
    rw [← hi]
    unfold u8s
    rw [List.map_take, List.getElem?_take]
    split
    · rfl
    · rename_i hik
      have h2 := hi
      unfold u8s at h2
      rw [List.map_take, List.getElem?_take, if_neg hik] at h2
      cases h2
theorem get2_at {w : World} {g cap at_ : Nat} {bs : Bs} (h : Bytes w (.slice (some ⟨g, 0, none⟩) 512 cap) bs) (hl : bs.length = 512) (ha : at_ + 2 ≤ 512) : Calls Try.prog 55 #[.slice (some ⟨g, 0, none⟩) 512 cap, .int .i64 at_, .int .i64 2] w fun e w' => e = .returned (.int .i64 ((get2B bs at_ : Nat) : Int)) ∧ w' = w := by
  have c0 := bytes_cell h (k := at_) (by omega)
  have c1 := bytes_cell h (k := at_ + 1) (by omega)
  have := get2_any g 0 512 cap bs[at_] bs[at_ + 1] at_ w ha (by omega) c0 c1
  unfold get2B
  rw [List.getD_eq_getElem?_getD, List.getD_eq_getElem?_getD, List.getElem?_eq_getElem (by omega), List.getElem?_eq_getElem (by omega)]
  exact this
theorem get4_at {w : World} {g cap at_ : Nat} {bs : Bs} (h : Bytes w (.slice (some ⟨g, 0, none⟩) 512 cap) bs) (hl : bs.length = 512) (ha : at_ + 4 ≤ 512) : Calls Try.prog 55 #[.slice (some ⟨g, 0, none⟩) 512 cap, .int .i64 at_, .int .i64 4] w fun e w' => e = .returned (.int .i64 ((get4B bs at_ : Nat) : Int)) ∧ w' = w := by
  have c0 := bytes_cell h (k := at_) (by omega)
  have c1 := bytes_cell h (k := at_ + 1) (by omega)
  have c2 := bytes_cell h (k := at_ + 2) (by omega)
  have c3 := bytes_cell h (k := at_ + 3) (by omega)
  have := get4_any g 0 512 cap bs[at_] bs[at_ + 1] bs[at_ + 2] bs[at_ + 3] at_ w ha (by omega) c0 c1 c2 c3
  unfold get4B
  rw [List.getD_eq_getElem?_getD, List.getD_eq_getElem?_getD, List.getD_eq_getElem?_getD, List.getD_eq_getElem?_getD, List.getElem?_eq_getElem (by omega), List.getElem?_eq_getElem (by omega), List.getElem?_eq_getElem (by omega), List.getElem?_eq_getElem (by omega)]
  exact this
set_option maxHeartbeats 800000 in
theorem way_mark (g cap : Nat) (bs : Bs) (w : World) (hb : Bytes w (.slice (some ⟨g, 0, none⟩) 512 cap) bs) (hl : bs.length = 512) (hc : 512 ≤ cap) (hm : ¬ bs.take 16 = mark) :
    Calls Try.prog 49 #[.slice (some ⟨g, 0, none⟩) 512 cap] w fun e w' => e = .returned (.tuple #[.slice none 0 0, .bool false]) ∧ Below w.heap.size w w' := by
  have hlen : (bs.take 16).length = 16 := by rw [List.length_take]; omega
  have hcv : ∀ n, (convert 24 9 (.slice (some ⟨g, 0, none⟩) 16 cap)).run Try.prog (w.drewN n) = .ok (.string ⟨(bs.take 16).toArray⟩) (w.drewN n) := fun n => run_string_of (w.drewN n) 24 5 Try.underlying24 Try.underlying5 (RowAt.below (bytes_take hb (k := 16) (c2 := cap) (by omega) (by omega)) (below_drewN (Below.refl w.heap.size w) n) (Nat.le_refl _)) 9 Try.underlying9
  have c16 : (16 : Int) ≤ (cap : Int) := by omega
  have hne : (bs.take 16 == mark) = false := by simpa using hm
  unfold mark at hne
  clear hb hm hlen
  go_enter Try.func49, Try.ntmps49
  go_wp2_with fail
  go_quiet (fail)
  go_wp2_with fail
  go_ret2
  exact ⟨rfl, below_drewN (Below.refl _ _) _⟩
set_option maxHeartbeats 1600000 in
theorem way_crc (g cap : Nat) (bs : Bs) (w : World) (hb : Bytes w (.slice (some ⟨g, 0, none⟩) 512 cap) bs) (hl : bs.length = 512) (hc : 512 ≤ cap) (hm : bs.take 16 = mark) (hcr : ¬ get4B bs 16 = Crc.more 0 (bs.drop 20)) :
    Calls Try.prog 49 #[.slice (some ⟨g, 0, none⟩) 512 cap] w fun e w' => e = .returned (.tuple #[.slice none 0 0, .bool false]) ∧ Below w.heap.size w w' := by
  have hcv : ∀ W, Below w.heap.size w W → (convert 24 9 (.slice (some ⟨g, 0, none⟩) 16 cap)).run Try.prog W = .ok (.string ⟨mark.toArray⟩) W := fun W hW => by
    have hlen : (bs.take 16).length = 16 := by rw [List.length_take]; omega
    have := run_string_of W 24 5 Try.underlying24 Try.underlying5 (RowAt.below (bytes_take hb (k := 16) (c2 := cap) (by omega) (by omega)) hW (Nat.le_refl _)) 9 Try.underlying9
    rw [hm] at this
    exact this
  have c16 : (16 : Int) ≤ (cap : Int) := by omega
  have hc20 : ¬ cap = 20 := by omega
  unfold mark at hcv
  have HG4 := Lib.hid (fun W (hW : Below w.heap.size w W) => get4_at (at_ := 16) (RowAt.below hb hW (Nat.le_refl _)) hl (by omega))
  have HG2 := Lib.hid (fun W at_ (hW : Below w.heap.size w W) (ha : at_ + 2 ≤ 512) => get2_at (at_ := at_) (RowAt.below hb hW (Nat.le_refl _)) hl ha)
  have HCR := Lib.hid (fun W (hW : Below w.heap.size w W) => crc_any (.slice (some ⟨g, 20, none⟩) 492 (cap - 20)) (bs.drop 20) W (by
    have := bytes_drop (k := 20) (m := 492) (c2 := cap - 20) (RowAt.below hb hW (Nat.le_refl _)) (by omega) (by omega)
    rwa [Nat.zero_add] at this) (by rw [List.length_drop]; omega))
  have HS0 : Hid (Below w.heap.size w w.drew) := (Below.refl _ _).drew
  have hne : (((get4B bs 16 : Nat) : Int) != ((Crc.more 0 (bs.drop 20) : Nat) : Int)) = true := by simp; omega
  generalize Crc.more 0 (bs.drop 20) = cr at *
  generalize get4B bs 16 = v4 at *
  clear hcr
  clear hb hm
  go_enter Try.func49, Try.ntmps49
  go_wp2_with fail
  refine wp_region_noPanic ?_
  refine wp_region_ord [0, 1, 2, 3, 4, 5, 7, 8, 6, 9, 10, 11] (fun W => Below w.heap.size w W) (by kernel_rfl) (by kernel_rfl) rfl (by kernel_rfl) (fun _ _ _ _ _ h => h) HS0.out ?_
  repeat (apply held_run rfl (by rfl) (by rfl); (intro w hSw; go_simp; with_reducible rfl); (try simp only [Act.put, List.setIfInBounds_toArray, List.set_cons_zero, List.set_cons_succ]))
  refine held_step rfl (by rfl) (by rfl) (fun K hK => ?_)
  go_simp
  refine (HG4.out _ HS0.out).mono ?_
  rintro e w1 ⟨rfl, rfl⟩
  refine hK.out _ _ (HS0.out) (fun _ => ?_)
  clear hK K
  (try simp only [Act.put, List.setIfInBounds_toArray, List.set_cons_zero, List.set_cons_succ])
  repeat (apply held_run rfl (by rfl) (by rfl); (intro w hSw; go_simp; with_reducible rfl); (try simp only [Act.put, List.setIfInBounds_toArray, List.set_cons_zero, List.set_cons_succ]))
  refine held_step rfl (by rfl) (by rfl) (fun K hK => ?_)
  go_simp
  refine (HCR.out _ HS0.out).mono ?_
  rintro e w1 ⟨rfl, hb⟩
  have HS1 : Hid (Below w.heap.size w w1) := HS0.out.trans (hb.mono (Nat.le_refl _))
  clear hb
  refine hK.out _ _ (HS1.out) (fun _ => ?_)
  clear hK K
  (try simp only [Act.put, List.setIfInBounds_toArray, List.set_cons_zero, List.set_cons_succ])
  repeat (apply held_run rfl (by rfl) (by rfl); (intro w hSw; go_simp; with_reducible rfl); (try simp only [Act.put, List.setIfInBounds_toArray, List.set_cons_zero, List.set_cons_succ]))
  refine held_nil (NoPanic.normal ?_)
  go_wp2_with fail
  go_ret2
  exact ⟨rfl, HS1.out⟩
set_option maxHeartbeats 1600000 in
theorem way_many (g cap : Nat) (bs : Bs) (w : World) (hb : Bytes w (.slice (some ⟨g, 0, none⟩) 512 cap) bs) (hl : bs.length = 512) (hc : 512 ≤ cap) (hm : bs.take 16 = mark) (hcr : get4B bs 16 = Crc.more 0 (bs.drop 20)) (hn : 40 < get2B bs 20) :
    Calls Try.prog 49 #[.slice (some ⟨g, 0, none⟩) 512 cap] w fun e w' => e = .returned (.tuple #[.slice none 0 0, .bool false]) ∧ Below w.heap.size w w' := by
  have hcv : ∀ W, Below w.heap.size w W → (convert 24 9 (.slice (some ⟨g, 0, none⟩) 16 cap)).run Try.prog W = .ok (.string ⟨mark.toArray⟩) W := fun W hW => by
    have hlen : (bs.take 16).length = 16 := by rw [List.length_take]; omega
    have := run_string_of W 24 5 Try.underlying24 Try.underlying5 (RowAt.below (bytes_take hb (k := 16) (c2 := cap) (by omega) (by omega)) hW (Nat.le_refl _)) 9 Try.underlying9
    rw [hm] at this
    exact this
  have c16 : (16 : Int) ≤ (cap : Int) := by omega
  have hc20 : ¬ cap = 20 := by omega
  unfold mark at hcv
  have HG4 := Lib.hid (fun W (hW : Below w.heap.size w W) => get4_at (at_ := 16) (RowAt.below hb hW (Nat.le_refl _)) hl (by omega))
  have HG2 := Lib.hid (fun W at_ (hW : Below w.heap.size w W) (ha : at_ + 2 ≤ 512) => get2_at (at_ := at_) (RowAt.below hb hW (Nat.le_refl _)) hl ha)
  have HCR := Lib.hid (fun W (hW : Below w.heap.size w W) => crc_any (.slice (some ⟨g, 20, none⟩) 492 (cap - 20)) (bs.drop 20) W (by
    have := bytes_drop (k := 20) (m := 492) (c2 := cap - 20) (RowAt.below hb hW (Nat.le_refl _)) (by omega) (by omega)
    rwa [Nat.zero_add] at this) (by rw [List.length_drop]; omega))
  have HS0 : Hid (Below w.heap.size w w.drew) := (Below.refl _ _).drew
  have hne : (((get4B bs 16 : Nat) : Int) != ((Crc.more 0 (bs.drop 20) : Nat) : Int)) = false := by simp [hcr]
  rw [hcr] at hne HG4
  generalize Crc.more 0 (bs.drop 20) = cr at *
  have HN := Lib.hid (fun W (hW : Below w.heap.size w W) => HG2.out W 20 hW (by omega))
  generalize hnn : get2B bs 20 = n at *
  clear hcr
  clear hnn
  have n1 : (40 : Int) < (n : Int) := by omega
  clear hb hm
  go_enter Try.func49, Try.ntmps49
  go_wp2_with fail
  refine wp_region_noPanic ?_
  refine wp_region_ord [0, 1, 2, 3, 4, 5, 7, 8, 6, 9, 10, 11] (fun W => Below w.heap.size w W) (by kernel_rfl) (by kernel_rfl) rfl (by kernel_rfl) (fun _ _ _ _ _ h => h) HS0.out ?_
  repeat (apply held_run rfl (by rfl) (by rfl); (intro w hSw; go_simp; with_reducible rfl); (try simp only [Act.put, List.setIfInBounds_toArray, List.set_cons_zero, List.set_cons_succ]))
  refine held_step rfl (by rfl) (by rfl) (fun K hK => ?_)
  go_simp
  refine (HG4.out _ HS0.out).mono ?_
  rintro e w1 ⟨rfl, rfl⟩
  refine hK.out _ _ (HS0.out) (fun _ => ?_)
  clear hK K
  (try simp only [Act.put, List.setIfInBounds_toArray, List.set_cons_zero, List.set_cons_succ])
  repeat (apply held_run rfl (by rfl) (by rfl); (intro w hSw; go_simp; with_reducible rfl); (try simp only [Act.put, List.setIfInBounds_toArray, List.set_cons_zero, List.set_cons_succ]))
  refine held_step rfl (by rfl) (by rfl) (fun K hK => ?_)
  go_simp
  refine (HCR.out _ HS0.out).mono ?_
  rintro e w1 ⟨rfl, hb⟩
  have HS1 : Hid (Below w.heap.size w w1) := HS0.out.trans (hb.mono (Nat.le_refl _))
  clear hb
  refine hK.out _ _ (HS1.out) (fun _ => ?_)
  clear hK K
  (try simp only [Act.put, List.setIfInBounds_toArray, List.set_cons_zero, List.set_cons_succ])
  repeat (apply held_run rfl (by rfl) (by rfl); (intro w hSw; go_simp; with_reducible rfl); (try simp only [Act.put, List.setIfInBounds_toArray, List.set_cons_zero, List.set_cons_succ]))
  refine held_nil (NoPanic.normal ?_)
  go_wp2_with fail
  refine (HN.out _ HS1.out).mono ?_
  rintro e w2 ⟨rfl, rfl⟩
  go_wp2_with fail
  go_ret2
  exact ⟨rfl, HS1.out⟩
set_option maxHeartbeats 1600000 in
theorem way_yes (g cap : Nat) (bs : Bs) (w : World) (hb : Bytes w (.slice (some ⟨g, 0, none⟩) 512 cap) bs) (hl : bs.length = 512) (hc : 512 ≤ cap) (hm : bs.take 16 = mark) (hcr : get4B bs 16 = Crc.more 0 (bs.drop 20)) (hn : get2B bs 20 ≤ 40) :
    Calls Try.prog 49 #[.slice (some ⟨g, 0, none⟩) 512 cap] w fun e w' => (∃ v, e = .returned (.tuple #[v, .bool true]) ∧ w'.ownsRow w.heap.size 3 1 v (listB bs (get2B bs 20)).length (natsV (listB bs (get2B bs 20)))) ∧ Below w.heap.size w w' := by
  have hcv : ∀ W, Below w.heap.size w W → (convert 24 9 (.slice (some ⟨g, 0, none⟩) 16 cap)).run Try.prog W = .ok (.string ⟨mark.toArray⟩) W := fun W hW => by
    have hlen : (bs.take 16).length = 16 := by rw [List.length_take]; omega
    have := run_string_of W 24 5 Try.underlying24 Try.underlying5 (RowAt.below (bytes_take hb (k := 16) (c2 := cap) (by omega) (by omega)) hW (Nat.le_refl _)) 9 Try.underlying9
    rw [hm] at this
    exact this
  have c16 : (16 : Int) ≤ (cap : Int) := by omega
  have hc20 : ¬ cap = 20 := by omega
  unfold mark at hcv
  have HG4 := Lib.hid (fun W (hW : Below w.heap.size w W) => get4_at (at_ := 16) (RowAt.below hb hW (Nat.le_refl _)) hl (by omega))
  have HG2 := Lib.hid (fun W at_ (hW : Below w.heap.size w W) (ha : at_ + 2 ≤ 512) => get2_at (at_ := at_) (RowAt.below hb hW (Nat.le_refl _)) hl ha)
  have HCR := Lib.hid (fun W (hW : Below w.heap.size w W) => crc_any (.slice (some ⟨g, 20, none⟩) 492 (cap - 20)) (bs.drop 20) W (by
    have := bytes_drop (k := 20) (m := 492) (c2 := cap - 20) (RowAt.below hb hW (Nat.le_refl _)) (by omega) (by omega)
    rwa [Nat.zero_add] at this) (by rw [List.length_drop]; omega))
  have HS0 : Hid (Below w.heap.size w w.drew) := (Below.refl _ _).drew
  have hne : (((get4B bs 16 : Nat) : Int) != ((Crc.more 0 (bs.drop 20) : Nat) : Int)) = false := by simp [hcr]
  rw [hcr] at hne HG4
  generalize Crc.more 0 (bs.drop 20) = cr at *
  have HN := Lib.hid (fun W (hW : Below w.heap.size w W) => HG2.out W 20 hW (by omega))
  generalize hnn : get2B bs 20 = n at *
  clear hcr
  clear hnn
  have n1 : ¬ (40 : Int) < (n : Int) := by omega
  obtain ⟨i0, hi, hz0, hz1, hz2⟩ := info_parts infoI
  have HI := Lib.hid (And.intro hi (And.intro hz0 (And.intro hz1 hz2)))
  clear hi hz0 hz1 hz2
  have HBA : Hid (∀ (W : World) (o : Obj), Below W.heap.size W (W.alloc o)) := fun W o => (Below.refl W.heap.size W).alloc (Nat.le_refl _) o
  have hone : ∀ (x : Int), ∀ u ∈ [Value.int .i64 x], u.oneCell' = true := fun x u hu => by rw [List.mem_singleton] at hu; subst hu; rfl
  have HONE := Lib.hid hone
  clear hone
  clear hb hm
  go_enter Try.func49, Try.ntmps49
  go_wp2_with fail
  refine wp_region_noPanic ?_
  refine wp_region_ord [0, 1, 2, 3, 4, 5, 7, 8, 6, 9, 10, 11] (fun W => Below w.heap.size w W) (by kernel_rfl) (by kernel_rfl) rfl (by kernel_rfl) (fun _ _ _ _ _ h => h) HS0.out ?_
  repeat (apply held_run rfl (by rfl) (by rfl); (intro w hSw; go_simp; with_reducible rfl); (try simp only [Act.put, List.setIfInBounds_toArray, List.set_cons_zero, List.set_cons_succ]))
  refine held_step rfl (by rfl) (by rfl) (fun K hK => ?_)
  go_simp
  refine (HG4.out _ HS0.out).mono ?_
  rintro e w1 ⟨rfl, rfl⟩
  refine hK.out _ _ (HS0.out) (fun _ => ?_)
  clear hK K
  (try simp only [Act.put, List.setIfInBounds_toArray, List.set_cons_zero, List.set_cons_succ])
  repeat (apply held_run rfl (by rfl) (by rfl); (intro w hSw; go_simp; with_reducible rfl); (try simp only [Act.put, List.setIfInBounds_toArray, List.set_cons_zero, List.set_cons_succ]))
  refine held_step rfl (by rfl) (by rfl) (fun K hK => ?_)
  go_simp
  refine (HCR.out _ HS0.out).mono ?_
  rintro e w1 ⟨rfl, hb⟩
  have HS1 : Hid (Below w.heap.size w w1) := HS0.out.trans (hb.mono (Nat.le_refl _))
  clear hb
  refine hK.out _ _ (HS1.out) (fun _ => ?_)
  clear hK K
  (try simp only [Act.put, List.setIfInBounds_toArray, List.set_cons_zero, List.set_cons_succ])
  repeat (apply held_run rfl (by rfl) (by rfl); (intro w hSw; go_simp; with_reducible rfl); (try simp only [Act.put, List.setIfInBounds_toArray, List.set_cons_zero, List.set_cons_succ]))
  refine held_nil (NoPanic.normal ?_)
  go_wp2_with fail
  refine (HN.out _ HS1.out).mono ?_
  rintro e w2 ⟨rfl, rfl⟩
  go_wp2_with fail
  go_loopw [4, 24] (fun l i wr => ∃ k : Nat, k ≤ n ∧ i = .int .i64 k ∧ wr.ownsRow w.heap.size 3 1 l k (natsV (listB bs k)) ∧ Below w.heap.size w wr) (fun _ i _ => n - (intOf i).toNat)
  case atStart => exact ⟨0, Nat.zero_le _, rfl, World.ownsRow_nil _ _ _ _, HS1.out⟩
  case round =>
    obtain ⟨k, hk, rfl, hown, hb⟩ := hrel
    have k0 : (0 : Int) ≤ (k : Int) := by omega
    have HROW := Lib.hid hown
    have HB := Lib.hid hb
    have hz := hb.size
    obtain ⟨va, vc, hv⟩ := row_len hown
    subst hv
    clear hown hb
    by_cases hlt : k < n
    · have k1 : (k : Int) < (n : Int) := by omega
      have L1 : Hid (k + 1 ≤ maxLen) := by show _ ≤ _; unfold maxLen; omega
      have L2 : Hid ((k + 1) * 8 ≤ 140737488355328) := by show _ ≤ _; omega
      have hgx := HG2.out wr (22 + 2 * k) HB.out (by omega)
      rw [show ((22 + 2 * k : Nat) : Int) = 22 + 2 * (k : Int) by omega] at hgx
      have HGX := Lib.hid hgx
      have HSN := Lib.hid (listB_snoc bs k)
      clear hgx
      generalize get2B bs (22 + 2 * k) = x at *
      go_wp2_with fail
      refine (HGX.out).mono ?_
      rintro e w3 ⟨rfl, rfl⟩
      go_wp2_with (at_builtin; refine wpList_append_rowAt rfl (.tmp 27) (.tmp 33) 46 rfl w.heap.size 3 i0 (.int .i64 0) 8 Try.underlying46 HI.out.1 HI.out.2.1 HI.out.2.2.1 HI.out.2.2.2 rfl _ k _ rfl (owns_below HROW.out (HBA.out _ _)) _ [.int .i64 (x : Int)] rfl (.inl (row_new w3 #[.int .i64 (x : Int)] 3 (0, 0) 1 (Nat.le_refl _))) (HONE.out _) L1.out L2.out (by simp; omega) ?_)
      intro v2 w4 hown2 hgrow2 _
      have HB4 : Hid (Below w.heap.size w w4) := (HB.out.trans ((HBA.out _ _).mono hz)).grown hgrow2 (by simp; omega) (fun j e => (HROW.out.lt j e).1)
      have HROW2 : Hid (w4.ownsRow w.heap.size 3 1 v2 (k + 1) (natsV (listB bs (k + 1)))) := by
        show World.ownsRow _ _ _ _ _ _ _
        rw [HSN.out, natsV, List.map_append]
        exact hown2
      clear hown2 hgrow2
      go_wp2_with fail
      go_roundw
      case rel => exact ⟨k + 1, by omega, by go_num, HROW2.out, HB4.out⟩
      case measure => simp [intOf]; omega
    · obtain rfl : k = n := by omega
      go_wp2_with fail
      go_ret2
      exact ⟨⟨_, rfl, by rw [listB_length]; exact HROW.out⟩, HB.out⟩

theorem natsW_own {w : World} {b : Nat} {v : Value} {ps : List Nat} (h : w.ownsRow b 3 1 v ps.length (natsV ps)) : NatsW w v ps := by
  rcases h.2 with ⟨rfl, h0⟩ | ⟨g, cap, cur, rfl, _, hg, hn, hm, hs, ht⟩
  · have : ps = [] := by
      have h1 := h.1
      apply List.eq_nil_of_length_eq_zero
      omega
    subst this
    exact NatsW.nil w
  · refine ⟨_, cap, rfl, fun k hk => ⟨g, 0, rfl, ?_⟩⟩
    rw [Nat.zero_add, cell_of_row w g k cur _ _ hg]
    have : (natsV ps)[k]? = some (.int .i64 (ps[k] : Int)) := by unfold natsV; rw [List.getElem?_map, List.getElem?_eq_getElem hk]; rfl
    rw [← ht, List.getElem?_take] at this
    split at this
    · simpa using this
    · cases this
theorem way_any (g cap : Nat) (bs : Bs) (w : World) (hb : Bytes w (.slice (some ⟨g, 0, none⟩) 512 cap) bs) (hl : bs.length = 512) (hc : 512 ≤ cap) :
    Calls Try.prog 49 #[.slice (some ⟨g, 0, none⟩) 512 cap] w fun e w' => ((wayB bs = none ∧ e = .returned (.tuple #[.slice none 0 0, .bool false])) ∨ ∃ l v, wayB bs = some l ∧ e = .returned (.tuple #[v, .bool true]) ∧ NatsW w' v l) ∧ Below w.heap.size w w' := by
  by_cases h1 : bs.take 16 = mark
  · by_cases h2 : get4B bs 16 = Crc.more 0 (bs.drop 20)
    · by_cases h3 : get2B bs 20 ≤ 40
      · refine (way_yes g cap bs w hb hl hc h1 h2 h3).mono ?_
        rintro e w' ⟨⟨v, rfl, hv⟩, hb⟩
        exact ⟨.inr ⟨_, v, by rw [wayB, if_pos ⟨h1, h2, h3⟩], rfl, natsW_own hv⟩, hb⟩
      · refine (way_many g cap bs w hb hl hc h1 h2 (by omega)).mono ?_
        rintro e w' ⟨rfl, hb⟩
        exact ⟨.inl ⟨by rw [wayB, if_neg (fun h => h3 h.2.2)], rfl⟩, hb⟩
    · refine (way_crc g cap bs w hb hl hc h1 h2).mono ?_
      rintro e w' ⟨rfl, hb⟩
      exact ⟨.inl ⟨by rw [wayB, if_neg (fun h => h2 h.2.1)], rfl⟩, hb⟩
  · refine (way_mark g cap bs w hb hl hc h1).mono ?_
    rintro e w' ⟨rfl, hb⟩
    exact ⟨.inl ⟨by rw [wayB, if_neg (fun h => h1 h.1)], rfl⟩, hb⟩
end Go.Proofs.Ythfncgbkigmmcaa
