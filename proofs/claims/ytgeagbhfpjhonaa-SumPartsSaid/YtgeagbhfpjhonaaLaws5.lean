/- SumSHA: the walk. -/
import Derived.Test.YtgeagbhfpjhonaaLaws4
import Derived.Test.YtgeagbhfpjhonaaRefSHA
import Derived.Test.YtgeagbhfpjhonaaLent
import Derived.Deep.MidRow
import Derived.Deep.RegionHeld3
namespace Go.Proofs.Ytgeagbhfpjhonaa
open Go.RowKit
attribute [local go_sem ↓] eql30

/-- The SHA-256 of m, as a list. -/
def shaL (m : List UInt8) : List Value := (digTo (ivSt.pieces (padded m) ((padded m).length / 64)).row 32).map b8
theorem shaL_len (m : List UInt8) : (shaL m).length = 32 := by unfold shaL; rw [List.length_map, digTo_length]
theorem under30 : Try.prog.underlying 30 = some (.array 32 5) := by kernel_rfl
theorem range_new {W : World} {q : Nat} {cs : List Value} {t : TypeId} (h : W.heap[q]? = some (.cells cs.toArray t (0, 0))) : W.rangeAt q 0 cs := fun j v hv => by
  rw [cell_of_row W q (0 + j) _ _ _ h, Nat.zero_add]
  simpa using hv
theorem rangeAt_below {W W' : World} {B q o : Nat} {cs : List Value} (h : W.rangeAt q o cs) (hb : Below B W W') (hq : q < B) : W'.rangeAt q o cs := fun j v hv => (hb.cell (p := ⟨q, o + j, none⟩) hq).trans (h j v hv)
theorem sha_anyL (v : Value) (b : List UInt8) (w : World) (hv : Bytes w v b) (hb : b.length ≤ 1000000000000) :
    Calls Try.prog 18 #[v] w fun e w' => e = .returned (.agg (shaL b).toArray) ∧ Below w.heap.size w w' := sha_any v b w hv hb
theorem refSHA_anyL (v : Value) (b : List UInt8) (w : World) (hv : Bytes w v b) (hb : b.length ≤ 1000000000000) :
    Calls Try.prog 19 #[v] w fun e w' => e = .returned (.agg (shaL b).toArray) ∧ Below w.heap.size w w' := refSHA_any v b w hv hb
theorem sum_digL {w : World} {p lim : Nat} {m : List UInt8} {v : Value} (h : Digested w p lim m v) (hm : m.length ≤ 1000000000000) :
    Calls Try.prog 22 #[.pointer (some ⟨p, 0, none⟩)] w fun e w' => e = .returned (.agg (shaL m).toArray) ∧ Below w.heap.size w w' := sum_dig h hm
theorem isDigL (m : List UInt8) : IsDig (.agg (shaL m).toArray) := isDig_sha m
theorem shaL_one (m : List UInt8) : (shaL m).toArray.all (·.oneCell') = true := shaOf_one m

set_option maxHeartbeats 1600000 in
theorem sha_in (bv : Option Addr) (cb : Nat) (b : List UInt8) (w : World) (hb : Bytes w (.slice bv b.length cb) b) (lb : (b.length : Int) ≤ 5000) :
    Calls Try.prog 4 #[.slice bv b.length cb] w fun e w' => e = .returned (.bool true) ∧ Below w.heap.size w w' := by
  have HB := Lib.hid hb
  clear hb
  go_enter Try.func4, Try.ntmps4
  go_wp2_with fail
  refine (alive_any _).mono ?_
  rintro e w1 ⟨rfl, hb1⟩
  have BB1 := Lib.hid hb1
  clear hb1
  go_wp2_with fail
  refine (lent_any _ b _ (Bytes.below HB.out BB1.out) (by omega)).mono ?_
  rintro e w2 ⟨g, cap, rfl, hf2, hg2, hb2⟩
  have BB2 : Hid (Below w.heap.size w w2) := BB1.out.trans (hb2.mono BB1.out.size)
  have HF2 := Lib.hid hf2
  have hgl := hf2.lt
  clear hb2 hf2 hg2 BB1
  have C1 := Lib.hid (fun w h => sha_anyL (.slice (some ⟨g, 0, none⟩) b.length cap) b w h (by omega))
  have D1 := Lib.hid (fun w h => refSHA_anyL (.slice bv b.length cb) b w h (by omega))
  have S1 := Lib.hid (fun w h1 h2 => stays_any (.slice (some ⟨g, 0, none⟩) b.length cap) (.slice bv b.length cb) b g cap w h1 h2 (by omega))
  have hdig := isDigL b
  have hu30 := under30
  have hi30 : (Try.prog.info? 30).map (·.size) = some (shaL b).length := by rw [shaL_len]; exact info30
  have HO := Lib.hid (shaL_one b)
  have HU := Lib.hid hu30
  have HS : Hid ((shaL b).toArray.size = 32) := by show _ = _; rw [List.size_toArray, shaL_len]
  have HI := Lib.hid hi30
  have HDG := Lib.hid hdig
  generalize shaL b = cs at *
  clear hu30 hi30 hdig
  go_wp2_with fail
  refine (C1.out _ HF2.out.bytes).mono ?_
  rintro e w3 ⟨rfl, hb3⟩
  have BB3 : Hid (Below w.heap.size w w3) := BB2.out.trans (hb3.mono BB2.out.size)
  have HF3 : Hid (LentAt w3 (.slice (some ⟨g, 0, none⟩) b.length cap) b g cap) := HF2.out.below hb3 hgl
  have hgl3 := HF3.out.lt
  clear hb3 HF2 hgl BB2
  go_wp2_with (refine wpList_store_row_to rfl 30 _ _ rfl w3.heap.size cs.toArray rfl rfl 30 _ (heap_alloc_new w3 _) HI.out (by rw [HS.out]; rfl) HO.out ?_)
  intro w4 hr4 hb4
  have hdg : w4.rangeAt w3.heap.size 0 cs := range_new hr4
  have hql : w3.heap.size < w4.heap.size := (Array.getElem?_eq_some_iff.1 hr4).1
  have BB4 : Hid (Below w.heap.size w w4) := (BB3.out.alloc BB3.out.size _).trans (hb4 _ BB3.out.size)
  have HF4 : Hid (LentAt w4 (.slice (some ⟨g, 0, none⟩) b.length cap) b g cap) := (HF3.out.below ((Below.refl w3.heap.size w3).alloc (Nat.le_refl _) _) hgl3).below (hb4 w3.heap.size (Nat.le_refl _)) hgl3
  have HQL : Hid (w.heap.size ≤ w3.heap.size) := BB3.out.size
  have HD := Lib.hid hdg
  clear hr4 hb4 hdg BB3 HF3 hgl3
  generalize w3.heap.size = q at *
  have hB4 : Hid (Bytes w4 (.slice bv b.length cb) b) := Bytes.below HB.out BB4.out
  go_wp2_with fail
  have BB := Lib.hid BB4.out
  have hu30 := HU.out
  have hi30 := HI.out
  have hdig := HDG.out
  go_region_held3 (fun W => W.rangeAt q 0 cs ∧ Below w.heap.size w W) (first | exact ⟨HD.out, BB.out⟩ | exact ⟨(World.rangeAt_drew _ _ _ _).2 HD.out, BB.out.drew⟩) (first
    | (go_at_call 15; (with_reducible refine (S1.out _ ?_ ?_).mono ?_); exact (HF4.out.below ((Below.refl w4.heap.size w4).drew) HF4.out.lt); exact hB4.out.below ((Below.refl w4.heap.size w4).drew); rintro e w' ⟨rfl, rfl⟩)
    | (go_at_call 19; (with_reducible refine (D1.out _ ?_).mono ?_); exact hB4.out.below ((Below.refl w4.heap.size w4).drew); rintro e w' ⟨rfl, hb⟩; have hb2 : Below w.heap.size w w' := BB.out.drew.trans (hb.mono BB.out.size); replace BB := Lib.hid hb2; have hd2 := rangeAt_below ((World.rangeAt_drew _ _ _ _).2 HD.out) hb hql; replace HD := Lib.hid hd2; clear hb hb2 hd2))
  go_wp2
  go_ret
  exact ⟨rfl, BB.out⟩

set_option maxHeartbeats 400000 in
theorem sha_out (av : Option Addr) (la ca : Nat) (w : World) (h : 5000 < (la : Int)) :
    Calls Try.prog 4 #[.slice av la ca] w fun e w' => e = .returned (.bool true) ∧ Below w.heap.size w w' := by
  go_enter Try.func4, Try.ntmps4
  go_wp2_with fail
  refine (alive_any _).mono ?_
  rintro e w1 ⟨rfl, hb1⟩
  go_wp2_with fail
  go_ret
  exact ⟨rfl, hb1⟩
theorem sha_walk (a0 : Option Addr) (len0 cap0 : Nat) (z0 : List Int) (w : World) (w0 : RowIn .u8 w a0 len0 cap0 z0) :
    Calls Try.prog 4 #[.slice a0 len0 cap0] w fun e w' => e = .returned (.bool true) ∧ Below w.heap.size w w' := by
  obtain ⟨b, rfl, _, _, hb⟩ := bytes_of_row w0
  by_cases h1 : (b.length : Int) ≤ 5000
  · exact sha_in _ _ b w hb h1
  · exact sha_out _ _ _ w (by omega)
end Go.Proofs.Ytgeagbhfpjhonaa
