/- Stay, of a list: the walk. -/
import Derived.Test.YthkjihfnphdfkaaLsB
import Derived.Deep.QuietTactic
import Derived.BigQuiet
namespace Go.Proofs.Ythkjihfnphdfkaa
open Go.RowKit

theorem below_dn {B : Nat} {w w' : World} (h : Below B w w') (n : Nat) : Below B w (w'.drewN n) := ⟨h.os, h.tape, h.output, h.size, h.block⟩

set_option maxHeartbeats 1000000 in
theorem stay_lists (l : Value) (bss : List Bs) (w : World) (B g cap : Nat) (hf : LentL w B g cap bss) (hl : RowsW w l bss) (hn : bss.length ≤ 90000) (hm : ∀ j (h : j < bss.length), bss[j].length ≤ 90000) :
    Calls Try.prog 24 #[.slice (some ⟨g, 0, none⟩) bss.length cap, l] w fun e w' => e = .returned (.bool true) ∧ Below w.heap.size w w' := by
  have HL := Lib.hid hl
  have HF := Lib.hid hf
  have HN := Lib.hid hn
  have HM := Lib.hid hm
  obtain ⟨la, lc, hls⟩ : ∃ a c, l = .slice a bss.length c := by
    rcases hl with ⟨rfl, rfl⟩ | ⟨b, off, cap, rfl, _⟩
    · exact ⟨none, 0, rfl⟩
    · exact ⟨_, cap, rfl⟩
  subst hls
  obtain ⟨f1, _, _, s, f4, f5, _⟩ := hf
  have n0 : (0 : Int) ≤ (bss.length : Int) := by omega
  have n1 : (bss.length : Int) < (bss.length : Int) + 1 := by omega
  clear hl hm
  go_enter Try.func24, Try.ntmps24
  go_wp2_with fail
  clear f4 f5 n1
  go_loopw [6, 7] (fun i _ wr => ∃ k : Nat, k ≤ bss.length ∧ i = .int .i64 k ∧ Below w.heap.size w wr) (fun i _ _ => bss.length - (intOf i).toNat)
  case atStart => exact ⟨0, by omega, rfl, Below.refl _ _⟩
  case round =>
    obtain ⟨k, hk, rfl, hb⟩ := hrel
    have k0 : (0 : Int) ≤ (k : Int) := by omega
    have HB := Lib.hid hb
    clear hb
    by_cases hlt : k < bss.length
    · have k1 : (k : Int) < (bss.length : Int) := by omega
      obtain ⟨b, off, cp, hv, hc, u, hu, hbw, _⟩ := (HL.out.below HB.out (Nat.le_refl _)).at_ k hlt
      simp only [Value.slice.injEq, true_and] at hv
      obtain ⟨rfl, rfl⟩ := hv
      obtain ⟨_, _, h3, _⟩ := HF.out.below HB.out
      obtain ⟨e, c, h4, h5, _⟩ := h3 k hlt
      have hml := HM.out k hlt
      obtain ⟨ua, uc, hus, _⟩ := hbw.shape
      subst hus
      generalize bss[k] = x at *
      have q1 : ∀ n, (convert 28 9 (.slice (some ⟨e, 0, none⟩) x.length c)).run Try.prog (wr.drewN n) = .ok (.string ⟨x.toArray⟩) (wr.drewN n) := fun n => run_string_of _ 28 5 Try.underlying28 Try.underlying5 (h5.kept (w' := wr.drewN n) rfl).bytes 9 Try.underlying9
      have q2 : ∀ n, (convert 28 9 (.slice ua x.length uc)).run Try.prog (wr.drewN n) = .ok (.string ⟨x.toArray⟩) (wr.drewN n) := fun n => run_string_ofW _ 28 5 Try.underlying28 Try.underlying5 (hbw.below (below_dn (Below.refl _ wr) n) (Nat.le_refl _)) 9 Try.underlying9
      have h6 : x.length + 1 ≤ c := h5.2.1
      have h7 : wr.cell? ⟨e, x.length, none⟩ = some (.int .u8 167) := h5.2.2 x.length (.int .u8 167) (by rw [u8s_append, List.getElem?_append_right (by simp)]; simp [u8s, u8])
      have x0 : (0 : Int) ≤ (x.length : Int) := by omega
      have x1 : (x.length : Int) < (x.length : Int) + 1 := by omega
      clear hbw h5 h3
      go_wp2_with fail
      go_quiet (fail)
      go_wp2_with fail
      go_roundw
      case rel => exact ⟨k + 1, by omega, by go_num, below_dn HB.out _⟩
      case measure => simp [intOf]; omega
    · have hke : k = bss.length := by omega
      subst hke
      go_wp2_with fail
      go_ret
      exact ⟨rfl, HB.out⟩
end Go.Proofs.Ythkjihfnphdfkaa
