/- 'copied': bytes in memory of their own. Condition: the slice holds bytes; fewer than 2^47. -/
import Derived.Test.YthkjihfnphdfkaaRows
import Derived.Test.YthkjihfnphdfkaaWide
import Derived.Deep.QuietTactic
import Derived.BigQuiet
import Derived.Handy
import Derived.Deep.DeepMust
import Derived.Deep.DeepFit
namespace Go.Proofs.Ythkjihfnphdfkaa
open Go.RowKit

theorem info5 : (Try.prog.info? 5).map (fun i => (i.zero, i.size, i.bytes)) = some (some (.int .u8 0), 1, 1) := by kernel_rfl
theorem info28 : (Try.prog.info? 28).map (fun i => (i.zero, i.size, i.bytes)) = some (some (.slice none 0 0), 1, 24) := by kernel_rfl

/-- New memory that holds bs: of w' all that lies below B is as in w. -/
def Fresh (B : Nat) (w' : World) (v : Value) (bs : List UInt8) : Prop := Bytes w' v bs ∧ InB v (fun k => B ≤ k ∧ k < w'.heap.size)

set_option maxHeartbeats 400000 in
theorem copied_more (v : Value) (bs : List UInt8) (w : World) (hv : BytesW w v bs) (hn : bs.length ≤ 140737488355328) :
    Calls Try.prog 27 #[v] w fun e w' => ∃ va vc, e = .returned (.slice va bs.length vc) ∧ Fresh w.heap.size w' (.slice va bs.length vc) bs ∧ Below w.heap.size w w' ∧ (∀ k i, (Value.slice va bs.length vc).ownBlock = some k → w'.frozen? ⟨k, i, none⟩ = false) := by
  obtain ⟨i0, hi, hz0, hz1, hz2⟩ := info_parts info5
  have b1 : 0 + bs.length ≤ maxLen := by unfold maxLen; omega
  have b2 : (0 + bs.length) * 1 ≤ 140737488355328 := by omega
  have B1 := Lib.hid b1
  have B2 := Lib.hid b2
  clear b1 b2
  go_enter Try.func27, Try.ntmps27
  go_wp2_with (at_builtin; refine wpList_append_rowW rfl (.const (.slice none 0 0)) (.tmp 4) 28 rfl w.heap.size 5 i0 (.int .u8 0) 1 Try.underlying28 hi hz0 hz1 hz2 rfl (.slice none 0 0) 0 [] rfl (World.ownsRow_nil _ _ _ _) v bs rfl hv B1.out B2.out (Nat.le_refl _) ?_)
  intro v' w' hown hgrow hnil
  have HS := owns_shape hown
  have HO := Lib.hid hown
  have HG := Lib.hid hgrow
  clear hown hgrow hnil
  rcases HS with ⟨rfl, hz⟩ | ⟨g, cap, rfl, hle, hm, hb, hlt⟩
  · have hbs : bs = [] := by simpa using hz
    subst hbs
    clear hz
    go_wp2
    go_ret
    exact ⟨_, _, rfl, ⟨RowAt.nil _, InB.nil _⟩, (Below.refl _ _).grown HG.out (Nat.le_refl _) (by simp [Value.ownBlock]), fun k i e => by cases e⟩
  · have HA := RowAt.of_owns HO.out
    have HR := Lib.hid HA
    clear HA
    go_wp2
    go_ret
    refine ⟨_, _, rfl, ⟨HR.out.recap (Nat.le_refl _), InB.at_ ⟨hb, hlt⟩⟩, (Below.refl _ _).grown HG.out (Nat.le_refl _) (by simp [Value.ownBlock]), fun k i e => ?_⟩
    have e' : g = k := by simpa [Value.ownBlock] using e
    subst e'
    rcases HO.out.2 with ⟨h, _⟩ | ⟨g', cap', cur, h, _, hg, _⟩
    · cases h
    · cases h; exact frozen_of_row w' _ _ _ _ hg
theorem copied_any (v : Value) (bs : List UInt8) (w : World) (hv : BytesW w v bs) (hn : bs.length ≤ 140737488355328) :
    Calls Try.prog 27 #[v] w fun e w' => ∃ va vc, e = .returned (.slice va bs.length vc) ∧ Fresh w.heap.size w' (.slice va bs.length vc) bs ∧ Below w.heap.size w w' :=
  (copied_more v bs w hv hn).mono fun _ _ ⟨va, vc, h1, h2, h3, _⟩ => ⟨va, vc, h1, h2, h3⟩
end Go.Proofs.Ythkjihfnphdfkaa
