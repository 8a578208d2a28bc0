/- Each call of a disk, of the program's and of the document's, whatever comes. -/
import Derived.Test.YthdefaodioapbaaFam2
namespace Go.Proofs.Ythdefaodioapbaa
open Go.RowKit

variable {w w' : World} {B : Nat} {X : Nat → Prop} {l : List (Bool × Nat × DS)} {p : Nat} {d : DS}
attribute [local irreducible] zA

def DS.wrE (d : DS) (at_ : Int) (x : Bs) : Int := if d.there at_ ≠ 0 then d.there at_ else if x.length ≠ 512 then 1 else if d.back.length = 65536 then 2 else 0
def DS.wr (d : DS) (at_ : Int) (x : Bs) : DS := if d.wrE at_ x = 0 then d.write at_.toNat x else d
def DS.flE (d : DS) : Int := if d.off = true then 11 else 0
def DS.fl (d : DS) : DS := if d.off = true then d else d.flush
def DS.fuE (d : DS) (s : Int) : Int := if s < -1 then 1 else if d.off = true then 11 else 0
def DS.fu (d : DS) (s : Int) : DS := if s < -1 then d else if d.off = true then d else { d with left := s, off := s == 0 }
theorem DS.wr_good (h : d.Good) (at_ : Int) (x : Bs) : (d.wr at_ x).Good := by
  unfold DS.wr
  split
  · exact DS.write_good h _ _
  · exact h
theorem DS.fl_good (h : d.Good) : d.fl.Good := by
  unfold DS.fl
  split
  · exact h
  · exact DS.flush_good h
theorem DS.fu_good (h : d.Good) (s : Int) (hs : s ≤ 9223372036854775807) : (d.fu s).Good := by
  unfold DS.fu
  split
  · exact h
  · split
    · exact h
    · exact DS.fuse_good h s (by omega) hs
theorem DS.there_0 {at_ : Int} (h : d.there at_ = 0) : d.off = false ∧ ∃ k : Nat, at_ = k ∧ k < d.n := by
  unfold DS.there at h
  split at h
  · cases h
  · rename_i ho
    split at h
    · cases h
    · rename_i hn
      exact ⟨by simpa using ho, at_.toNat, by omega, by omega⟩
theorem DS.there_ne {at_ : Int} (h : d.there at_ ≠ 0) : (d.off = true ∧ d.there at_ = 11) ∨ (d.off = false ∧ d.there at_ = 10 ∧ (at_ < 0 ∨ (0 ≤ at_ ∧ (d.n : Int) ≤ at_))) := by
  unfold DS.there at *
  cases ho : d.off with
  | true => left; simp
  | false =>
    right
    rw [ho] at h
    by_cases hn : at_ < 0 ∨ (d.n : Int) ≤ at_
    · rw [if_neg (by simp), if_pos hn]
      exact ⟨rfl, rfl, by omega⟩
    · rw [if_neg (by simp), if_neg hn] at h
      exact absurd rfl h

theorem DisksX.disk (h : DisksX w B X ((false, p, d) :: l)) (hB : B ≤ w.heap.size) : ∃ O R gn gf vb vs, DiskAt w O R p d gn gf vb vs := by
  obtain ⟨O, R, h1, _⟩ := h.turn hB
  obtain ⟨gn, gf, vb, vs, h2⟩ := h1.1
  exact ⟨O, R, gn, gf, vb, vs, h2⟩
theorem DisksX.ref (h : DisksX w B X ((true, p, d) :: l)) (hB : B ≤ w.heap.size) : ∃ O fv hv, RefAt w O p d fv hv := by
  obtain ⟨O, R, h1, _⟩ := h.turn hB
  obtain ⟨fv, hv, h2⟩ := h1.1
  exact ⟨O, fv, hv, h2⟩
theorem keepsX_refl (w : World) : Keeps (fun j => B ≤ j ∧ ¬ X j) w w := Keeps.refl _ _

theorem dRead_bad (h : DisksX w B X ((false, p, d) :: l)) (hB : B ≤ w.heap.size) (at_ : Int) (hb : d.there at_ ≠ 0) : Calls Try.prog 16 #[.pointer (some ⟨p, 0, none⟩), .int .i64 at_] w fun e w' => e = .returned (.tuple #[.slice none 0 0, .int .i64 (d.there at_)]) ∧ w = w' := by
  obtain ⟨O, R, gn, gf, vb, vs, h1⟩ := h.disk hB
  exact read_bad h1 at_ (by simpa using hb)
theorem dRead_ok (h : DisksX w B X ((false, p, d) :: l)) (hB : B ≤ w.heap.size) (k : Nat) (hk : k < d.n) (ho : d.off = false) : Calls Try.prog 16 #[.pointer (some ⟨p, 0, none⟩), .int .i64 k] w fun e w' => ∃ g cap, e = .returned (.tuple #[.slice (some ⟨g, 0, none⟩) 512 cap, .int .i64 0]) ∧ Bytes w' (.slice (some ⟨g, 0, none⟩) 512 cap) (blockAt d.now k) ∧ NewIn w w' g ∧ (∀ i, w'.frozen? ⟨g, i, none⟩ = false) ∧ Below w.heap.size w w' := by
  obtain ⟨O, R, gn, gf, vb, vs, h1⟩ := h.disk hB
  refine (read_ok h1 k hk ho).mono ?_
  rintro e w' ⟨g, cap, rfl, h2, h3, h4, _, h6, h7⟩
  exact ⟨g, cap, rfl, h2, ⟨h3, h4⟩, h6, h7⟩
theorem rRead_bad (h : DisksX w B X ((true, p, d) :: l)) (hB : B ≤ w.heap.size) (at_ : Int) (hb : d.there at_ ≠ 0) : Calls Try.prog 36 #[.pointer (some ⟨p, 0, none⟩), .int .i64 at_] w fun e w' => e = .returned (.tuple #[.agg zA, .int .i64 (d.there at_)]) ∧ Below w.heap.size w w' := by
  obtain ⟨O, fv, hv, h1⟩ := h.ref hB
  rcases DS.there_ne hb with ⟨h2, h3⟩ | ⟨h2, h3, h4⟩
  · rw [h3]; exact rRead_off h1 at_ h2
  · rw [h3]; exact rRead_block h1 at_ h2 h4
theorem rRead_yes (h : DisksX w B X ((true, p, d) :: l)) (hB : B ≤ w.heap.size) (hg : d.Good) (k : Nat) (hk : k < d.n) (ho : d.off = false) : Calls Try.prog 36 #[.pointer (some ⟨p, 0, none⟩), .int .i64 k] w fun e w' => e = .returned (.tuple #[.agg (u8s (blockAt d.now k)).toArray, .int .i64 0]) ∧ Below w.heap.size w w' := by
  obtain ⟨O, fv, hv, h1⟩ := h.ref hB
  rw [hg.2]
  exact rRead_ok h1 k hk ho

theorem dWrite (h : DisksX w B X ((false, p, d) :: l)) (hB : B ≤ w.heap.size) (hg : d.Good) (at_ : Int) (g0 cap : Nat) (x : Bs) (hx : Bytes w (.slice (some ⟨g0, 0, none⟩) x.length cap) x) (hX : X g0) (hg0 : g0 < w.heap.size) :
    Calls Try.prog 13 #[.pointer (some ⟨p, 0, none⟩), .int .i64 at_, .slice (some ⟨g0, 0, none⟩) x.length cap] w fun e w' => e = .returned (.int .i64 (d.wrE at_ x)) ∧ DisksX w' B X ((false, p, d.wr at_ x) :: l) ∧ Keeps (fun j => B ≤ j ∧ ¬ X j) w w' := by
  obtain ⟨O, R, h1, hO, hR, hgo⟩ := h.turn hB
  have h1' : DiskO w O R p d := h1
  have same : d.wrE at_ x ≠ 0 → d.wr at_ x = d := fun e => by unfold DS.wr; rw [if_neg e]
  obtain ⟨gn, gf, vb, vs, h2⟩ := h1'.1
  by_cases hb : d.there at_ = 0
  · obtain ⟨ho, k, rfl, hk⟩ := DS.there_0 hb
    by_cases hl : x.length = 512
    · have hs := h2.small
      by_cases hf : d.back.length = 65536
      · have e : d.wrE (k : Int) x = 2 := by unfold DS.wrE; rw [if_neg (by simpa using hb), if_neg (by simpa using hl), if_pos hf]
        rw [same (by rw [e]; decide), e, hl]
        exact (write_full h2 k hb _ cap hf).mono fun _ _ ⟨he, hw⟩ => by subst hw; exact ⟨he, h, keepsX_refl _⟩
      · have e : d.wrE (k : Int) x = 0 := by unfold DS.wrE; rw [if_neg (by simpa using hb), if_neg (by simpa using hl), if_neg hf]
        have e2 : d.wr (k : Int) x = d.write k x := by unfold DS.wr; rw [if_pos e]; rfl
        rw [e, e2]
        rw [hl] at hx ⊢
        refine (write_o h1' g0 cap (fun e => (hO g0 e).2 hX) hg0 k hk ho hg.1.2.2 (by omega) x hx hl).mono ?_
        rintro e w' ⟨rfl, O', R', h3, h4⟩
        exact ⟨rfl, hgo _ _ _ _ h4 h3⟩
    · have e : d.wrE (k : Int) x = 1 := by unfold DS.wrE; rw [if_neg (by simpa using hb), if_pos hl]
      rw [same (by rw [e]; decide), e]
      exact (write_len h2 k hb _ x.length cap hl).mono fun _ _ ⟨he, hw⟩ => by subst hw; exact ⟨he, h, keepsX_refl _⟩
  · have e : d.wrE at_ x = d.there at_ := by unfold DS.wrE; rw [if_pos hb]
    rw [same (by rw [e]; exact hb), e]
    exact (write_there h2 at_ (by simpa using hb) _).mono fun _ _ ⟨he, hw⟩ => by subst hw; exact ⟨he, h, keepsX_refl _⟩
theorem rWrite (h : DisksX w B X ((true, p, d) :: l)) (hB : B ≤ w.heap.size) (hg : d.Good) (at_ : Int) (g0 cap : Nat) (x : Bs) (hx : Bytes w (.slice (some ⟨g0, 0, none⟩) x.length cap) x) :
    Calls Try.prog 37 #[.pointer (some ⟨p, 0, none⟩), .int .i64 at_, .slice (some ⟨g0, 0, none⟩) x.length cap] w fun e w' => e = .returned (.int .i64 (d.wrE at_ x)) ∧ DisksX w' B X ((true, p, d.wr at_ x) :: l) ∧ Keeps (fun j => B ≤ j ∧ ¬ X j) w w' := by
  obtain ⟨O, R, h1, hO, hR, hgo⟩ := h.turn hB
  have h1' : RefO w O R p d := h1
  have same : d.wrE at_ x ≠ 0 → d.wr at_ x = d := fun e => by unfold DS.wr; rw [if_neg e]
  obtain ⟨fv, hv, h2⟩ := h1'.1
  by_cases hb : d.there at_ = 0
  · obtain ⟨ho, k, rfl, hk⟩ := DS.there_0 hb
    by_cases hl : x.length = 512
    · have hs := h2.small
      by_cases hf : d.back.length = 65536
      · have e : d.wrE (k : Int) x = 2 := by unfold DS.wrE; rw [if_neg (by simpa using hb), if_neg (by simpa using hl), if_pos hf]
        rw [same (by rw [e]; decide), e, hl]
        exact (rWrite_full h2 k ho hk _ cap hf).mono fun _ _ ⟨he, hw⟩ => by subst hw; exact ⟨he, h, keepsX_refl _⟩
      · have e : d.wrE (k : Int) x = 0 := by unfold DS.wrE; rw [if_neg (by simpa using hb), if_neg (by simpa using hl), if_neg hf]
        have e2 : d.wr (k : Int) x = d.write k x := by unfold DS.wr; rw [if_pos e]; rfl
        rw [e, e2]
        rw [hl] at hx ⊢
        refine (rWrite_ok h2 k hk ho hg.1 (by omega) g0 0 cap x hx hl).mono ?_
        rintro e w' ⟨rfl, O', h3, h4, h5⟩
        refine ⟨rfl, hgo w' O' R _ ⟨h5, h4, fun _ => .inl⟩ ⟨h3, fun j hj => (h4 j hj).elim (fun e => Nat.lt_of_lt_of_le (h1'.2.1 j e) h5.size) (·.2), fun j hj => Nat.lt_of_lt_of_le (h1'.2.2.1 j hj) h5.size, fun j hj hr => (h4 j hj).elim (fun e => h1'.2.2.2 j e hr) (fun e => by have := h1'.2.2.1 j hr; have := e.1; omega)⟩⟩
    · have e : d.wrE (k : Int) x = 1 := by unfold DS.wrE; rw [if_neg (by simpa using hb), if_pos hl]
      rw [same (by rw [e]; decide), e]
      exact (rWrite_len h2 k ho hk _ x.length cap hl).mono fun _ _ ⟨he, hw⟩ => by subst hw; exact ⟨he, h, keepsX_refl _⟩
  · have e : d.wrE at_ x = d.there at_ := by unfold DS.wrE; rw [if_pos hb]
    rw [same (by rw [e]; exact hb), e]
    rcases DS.there_ne hb with ⟨h3, h4⟩ | ⟨h3, h4, h5⟩
    · rw [h4]; exact (rWrite_off h2 at_ _ h3).mono fun _ _ ⟨he, hw⟩ => by subst hw; exact ⟨he, h, keepsX_refl _⟩
    · rw [h4]; exact (rWrite_block h2 at_ _ h3 h5).mono fun _ _ ⟨he, hw⟩ => by subst hw; exact ⟨he, h, keepsX_refl _⟩
theorem dFlush (h : DisksX w B X ((false, p, d) :: l)) (hB : B ≤ w.heap.size) (hg : d.Good) : Calls Try.prog 19 #[.pointer (some ⟨p, 0, none⟩)] w fun e w' => e = .returned (.int .i64 d.flE) ∧ DisksX w' B X ((false, p, d.fl) :: l) ∧ Keeps (fun j => B ≤ j ∧ ¬ X j) w w' := by
  obtain ⟨O, R, h1, hO, hR, hgo⟩ := h.turn hB
  have h1' : DiskO w O R p d := h1
  unfold DS.flE DS.fl
  cases ho : d.off with
  | true =>
    obtain ⟨gn, gf, vb, vs, h2⟩ := h1'.1
    simp only [if_true]
    exact (flush_off h2 ho).mono fun _ _ ⟨he, hb⟩ => ⟨he, h.below hb, Keeps.of_below hb⟩
  | false =>
    simp only [Bool.false_eq_true, if_false]
    refine (flush_o h1' ho hg.1.2.2).mono ?_
    rintro e w' ⟨rfl, h3, h4⟩
    exact ⟨rfl, hgo _ _ _ _ h4 h3⟩
theorem rFlush (h : DisksX w B X ((true, p, d) :: l)) (hB : B ≤ w.heap.size) (hg : d.Good) : Calls Try.prog 38 #[.pointer (some ⟨p, 0, none⟩)] w fun e w' => e = .returned (.int .i64 d.flE) ∧ DisksX w' B X ((true, p, d.fl) :: l) ∧ Keeps (fun j => B ≤ j ∧ ¬ X j) w w' := by
  obtain ⟨O, R, h1, hO, hR, hgo⟩ := h.turn hB
  have h1' : RefO w O R p d := h1
  obtain ⟨fv, hv, h2⟩ := h1'.1
  unfold DS.flE DS.fl
  cases ho : d.off with
  | true =>
    simp only [if_true]
    exact (rFlush_off h2 ho).mono fun _ _ ⟨he, hb⟩ => by subst hb; exact ⟨he, h, keepsX_refl _⟩
  | false =>
    simp only [Bool.false_eq_true, if_false]
    refine (rFlush_ok h2 ho hg.1).mono ?_
    rintro e w' ⟨rfl, h3, h4⟩
    obtain ⟨h5, h6⟩ := hgo w' O R _ ⟨h4, fun _ => .inl, fun _ => .inl⟩ ⟨h3, fun j hj => Nat.lt_of_lt_of_le (h1'.2.1 j hj) h4.size, fun j hj => Nat.lt_of_lt_of_le (h1'.2.2.1 j hj) h4.size, h1'.2.2.2⟩
    exact ⟨rfl, h5, h6⟩
theorem dFuse (h : DisksX w B X ((false, p, d) :: l)) (hB : B ≤ w.heap.size) (s : Int) : Calls Try.prog 20 #[.pointer (some ⟨p, 0, none⟩), .int .i64 s] w fun e w' => e = .returned (.int .i64 (d.fuE s)) ∧ DisksX w' B X ((false, p, d.fu s) :: l) ∧ Keeps (fun j => B ≤ j ∧ ¬ X j) w w' := by
  obtain ⟨O, R, h1, hO, hR, hgo⟩ := h.turn hB
  have h1' : DiskO w O R p d := h1
  unfold DS.fuE DS.fu
  by_cases hs : s < -1
  · rw [if_pos hs, if_pos hs]
    exact (fuse_bad p w s hs).mono fun _ _ ⟨he, hw⟩ => by subst hw; exact ⟨he, h, keepsX_refl _⟩
  · rw [if_neg hs, if_neg hs]
    cases ho : d.off with
    | true =>
      obtain ⟨gn, gf, vb, vs, h2⟩ := h1'.1
      simp only [if_true]
      exact (fuse_off h2 s (by omega) ho).mono fun _ _ ⟨he, hw⟩ => by subst hw; exact ⟨he, h, keepsX_refl _⟩
    | false =>
      simp only [Bool.false_eq_true, if_false]
      refine (fuse_o h1' s (by omega) ho).mono ?_
      rintro e w' ⟨rfl, h3, h4⟩
      exact ⟨rfl, hgo _ _ _ _ h4 h3⟩
theorem rFuse (h : DisksX w B X ((true, p, d) :: l)) (hB : B ≤ w.heap.size) (s : Int) : Calls Try.prog 39 #[.pointer (some ⟨p, 0, none⟩), .int .i64 s] w fun e w' => e = .returned (.int .i64 (d.fuE s)) ∧ DisksX w' B X ((true, p, d.fu s) :: l) ∧ Keeps (fun j => B ≤ j ∧ ¬ X j) w w' := by
  obtain ⟨O, R, h1, hO, hR, hgo⟩ := h.turn hB
  have h1' : RefO w O R p d := h1
  obtain ⟨fv, hv, h2⟩ := h1'.1
  unfold DS.fuE DS.fu
  by_cases hs : s < -1
  · rw [if_pos hs, if_pos hs]
    exact (rfuse_bad p w s hs).mono fun _ _ ⟨he, hw⟩ => by subst hw; exact ⟨he, h, keepsX_refl _⟩
  · rw [if_neg hs, if_neg hs]
    cases ho : d.off with
    | true =>
      simp only [if_true]
      exact (rfuse_off h2 s (by omega) ho).mono fun _ _ ⟨he, hw⟩ => by subst hw; exact ⟨he, h, keepsX_refl _⟩
    | false =>
      simp only [Bool.false_eq_true, if_false]
      refine (rfuse_any h2 s (by omega) ho).mono ?_
      rintro e w' ⟨rfl, h3, h4⟩
      have h4' : Keeps O w w' := h4.mono (fun b _ e => by rw [e]; exact h2.ownP)
      exact ⟨rfl, hgo w' O R _ ⟨h4', fun _ => .inl, fun _ => .inl⟩ ⟨⟨fv, hv, h3⟩, fun j hj => Nat.lt_of_lt_of_le (h1'.2.1 j hj) h4.size, fun j hj => Nat.lt_of_lt_of_le (h1'.2.2.1 j hj) h4.size, h1'.2.2.2⟩⟩
theorem dCrash (h : DisksX w B X ((false, p, d) :: l)) (hB : B ≤ w.heap.size) (ka : Option Addr) (kn kcap : Nat) (ks : Nat → Int) (hk : IntsAt w ka kn ks) (hka : ∀ x, ka = some x → 0 < kn → x.block < B ∨ X x.block) :
    Calls Try.prog 15 #[.pointer (some ⟨p, 0, none⟩), .slice ka kn kcap] w fun e w' => Got e ∧ DisksX w' B X ((false, p, d.crash (keepB kn ks)) :: l) ∧ Keeps (fun j => B ≤ j ∧ ¬ X j) w w' := by
  obtain ⟨O, R, h1, hO, hR, hgo⟩ := h.turn hB
  have h1' : DiskO w O R p d := h1
  refine (crash_o h1' ka kn kcap ks hk (fun x hx h0 e => (hka x hx h0).elim (fun h => by have := (hO _ e).1; omega) (fun h => (hO _ e).2 h))).mono ?_
  rintro e w' ⟨he, h3, h4⟩
  exact ⟨he, hgo _ _ _ _ h4 h3⟩
theorem rCrash (h : DisksX w B X ((true, p, d) :: l)) (hB : B ≤ w.heap.size) (ka : Option Addr) (kn kcap : Nat) (ks : Nat → Int) (hk : IntsAt w ka kn ks) (hka : ∀ x, ka = some x → 0 < kn → x.block < B ∨ X x.block) :
    Calls Try.prog 40 #[.pointer (some ⟨p, 0, none⟩), .slice ka kn kcap] w fun e w' => Got e ∧ DisksX w' B X ((true, p, d.crash (keepB kn ks)) :: l) ∧ Keeps (fun j => B ≤ j ∧ ¬ X j) w w' := by
  obtain ⟨O, R, h1, hO, hR, hgo⟩ := h.turn hB
  have h1' : RefO w O R p d := h1
  obtain ⟨fv, hv, h2⟩ := h1'.1
  refine (rCrash_ok h2 ka kn kcap ks hk (fun x hx h0 e => (hka x hx h0).elim (fun h => by have := (hO _ e).1; omega) (fun h => (hO _ e).2 h))).mono ?_
  rintro e w' ⟨he, h3, h4⟩
  exact ⟨he, hgo w' O R _ ⟨h4, fun _ => .inl, fun _ => .inl⟩ ⟨h3, fun j hj => Nat.lt_of_lt_of_le (h1'.2.1 j hj) h4.size, fun j hj => Nat.lt_of_lt_of_le (h1'.2.2.1 j hj) h4.size, h1'.2.2.2⟩⟩
end Go.Proofs.Ythdefaodioapbaa
