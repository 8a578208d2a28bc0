/- Kept. -/
import Derived.Test.YtpnbmfibooglgaaDoorNames
namespace Go.Proofs.YtpnbmfibooglgaaDoor
open Go.RowKit Go.Shelf

attribute [local go_sem] Oper.semAt_some

def isTs (l : Bs) : Bool := Lib.hasPrefix l [46, 116, 115]
/-- what Kept tells -/
def keptB (s : Bs) : Bool := validB s && (splitB s).any isTs
theorem results_bool {fn : Func} {p : Tmp} (h : fn.results = #[.cell p 4]) (tmps : Array Value) (w : World) (g : Nat) (b : Bool) (hp : tmps.getD p undef = .pointer (some ⟨g, 0, none⟩)) (hc : w.cell? ⟨g, 0, none⟩ = some (.bool b)) :
    (results fn tmps).run Tryd.prog w = .ok (.bool b) w := by
  have hp' : tmps[p]?.getD undef = .pointer (some ⟨g, 0, none⟩) := by simpa using hp
  simp [results, h, hp', asAddr, go_sem, hc]
/-- the answer's cell, and what has been seen -/
def KeptI (w0 : World) (b : Nat) (x : Bool) (G : Prop) (W : World) : Prop := (Boxed W b 4 (.bool x) ∧ G) ∧ Below b w0 W
theorem mem_upto (N : Nat) : ∀ (k : Nat) (h : k ≤ N) (i : Nat), (hi : i < k) → (⟨i, Nat.lt_of_lt_of_le hi h⟩ : Ix N) ∈ uptoI N k h
  | 0, _, _, hi => absurd hi (Nat.not_lt_zero _)
  | k + 1, h, i, hi => by
    rw [uptoI, List.mem_append]
    by_cases hk : i < k
    · exact .inl (mem_upto N k (Nat.le_of_succ_le h) i hk)
    · obtain rfl : i = k := by omega
      exact .inr (List.mem_singleton.2 rfl)
theorem keptI_own {β : Type} {w0 : World} {b n₀ : Nat} {x : Bool} {G : β → Prop} (h0 : b ≤ w0.heap.size) (h1 : b ≤ n₀) : OwnFrom n₀ (fun s W => KeptI w0 b x (G s) W) := fun s X Y row h hg hr =>
  ⟨⟨h.1.1.kept hg (fun e' => by
    obtain ⟨_, o, ho, hc⟩ := hr b e'.symm
    rw [show X.heap[b]? = _ from h.1.1] at ho
    cases ho
    cases hc), h.1.2⟩, ownFrom_below (β := β) h0 h1 s X Y row h.2 hg hr⟩

set_option maxRecDepth 100000 in
set_option maxHeartbeats 4000000 in
theorem kept_yes (s : ByteArray) (w : World) (hs : s.size ≤ 1000000) (hv : validB s.data.toList = true) (V : Bool) (HV : Hid ((splitB s.data.toList).any isTs = V)) : Calls Tryd.prog 17 #[.string s] w fun e w' => e = .returned (.bool V) ∧ Below w.heap.size w w' := by
  have HVAL := Lib.hid (fun w => callsIn_wide (n := 3).2 (valid_any s w hs))
  rw [hv] at HVAL
  clear hv
  obtain ⟨L, hL⟩ : ∃ L, splitB s.data.toList = L := ⟨_, rfl⟩
  rw [hL] at HV
  have hst := each_stops s hs L hL
  clear hL
  refine (callsIn_wide (n := 4)).1 (callsIn_of_wp_marks Tryd.func17 rfl trivial ?_ rfl)
  simp only [Tryd.ntmps17, List.size_toArray, List.length_cons, List.length_nil, Nat.reduceAdd, Nat.reduceSub, Array.replicate_succ, Array.replicate_zero, List.push_toArray, List.append_toArray, List.nil_append, List.cons_append]
  gi_wp2_with (first | (refine ⟨trivial, ?_⟩; gi_at_call 11; refine (HVAL.out _).mono ?_; rintro e w1 ⟨rfl, hb1⟩) | (refine ⟨trivial, ?_⟩; gi_at_call 30; refine (each_in s _ _).mono ?_; rintro e w' ⟨rfl, rfl⟩))
  have hz1 := hb1.size
  rw [World.size_alloc] at hz1
  have bR0 : Boxed w1 w.heap.size 4 (.bool false) := (hb1.block _ (by simp)).trans (Boxed.new w 4 (.bool false))
  have bN := Boxed.new w1 9 (.string s)
  have bR := bR0.alloc (.cells #[.string s] 9)
  have hB0 : Below w.heap.size w (w1.alloc (.cells #[.string s] 9)) := (((Below.refl _ w).alloc (Nat.le_refl _) _).trans (hb1.mono (by simp))).alloc (by omega) _
  have hsz : (w1.alloc (.cells #[.string s] 9)).heap.size = w1.heap.size + 1 := by simp
  clear bR0
  refine wpIn_rangeFunc_ownH rfl (by decide) (gf := 36) (lb := #[.pointer (some ⟨w1.heap.size, 0, none⟩)]) rfl trivial (enters_of Tryd.func36 (by kernel_rfl) rfl)
    (hst _ (by decide) _ (w1.heap.size) bN.cell bN.lt) KeptRow.t (KeptRow.b (by rw [hsz]; omega)) (Below.refl _ _) (fun _ => rfl)
    (fun (pre : List (Ix L.length)) W => KeptI w w.heap.size false (∀ x ∈ pre, isTs (L[x.1]'x.2) = false) W)
    (fun c _ W => KeptI w w.heap.size true (c = .ret ∧ V = true) W)
    (keptI_own (Nat.le_refl _) (by rw [hsz]; omega))
    (fun c => keptI_own (β := List (Ix L.length)) (G := fun _ => c = .ret ∧ V = true) (Nat.le_refl _) (by rw [hsz]; omega))
    ⟨⟨bR, fun x hx => absurd hx List.not_mem_nil⟩, hB0⟩
    (fun (x : Ix L.length) a' W => a' = { tmps := #[.string s, undef, .pointer (some ⟨w.heap.size, 0, none⟩), undef, .string ⟨(L[x.1]'x.2).toArray⟩, .string s, .bool true, .bool false, .string s, .func (.func 36) #[] #[.pointer (some ⟨w1.heap.size, 0, none⟩)], .int .i64 ((fromOf L x.1 + (L[x.1]'x.2).length : Nat) : Int), .string ⟨(L[x.1]'x.2).toArray⟩, undef, undef], defers := [] })
    (fun x a' _ A C row hA hg hr => hA) ?assign ?body ?done ?stop
  case assign =>
    rintro l pre x W K hI hK
    dsimp only [eachV]
    gi_wp2
    exact hK _ _ ((KeepsOthers.refl _).from _) ⟨Nat.le_refl _, rfl⟩ hI rfl
  case body =>
    rintro l pre x a' W hl _ ⟨⟨hbx, hno⟩, hB⟩ rfl hlt
    have hc := hbx.cell
    have hf := hbx.frozen
    have HP := Tryd.strings_HasPrefix ⟨(L[x.1]'x.2).toArray⟩ ⟨#[46, 116, 115]⟩ W
    change Calls Tryd.prog 27 _ W fun e w' => e = .returned (.bool (isTs (L[x.1]'x.2))) ∧ w' = W at HP
    have HQ := Lib.hid (CallsIn.inRound l (callsIn_wide (n := 1).2 HP))
    have HVT : Hid (isTs (L[x.1]'x.2) = true → V = true) := fun h => by rw [← HV.out, List.any_eq_true]; exact ⟨_, List.getElem_mem x.2, h⟩
    have HVF : Hid (isTs (L[x.1]'x.2) = false → ∀ y ∈ pre ++ [x], isTs (L[y.1]'y.2) = false) := fun h y hy => by
      rcases List.mem_append.1 hy with h1 | h1
      · exact hno y h1
      · rw [List.mem_singleton] at h1
        subst h1
        exact h
    clear HP hno
    generalize (⟨(L[x.1]'x.2).toArray⟩ : ByteArray) = nm at *
    generalize isTs (L[x.1]'x.2) = b at *
    cases b with
    | true =>
      gi_wp2_with (refine ⟨trivial, ?_⟩; gi_at_call 27; refine (HQ.out).mono ?_; rintro e w' ⟨rfl, rfl⟩)
      exact ⟨(KeepsOthers.setCell _ _ _).from _, ⟨⟨hbx.set _, rfl, HVT.out trivial⟩, hB.setCell (Nat.le_refl _) _⟩⟩
    | false =>
      gi_wp2_with (refine ⟨trivial, ?_⟩; gi_at_call 27; refine (HQ.out).mono ?_; rintro e w' ⟨rfl, rfl⟩)
      exact ⟨(KeepsOthers.refl _).from _, ⟨Nat.le_refl _, rfl⟩, ⟨⟨hbx, HVF.out trivial⟩, hB⟩⟩
  case done =>
    rintro D ys W hD rfl ⟨⟨hbx, hno⟩, hB⟩ hK
    have hD' : w.heap.size < D := by rw [hsz] at hD; omega
    have hc := hbx.cell
    have hf := hbx.frozen
    gi_wp2
    refine ⟨by simp, .inl ⟨_, _, rfl, run_takeDeferred (by rw [Below.heap_setCell _ _ _ _ (by show D ≠ w.heap.size; rw [hsz] at hD; omega)]; exact hK), ?_⟩⟩
    have hV : V = false := by
      rw [← HV.out, List.any_eq_false]
      intro y hy
      obtain ⟨k, hk, rfl⟩ := List.getElem_of_mem hy
      simp [hno ⟨k, hk⟩ (mem_upto _ _ _ _ hk)]
    have hcell : ((W.setCell ⟨w.heap.size, 0, none⟩ (.bool false)).putObj D (.deferred none)).cell? ⟨w.heap.size, 0, none⟩ = some (.bool false) := by
      refine (World.cell?_of_block (World.putObj_heap_other (by show w.heap.size ≠ D; omega))).trans ?_
      exact (hbx.set (.bool false)).cell
    have hb3 := (hB.setCell (p := ⟨w.heap.size, 0, none⟩) (Nat.le_refl _) (.bool false)).trans (belowK_b (w := w) (Nat.le_refl _) _ D _ (.deferred none) (by rw [hsz] at hD; omega) (by rw [Below.heap_setCell _ _ _ _ (by show D ≠ w.heap.size; rw [hsz] at hD; omega)]; exact hK) rfl rfl)
    exact ⟨_, results_bool rfl _ _ _ _ rfl hcell, by rw [hV], hb3⟩
  case stop =>
    rintro D c pre W hD _ ⟨⟨hbx, rfl, hV⟩, hB⟩ hK
    have hD' : w.heap.size < D := by rw [hsz] at hD; omega
    have hc := hbx.cell
    gi_wp2
    refine ⟨by simp, .inl ⟨_, _, rfl, run_takeDeferred hK, ?_⟩⟩
    have hcell : (W.putObj D (.deferred none)).cell? ⟨w.heap.size, 0, none⟩ = some (.bool true) :=
      (World.cell?_of_block (World.putObj_heap_other (by show w.heap.size ≠ D; omega))).trans hbx.cell
    have hb3 := hB.trans (belowK_b (w := w) (Nat.le_refl _) _ D _ (.deferred none) (by rw [hsz] at hD; omega) hK rfl rfl)
    exact ⟨_, results_bool rfl _ _ _ _ rfl hcell, by rw [hV], hb3⟩
end Go.Proofs.YtpnbmfibooglgaaDoor
