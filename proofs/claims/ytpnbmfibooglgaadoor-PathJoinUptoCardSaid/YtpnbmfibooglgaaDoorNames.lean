/- Names. -/
import Derived.Test.YtpnbmfibooglgaaDoorEach
namespace Go.Proofs.YtpnbmfibooglgaaDoor
open Go.RowKit Go.Shelf

attribute [local go_sem] Oper.semAt_some

theorem KeptRow.t {b : Nat} {A B C : World} (h : KeptRow b A B) (k : KeptRow b B C) : KeptRow b A C := ⟨Nat.le_trans h.1 k.1, k.2.trans h.2⟩
theorem KeptRow.b {b n₀ : Nat} (hw : b < n₀) (W : World) (l : Nat) (o o' : Obj) (hl : n₀ ≤ l) (_ : W.heap[l]? = some o) (_ : o.isCells = false) (_ : o.isWalk = false) : KeptRow b W (W.putObj l o') :=
  ⟨by simp, World.putObj_heap_other (by omega)⟩
theorem KeptRow.below {b n₀ : Nat} {W W' : World} (hw : b < n₀) (h : Below n₀ W W') : KeptRow b W W' := ⟨h.size, h.block b hw⟩
/-- what the iterator hands over in round k -/
def eachV (L : List Bs) (x : Ix L.length) : Array Value := #[.int .i64 ((fromOf L x.1 + (L[x.1]'x.2).length : Nat) : Int), .string ⟨(L[x.1]'x.2).toArray⟩]
theorem each_stops (s : ByteArray) (hs : s.size ≤ 1000000) (L : List Bs) (hL : splitB s.data.toList = L) (n : Nat) (hn : 1 ≤ n) (w1 : World) (B : Nat) (hB : w1.cell? ⟨B, 0, none⟩ = some (.string s)) (hBl : B < w1.heap.size) :
    SeqStopsK Fence.wide n Tryd.prog 36 #[.pointer (some ⟨B, 0, none⟩)] (eachV L) (KeptRow B) (fun ys => ys = uptoI L.length L.length (Nat.le_refl _)) (fun _ => True) L.length w1 := fun l J Jx W hW hJ _ hY h0 => by
  have hBW := (hW.cell (p := ⟨B, 0, none⟩) hBl).trans hB
  exact iter_in n hn l B s hs L hL J Jx hY W hBW h0
theorem owns_base {w : World} {b b' : Nat} {e : TypeId} {size : Nat} {v : Value} {n : Nat} {xs : List Value} (h : w.ownsRow b e size v n xs) (hb : b' ≤ b) : w.ownsRow b' e size v n xs := by
  refine ⟨h.1, ?_⟩
  rcases h.2 with h' | ⟨g, cap, cur, h1, h2, h3⟩
  · exact .inl h'
  · exact .inr ⟨g, cap, cur, h1, Nat.le_trans hb h2, h3⟩
theorem strs_upto (L : List Bs) : (uptoI L.length L.length (Nat.le_refl _)).map (fun x => Value.string ⟨(L[x.1]'x.2).toArray⟩) = strs L := by
  have key : ∀ k (h : k ≤ L.length), (uptoI L.length k h).map (fun x => Value.string ⟨(L[x.1]'x.2).toArray⟩) = strs (L.take k) := by
    intro k
    induction k with
    | zero => intro _; rfl
    | succ k ih =>
      intro h
      rw [uptoI, List.map_append, ih (Nat.le_of_succ_le h), List.take_succ_eq_append_getElem h, strs_snoc]
      rfl
  rw [key, List.take_length]
/-- as wpListIn_append_own; where the new row lies -/
theorem wpListIn_append_own_at {F : Fence} {n : Nat} {P : Program} (w : World) {ops : Array Oper} {rest : List Oper} {o : Oper} {a : Act} {Q : Exit → Act → World → Prop}
    (hg : o.guard = none) (s x : Operand) (t : TypeId) (hop : o.op = Op.call { callee := Callee.builtin Builtin.append, args := #[s, x], argTypes := #[t, t] })
    (base : Nat) (e : TypeId) (i : TypeInfo) (z : Value) (size bytes : Nat) (h1 : P.underlying t = some (.slice e)) (h2 : P.info? e = some i) (h3 : i.zero = some z) (h4 : i.size = size) (h5 : i.bytes = bytes) (h6 : z.cells.size = size) (h7 : 0 < size)
    (v : Value) (k : Nat) (xs : List Value) (hs : a.eval s = v) (hown : w.ownsRow base e size v k xs) (ad : Addr) (m c : Nat) (news : List Value) (hx : a.eval x = .slice (some ad) m c) (hn : news.length = m * size)
    (hc : ∀ j u, news[j]? = some u → w.cell? (ad.add j) = some u) (h1c : ∀ u ∈ news, u.oneCell' = true) (b1 : k + m ≤ maxLen) (b2 : (k + m) * bytes ≤ 140737488355328) (b3 : base ≤ w.heap.size)
    (hK : ∀ v' w', w'.ownsRow base e size v' (k + m) (xs ++ news) → w.grownBy w' v.ownBlock → (v'.ownBlock = v.ownBlock ∨ v'.ownBlock = some w.heap.size) → wpListIn F n P ops Q rest (a.put o.dst v') w') :
    wpListIn F n P ops Q (o :: rest) a w := by
  refine wpListIn_plain hg fun K hK' => ?_
  obtain ⟨v', w', hrun, r1, r2, _, r3⟩ := run_append_own_at (P := P) w base t o.type e i z size bytes h1 h2 h3 h4 h5 h6 h7 v k xs hown ad m c news hn hc h1c b1 b2 b3
  unfold Oper.wpIn
  refine ⟨?_, ?_⟩
  · simp [Oper.about, hop, resolve, Target.leads, Sem.run_pure]
  · rw [Oper.semAt_plain F _ _ (by rw [hop]; intro c hc'; cases hc')]
    simp [execOp, hop, resolve, invoke, builtin, hs, hx, hrun, Result.andThen]
    exact hK' _ _ (hK v' w' r1 r2 r3)
theorem split_short : ∀ (r l : Bs), (splitAux l r).length ≤ r.length + 1
  | [], _ => by simp [splitAux]
  | c :: r, l => by
    unfold splitAux
    split
    · have := split_short r []
      simp
      omega
    · have := split_short r (l ++ [c])
      simp
      omega
theorem kept_beta {W w2 : World} {o : Obj} {v u : Value} {a b : Nat} (hg : (W.alloc o).grownBy w2 v.ownBlock) (hne : v.ownBlock ≠ some (a + 1)) (hb : a + 1 < W.heap.size) (hsz : W.heap.size ≤ (w2.setCell ⟨a, b, none⟩ u).heap.size) : KeptRow (a + 1) W (w2.setCell ⟨a, b, none⟩ u) := by
  have k : Keeps (fun j => v.ownBlock = some j ∨ j = a) W (w2.setCell ⟨a, b, none⟩ u) := ((Keeps.of_below ((Below.refl W.heap.size W).alloc (Nat.le_refl _) _)).grown hg (fun j e => .inl (.inl e))).setCell ⟨a, b, none⟩ u (.inl (.inr rfl))
  exact ⟨hsz, k.block _ hb (fun e => e.elim hne (by omega))⟩
/-- what Names tells -/
def namesB (s : Bs) : List Bs := if validB s = true then splitB s else []

set_option maxRecDepth 100000 in
set_option maxHeartbeats 4000000 in
theorem names_yes (s : ByteArray) (w : World) (hs : s.size ≤ 1000000) (hv : validB s.data.toList = true) : Calls Tryd.prog 18 #[.string s] w fun e w' => ∃ v, e = .returned v ∧ w'.ownsRow w.heap.size 9 1 v (splitB s.data.toList).length (strs (splitB s.data.toList)) ∧ Below w.heap.size w w' := by
  obtain ⟨i0, hi, hz0, hz1, hz2⟩ := info_parts infoS
  have HVAL := Lib.hid (callsIn_wide (n := 3).2 (valid_any s w hs))
  rw [hv] at HVAL
  clear hv
  obtain ⟨L, hL⟩ : ∃ L, splitB s.data.toList = L := ⟨_, rfl⟩
  rw [hL]
  have hst := each_stops s hs L hL
  have hll : L.length ≤ s.size + 1 := by
    have := split_short s.data.toList []
    rw [← hL]
    simpa [splitB] using this
  clear hL
  refine (callsIn_wide (n := 4)).1 (callsIn_of_wp_marks Tryd.func18 rfl trivial ?_ rfl)
  simp only [Tryd.ntmps18, List.size_toArray, List.length_cons, List.length_nil, Nat.reduceAdd, Nat.reduceSub, Array.replicate_succ, Array.replicate_zero, List.push_toArray, List.append_toArray, List.nil_append, List.cons_append]
  gi_wp2_with (first | (refine ⟨trivial, ?_⟩; gi_at_call 11; refine (HVAL.out).mono ?_; rintro e w1 ⟨rfl, hb1⟩) | (refine ⟨trivial, ?_⟩; gi_at_call 30; refine (each_in s _ _).mono ?_; rintro e w' ⟨rfl, rfl⟩))
  have HB1 := Lib.hid hb1
  clear hb1
  have bO := Boxed.new w1 30 (.slice none 0 0)
  have bN := Boxed.new (w1.alloc (.cells #[.slice none 0 0] 30)) 9 (.string s)
  rw [World.size_alloc] at bN
  have hB0 : Below w1.heap.size w1 ((w1.alloc (.cells #[.slice none 0 0] 30)).alloc (.cells #[.string s] 9)) := ((Below.refl _ w1).alloc (Nat.le_refl _) _).alloc (by simp) _
  have hsz : ((w1.alloc (.cells #[.slice none 0 0] 30)).alloc (.cells #[.string s] 9)).heap.size = w1.heap.size + 2 := by simp
  refine wpIn_rangeFunc_ownH rfl (by decide) (gf := 36) (lb := #[.pointer (some ⟨w1.heap.size + 1, 0, none⟩)]) rfl trivial (enters_of Tryd.func36 (by kernel_rfl) rfl)
    (hst _ (by decide) _ (w1.heap.size + 1) bN.cell bN.lt) KeptRow.t (KeptRow.b (by rw [hsz]; omega)) (Below.refl _ _) (fun _ => rfl)
    (fun (pre : List (Ix L.length)) W => (∃ v, Boxed W w1.heap.size 30 v ∧ W.ownsRow w1.heap.size 9 1 v pre.length (pre.map fun x => .string ⟨(L[x.1]'x.2).toArray⟩) ∧ v.ownBlock ≠ some (w1.heap.size + 1)) ∧ Below w1.heap.size ((w1.alloc (.cells #[.slice none 0 0] 30)).alloc (.cells #[.string s] 9)) W)
    (fun _ _ _ => False)
    (OwnFrom.and (Own.from (holdsRow_own w1.heap.size w1.heap.size 30 9 1 (fun (pre : List (Ix L.length)) => pre.length) (fun (pre : List (Ix L.length)) => pre.map fun x => .string ⟨(L[x.1]'x.2).toArray⟩) (fun _ v => v.ownBlock ≠ some (w1.heap.size + 1))) _) (ownFrom_below (by rw [hsz]; omega) (by rw [hsz]; omega)))
    (fun _ _ _ _ _ hs _ _ => hs)
    ⟨⟨_, bO.alloc _, World.ownsRow_nil _ _ _ _, by simp [Value.ownBlock]⟩, Below.refl _ _⟩
    (fun (x : Ix L.length) a' W => a' = { tmps := #[.string s, undef, .slice none 0 0, .pointer (some ⟨w1.heap.size, 0, none⟩), undef, .string ⟨(L[x.1]'x.2).toArray⟩, .string s, .bool true, .bool false, .string s, .func (.func 36) #[] #[.pointer (some ⟨w1.heap.size + 1, 0, none⟩)], .int .i64 ((fromOf L x.1 + (L[x.1]'x.2).length : Nat) : Int), .string ⟨(L[x.1]'x.2).toArray⟩, undef, undef, undef, undef, undef], defers := [] })
    (fun x a' _ A C row hA hg hr => hA) ?assign ?body ?done ?stop
  case assign =>
    rintro l pre x W K ⟨⟨v, hv, hrow, hne⟩, hB⟩ hK
    dsimp only [eachV]
    gi_wp2
    exact hK _ _ ((KeepsOthers.refl _).from _) ⟨Nat.le_refl _, rfl⟩ ⟨⟨v, hv, hrow, hne⟩, hB⟩ rfl
  case body =>
    rintro l pre x a' W hl _ ⟨⟨v, hv, hrow, hne⟩, hB⟩ rfl hlt
    have hc := hv.cell
    have hzz := hB.size
    rw [hsz] at hzz
    generalize hnm : (⟨(L[x.1]'x.2).toArray⟩ : ByteArray) = nm
    have HNM := Lib.hid hnm
    clear hnm
    gi_wp2_with (gi_at_builtin; refine wpListIn_append_own_at _ rfl (.tmp 13) (.tmp 15) 30 rfl w1.heap.size 9 i0 (.string ⟨#[]⟩) 1 16 Tryd.underlying30 hi hz0 hz1 hz2 rfl (by decide) _ _ _ rfl (hrow.alloc _) ⟨W.heap.size, 0, none⟩ 1 1 [.string nm] rfl rfl (cell_one_new _ _ _) (by simp [Value.oneCell']) (by unfold maxLen; omega) (by omega) (by simp; omega) ?_; intro v' w2 hown' hgrow hat; obtain ⟨g', cap', rfl⟩ := ownsRow_succ hown'; obtain ⟨hv1, hv2, hr2, hk2, hb2⟩ := hv.appended (by decide) hrow (by omega) (Nat.le_refl _) hown' hgrow; have hkr : Hid (KeptRow (w1.heap.size + 1) W (w2.setCell ⟨w1.heap.size, 0, none⟩ (.slice (some ⟨g', 0, none⟩) (pre.length + 1) cap'))) := kept_beta hgrow hne (by omega) hb2.size; have hc1 := hv1.cell; have hf1 := hv1.frozen)
    refine ⟨hk2.from _, hkr.out, ⟨⟨_, hv2, by simpa [HNM.out] using hr2, fun e => ?_⟩, hB.trans hb2⟩⟩
    rcases hat with h | h
    · exact hne (h.symm.trans e)
    · have := h.symm.trans e
      simp at this
      omega
  case done =>
    rintro D ys W hD rfl ⟨⟨v, hv, hrow, hne⟩, hB⟩ hK
    have hc := hv.cell
    gi_wp2
    refine ⟨by simp, .inl ⟨_, _, rfl, run_takeDeferred hK, ?_⟩⟩
    have hb3 := ((hB0.trans hB).trans (belowK_b (w := w1) (Nat.le_refl _) W D _ (.deferred none) (by rw [hsz] at hD; omega) hK rfl rfl))
    refine ⟨_, results_tmp rfl _ _ _, v, rfl, ?_, HB1.out.trans (hb3.mono HB1.out.size)⟩
    have := owns_base (ownsRow_putObj hrow (.deferred none) hK rfl) HB1.out.size
    rw [uptoI_length] at this
    rw [← strs_upto L]
    exact this
  case stop =>
    rintro D c pre W _ _ h _
    exact h.elim
set_option maxHeartbeats 400000 in
theorem names_no (s : ByteArray) (w : World) (hs : s.size ≤ 1000000) (hv : validB s.data.toList = false) : Calls Tryd.prog 18 #[.string s] w fun e w' => ∃ v, e = .returned v ∧ w'.ownsRow w.heap.size 9 1 v 0 [] ∧ Below w.heap.size w w' := by
  have HVAL := Lib.hid (valid_any s w hs)
  rw [hv] at HVAL
  clear hv
  go_enter Tryd.func18, Tryd.ntmps18
  go_wp2_with fail
  refine (HVAL.out).mono ?_
  rintro e w1 ⟨rfl, hb⟩
  go_wp2_with fail
  go_ret
  exact ⟨_, rfl, World.ownsRow_nil _ _ _ _, hb⟩
theorem names_any (s : ByteArray) (w : World) (hs : s.size ≤ 1000000) : Calls Tryd.prog 18 #[.string s] w fun e w' => ∃ v, e = .returned v ∧ w'.ownsRow w.heap.size 9 1 v (namesB s.data.toList).length (strs (namesB s.data.toList)) ∧ Below w.heap.size w w' := by
  unfold namesB
  cases hv : validB s.data.toList with
  | true => exact names_yes s w hs hv
  | false => exact names_no s w hs hv
end Go.Proofs.YtpnbmfibooglgaaDoor
