/- What a crash leaves. -/
import Derived.Test.YthfncgbkigmmcaaL20
namespace Go.Proofs.Ythfncgbkigmmcaa
open Go.RowKit

/-- the last write to a block -/
def lastW : List (Nat × Bs) → Nat → Option Bs
  | [], _ => none
  | (a, x) :: r, k => match lastW r k with
    | some y => some y
    | none => if a = k then some x else none
def Fits (n : Nat) (ws : List (Nat × Bs)) : Prop := ∀ x ∈ ws, x.1 < n ∧ x.2.length = 512
theorem blockAt_lay {n : Nat} : ∀ (ws : List (Nat × Bs)) {I : Bs}, I.length = 512 * n → Fits n ws → ∀ k, blockAt (layAll I ws) k = (lastW ws k).getD (blockAt I k)
  | [], I, _, _, k => rfl
  | (a, x) :: r, I, hI, hw, k => by
    have hx := hw (a, x) (by simp)
    have := blockAt_lay r (I := putAt I a x) (putAt_length hI hx.1 hx.2) (fun y hy => hw y (by simp [hy])) k
    change blockAt (layAll (putAt I a x) r) k = _
    rw [this, lastW]
    cases lastW r k with
    | some y => rfl
    | none =>
      by_cases h : a = k
      · subst h
        rw [if_pos rfl]
        exact blockAt_put hI hx.1 hx.2
      · rw [if_neg h]
        exact blockAt_other hI hx.1 hx.2 (fun e => h e.symm)
theorem lastW_none : ∀ {ws : List (Nat × Bs)} {k : Nat}, (∀ x ∈ ws, x.1 ≠ k) → lastW ws k = none
  | [], k, _ => rfl
  | (a, x) :: r, k, h => by
    rw [lastW, lastW_none (fun y hy => h y (by simp [hy])), if_neg (h (a, x) (by simp))]
theorem lastW_some : ∀ {ws : List (Nat × Bs)} {k : Nat}, lastW ws k = none → ∀ x ∈ ws, x.1 ≠ k
  | [], k, _, x, hx => by cases hx
  | (a, y) :: r, k, h, x, hx => by
    rw [lastW] at h
    cases hr : lastW r k with
    | some z => rw [hr] at h; cases h
    | none =>
      rw [hr] at h
      simp only at h
      split at h
      · cases h
      · rcases List.mem_cons.1 hx with rfl | hx
        · assumption
        · exact lastW_some hr x hx
theorem Fits.sub {n : Nat} {ws sub : List (Nat × Bs)} (h : Fits n ws) (hs : sub.Sublist ws) : Fits n sub := fun x hx => h x (hs.subset hx)
/-- what is laid in part, then whole -/
theorem lay_again {n : Nat} {I : Bs} {ws sub : List (Nat × Bs)} (hI : I.length = 512 * n) (hw : Fits n ws) (hs : sub.Sublist ws) (k : Nat) : blockAt (layAll (layAll I sub) ws) k = blockAt (layAll I ws) k := by
  rw [blockAt_lay ws (layAll_length sub hI (hw.sub hs)) hw, blockAt_lay ws hI hw, blockAt_lay sub hI (hw.sub hs)]
  cases h : lastW ws k with
  | some x => rfl
  | none =>
    rw [lastW_none (ws := sub) (fun x hx => lastW_some h x (hs.subset hx))]
    rfl
theorem lay_other {n : Nat} {I : Bs} {ws : List (Nat × Bs)} (hI : I.length = 512 * n) (hw : Fits n ws) (k : Nat) (h : ∀ x ∈ ws, x.1 ≠ k) : blockAt (layAll I ws) k = blockAt I k := by
  rw [blockAt_lay ws hI hw, lastW_none h]
  rfl

/-- a disk that holds nothing back -/
structure Rest (n : Nat) (I : Bs) (D : DS) : Prop where
  hn : D.n = n
  fast : D.fast = I
  back : D.back = []
  now : D.now = I
  len : I.length = 512 * n
/-- what a crash may leave -/
structure Cr (n : Nat) (P : Bs → Prop) (D : DS) : Prop where
  hn : D.n = n
  len : D.fast.length = 512 * n
  fits : Fits n D.back
  p : ∀ sub, sub.Sublist D.back → P (layAll D.fast sub)
theorem Cr.mono {n : Nat} {P Q : Bs → Prop} {D : DS} (h : Cr n P D) (hp : ∀ I, P I → Q I) : Cr n Q D := ⟨h.hn, h.len, h.fits, fun s hs => hp _ (h.p s hs)⟩
theorem Rest.cr {n : Nat} {I : Bs} {D : DS} {P : Bs → Prop} (h : Rest n I D) (hp : P I) : Cr n P D :=
  ⟨h.hn, by rw [h.fast]; exact h.len, (by rw [h.back]; intro x hx; cases hx), fun s hs => by rw [h.back] at hs; rw [List.eq_nil_of_sublist_nil hs, h.fast]; exact hp⟩
theorem kept_sub (d : DS) (kb : Nat → Bool) : (d.kept kb).Sublist d.back := by
  unfold DS.kept selI
  have h1 : ((uptoI d.back.length d.back.length (Nat.le_refl _)).filter fun x => kb x.1).Sublist (uptoI d.back.length d.back.length (Nat.le_refl _)) := List.filter_sublist
  have h2 := h1.map (fun x => d.back[x.1]'x.2)
  have h3 : ∀ m (hm : m ≤ d.back.length), (uptoI d.back.length m hm).map (fun x => d.back[x.1]'x.2) = d.back.take m := by
    intro m
    induction m with
    | zero => intro hm; rfl
    | succ m ih =>
      intro hm
      rw [uptoI, List.map_append, ih (by omega), List.take_succ_eq_append_getElem (by omega)]
      rfl
  rw [h3 _ (Nat.le_refl _), List.take_length] at h2
  exact h2
theorem Cr.crash {n : Nat} {P : Bs → Prop} {D : DS} (h : Cr n P D) (kb : Nat → Bool) : ∃ I, Rest n I (D.crash kb) ∧ P I ∧ (D.crash kb).off = false ∧ (D.crash kb).left = -1 :=
  ⟨layAll D.fast (D.kept kb), ⟨h.hn, rfl, rfl, rfl, layAll_length _ h.len (h.fits.sub (kept_sub D kb))⟩, h.p _ (kept_sub D kb), rfl, rfl⟩

def asW (ws : List (Nat × Bs)) : List LOp := ws.map fun x => .w x.1 x.2
/-- writes that are made fast: till the power fails, or all of them -/
theorem phase {n : Nat} {I : Bs} (P : Bs → Prop) (hI : I.length = 512 * n) (ws : List (Nat × Bs)) (hw : Fits n ws) (hP : ∀ sub, sub.Sublist ws → P (layAll I sub)) (rest : List LOp) :
    ∀ (suf pre : List (Nat × Bs)) (D : DS), pre ++ suf = ws → D.n = n → D.fast = I → D.back = pre → D.now = layAll I pre →
      (∃ D', runL (asW suf ++ .f :: rest) D = (D', false) ∧ Cr n P D') ∨ (∃ D', runL (asW suf ++ .f :: rest) D = runL rest D' ∧ Rest n (layAll I ws) D')
  | [], pre, D, e, hn, hf, hb, hnw => by
    rw [List.append_nil] at e
    subst e
    have hcr : Cr n P D := ⟨hn, by rw [hf]; exact hI, by rw [hb]; exact hw, fun s hs => by rw [hf]; rw [hb] at hs; exact hP s hs⟩
    cases ho : D.off with
    | true => exact .inl ⟨D, runL_off ho, hcr⟩
    | false => exact .inr ⟨D.flush, runL_on ho, by rw [flush_n]; exact hn, by rw [flush_fast, hf, hb], flush_back D, by rw [flush_now]; exact hnw, layAll_length _ hI hw⟩
  | (a, x) :: suf, pre, D, e, hn, hf, hb, hnw => by
    have hcr : Cr n P D := ⟨hn, by rw [hf]; exact hI, by rw [hb]; exact fun y hy => hw y (by rw [← e]; simp [hy]), fun s hs => by rw [hf]; rw [hb] at hs; exact hP s (hs.trans (by rw [← e]; exact List.sublist_append_left _ _))⟩
    cases ho : D.off with
    | true => exact .inl ⟨D, runL_off ho, hcr⟩
    | false =>
      have := phase P hI ws hw hP rest suf (pre ++ [(a, x)]) (D.write a x) (by rw [← e]; simp) (by rw [write_n]; exact hn) (by rw [write_fast]; exact hf) (by rw [write_back, hb]) (by rw [write_now, hnw, layAll_snoc])
      have e2 : runL (asW ((a, x) :: suf) ++ .f :: rest) D = runL (asW suf ++ .f :: rest) (D.write a x) := runL_on ho
      rw [e2]
      exact this
theorem phase_rest {n : Nat} {I : Bs} {D : DS} (h : Rest n I D) (P : Bs → Prop) (ws : List (Nat × Bs)) (hw : Fits n ws) (hP : ∀ sub, sub.Sublist ws → P (layAll I sub)) (rest : List LOp) :
    (∃ D', runL (asW ws ++ .f :: rest) D = (D', false) ∧ Cr n P D') ∨ (∃ D', runL (asW ws ++ .f :: rest) D = runL rest D' ∧ Rest n (layAll I ws) D') :=
  phase P h.len ws hw hP rest ws [] D rfl h.hn h.fast h.back h.now
theorem sub_one {x : Nat × Bs} {s : List (Nat × Bs)} (h : s.Sublist [x]) : s = [] ∨ s = [x] := by
  rcases List.sublist_cons_iff.1 h with h2 | ⟨r, e, h2⟩
  · exact .inl (List.eq_nil_of_sublist_nil h2)
  · rw [List.eq_nil_of_sublist_nil h2] at e
    exact .inr e

/-- what is put down of what is under way -/
def setl (I : Bs) : Nat → List Nat → List (Nat × Bs)
  | _, [] => []
  | i, a :: r => (96 + a, blockAt I (1 + i)) :: setl I (i + 1) r
theorem settleW_as (I : Bs) : ∀ (ps : List Nat) (i : Nat), settleW I i ps = asW (setl I i ps)
  | [], i => rfl
  | a :: r, i => by rw [settleW, settleW_as I r, setl]; rfl
theorem setl_mem (I : Bs) : ∀ (ps : List Nat) (i : Nat) (x : Nat × Bs), x ∈ setl I i ps → ∃ a ∈ ps, ∃ j, j < i + ps.length ∧ x = (96 + a, blockAt I (1 + j))
  | [], i, x, h => by cases h
  | a :: r, i, x, h => by
    rw [setl, List.mem_cons] at h
    rcases h with rfl | h
    · exact ⟨a, by simp, i, by simp, rfl⟩
    · obtain ⟨b, hb, j, hj, e⟩ := setl_mem I r (i + 1) x h
      exact ⟨b, by simp [hb], j, by simp; omega, e⟩
theorem setl_same {I J : Bs} : ∀ (ps : List Nat) (i : Nat), (∀ j, j < i + ps.length → blockAt J (1 + j) = blockAt I (1 + j)) → setl J i ps = setl I i ps
  | [], i, _ => rfl
  | a :: r, i, h => by rw [setl, setl, h i (by simp), setl_same r (i + 1) (fun j hj => h j (by simp; omega))]
/-- an image of a disk that Open makes a ledger of with these blocks -/
structure Img (n : Nat) (I : Bs) (l : List Nat) (c : Nat → Bs) : Prop where
  len : I.length = 512 * n
  way : wayB (blockAt I 0) = some l
  fit : ∀ x ∈ l, x + 96 < n
  at_ : ∀ j, j + 96 < n → blockAt (layAll I (setl I 0 l)) (96 + j) = c j
theorem setl_fits {n : Nat} {I : Bs} {l : List Nat} (hI : I.length = 512 * n) (hn : 97 ≤ n) (h40 : l.length ≤ 40) (hl : ∀ x ∈ l, x + 96 < n) : Fits n (setl I 0 l) := fun x hx => by
  obtain ⟨a, ha, j, hj, rfl⟩ := setl_mem I l 0 x hx
  have := hl a ha
  exact ⟨by show 96 + a < n; omega, blockAt_length hI (by omega)⟩
theorem setl_high {I : Bs} {l : List Nat} {x : Nat × Bs} (hx : x ∈ setl I 0 l) : 96 ≤ x.1 := by
  obtain ⟨a, _, _, _, rfl⟩ := setl_mem I l 0 x hx
  exact Nat.le_add_right _ _
/-- what Open puts down, in part -/
theorem Img.part {n : Nat} {I : Bs} {l : List Nat} {c : Nat → Bs} (h : Img n I l c) (hn : 97 ≤ n) (sub : List (Nat × Bs)) (hs : sub.Sublist (setl I 0 l)) : Img n (layAll I sub) l c := by
  have h40 := way_len h.way
  have hf := setl_fits h.len hn h40 h.fit
  have hlow : ∀ k, k < 96 → blockAt (layAll I sub) k = blockAt I k := fun k hk => lay_other h.len (hf.sub hs) k (fun x hx => by have := setl_high (hs.subset hx); omega)
  refine ⟨layAll_length _ h.len (hf.sub hs), by rw [hlow 0 (by omega)]; exact h.way, h.fit, fun j hj => ?_⟩
  rw [setl_same l 0 (fun j hj => hlow (1 + j) (by omega)), lay_again h.len hf hs]
  exact h.at_ j hj
theorem head_way (ps : List Nat) (h1 : ps.length ≤ 40) (h2 : ∀ x ∈ ps, x + 96 < 4097) : wayB (headB ps) = some ps := way_head ps h1 (fun x hx => by have := h2 x hx; omega)
/-- nothing is under way -/
theorem img_done {n : Nat} {I : Bs} {c : Nat → Bs} (hI : I.length = 512 * n) (hn : 97 ≤ n) (h : ∀ j, j + 96 < n → blockAt I (96 + j) = c j) : Img n (putAt I 0 (headB [])) [] c := by
  refine ⟨putAt_length hI (by omega) (headB_length _), ?_, (fun x hx => by cases hx), fun j hj => ?_⟩
  · rw [blockAt_put hI (by omega) (headB_length _)]
    exact way_head [] (by simp) (fun x hx => by cases hx)
  · show blockAt (putAt I 0 (headB [])) (96 + j) = _
    rw [blockAt_other hI (by omega) (headB_length _) (by omega)]
    exact h j hj
/-- a ledger at rest -/
def Quiet (n : Nat) (c : Nat → Bs) (D : DS) : Prop := ∃ I, Rest n I D ∧ Img n I [] c
theorem Quiet.n {n : Nat} {c : Nat → Bs} {D : DS} (h : Quiet n c D) : D.n = n := let ⟨_, h, _⟩ := h; h.hn
theorem Quiet.at {n : Nat} {c : Nat → Bs} {D : DS} (h : Quiet n c D) (j : Nat) (hj : j + 96 < n) : blockAt D.now (j + 96) = c j := by
  obtain ⟨I, h1, h2⟩ := h
  rw [h1.now, Nat.add_comm]
  exact h2.at_ j hj
theorem Quiet.cr {n : Nat} {c : Nat → Bs} {D : DS} (h : Quiet n c D) : Cr n (fun I => ∃ l, Img n I l c) D := let ⟨_, h1, h2⟩ := h; h1.cr ⟨_, h2⟩
theorem Quiet.back {n : Nat} {c : Nat → Bs} {D : DS} (h : Quiet n c D) : D.back = [] := let ⟨_, h, _⟩ := h; h.back
theorem Quiet.ext {n : Nat} {c c' : Nat → Bs} {D : DS} (h : Quiet n c D) (e : ∀ j, j + 96 < n → c j = c' j) : Quiet n c' D := let ⟨I, h1, h2⟩ := h; ⟨I, h1, h2.len, h2.way, h2.fit, fun j hj => (h2.at_ j hj).trans (e j hj)⟩
/-- with power for good -/
def Live (D : DS) : Prop := D.off = false ∧ D.left ≤ 0
theorem run_live {D : DS} (h : Live D) (o : LOp) : Live (o.run D) := by
  obtain ⟨h1, h2⟩ := h
  cases o with
  | w k x =>
    show Live (D.write k x)
    rw [DS.write_never _ _ _ h2]
    exact ⟨h1, h2⟩
  | f =>
    show Live D.flush
    unfold DS.flush DS.step
    rw [if_neg (by simp; omega)]
    exact ⟨h1, h2⟩
theorem runL_live : ∀ (L : List LOp) {D : DS}, Live D → (runL L D).2 = true ∧ Live (runL L D).1
  | [], D, h => ⟨rfl, h⟩
  | o :: r, D, h => by
    rw [runL_on h.1]
    exact runL_live r (run_live h o)

/-- the three steps of a mark -/
theorem mark_rest {n : Nat} {I : Bs} {D : DS} (h : Rest n I D) (hn : 97 ≤ n) (ps : List Nat) (P : Bs → Prop) (h1 : P I) (h2 : P (putAt I 0 (headB ps))) (rest : List LOp) :
    (∃ D', runL (.w 0 (headB ps) :: .f :: rest) D = (D', false) ∧ Cr n P D') ∨ (∃ D', runL (.w 0 (headB ps) :: .f :: rest) D = runL rest D' ∧ Rest n (putAt I 0 (headB ps)) D') :=
  phase_rest h P [(0, headB ps)] (fun x hx => by rw [List.mem_singleton] at hx; subst hx; exact ⟨by show 0 < n; omega, headB_length _⟩) (fun s hs => by
    rcases sub_one hs with rfl | rfl
    · exact h1
    · exact h2) rest

/-- Open -/
theorem open_done {n : Nat} {I : Bs} {l : List Nat} {c : Nat → Bs} {D : DS} (h : Rest n I D) (hi : Img n I l c) (hn : 97 ≤ n) :
    (∃ D', runL (openOps D l) D = (D', false) ∧ Cr n (fun I => ∃ l, Img n I l c) D') ∨ (∃ D', runL (openOps D l) D = (D', true) ∧ Quiet n c D') := by
  unfold openOps
  rcases phase_rest h (fun I => ∃ l, Img n I l c) [] (fun x hx => by cases hx) (fun s hs => by rw [List.eq_nil_of_sublist_nil hs]; exact ⟨l, hi⟩) (if l = [] then [] else settleOps D.now l) with h1 | ⟨D1, e1, h1⟩
  · exact .inl h1
  · change runL (.f :: _) D = _ at e1
    rw [e1]
    change Rest n I D1 at h1
    by_cases hl : l = []
    · subst hl
      rw [if_pos rfl]
      exact .inr ⟨D1, rfl, I, h1, hi⟩
    · rw [if_neg hl, h.now, settleOps, settleW_as, mark3]
      rcases phase_rest h1 (fun I => ∃ l, Img n I l c) (setl I 0 l) (setl_fits hi.len hn (way_len hi.way) hi.fit) (fun s hs => ⟨l, hi.part hn s hs⟩) [.w 0 (headB []), .f] with h2 | ⟨D2, e2, h2⟩
      · exact .inl h2
      · rw [e2]
        have hp := hi.part hn (setl I 0 l) (List.Sublist.refl _)
        have hd := img_done (c := c) hp.len hn (fun j hj => hi.at_ j hj)
        rcases mark_rest h2 hn [] (fun I => ∃ l, Img n I l c) ⟨l, hp⟩ ⟨[], hd⟩ [] with h3 | ⟨D3, e3, h3⟩
        · exact .inl h3
        · exact .inr ⟨D3, e3, _, h3, hd⟩

/-- a commit's blocks -/
def putC (c : Nat → Bs) (ps : List (Nat × Bs)) (j : Nat) : Bs := (lastW ps j).getD (c j)
def comm1 : Nat → List (Nat × Bs) → List (Nat × Bs)
  | _, [] => []
  | i, (_, x) :: r => (1 + i, x) :: comm1 (i + 1) r
def comm2 (ps : List (Nat × Bs)) : List (Nat × Bs) := ps.map fun x => (96 + x.1, x.2)
theorem commW1_as : ∀ (ps : List (Nat × Bs)) (i : Nat), commW1 i ps = asW (comm1 i ps)
  | [], i => rfl
  | (a, x) :: r, i => by rw [commW1, commW1_as r, comm1]; rfl
theorem commW2_as : ∀ (ps : List (Nat × Bs)), commW2 ps = asW (comm2 ps)
  | [] => rfl
  | (a, x) :: r => by rw [commW2, commW2_as r]; rfl
theorem comm1_mem : ∀ (ps : List (Nat × Bs)) (i : Nat) (x : Nat × Bs), x ∈ comm1 i ps → (∃ y ∈ ps, x.2 = y.2) ∧ 1 + i ≤ x.1 ∧ x.1 < 1 + i + ps.length
  | [], i, x, h => by cases h
  | (a, y) :: r, i, x, h => by
    rw [comm1, List.mem_cons] at h
    rcases h with rfl | h
    · exact ⟨⟨(a, y), by simp, rfl⟩, by simp, by simp⟩
    · obtain ⟨⟨z, hz, e⟩, h1, h2⟩ := comm1_mem r (i + 1) x h
      exact ⟨⟨z, by simp [hz], e⟩, by omega, by simp; omega⟩
theorem lastW_comm1 : ∀ (ps : List (Nat × Bs)) (i j : Nat) (hj : j < ps.length), lastW (comm1 i ps) (1 + (i + j)) = some ps[j].2
  | (a, x) :: r, i, 0, _ => by
    rw [comm1, lastW, lastW_none (fun y hy => by have := (comm1_mem r (i + 1) y hy).2.1; omega)]
    simp
  | (a, x) :: r, i, j + 1, hj => by
    rw [comm1, lastW, show i + (j + 1) = (i + 1) + j by omega, lastW_comm1 r (i + 1) j (by simpa using hj)]
    simp
theorem lastW_comm2 (ps : List (Nat × Bs)) (j : Nat) : lastW (comm2 ps) (96 + j) = lastW ps j := by
  induction ps with
  | nil => rfl
  | cons p r ih =>
    obtain ⟨a, x⟩ := p
    show lastW ((96 + a, x) :: comm2 r) (96 + j) = _
    rw [lastW, ih, lastW]
    simp
/-- the log has what the commit's places are to have -/
theorem setl_comm {I : Bs} : ∀ (ps : List (Nat × Bs)) (i : Nat), (∀ j (hj : j < ps.length), blockAt I (1 + (i + j)) = ps[j].2) → setl I i (ps.map (·.1)) = comm2 ps
  | [], i, _ => rfl
  | (a, x) :: r, i, h => by
    rw [List.map_cons, setl, setl_comm r (i + 1) (fun j hj => by rw [show i + 1 + j = i + (j + 1) by omega]; exact h (j + 1) (by simpa using hj))]
    have := h 0 (by simp)
    rw [Nat.add_zero] at this
    rw [this]
    rfl
-- Commit
set_option maxHeartbeats 1600000 in
theorem comm_done {n : Nat} {c : Nat → Bs} {D : DS} {ps : List (Nat × Bs)} (h : Quiet n c D) (hn2 : n ≤ 4096) (hp : PutOk n ps) :
    (∃ D', runL (commOps ps) D = (D', false) ∧ Cr n (fun I => (∃ l, Img n I l c) ∨ ∃ l, Img n I l (putC c ps)) D') ∨ (∃ D', runL (commOps ps) D = (D', true) ∧ Quiet n (putC c ps) D') := by
  obtain ⟨I, h0, hi⟩ := h
  obtain ⟨p1, p2, p3, p4⟩ := hp
  have hn : 97 ≤ n := by have := (p4 _ (List.getElem_mem (show 0 < ps.length by omega))).1; omega
  have f1 : Fits n (comm1 0 ps) := fun x hx => by
    obtain ⟨⟨y, hy, e⟩, h1, h2⟩ := comm1_mem ps 0 x hx
    exact ⟨by omega, by rw [e]; exact (p4 y hy).2⟩
  have f2 : Fits n (comm2 ps) := fun x hx => by
    obtain ⟨y, hy, rfl⟩ := List.mem_map.1 hx
    have := p4 y hy
    exact ⟨by show 96 + y.1 < n; omega, this.2⟩
  have hc1 : ∀ sub, sub.Sublist (comm1 0 ps) → Img n (layAll I sub) [] c := fun sub hs => by
    have ho : ∀ k, k = 0 ∨ 41 ≤ k → blockAt (layAll I sub) k = blockAt I k := fun k hk => lay_other hi.len (f1.sub hs) k (fun x hx => by have := (comm1_mem ps 0 x (hs.subset hx)).2; omega)
    refine ⟨layAll_length _ hi.len (f1.sub hs), by rw [ho 0 (.inl rfl)]; exact hi.way, hi.fit, fun j hj => ?_⟩
    show blockAt (layAll I sub) (96 + j) = c j
    rw [ho _ (.inr (by omega))]
    exact hi.at_ j hj
  unfold commOps mark3
  rw [commW1_as, commW2_as]
  simp only [List.cons_append, List.nil_append]
  rcases phase_rest h0 (fun I => ∃ l, Img n I l c) (comm1 0 ps) f1 (fun s hs => ⟨[], hc1 s hs⟩) (.w 0 (headB (ps.map (·.1))) :: .f :: (asW (comm2 ps) ++ [.f, .w 0 (headB []), .f])) with ⟨D1, e1, h1⟩ | ⟨D1, e1, h1⟩
  · exact .inl ⟨D1, e1, h1.mono (fun _ h => .inl h)⟩
  have hI1 := hc1 _ (List.Sublist.refl _)
  have hlog : ∀ j (hj : j < ps.length), blockAt (layAll I (comm1 0 ps)) (1 + (0 + j)) = ps[j].2 := fun j hj => by
    rw [blockAt_lay _ hi.len f1, lastW_comm1 ps 0 j hj]
    rfl
  generalize layAll I (comm1 0 ps) = I1 at *
  have hway : wayB (headB (ps.map (·.1))) = some (ps.map (·.1)) := way_head _ (by simpa using p2) (fun x hx => by
    obtain ⟨y, hy, rfl⟩ := List.mem_map.1 hx
    have := (p4 y hy).1
    omega)
  have hl2 : (putAt I1 0 (headB (ps.map (·.1)))).length = 512 * n := putAt_length hI1.len (by omega) (headB_length _)
  have ho2 : ∀ k, k ≠ 0 → blockAt (putAt I1 0 (headB (ps.map (·.1)))) k = blockAt I1 k := fun k hk => blockAt_other hI1.len (by omega) (headB_length _) hk
  have hs2 : setl (putAt I1 0 (headB (ps.map (·.1)))) 0 (ps.map (·.1)) = comm2 ps := setl_comm ps 0 (fun j hj => by rw [ho2 _ (by omega)]; exact hlog j hj)
  have hI2 : Img n (putAt I1 0 (headB (ps.map (·.1)))) (ps.map (·.1)) (putC c ps) := by
    refine ⟨hl2, by rw [blockAt_put hI1.len (by omega) (headB_length _)]; exact hway, fun x hx => ?_, fun j hj => ?_⟩
    · obtain ⟨y, hy, rfl⟩ := List.mem_map.1 hx
      exact (p4 y hy).1
    · rw [hs2, blockAt_lay _ hl2 f2, lastW_comm2, ho2 _ (by omega), putC]
      have := hI1.at_ j hj
      change blockAt I1 (96 + j) = c j at this
      rw [this]
  generalize ps.map (·.1) = ats at *
  rcases mark_rest h1 hn ats (fun I => (∃ l, Img n I l c) ∨ ∃ l, Img n I l (putC c ps)) (.inl ⟨[], hI1⟩) (.inr ⟨_, hI2⟩) (asW (comm2 ps) ++ [.f, .w 0 (headB []), .f]) with ⟨D2, e2, h2⟩ | ⟨D2, e2, h2⟩
  · exact .inl ⟨D2, e1.trans e2, h2⟩
  generalize putAt I1 0 (headB ats) = I2 at *
  rcases phase_rest h2 (fun I => ∃ l, Img n I l (putC c ps)) (comm2 ps) f2 (fun s hs => ⟨_, hI2.part hn s (by rw [hs2]; exact hs)⟩) [.w 0 (headB []), .f] with ⟨D3, e3, h3⟩ | ⟨D3, e3, h3⟩
  · exact .inl ⟨D3, e1.trans (e2.trans e3), h3.mono (fun _ h => .inr h)⟩
  have hI3 := hI2.part hn (comm2 ps) (by rw [hs2]; exact List.Sublist.refl _)
  have hI4 := img_done (c := putC c ps) hI3.len hn (fun j hj => by have := hI2.at_ j hj; rw [hs2] at this; exact this)
  rcases mark_rest h3 hn [] (fun I => ∃ l, Img n I l (putC c ps)) ⟨_, hI3⟩ ⟨_, hI4⟩ [] with ⟨D4, e4, h4⟩ | ⟨D4, e4, h4⟩
  · exact .inl ⟨D4, e1.trans (e2.trans (e3.trans e4)), h4.mono (fun _ h => .inr h)⟩
  · exact .inr ⟨D4, e1.trans (e2.trans (e3.trans e4)), _, h4, hI4⟩

/-- the noughts of Format -/
def fmt1 (l : Bs) : List Nat → List (Nat × Bs)
  | [] => []
  | a :: r => if blockAt l a = zeroB then fmt1 l r else (a, zeroB) :: fmt1 l r
theorem fmtW_as (l : Bs) : ∀ (r : List Nat), fmtW l r = asW (fmt1 l r)
  | [] => rfl
  | a :: r => by
    rw [fmtW, fmt1, fmtW_as l r]
    split <;> rfl
theorem fmt1_mem (l : Bs) : ∀ (r : List Nat) (x : Nat × Bs), x ∈ fmt1 l r → x.1 ∈ r ∧ x.2 = zeroB
  | [], x, h => by cases h
  | a :: r, x, h => by
    rw [fmt1] at h
    split at h
    · obtain ⟨h1, h2⟩ := fmt1_mem l r x h
      exact ⟨by simp [h1], h2⟩
    · rcases List.mem_cons.1 h with rfl | h
      · exact ⟨by simp, rfl⟩
      · obtain ⟨h1, h2⟩ := fmt1_mem l r x h
        exact ⟨by simp [h1], h2⟩
theorem fmt1_out (l : Bs) : ∀ (r : List Nat) (k : Nat), k ∈ r → blockAt l k ≠ zeroB → (k, zeroB) ∈ fmt1 l r
  | a :: r, k, h, hk => by
    rw [fmt1]
    rcases List.mem_cons.1 h with rfl | h
    · rw [if_neg hk]
      simp
    · have := fmt1_out l r k h hk
      split
      · exact this
      · simp [this]
set_option maxHeartbeats 1600000 in
theorem fmt_done {n : Nat} {I : Bs} {D : DS} (h : Rest n I D) (hn : 97 ≤ n) :
    (∃ D', runL (fmtOps D) D = (D', false)) ∨ (∃ D', runL (fmtOps D) D = (D', true) ∧ Quiet n (fun _ => zeroB) D') := by
  unfold fmtOps mark3
  rw [h.now, h.hn, fmtW_as]
  change (∃ D', runL (asW [(0, zeroB)] ++ .f :: (asW (fmt1 I (List.range' 96 (n - 96))) ++ [.f, .w 0 (headB []), .f])) D = (D', false)) ∨ (∃ D', runL (asW [(0, zeroB)] ++ .f :: (asW (fmt1 I (List.range' 96 (n - 96))) ++ [.f, .w 0 (headB []), .f])) D = (D', true) ∧ Quiet n (fun _ => zeroB) D')
  rcases phase_rest h (fun _ => True) [(0, zeroB)] (fun x hx => by rw [List.mem_singleton] at hx; subst hx; exact ⟨by show 0 < n; omega, zeroB_length⟩) (fun _ _ => trivial) (asW (fmt1 I (List.range' 96 (n - 96))) ++ [.f, .w 0 (headB []), .f]) with ⟨D1, e1, _⟩ | ⟨D1, e1, h1⟩
  · exact .inl ⟨D1, e1⟩
  have f2 : Fits n (fmt1 I (List.range' 96 (n - 96))) := fun x hx => by
    obtain ⟨h3, h4⟩ := fmt1_mem _ _ x hx
    rw [List.mem_range'_1] at h3
    exact ⟨by omega, by rw [h4]; exact zeroB_length⟩
  have hl1 : (layAll I [(0, zeroB)]).length = 512 * n := h1.len
  rcases phase_rest h1 (fun _ => True) _ f2 (fun _ _ => trivial) [.w 0 (headB []), .f] with ⟨D2, e2, _⟩ | ⟨D2, e2, h2⟩
  · exact .inl ⟨D2, e1.trans e2⟩
  have hlay : layAll I [(0, zeroB)] = putAt I 0 zeroB := by rw [layAll, List.foldl_cons, List.foldl_nil]
  have hz : ∀ j, j + 96 < n → blockAt (layAll (layAll I [(0, zeroB)]) (fmt1 I (List.range' 96 (n - 96)))) (96 + j) = zeroB := fun j hj => by
    rw [blockAt_lay _ hl1 f2]
    cases hl : lastW (fmt1 I (List.range' 96 (n - 96))) (96 + j) with
    | none =>
      have hnm : ¬ blockAt I (96 + j) ≠ zeroB := fun hne => lastW_some hl _ (fmt1_out I _ (96 + j) (by rw [List.mem_range'_1]; omega) hne) rfl
      rw [Option.getD_none, hlay, blockAt_other h.len (by omega) zeroB_length (by omega)]
      exact Classical.not_not.1 hnm
    | some x =>
      have : ∀ (r : List (Nat × Bs)), (∀ y ∈ r, y.2 = zeroB) → ∀ k x, lastW r k = some x → x = zeroB := by
        intro r
        induction r with
        | nil => intro _ k x h; cases h
        | cons p r ih =>
          obtain ⟨a, y⟩ := p
          intro hr k x hx
          rw [lastW] at hx
          cases hq : lastW r k with
          | some z =>
            rw [hq] at hx
            simp only [Option.some.injEq] at hx
            subst hx
            exact ih (fun y hy => hr y (by simp [hy])) k _ hq
          | none =>
            rw [hq] at hx
            simp only at hx
            split at hx
            · cases hx
              exact hr (a, y) (by simp)
            · cases hx
      exact this _ (fun y hy => (fmt1_mem _ _ y hy).2) _ _ hl
  have hd := img_done (c := fun _ => zeroB) h2.len hn hz
  rcases mark_rest h2 hn [] (fun _ => True) trivial trivial [] with ⟨D3, e3, _⟩ | ⟨D3, e3, h3⟩
  · exact .inl ⟨D3, e1.trans (e2.trans e3)⟩
  · exact .inr ⟨D3, e1.trans (e2.trans e3), _, h3, hd⟩
end Go.Proofs.Ythfncgbkigmmcaa
