/- StockPlays: much, the document's Find, sameAll; bytes turned. -/
import Derived.Test.YthkjihfnphdfkaaPlaysA
import Derived.Test.YthkjihfnphdfkaaLast
namespace Go.Proofs.Ythkjihfnphdfkaa
open Go.RowKit Go.Maps

/-- Contents that are read. -/
def Rd (w : World) (v : Value) (L : List Bs) : Prop := ∃ a cap, v = .slice a L.length cap ∧ ∀ i (h : i < L.length), ∃ g off ua uc, a = some ⟨g, off, none⟩ ∧ w.cell? ⟨g, off + i, none⟩ = some (.slice ua L[i].length uc) ∧ BytesW w (.slice ua L[i].length uc) L[i]
theorem Rd.below {w w' : World} {v : Value} {L : List Bs} (h : Rd w v L) (hb : Below w.heap.size w w') : Rd w' v L := by
  obtain ⟨a, cap, h1, h2⟩ := h
  refine ⟨a, cap, h1, fun i hi => ?_⟩
  obtain ⟨g, off, ua, uc, h3, h4, h5⟩ := h2 i hi
  exact ⟨g, off, ua, uc, h3, (hb.cell (p := ⟨g, off + i, none⟩) (World.block_lt_of_cell? _ _ h4)).trans h4, h5.below hb (Nat.le_refl _)⟩

def SomeBool (w : World) (e : Ending) (w' : World) : Prop := (∃ b : Bool, e = .returned (.bool b)) ∧ w = w'
set_option maxHeartbeats 400000 in
theorem much_any (v : Value) (ops : List (Int × Int × Bs)) (w : World) (h : OpsW w v ops) : Calls Try.prog 15 #[v] w (SomeBool w) := by
  rcases h with ⟨rfl, rfl⟩ | ⟨g, off, cap, rfl, hl, hc⟩
  · go_enter Try.func15, Try.ntmps15
    go_wp2_with fail
    go_loop [3, 4] (fun n i => i = .int .i64 0 ∧ n = .int .i64 0) (fun _ _ => 0)
    case atStart => exact ⟨rfl, rfl⟩
    case round =>
      obtain ⟨rfl, rfl⟩ := hrel
      go_wp2_with fail
      go_ret
      exact ⟨⟨_, rfl⟩, rfl⟩
  · have HC := Lib.hid hc
    clear hc
    go_enter Try.func15, Try.ntmps15
    go_wp2_with fail
    go_loop [3, 4] (fun n i => ∃ k N : Nat, k ≤ ops.length ∧ i = .int .i64 k ∧ n = .int .i64 N ∧ N ≤ 140737488421233) (fun _ i => ops.length - (intOf i).toNat)
    case atStart => exact ⟨0, 0, by omega, rfl, rfl, by omega⟩
    case round =>
      obtain ⟨k, N, hk, rfl, rfl, hle⟩ := hrel
      have k0 : (0 : Int) ≤ (k : Int) := by omega
      by_cases hgo : k < ops.length ∧ N ≤ 70000
      · obtain ⟨hlt, hc⟩ := hgo
        have k1 : (k : Int) < (ops.length : Int) := by omega
        obtain ⟨_, _, _, _, h5, ua, uc, h6, _⟩ := HC.out k hlt
        generalize ops[k].2.2.length = bl at *
        have c1 : (N : Int) ≤ 70000 := by omega
        go_wp2_with fail
        go_round
        case rel => exact ⟨k + 1, N + 1 + bl, by omega, by go_num, by go_num, by omega⟩
        case measure => simp [intOf]; omega
      · have hx : (k < ops.length ∧ 70000 < N) ∨ (k = ops.length ∧ 70000 < N) ∨ (k = ops.length ∧ N ≤ 70000 ∧ (200 < ops.length ∨ ops.length ≤ 200)) := by omega
        clear hgo
        rcases hx with ⟨h1, h2⟩ | ⟨rfl, h2⟩ | ⟨rfl, h2, h3⟩
        · have k1 : (k : Int) < (ops.length : Int) := by omega
          have c2 : (70000 : Int) < (N : Int) := by omega
          go_wp2_with fail
          go_ret
          exact ⟨⟨_, rfl⟩, rfl⟩
        · have c2 : (70000 : Int) < (N : Int) := by omega
          go_wp2_with fail
          go_ret
          exact ⟨⟨_, rfl⟩, rfl⟩
        · have c2 : (N : Int) ≤ 70000 := by omega
          go_wp2_with fail
          go_ret
          exact ⟨⟨_, rfl⟩, rfl⟩

def NoneOf (l : List Bs) (b : Bs) : Prop := ∀ x ∈ l, x ≠ b
set_option maxHeartbeats 400000 in
theorem refFind_any (v u : Value) (L : List Bs) (b : Bs) (w : World) (h : Rd w v L) (hu : BytesW w u b) (hl : L.length ≤ 140737488351232) : Calls Try.prog 18 #[v, u] w fun e w' => e = .returned (.int .i64 (place L b)) ∧ ∃ k, w' = w.drewN k := by
  obtain ⟨a, cap, rfl, hr⟩ := h
  have HR := Lib.hid hr
  have HU := Lib.hid hu
  obtain ⟨ub, uc, rfl, _⟩ := hu.shape
  clear hr hu
  go_enter Try.func18, Try.ntmps18
  go_wp2_with fail
  go_loopw [5] (fun i wr => ∃ k m : Nat, k ≤ L.length ∧ i = .int .i64 k ∧ NoneOf (L.take k) b ∧ wr = w.drewN m) (fun i _ => L.length - (intOf i).toNat)
  case atStart => exact ⟨0, 0, by omega, rfl, fun x hx => by simp at hx, rfl⟩
  case round =>
    obtain ⟨k, m, hk, rfl, hno, rfl⟩ := hrel
    have HNO := Lib.hid hno
    clear hno
    have k0 : (0 : Int) ≤ (k : Int) := by omega
    by_cases hlt : k < L.length
    · have k1 : (k : Int) < (L.length : Int) := by omega
      obtain ⟨g, off, va, vc, rfl, hc, hb⟩ := HR.out k hlt
      have hc1 : ∀ nq, (convert 28 9 (.slice va L[k].length vc)).run Try.prog (w.drewN nq) = .ok (.string ⟨L[k].toArray⟩) (w.drewN nq) := fun nq => run_string_ofW (w.drewN nq) 28 5 Try.underlying28 Try.underlying5 (hb.below (below_drewN (Below.refl _ _) nq) (Nat.le_refl _)) 9 Try.underlying9
      have hc2 : ∀ nq, (convert 28 9 (.slice ub b.length uc)).run Try.prog (w.drewN nq) = .ok (.string ⟨b.toArray⟩) (w.drewN nq) := fun nq => run_string_ofW (w.drewN nq) 28 5 Try.underlying28 Try.underlying5 (HU.out.below (below_drewN (Below.refl _ _) nq) (Nat.le_refl _)) 9 Try.underlying9
      have HT : Hid (L.take (k + 1) = L.take k ++ [L[k]]) := List.take_succ_eq_append_getElem hlt
      have HG : Hid (L[k]? = some L[k]) := List.getElem?_eq_getElem hlt
      clear hb
      generalize L[k] = x at *
      by_cases hx : x = b
      · subst hx
        have hp : place L x = (k : Int) := by
          unfold place
          have hm : x ∈ L := List.mem_of_getElem? HG.out
          rw [if_pos hm]
          congr 1
          have h1 : L = L.take k ++ (x :: L.drop (k + 1)) := by
            conv => lhs; rw [← List.take_append_drop (k + 1) L, HT.out]
            simp
          have hn : x ∉ L.take k := fun h => HNO.out x h rfl
          have : L.idxOf x = (L.take k ++ (x :: L.drop (k + 1))).idxOf x := by rw [← h1]
          rw [this, List.idxOf_append, if_neg hn, List.idxOf_cons_self, List.length_take]
          omega
        have HP := Lib.hid hp
        clear hp
        go_wp2_with fail
        go_quiet (fail)
        go_wp2_with fail
        go_ret
        exact ⟨by rw [HP.out]; rfl, _, World.drewN_drewN _ _ _⟩
      · have hne : (x == b) = false := by simpa using hx
        have HX := Lib.hid hx
        clear hx
        go_wp2_with fail
        go_quiet (fail)
        go_wp2_with fail
        go_roundw
        case rel => exact ⟨k + 1, m + nq, by omega, by go_num, by rw [HT.out]; intro y hy; exact (List.mem_append.1 hy).elim (HNO.out y) (fun h => by rw [List.mem_singleton] at h; subst h; exact HX.out), rfl⟩
        case measure => simp [intOf]; omega
    · obtain rfl : k = L.length := by omega
      have hp : place L b = -1 := by
        unfold place
        rw [if_neg (fun h => HNO.out b (by rw [List.take_length]; exact h) rfl)]
      have HP := Lib.hid hp
      clear hp
      go_wp2_with fail
      go_ret
      exact ⟨by rw [HP.out]; rfl, _, rfl⟩

set_option maxHeartbeats 400000 in
theorem sameAll_any (v u : Value) (L : List Bs) (w : World) (h : Rd w v L) (hu : Rd w u L) (hl : L.length ≤ 140737488351232) : Calls Try.prog 20 #[v, u] w fun e w' => e = .returned (.bool true) ∧ ∃ k, w' = w.drewN k := by
  obtain ⟨a, cap, rfl, hr⟩ := h
  obtain ⟨a2, cap2, rfl, hr2⟩ := hu
  have HR := Lib.hid hr
  have HU := Lib.hid hr2
  clear hr hr2
  go_enter Try.func20, Try.ntmps20
  go_wp2_with fail
  go_loopw [5] (fun i wr => ∃ k m : Nat, k ≤ L.length ∧ i = .int .i64 k ∧ wr = w.drewN m) (fun i _ => L.length - (intOf i).toNat)
  case atStart => exact ⟨0, 0, by omega, rfl, rfl⟩
  case round =>
    obtain ⟨k, m, hk, rfl, rfl⟩ := hrel
    have k0 : (0 : Int) ≤ (k : Int) := by omega
    by_cases hlt : k < L.length
    · have k1 : (k : Int) < (L.length : Int) := by omega
      obtain ⟨g, off, va, vc, rfl, hc, hb⟩ := HR.out k hlt
      obtain ⟨g', off', va', vc', rfl, hc', hb'⟩ := HU.out k hlt
      have hc1 : ∀ nq, (convert 28 9 (.slice va L[k].length vc)).run Try.prog (w.drewN nq) = .ok (.string ⟨L[k].toArray⟩) (w.drewN nq) := fun nq => run_string_ofW (w.drewN nq) 28 5 Try.underlying28 Try.underlying5 (hb.below (below_drewN (Below.refl _ _) nq) (Nat.le_refl _)) 9 Try.underlying9
      have hc2 : ∀ nq, (convert 28 9 (.slice va' L[k].length vc')).run Try.prog (w.drewN nq) = .ok (.string ⟨L[k].toArray⟩) (w.drewN nq) := fun nq => run_string_ofW (w.drewN nq) 28 5 Try.underlying28 Try.underlying5 (hb'.below (below_drewN (Below.refl _ _) nq) (Nat.le_refl _)) 9 Try.underlying9
      clear hb hb'
      generalize L[k] = x at *
      go_wp2_with fail
      go_quiet (fail)
      go_wp2_with fail
      go_roundw
      case rel => exact ⟨k + 1, _, by omega, by go_num, rfl⟩
      case measure => simp [intOf]; omega
    · obtain rfl : k = L.length := by omega
      go_wp2_with fail
      go_ret
      exact ⟨rfl, _, rfl⟩
end Go.Proofs.Ythkjihfnphdfkaa
