/- alive. -/
import Derived.Test.YthkjihfnphdfkaaAdd
import Derived.Lib.SlBytesConst
namespace Go.Proofs.Ythkjihfnphdfkaa
open Go.RowKit Go.Maps

set_option maxHeartbeats 400000 in
theorem num_any (e : Int) (w : World) : Calls Try.prog 11 #[.int .i64 e] w fun x w' => x = .returned (.int .i64 e) ∧ w = w' := by
  go_enter Try.func11, Try.ntmps11
  go_wp2
  go_ret
  exact ⟨rfl, rfl⟩

theorem bytes_new (w : World) (bs : Bs) (cs : Array Value) (fr : Nat × Nat) (n : Nat) (hcs : cs.toList = u8s bs) (hn : n = bs.length) : Bytes (w.alloc (.cells cs 5 fr)) (.slice (some ⟨w.heap.size, 0, none⟩) n n) bs := by
  have hs : cs.size = n := by rw [← Array.length_toList, hcs]; simp [hn]
  have := row_new w cs 5 fr n (by omega)
  rw [hcs, hs] at this
  exact this

theorem add_new' {w : World} {O : Nat → Prop} {p lim : Nat} {L : List Bs} (h : IsStock w O p lim L) (v : Value) (b : Bs) (hv : BytesW w v b) (hvO : b ≠ [] → InB v (fun k => ¬ O k)) (hb : b.length ≤ 8192) (hm : b ∉ L) (hf : total L + b.length ≤ lim) :
    Calls Try.prog 12 #[.pointer (some ⟨p, 0, none⟩), v] w fun e w' => e = .returned (.tuple #[.int .i64 L.length, .int .i64 0]) ∧ IsStock w' (fun k => O k ∨ NewIn w w' k) p lim (L ++ [b]) ∧ Keeps O w w' :=
  let ⟨_, _, _, h⟩ := h; add_new h v b hv hvO hb hm hf
theorem size_any' {w : World} {O : Nat → Prop} {p lim : Nat} {L : List Bs} (h : IsStock w O p lim L) : Calls Try.prog 14 #[.pointer (some ⟨p, 0, none⟩)] w fun e w' => e = .returned (.int .i64 (total L)) ∧ w = w' := let ⟨_, _, _, h⟩ := h; size_any h
theorem len_any' {w : World} {O : Nat → Prop} {p lim : Nat} {L : List Bs} (h : IsStock w O p lim L) : Calls Try.prog 13 #[.pointer (some ⟨p, 0, none⟩)] w fun e w' => e = .returned (.int .i64 L.length) ∧ w = w' := let ⟨_, _, _, h⟩ := h; len_any h

set_option maxHeartbeats 400000 in
theorem alive_any (w : World) : Calls Try.prog 9 #[] w fun e w' => e = .returned (.bool true) ∧ Below w.heap.size w w' := by
  have kc := fun (w : World) (C : Array Value) (n c : Nat) => Lib.run_convert_bytes_const (P := Try.prog) w 28 5 C n c Try.underlying28 Try.underlying5
  go_enter Try.func9, Try.ntmps9
  go_wp2_with fail
  refine (new_yes 5 _ (by decide)).mono ?_
  rintro e w1 ⟨p, rfl, hS, hb1⟩
  have hS1 : IsStock (w1.alloc (.cells #[.int .u8 97, .int .u8 98, .int .u8 99] 5 (3, 4))) (NewIn w w1) p 5 [] := hS.keep ((Keeps.refl (fun _ => False) w1).alloc _) (fun _ _ => id)
  clear hS
  go_wp2_with (go_at_call 11; go_in)
  refine (add_new' hS1 _ [97, 98, 99] (.inl (bytes_new w1 _ _ _ 3 rfl rfl)) (fun _ => InB.at_ (fun h => by have := h.2; omega)) (by decide) (by simp) (by decide)).mono ?_
  rintro e w2 ⟨rfl, hS2, hk2⟩
  have hS3 := hS2.keep ((Keeps.refl (fun _ => False) w2).alloc (.cells #[.int .u8 100, .int .u8 101] 5 (2, 3))) (fun _ _ => id)
  clear hS1 hS2
  have z2 := hk2.size
  simp only [World.size_alloc] at z2
  go_wp2_with fail
  refine (add_new' hS3 _ [100, 101] (.inl (bytes_new w2 _ _ _ 2 rfl rfl)) (fun _ => InB.at_ (fun h => h.elim (fun h => by have := h.2; omega) (fun h => by have := h.2; omega))) (by decide) (by decide) (by decide)).mono ?_
  rintro e w3 ⟨rfl, hS4, hk4⟩
  clear hS3
  go_wp2_with (go_at_call 11; go_in)
  refine (size_any' hS4).mono ?_
  rintro e w' ⟨rfl, rfl⟩
  have ht : total ([] ++ [[97, 98, 99]] ++ [[100, 101]]) = 5 := by decide
  rw [ht]
  go_wp2
  go_ret
  refine ⟨rfl, ?_⟩
  have b2 : Below w.heap.size w w2 := by
    refine ((hb1.alloc hb1.size (.cells #[.int .u8 97, .int .u8 98, .int .u8 99] 5 (3, 4))).trans ?_)
    exact hk2.below_of (by simp; have := hb1.size; omega) (fun k hk h => by have := h.1; omega)
  refine ((b2.alloc b2.size (.cells #[.int .u8 100, .int .u8 101] 5 (2, 3))).trans ?_)
  exact hk4.below_of (by simp; have := b2.size; omega) (fun k hk h => h.elim (fun h => by have := h.1; omega) (fun h => by have := h.1; simp at this; have := hb1.size; omega))
end Go.Proofs.Ythkjihfnphdfkaa
