/- The map of a stock, as a list of contents by places: what it has, and where. No condition. -/
import Derived.Maps.OwnSet
namespace Go.Proofs.Ythkjihfnphdfkaa
open Go.Maps

abbrev Bs := List UInt8

def mapFrom (d : DataW Unit) (l : List (Bs × Nat)) : DataW Unit := l.foldl (fun d p => d.put (.string p.1) (.lit (.int .i64 (p.2 : Int)))) d
def mapOf (L : List Bs) : DataW Unit := mapFrom (.map []) L.zipIdx

theorem mapOf_nil : mapOf [] = .map [] := rfl
theorem mapOf_snoc (L : List Bs) (b : Bs) : mapOf (L ++ [b]) = (mapOf L).put (.string b) (.lit (.int .i64 (L.length : Int))) := by
  simp [mapOf, mapFrom, List.zipIdx_append]

theorem key_ok (b : Bs) : WideAt.IsKeyLit (.string b) := by simp [WideAt.IsKeyLit]

theorem isMap_from : ∀ (l : List (Bs × Nat)) (d : DataW Unit), IsMap d → IsMap (mapFrom d l)
  | [], _, h => h
  | _ :: l, _, h => isMap_from l _ (h.put _ _)

theorem has_from (b : Bs) : ∀ (L : List Bs) (s : Nat) (d : DataW Unit), IsMap d → Maps.has (mapFrom d (L.zipIdx s)) (.string b) = (Maps.has d (.string b) || L.contains b)
  | [], s, d, _ => by simp [mapFrom]
  | x :: L, s, d, h => by
    have ih := has_from b L (s + 1) (d.put (.string x) (.lit (.int .i64 (s : Int)))) (h.put _ _)
    rw [List.zipIdx_cons]
    show Maps.has (mapFrom (d.put (.string x) (.lit (.int .i64 (s : Int)))) (L.zipIdx (s + 1))) _ = _
    rw [ih]
    by_cases hx : b = x
    · subst hx
      rw [has_put_same h (key_ok b)]
      simp
    · rw [has_put_other (by simpa using hx)]
      simp [hx]

theorem at_from (b : Bs) (z : DataW Unit) : ∀ (L : List Bs) (s : Nat) (d : DataW Unit), IsMap d → L.Nodup →
    (mapFrom d (L.zipIdx s)).atKey (.string b) z = if b ∈ L then .lit (.int .i64 ((s + L.idxOf b : Nat) : Int)) else d.atKey (.string b) z
  | [], s, d, _, _ => by simp [mapFrom]
  | x :: L, s, d, h, hn => by
    have ih := at_from b z L (s + 1) (d.put (.string x) (.lit (.int .i64 (s : Int)))) (h.put _ _) (List.nodup_cons.1 hn).2
    rw [List.zipIdx_cons]
    show (mapFrom (d.put (.string x) (.lit (.int .i64 (s : Int)))) (L.zipIdx (s + 1))).atKey _ _ = _
    rw [ih]
    by_cases hx : b = x
    · subst hx
      rw [if_neg (List.nodup_cons.1 hn).1, if_pos (by simp), atKey_put_same h (key_ok b)]
      simp
    · rw [atKey_put_other (by simpa using hx)]
      have : (x :: L).idxOf b = L.idxOf b + 1 := by
        have hx' : (x == b) = false := by simpa using fun e => hx e.symm
        rw [List.idxOf_cons, hx']; rfl
      rw [this]
      simp only [List.mem_cons, hx, false_or]
      split
      · congr 3; omega
      · rfl

theorem has_mapOf (L : List Bs) (b : Bs) : Maps.has (mapOf L) (.string b) = decide (b ∈ L) := by
  unfold mapOf
  rw [has_from b L 0 _ isMap_empty]
  simp [Maps.has, List.contains_eq_mem]

theorem at_mapOf {L : List Bs} (hn : L.Nodup) {b : Bs} (hb : b ∈ L) (z : DataW Unit) : (mapOf L).atKey (.string b) z = .lit (.int .i64 (L.idxOf b : Int)) := by
  unfold mapOf
  rw [at_from b z L 0 _ isMap_empty hn, if_pos hb]
  simp

end Go.Proofs.Ythkjihfnphdfkaa
