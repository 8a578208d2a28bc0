/- Valid. -/
import Derived.Test.YtpnbmfibooglgaaDoorSpec
import Derived.Test.YtpnbmfibooglgaaDoorShelf
import Derived.WalkKit
import Derived.WalkSpells
import Derived.Lib.OthersKept
import Derived.ScopeJumps
namespace Go.Proofs.YtpnbmfibooglgaaDoor
open Go.RowKit

theorem width_pos (s : ByteArray) (pos : Nat) (h : pos < s.size) : 1 ≤ (Utf8.decode s pos).2 := by
  by_cases ha : (s[pos]'h).toNat < 128
  · rw [decode_ascii s pos h ha]
    exact Nat.le_refl _
  · exact (decode_high s pos h (by omega)).2
theorem drop_at (s : ByteArray) (pos : Nat) (h : pos < s.size) : s.data.toList.drop pos = s[pos]'h :: s.data.toList.drop (pos + 1) := by
  rw [List.drop_eq_getElem_cons (by simpa using h)]
  rfl
theorem bytes_list (a : ByteArray) : a.toList = a.data.toList := by
  exact ByteArray.toList_eq a
theorem one_data (la s : ByteArray) (pos : Nat) (h : pos < s.size) : (la ++ s.extract pos (pos + 1)).data.toList = la.data.toList ++ [s[pos]'h] := by
  rw [ByteArray.data_append, Array.toList_append, Lib.extract_data, drop_at s pos h, show pos + 1 - pos = 0 + 1 by omega]
  rfl
theorem one_size (la s : ByteArray) (pos : Nat) (h : pos < s.size) : (la ++ s.extract pos (pos + 1)).size = la.size + 1 := by
  rw [ByteArray.size_append, ByteArray.size_extract]
  omega
theorem add_size (la s : ByteArray) (pos : Nat) (h : pos < s.size) : Value.int .i64 ((la.size : Int) + 1) = .int .i64 ((la ++ s.extract pos (pos + 1)).size : Int) := by
  rw [one_size la s pos h]; rfl
theorem add_one (n : Nat) : Value.int .i64 ((n : Int) + 1) = .int .i64 ((n + 1 : Nat) : Int) := rfl
theorem iter_below (w : World) (s : ByteArray) (pos : Nat) : Below w.heap.size w (w.iter s pos) := (Below.refl _ _).alloc (Nat.le_refl _) _

set_option maxRecDepth 100000 in
/-- at the label 'wrong' -/
def AtWrong (s : ByteArray) (w : World) (a : Act) (wr : World) : Prop := Hid (validB s.data.toList = false) ∧ Below w.heap.size w wr ∧ ∃ v0 v1 v2 v3 v4 v5 v6 v7 v8 v9 v10 v11 v12 v13 v14 v15 v16 v17 v18 v19 v20 v21 v22 v23 v24 v25 v26 v27 v28 v29 v30 v31 v32 v33 v34 v35 v36 v37 v38 v39 v40 v41 v42 v43 v44 v45 v46 v47 v48 v49 v50 v51 v52 v53 v54 v55 v56 v57 v58 v59 v60 v61 v62 v63 v64 v65 v66 v67 v68 v69 v70 v71 v72 v73 v74 v75 v76 v77 v78 v79 : Value, a = ⟨(v0 :: v1 :: v2 :: v3 :: v4 :: v5 :: v6 :: v7 :: v8 :: v9 :: v10 :: v11 :: v12 :: v13 :: v14 :: v15 :: v16 :: v17 :: v18 :: v19 :: v20 :: v21 :: v22 :: v23 :: v24 :: v25 :: v26 :: v27 :: v28 :: v29 :: v30 :: v31 :: v32 :: v33 :: v34 :: v35 :: v36 :: v37 :: v38 :: v39 :: v40 :: v41 :: v42 :: v43 :: v44 :: v45 :: v46 :: v47 :: v48 :: v49 :: v50 :: v51 :: v52 :: v53 :: v54 :: v55 :: v56 :: v57 :: v58 :: v59 :: v60 :: v61 :: v62 :: v63 :: v64 :: v65 :: v66 :: v67 :: v68 :: v69 :: v70 :: v71 :: v72 :: v73 :: v74 :: v75 :: v76 :: v77 :: v78 :: v79 :: []).toArray, []⟩
def VS (s : ByteArray) (w : World) (v3 v4 v5 : Value) (wr : World) (pos : Nat) : Prop := ∃ (n : Nat) (la : ByteArray), pos ≤ s.size ∧ wr = w.iter s pos ∧ v3 = .int .i64 n ∧ v4 = .int .i64 la.size ∧ v5 = .string la ∧ n ≤ pos + 1 ∧ la.size ≤ 14 ∧ Hid (vloop n la.data.toList (s.data.toList.drop pos) = validB s.data.toList)
set_option maxHeartbeats 2000000 in
set_option maxRecDepth 100000 in
theorem valid_any (s : ByteArray) (w : World) (hs : s.size ≤ 1000000) : Calls Tryd.prog 11 #[.string s] w fun e w' => e = .returned (.bool (validB s.data.toList)) ∧ Below w.heap.size w w' := by
  go_enter Tryd.func11, Tryd.ntmps11
  go_wp2_with fail
  refine wp_scope_jumps 0 (AtWrong s w) (fun _ _ => 0) rfl ?_ ?_
  · go_wp2_with fail
    go_loopw [3, 4, 5] (fun v3 v4 v5 wr => ∃ pos, VS s w v3 v4 v5 wr pos) (fun _ _ _ wr => s.size - wr.iterPos w.heap.size)
    case atStart => exact ⟨0, 1, ⟨#[]⟩, by omega, rfl, rfl, rfl, rfl, by omega, by decide, rfl⟩
    case round =>
      obtain ⟨pos, n, la, hps, rfl, rfl, rfl, rfl, hn, hla, HV⟩ := hrel
      by_cases hp : pos < s.size
      · have hnx : ∀ ty, (Instr.next (.pointer (some ⟨w.heap.size, 0, none⟩)) true ty).run Tryd.prog (w.iter s pos) = _ := fun ty => run_next_any w s pos ty hp
        rw [drop_at s pos hp] at HV
        have hwd := width_pos s pos hp
        by_cases hasc : (s[pos]'hp).toNat < 128
        · rw [decode_ascii s pos hp hasc] at hnx
          generalize hc : s[pos]'hp = c at *
          have HC := Lib.hid hc
          clear hc
          have hcl := HC.out
          by_cases hk : c.toNat = 47
          · have e1 : (c.toNat : Int) = 47 := by omega
            rw [e1] at hnx
            by_cases h0 : la.size = 0
            · have z0 : (la.size : Int) = 0 := by omega
              have hd : dots la.data.toList = true := by
                have : la.data.toList = [] := List.length_eq_zero_iff.1 (by simpa using h0)
                rw [this]; rfl
              rw [z0]
              go_wp2_with fail
              go_step3
              refine ⟨rfl, ?_, iter_below w s _, _, _, _, _, _, _, _, _, _, _, _, _, _, _, _, _, _, _, _, _, _, _, _, _, _, _, _, _, _, _, _, _, _, _, _, _, _, _, _, _, _, _, _, _, _, _, _, _, _, _, _, _, _, _, _, _, _, _, _, _, _, _, _, _, _, _, _, _, _, _, _, _, _, _, _, _, _, _, _, _, rfl⟩
              show _ = _
              rw [← HV.out]
              exact vloop_dots hk hd
            · have z0 : ((la.size : Int) == 0) = false := by rw [beq_eq_false_iff_ne]; omega
              by_cases h1 : (la.data.toList == [46]) = true
              · have hd : dots la.data.toList = true := by simp [dots, h1]
                rw [← bytes_list] at h1
                go_wp2_with fail
                go_step3
                refine ⟨rfl, ?_, iter_below w s _, _, _, _, _, _, _, _, _, _, _, _, _, _, _, _, _, _, _, _, _, _, _, _, _, _, _, _, _, _, _, _, _, _, _, _, _, _, _, _, _, _, _, _, _, _, _, _, _, _, _, _, _, _, _, _, _, _, _, _, _, _, _, _, _, _, _, _, _, _, _, _, _, _, _, _, _, _, _, _, _, rfl⟩
                show _ = _
                rw [← HV.out]
                exact vloop_dots hk hd
              · have h1 : (la.data.toList == [46]) = false := by simpa using h1
                by_cases h2 : (la.data.toList == [46, 46]) = true
                · have hd : dots la.data.toList = true := by simp [dots, h2]
                  have h1q := h1
                  rw [← bytes_list] at h1 h2
                  go_wp2_with fail
                  go_step3
                  refine ⟨rfl, ?_, iter_below w s _, _, _, _, _, _, _, _, _, _, _, _, _, _, _, _, _, _, _, _, _, _, _, _, _, _, _, _, _, _, _, _, _, _, _, _, _, _, _, _, _, _, _, _, _, _, _, _, _, _, _, _, _, _, _, _, _, _, _, _, _, _, _, _, _, _, _, _, _, _, _, _, _, _, _, _, _, _, _, _, _, rfl⟩
                  show _ = _
                  rw [← HV.out]
                  exact vloop_dots hk hd
                · have h2 : (la.data.toList == [46, 46]) = false := by simpa using h2
                  have h3 : (la.data.toList == []) = false := by
                    have : la.data.toList ≠ [] := fun e => h0 (by have := congrArg List.length e; simpa using this)
                    simpa using this
                  have hd : dots la.data.toList = false := by simp [dots, h1, h2, h3]
                  rw [← bytes_list] at h1 h2
                  have n1 : (n : Int) + 1 ≤ 1000002 := by omega
                  go_wp2_with fail
                  go_roundw
                  case rel => exact ⟨pos + 1, n + 1, ⟨#[]⟩, by omega, rfl, add_one n, rfl, rfl, by omega, by decide, by show _ = _; rw [← HV.out, vloop_slash hk hd]⟩
                  case measure =>
                    simp
                    omega
          · have e0 : ((c.toNat : Int) == 47) = false := by simp; omega
            by_cases g44 : c.toNat ≤ 44
            · skip
              have t0 : ¬ (97 : Int) ≤ (c.toNat : Int) := by omega
              have t1 : (c.toNat : Int) ≤ 122 := by omega
              have t2 : ¬ (48 : Int) ≤ (c.toNat : Int) := by omega
              have t3 : (c.toNat : Int) ≤ 57 := by omega
              have q46 : ((c.toNat : Int) == 46) = false := by simp; omega
              have q95 : ((c.toNat : Int) == 95) = false := by simp; omega
              have q45 : ((c.toNat : Int) == 45) = false := by simp; omega
              have ho : okc c.toNat = false := by simp [okc]; omega
              go_wp2_with fail
              go_step3
              refine ⟨rfl, ?_, iter_below w s _, _, _, _, _, _, _, _, _, _, _, _, _, _, _, _, _, _, _, _, _, _, _, _, _, _, _, _, _, _, _, _, _, _, _, _, _, _, _, _, _, _, _, _, _, _, _, _, _, _, _, _, _, _, _, _, _, _, _, _, _, _, _, _, _, _, _, _, _, _, _, _, _, _, _, _, _, _, _, _, _, rfl⟩
              show _ = _
              rw [← HV.out]
              exact vloop_bad hk ho
            · skip
              by_cases g45 : c.toNat ≤ 45
              · skip
                have t0 : ¬ (97 : Int) ≤ (c.toNat : Int) := by omega
                have t1 : (c.toNat : Int) ≤ 122 := by omega
                have t2 : ¬ (48 : Int) ≤ (c.toNat : Int) := by omega
                have t3 : (c.toNat : Int) ≤ 57 := by omega
                have q46 : ((c.toNat : Int) == 46) = false := by simp; omega
                have q95 : ((c.toNat : Int) == 95) = false := by simp; omega
                have ee : (c.toNat : Int) = 45 := by omega
                rw [ee] at hnx
                have ho : okc c.toNat = true := by simp [okc]; omega
                by_cases hl : la.size + 1 ≤ 14
                · have l1 : (la.size : Int) + 1 ≤ 14 := by omega
                  have l2 : ¬ (14 : Int) < (la.size : Int) + 1 := by omega
                  go_wp2_with fail
                  go_roundw
                  case rel => exact ⟨pos + 1, n, la ++ s.extract pos (pos + 1), by omega, rfl, rfl, add_size la s pos hp, rfl, by omega, by rw [one_size la s pos hp]; omega, by show _ = _; rw [← HV.out, vloop_ok hk ho (by simpa using hl), one_data la s pos hp, hcl]⟩
                  case measure =>
                    simp
                    omega
                · have l1 : (14 : Int) < (la.size : Int) + 1 := by omega
                  go_wp2_with fail
                  go_step3
                  refine ⟨rfl, ?_, iter_below w s _, _, _, _, _, _, _, _, _, _, _, _, _, _, _, _, _, _, _, _, _, _, _, _, _, _, _, _, _, _, _, _, _, _, _, _, _, _, _, _, _, _, _, _, _, _, _, _, _, _, _, _, _, _, _, _, _, _, _, _, _, _, _, _, _, _, _, _, _, _, _, _, _, _, _, _, _, _, _, _, _, rfl⟩
                  show _ = _
                  rw [← HV.out]
                  exact vloop_long hk (by simp; omega)
              · skip
                by_cases g46 : c.toNat ≤ 46
                · skip
                  have t0 : ¬ (97 : Int) ≤ (c.toNat : Int) := by omega
                  have t1 : (c.toNat : Int) ≤ 122 := by omega
                  have t2 : ¬ (48 : Int) ≤ (c.toNat : Int) := by omega
                  have t3 : (c.toNat : Int) ≤ 57 := by omega
                  have q95 : ((c.toNat : Int) == 95) = false := by simp; omega
                  have q45 : ((c.toNat : Int) == 45) = false := by simp; omega
                  have ee : (c.toNat : Int) = 46 := by omega
                  rw [ee] at hnx
                  have ho : okc c.toNat = true := by simp [okc]; omega
                  by_cases hl : la.size + 1 ≤ 14
                  · have l1 : (la.size : Int) + 1 ≤ 14 := by omega
                    have l2 : ¬ (14 : Int) < (la.size : Int) + 1 := by omega
                    go_wp2_with fail
                    go_roundw
                    case rel => exact ⟨pos + 1, n, la ++ s.extract pos (pos + 1), by omega, rfl, rfl, add_size la s pos hp, rfl, by omega, by rw [one_size la s pos hp]; omega, by show _ = _; rw [← HV.out, vloop_ok hk ho (by simpa using hl), one_data la s pos hp, hcl]⟩
                    case measure =>
                      simp
                      omega
                  · have l1 : (14 : Int) < (la.size : Int) + 1 := by omega
                    go_wp2_with fail
                    go_step3
                    refine ⟨rfl, ?_, iter_below w s _, _, _, _, _, _, _, _, _, _, _, _, _, _, _, _, _, _, _, _, _, _, _, _, _, _, _, _, _, _, _, _, _, _, _, _, _, _, _, _, _, _, _, _, _, _, _, _, _, _, _, _, _, _, _, _, _, _, _, _, _, _, _, _, _, _, _, _, _, _, _, _, _, _, _, _, _, _, _, _, _, rfl⟩
                    show _ = _
                    rw [← HV.out]
                    exact vloop_long hk (by simp; omega)
                · skip
                  by_cases g57 : c.toNat ≤ 57
                  · skip
                    have t0 : ¬ (97 : Int) ≤ (c.toNat : Int) := by omega
                    have t1 : (c.toNat : Int) ≤ 122 := by omega
                    have t2 : (48 : Int) ≤ (c.toNat : Int) := by omega
                    have t3 : (c.toNat : Int) ≤ 57 := by omega
                    have q46 : ((c.toNat : Int) == 46) = false := by simp; omega
                    have q95 : ((c.toNat : Int) == 95) = false := by simp; omega
                    have q45 : ((c.toNat : Int) == 45) = false := by simp; omega
                    have ho : okc c.toNat = true := by simp [okc]; omega
                    by_cases hl : la.size + 1 ≤ 14
                    · have l1 : (la.size : Int) + 1 ≤ 14 := by omega
                      have l2 : ¬ (14 : Int) < (la.size : Int) + 1 := by omega
                      go_wp2_with fail
                      go_roundw
                      case rel => exact ⟨pos + 1, n, la ++ s.extract pos (pos + 1), by omega, rfl, rfl, add_size la s pos hp, rfl, by omega, by rw [one_size la s pos hp]; omega, by show _ = _; rw [← HV.out, vloop_ok hk ho (by simpa using hl), one_data la s pos hp, hcl]⟩
                      case measure =>
                        simp
                        omega
                    · have l1 : (14 : Int) < (la.size : Int) + 1 := by omega
                      go_wp2_with fail
                      go_step3
                      refine ⟨rfl, ?_, iter_below w s _, _, _, _, _, _, _, _, _, _, _, _, _, _, _, _, _, _, _, _, _, _, _, _, _, _, _, _, _, _, _, _, _, _, _, _, _, _, _, _, _, _, _, _, _, _, _, _, _, _, _, _, _, _, _, _, _, _, _, _, _, _, _, _, _, _, _, _, _, _, _, _, _, _, _, _, _, _, _, _, _, rfl⟩
                      show _ = _
                      rw [← HV.out]
                      exact vloop_long hk (by simp; omega)
                  · skip
                    by_cases g94 : c.toNat ≤ 94
                    · skip
                      have t0 : ¬ (97 : Int) ≤ (c.toNat : Int) := by omega
                      have t1 : (c.toNat : Int) ≤ 122 := by omega
                      have t2 : (48 : Int) ≤ (c.toNat : Int) := by omega
                      have t3 : ¬ (c.toNat : Int) ≤ 57 := by omega
                      have q46 : ((c.toNat : Int) == 46) = false := by simp; omega
                      have q95 : ((c.toNat : Int) == 95) = false := by simp; omega
                      have q45 : ((c.toNat : Int) == 45) = false := by simp; omega
                      have ho : okc c.toNat = false := by simp [okc]; omega
                      go_wp2_with fail
                      go_step3
                      refine ⟨rfl, ?_, iter_below w s _, _, _, _, _, _, _, _, _, _, _, _, _, _, _, _, _, _, _, _, _, _, _, _, _, _, _, _, _, _, _, _, _, _, _, _, _, _, _, _, _, _, _, _, _, _, _, _, _, _, _, _, _, _, _, _, _, _, _, _, _, _, _, _, _, _, _, _, _, _, _, _, _, _, _, _, _, _, _, _, _, rfl⟩
                      show _ = _
                      rw [← HV.out]
                      exact vloop_bad hk ho
                    · skip
                      by_cases g95 : c.toNat ≤ 95
                      · skip
                        have t0 : ¬ (97 : Int) ≤ (c.toNat : Int) := by omega
                        have t1 : (c.toNat : Int) ≤ 122 := by omega
                        have t2 : (48 : Int) ≤ (c.toNat : Int) := by omega
                        have t3 : ¬ (c.toNat : Int) ≤ 57 := by omega
                        have q46 : ((c.toNat : Int) == 46) = false := by simp; omega
                        have q45 : ((c.toNat : Int) == 45) = false := by simp; omega
                        have ee : (c.toNat : Int) = 95 := by omega
                        rw [ee] at hnx
                        have ho : okc c.toNat = true := by simp [okc]; omega
                        by_cases hl : la.size + 1 ≤ 14
                        · have l1 : (la.size : Int) + 1 ≤ 14 := by omega
                          have l2 : ¬ (14 : Int) < (la.size : Int) + 1 := by omega
                          go_wp2_with fail
                          go_roundw
                          case rel => exact ⟨pos + 1, n, la ++ s.extract pos (pos + 1), by omega, rfl, rfl, add_size la s pos hp, rfl, by omega, by rw [one_size la s pos hp]; omega, by show _ = _; rw [← HV.out, vloop_ok hk ho (by simpa using hl), one_data la s pos hp, hcl]⟩
                          case measure =>
                            simp
                            omega
                        · have l1 : (14 : Int) < (la.size : Int) + 1 := by omega
                          go_wp2_with fail
                          go_step3
                          refine ⟨rfl, ?_, iter_below w s _, _, _, _, _, _, _, _, _, _, _, _, _, _, _, _, _, _, _, _, _, _, _, _, _, _, _, _, _, _, _, _, _, _, _, _, _, _, _, _, _, _, _, _, _, _, _, _, _, _, _, _, _, _, _, _, _, _, _, _, _, _, _, _, _, _, _, _, _, _, _, _, _, _, _, _, _, _, _, _, _, rfl⟩
                          show _ = _
                          rw [← HV.out]
                          exact vloop_long hk (by simp; omega)
                      · skip
                        by_cases g96 : c.toNat ≤ 96
                        · skip
                          have t0 : ¬ (97 : Int) ≤ (c.toNat : Int) := by omega
                          have t1 : (c.toNat : Int) ≤ 122 := by omega
                          have t2 : (48 : Int) ≤ (c.toNat : Int) := by omega
                          have t3 : ¬ (c.toNat : Int) ≤ 57 := by omega
                          have q46 : ((c.toNat : Int) == 46) = false := by simp; omega
                          have q95 : ((c.toNat : Int) == 95) = false := by simp; omega
                          have q45 : ((c.toNat : Int) == 45) = false := by simp; omega
                          have ee : (c.toNat : Int) = 96 := by omega
                          rw [ee] at hnx
                          have ho : okc c.toNat = false := by simp [okc]; omega
                          go_wp2_with fail
                          go_step3
                          refine ⟨rfl, ?_, iter_below w s _, _, _, _, _, _, _, _, _, _, _, _, _, _, _, _, _, _, _, _, _, _, _, _, _, _, _, _, _, _, _, _, _, _, _, _, _, _, _, _, _, _, _, _, _, _, _, _, _, _, _, _, _, _, _, _, _, _, _, _, _, _, _, _, _, _, _, _, _, _, _, _, _, _, _, _, _, _, _, _, _, rfl⟩
                          show _ = _
                          rw [← HV.out]
                          exact vloop_bad hk ho
                        · skip
                          by_cases g122 : c.toNat ≤ 122
                          · skip
                            have t0 : (97 : Int) ≤ (c.toNat : Int) := by omega
                            have t1 : (c.toNat : Int) ≤ 122 := by omega
                            have t2 : (48 : Int) ≤ (c.toNat : Int) := by omega
                            have t3 : ¬ (c.toNat : Int) ≤ 57 := by omega
                            have q46 : ((c.toNat : Int) == 46) = false := by simp; omega
                            have q95 : ((c.toNat : Int) == 95) = false := by simp; omega
                            have q45 : ((c.toNat : Int) == 45) = false := by simp; omega
                            have ho : okc c.toNat = true := by simp [okc]; omega
                            by_cases hl : la.size + 1 ≤ 14
                            · have l1 : (la.size : Int) + 1 ≤ 14 := by omega
                              have l2 : ¬ (14 : Int) < (la.size : Int) + 1 := by omega
                              go_wp2_with fail
                              go_roundw
                              case rel => exact ⟨pos + 1, n, la ++ s.extract pos (pos + 1), by omega, rfl, rfl, add_size la s pos hp, rfl, by omega, by rw [one_size la s pos hp]; omega, by show _ = _; rw [← HV.out, vloop_ok hk ho (by simpa using hl), one_data la s pos hp, hcl]⟩
                              case measure =>
                                simp
                                omega
                            · have l1 : (14 : Int) < (la.size : Int) + 1 := by omega
                              go_wp2_with fail
                              go_step3
                              refine ⟨rfl, ?_, iter_below w s _, _, _, _, _, _, _, _, _, _, _, _, _, _, _, _, _, _, _, _, _, _, _, _, _, _, _, _, _, _, _, _, _, _, _, _, _, _, _, _, _, _, _, _, _, _, _, _, _, _, _, _, _, _, _, _, _, _, _, _, _, _, _, _, _, _, _, _, _, _, _, _, _, _, _, _, _, _, _, _, _, rfl⟩
                              show _ = _
                              rw [← HV.out]
                              exact vloop_long hk (by simp; omega)
                          · skip
                            have t0 : (97 : Int) ≤ (c.toNat : Int) := by omega
                            have t1 : ¬ (c.toNat : Int) ≤ 122 := by omega
                            have t2 : (48 : Int) ≤ (c.toNat : Int) := by omega
                            have t3 : ¬ (c.toNat : Int) ≤ 57 := by omega
                            have q46 : ((c.toNat : Int) == 46) = false := by simp; omega
                            have q95 : ((c.toNat : Int) == 95) = false := by simp; omega
                            have q45 : ((c.toNat : Int) == 45) = false := by simp; omega
                            have ho : okc c.toNat = false := by simp [okc]; omega
                            go_wp2_with fail
                            go_step3
                            refine ⟨rfl, ?_, iter_below w s _, _, _, _, _, _, _, _, _, _, _, _, _, _, _, _, _, _, _, _, _, _, _, _, _, _, _, _, _, _, _, _, _, _, _, _, _, _, _, _, _, _, _, _, _, _, _, _, _, _, _, _, _, _, _, _, _, _, _, _, _, _, _, _, _, _, _, _, _, _, _, _, _, _, _, _, _, _, _, _, _, rfl⟩
                            show _ = _
                            rw [← HV.out]
                            exact vloop_bad hk ho
        · have hdh := decode_high s pos hp (by omega)
          have hc2 : okc (s[pos]'hp).toNat = false := by simp [okc]; omega
          have hc3 : (s[pos]'hp).toNat ≠ 47 := by omega
          generalize s[pos]'hp = c at *
          generalize Utf8.decode s pos = rd at *
          obtain ⟨r, k⟩ := rd
          simp only at hdh hwd hnx
          have r1 : ¬ (r : Int) ≤ 122 := by omega
          have r2 : ¬ (r : Int) ≤ 57 := by omega
          have r3 : ((r : Int) == 46) = false := by simp; omega
          have r4 : ((r : Int) == 95) = false := by simp; omega
          have r5 : ((r : Int) == 45) = false := by simp; omega
          have r6 : ((r : Int) == 47) = false := by simp; omega
          have r7 : (97 : Int) ≤ (r : Int) := by omega
          have r8 : (48 : Int) ≤ (r : Int) := by omega
          go_wp2_with fail
          go_step3
          refine ⟨rfl, ?_, iter_below w s _, _, _, _, _, _, _, _, _, _, _, _, _, _, _, _, _, _, _, _, _, _, _, _, _, _, _, _, _, _, _, _, _, _, _, _, _, _, _, _, _, _, _, _, _, _, _, _, _, _, _, _, _, _, _, _, _, _, _, _, _, _, _, _, _, _, _, _, _, _, _, _, _, _, _, _, _, _, _, _, _, rfl⟩
          show _ = _
          rw [← HV.out]
          exact vloop_bad hc3 hc2
      · have hnx : ∀ ty, (Instr.next (.pointer (some ⟨w.heap.size, 0, none⟩)) true ty).run Tryd.prog (w.iter s pos) = _ := fun ty => run_next_end w s pos ty hp
        rw [show s.data.toList.drop pos = [] from List.drop_eq_nil_of_le (by simpa using (by omega : s.size ≤ pos))] at HV
        by_cases h0 : la.size = 0
        · have hd : dots la.data.toList = true := by
            have : la.data.toList = [] := List.length_eq_zero_iff.1 (by simpa using h0)
            rw [this]; rfl
          have z0 : (la.size : Int) = 0 := by omega
          rw [z0]
          have HW : Hid (validB s.data.toList = false) := by
            show _ = _
            rw [← HV.out]
            simp [vloop, *]
          go_wp2_with fail
          simp only [Exit.jump]
          go_ret
          exact ⟨by rw [HW.out]; rfl, iter_below w s _⟩
        · have z0 : (0 : Int) < (la.size : Int) := by omega
          by_cases h1 : (la.data.toList == [46]) = true
          · have hd : dots la.data.toList = true := by simp [dots, h1]
            rw [← bytes_list] at h1
            have HW : Hid (validB s.data.toList = false) := by
              show _ = _
              rw [← HV.out]
              simp [vloop, *]
            go_wp2_with fail
            simp only [Exit.jump]
            go_ret
            exact ⟨by rw [HW.out]; rfl, iter_below w s _⟩
          · have h1 : (la.data.toList == [46]) = false := by simpa using h1
            by_cases h2 : (la.data.toList == [46, 46]) = true
            · have hd : dots la.data.toList = true := by simp [dots, h2]
              rw [← bytes_list] at h1 h2
              have HW : Hid (validB s.data.toList = false) := by
                show _ = _
                rw [← HV.out]
                simp [vloop, *]
              go_wp2_with fail
              simp only [Exit.jump]
              go_ret
              exact ⟨by rw [HW.out]; rfl, iter_below w s _⟩
            · have h2 : (la.data.toList == [46, 46]) = false := by simpa using h2
              have h3 : (la.data.toList == []) = false := by
                have : la.data.toList ≠ [] := fun e => h0 (by have := congrArg List.length e; simpa using this)
                simpa using this
              have hd : dots la.data.toList = false := by simp [dots, h1, h2, h3]
              rw [← bytes_list] at h1 h2
              by_cases h6 : n ≤ 6
              · have n6 : (n : Int) ≤ 6 := by omega
                have HW : Hid (validB s.data.toList = true) := by
                  show _ = _
                  rw [← HV.out]
                  simp [vloop, *]
                go_wp2_with fail
                simp only [Exit.jump]
                go_ret
                exact ⟨by rw [HW.out]; rfl, iter_below w s _⟩
              · have n6 : ¬ (n : Int) ≤ 6 := by omega
                have HW : Hid (validB s.data.toList = false) := by
                  show _ = _
                  rw [← HV.out]
                  simp [vloop, *]
                go_wp2_with fail
                simp only [Exit.jump]
                go_ret
                exact ⟨by rw [HW.out]; rfl, iter_below w s _⟩
  · rintro a wr ⟨hv, hb, v0, v1, v2, v3, v4, v5, v6, v7, v8, v9, v10, v11, v12, v13, v14, v15, v16, v17, v18, v19, v20, v21, v22, v23, v24, v25, v26, v27, v28, v29, v30, v31, v32, v33, v34, v35, v36, v37, v38, v39, v40, v41, v42, v43, v44, v45, v46, v47, v48, v49, v50, v51, v52, v53, v54, v55, v56, v57, v58, v59, v60, v61, v62, v63, v64, v65, v66, v67, v68, v69, v70, v71, v72, v73, v74, v75, v76, v77, v78, v79, rfl⟩
    have HV := Lib.hid hv.out
    have HB := Lib.hid hb
    clear hv hb
    go_wp2_with fail
    simp only [Exit.jump]
    go_ret
    rw [HV.out]
    exact ⟨rfl, HB.out⟩
end Go.Proofs.YtpnbmfibooglgaaDoor
