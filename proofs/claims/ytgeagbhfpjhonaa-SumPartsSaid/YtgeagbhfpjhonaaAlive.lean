/- alive: the walk; CRC and SHA at what the document fixes. -/
import Derived.Test.YtgeagbhfpjhonaaAbc
import Derived.Lib.SlBytesConst
namespace Go.Proofs.Ytgeagbhfpjhonaa
open Go.RowKit

theorem bytes_new (w : World) (bs : List UInt8) (cs : Array Value) (fr : Nat × Nat) (n : Nat) (hcs : cs.toList = u8s bs) (hn : n = bs.length) : Bytes (w.alloc (.cells cs 5 fr)) (.slice (some ⟨w.heap.size, 0, none⟩) n n) bs := by
  have hs : cs.size = n := by rw [← Array.length_toList, hcs]; simp [hn]
  have := row_new w cs 5 fr n (by omega)
  rw [hcs, hs] at this
  exact this
theorem crc9 : Crc.more 0 [49, 50, 51, 52, 53, 54, 55, 56, 57] = 3421780262 := by decide +kernel
theorem abc_dig : digTo (ivSt.pieces (padded [97, 98, 99]) 1).row 32 = [186, 120, 22, 191, 143, 1, 207, 234, 65, 65, 64, 222, 93, 174, 34, 35, 176, 3, 97, 163, 150, 23, 122, 156, 180, 16, 255, 97, 242, 0, 21, 173] := by
  rw [abc_words]
  decide +kernel
theorem sha_abc : shaOf [97, 98, 99] = #[b8 186, b8 120, b8 22, b8 191, b8 143, b8 1, b8 207, b8 234, b8 65, b8 65, b8 64, b8 222, b8 93, b8 174, b8 34, b8 35, b8 176, b8 3, b8 97, b8 163, b8 150, b8 23, b8 122, b8 156, b8 180, b8 16, b8 255, b8 97, b8 242, b8 0, b8 21, b8 173] := by
  have h : (padded [97, 98, 99]).length / 64 = 1 := by decide +kernel
  unfold shaOf digOf
  rw [h, abc_dig]
  rfl

theorem run_index_abc (W : World) : (Instr.index 30 (.agg #[.int .u8 186, .int .u8 120, .int .u8 22, .int .u8 191, .int .u8 143, .int .u8 1, .int .u8 207, .int .u8 234, .int .u8 65, .int .u8 65, .int .u8 64, .int .u8 222, .int .u8 93, .int .u8 174, .int .u8 34, .int .u8 35, .int .u8 176, .int .u8 3, .int .u8 97, .int .u8 163, .int .u8 150, .int .u8 23, .int .u8 122, .int .u8 156, .int .u8 180, .int .u8 16, .int .u8 255, .int .u8 97, .int .u8 242, .int .u8 0, .int .u8 21, .int .u8 173]) (.int .i64 0)).run Try.prog W = .ok (.int .u8 186) W := rfl
set_option maxHeartbeats 400000 in
theorem alive_any (w : World) : Calls Try.prog 11 #[] w fun e w' => e = .returned (.bool true) ∧ Below w.heap.size w w' := by
  have kc := fun (w : World) (C : Array Value) (n c : Nat) => Lib.run_convert_bytes_const (P := Try.prog) w 22 5 C n c Try.underlying22 Try.underlying5
  go_enter Try.func11, Try.ntmps11
  go_wp2_with fail
  refine (crc_any _ [49, 50, 51, 52, 53, 54, 55, 56, 57] _ (bytes_new w _ _ _ 9 rfl rfl) (by decide)).mono ?_
  rw [crc9]
  rintro e w1 ⟨rfl, hb1⟩
  have HB1 := Lib.hid hb1
  clear hb1
  go_wp2_with fail
  refine (sha_any _ [97, 98, 99] _ (bytes_new w1 _ _ _ 3 rfl rfl) (by decide)).mono ?_
  rw [sha_abc]
  rintro e w2 ⟨rfl, hb2⟩
  simp only [b8]
  have hix := run_index_abc
  go_wp2_with fail
  go_ret
  have b1 : Below w.heap.size w w1 := ((Below.refl _ w).alloc (Nat.le_refl _) _).trans (HB1.out.mono (by simp))
  exact ⟨rfl, (b1.alloc b1.size _).trans (hb2.mono (by simp; have := b1.size; omega))⟩
end Go.Proofs.Ytgeagbhfpjhonaa
