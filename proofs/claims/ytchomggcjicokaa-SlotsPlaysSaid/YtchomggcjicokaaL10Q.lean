import Derived.Test.YtchomggcjicokaaL10P
import Derived.Test.YtchomggcjicokaaL10B
set_option linter.unusedVariables false
set_option linter.unusedSimpArgs false
set_option maxRecDepth 100000
namespace Go.L10
open Go Go.Abs Go.Proofs

theorem hasPrefix_ok (s p : ByteArray) : FOk Try.prog 28 [.str s, .str p] [] (.bool (decide (lB p <+: lB s))) [] := by
  have h : FOk Try.prog 33 [.str s, .str p] [] (.bool (decide (lB p <+: lB s))) [] := by
    refine FOk.wp (shp_wp s p ?_)
    unfold shp_T
    refine ⟨fun h => ⟨?_, ?_, rfl⟩, fun h => ⟨?_, rfl⟩⟩
    · have := of_decide_eq_true h; exact decide_eq_true (by omega)
    · rw [toList_lB, toList_lB, lB_extract, Int.toNat_natCast, Nat.sub_zero, List.drop_zero, ← lB_length]
      congr 1
      rw [Bool.eq_iff_iff, beq_iff_eq, decide_eq_true_iff, List.prefix_iff_eq_take]
      exact eq_comm
    · have := of_decide_eq_false h
      congr 1
      symm
      refine decide_eq_false fun c => ?_
      have := c.length_le
      rw [lB_length, lB_length] at this
      omega
  exact hp_1 s p _ h
/-- a write behind what is there -/
theorem ws_ok (s : ByteArray) (bs : List (List AVal)) (n : Nat) (hn : n = bs.length) (hl : (bs.length + (byteRows s).length) * 1 ≤ 140737488355328) : FOk Try.prog 24 [.ptr 0 2 0 0, .str s] [.rows false 2 [[.ptr 0 2 0 0, .slc false 1 1 0 n none]], .trows 5 true 1 bs] (.tuple [.int .i64 (s.size : Int), .nili]) [.rows false 2 [[.ptr 0 2 0 0, .slc false 2 1 0 (n + (byteRows s).length) none]], .dead, .trows 5 true 1 (bs ++ byteRows s)] := by
  subst hn
  exact ws1_1 s bs (decide_eq_true (by omega))
theorem wb_ok (c : Int) (bs : List (List AVal)) (n : Nat) (hn : n = bs.length) (hl : (bs.length + 1) * 1 ≤ 140737488355328) : FOk Try.prog 26 [.ptr 0 2 0 0, .int .u8 c] [.rows false 2 [[.ptr 0 2 0 0, .slc false 1 1 0 n none]], .trows 5 true 1 bs] .nili [.rows false 2 [[.ptr 0 2 0 0, .slc false 2 1 0 (n + 1) none]], .dead, .trows 5 true 1 (bs ++ [[.int .u8 c]])] := by
  subst hn
  exact wb1_1 c bs (decide_eq_true (by omega))
/-- the text of what is there -/
theorem bst_ok (l : List UInt8) (n : Nat) (hn : n = (l.map fun b => brow b.toNat).length) (h0 : 0 < l.length) (hl : l.length < 1000000) : FOk Try.prog 27 [.ptr 0 2 0 0] [.rows false 2 [[.ptr 0 2 0 0, .slc false 1 1 0 n none]], .trows 5 true 1 (l.map fun b => brow b.toNat)] (.str (bS l)) [.rows false 2 [[.ptr 0 2 0 0, .slc false 1 1 0 n none]], .dead] := by
  subst hn
  have key := bst_1 (l.map fun b => brow b.toNat)
  rw [Int.toNat_natCast, List.take_length, List.length_map] at key
  have := key (decide_eq_true (by omega)) (by rw [List.all_eq_true]; intro x hx; obtain ⟨b, _, rfl⟩ := List.mem_map.1 hx; have := b.toNat_lt; simp [u8Row, brow]; omega) (decide_eq_true h0)
  rw [rowBytes_map] at this
  rw [List.length_map]
  exact this
end Go.L10
