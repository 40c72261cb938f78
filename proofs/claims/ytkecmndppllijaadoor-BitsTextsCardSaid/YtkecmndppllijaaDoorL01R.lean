import Derived.Test.YtkecmndppllijaaDoorL01Q
set_option linter.unusedVariables false
set_option linter.unusedSimpArgs false
set_option maxRecDepth 100000
namespace Go.L01
open Go Go.Abs Go.Proofs

/-- a text as bytes -/
theorem ptext_ok (t : ByteArray) (hv : V t = true) (hs : t.size ≤ 140737488355328) : FOk Tryd.prog 18 [.str t] [] (.tuple [.str (bS (vbl t.size ++ lB t)), .int .i64 0]) [] := by
  refine FOk.wp (ptx_wp t ?_)
  unfold ptx_T
  rw [hv, Int.toNat_natCast]
  have h9 := vbl_len9 (n := t.size) (by omega)
  refine ⟨fun c => absurd c (by simp), fun _ => ⟨by omega, by omega, decide_eq_true (by rw [bS_size]; omega), ?_, rfl⟩⟩
  rw [show bS (vbl t.size) ++ t = bS (vbl t.size ++ lB t) by rw [← bS_append, bS_lB]]
theorem ptext_no (t : ByteArray) (hv : V t = false) : FOk Tryd.prog 18 [.str t] [] (.tuple [.str ⟨#[]⟩, .int .i64 11]) [] :=
  ptx_1 t (by rw [hv]; rfl)
end Go.L01
