import Derived.Test.YtkecmndppllijaaDoorL01S
set_option linter.unusedVariables false
set_option linter.unusedSimpArgs false
set_option maxRecDepth 100000
namespace Go.L01
open Go Go.Abs Go.Proofs

theorem awake_ok : FOk Tryd.prog 10 [] [] (.bool true) [] := by
  refine FOk.wp (awake_wp ⟨#[]⟩ ?_)
  unfold awake_T
  have e3 : vbl 300 = [UInt8.ofNat 172, UInt8.ofNat 2] := by rw [vbl_ge (by omega), vbl_lt (by omega)]
  have e2 : vbl 2 = [2] := by rw [vbl_lt (by omega)]; rfl
  have p := putv_ok 300 (by omega) (by omega)
  rw [show (Int.toNat 300) = 300 from rfl, e3] at p
  have q := ptext_ok ⟨#[104, 105]⟩ (by kernel_rfl) (by decide)
  rw [show ByteArray.size ⟨#[104, 105]⟩ = 2 from rfl, e2] at q
  exact ⟨p, q, rfl, rfl⟩
/-! ## BitsVars -/
theorem vars_law (n : Int) (t : ByteArray) (hn : n < 9223372036854775808) (ht : t.size ≤ 140737488355328) : FOk Tryd.prog 5 [.int .i64 n, .str t] [] (.bool true) [] := by
  by_cases h0 : 0 ≤ n
  · have h9 := vbl_len9 (n := n.toNat) (by omega)
    have hr : rdV (lB (bS (vbl n.toNat) ++ t)) = (n.toNat, (vbl n.toNat).length, 0) := by
      rw [lB_append, lB_bS]
      exact rdV_vbl (by omega) _
    refine FOk.wp (vars_wp n t ?_)
    unfold vars_T
    simp only [hr, bS_size]
    refine ⟨h0, hn, fun c => absurd c (by simp), fun _ => ⟨decide_eq_true (by omega), fun _ => ⟨fun _ => ⟨fun _ => ⟨awake_ok, trivial, trivial⟩, fun c => absurd c (by simp)⟩, fun c => absurd c (by simp)⟩, fun c => absurd c (by simp; omega)⟩⟩
  · refine FOk.wp (varsN_wp n t ?_)
    unfold varsN_T
    exact ⟨by omega, awake_ok, rfl, rfl⟩
end Go.L01
