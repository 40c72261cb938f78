import Derived.Test.YtkecmndppllijaaDoorL01TH
import Derived.Test.YtkecmndppllijaaDoorL01G
set_option linter.unusedVariables false
set_option linter.unusedSimpArgs false
set_option maxRecDepth 100000
namespace Go.L01
open Go Go.Abs Go.Proofs
theorem rptext_ok (t : ByteArray) (hv : V t = true) (hs : t.size ≤ 140737488355328) : FOk Tryd.prog 19 [.str t] [] (.tuple [.str (bS (vbl t.size ++ lB t)), .int .i64 0]) [] := by
  refine FOk.wp (rptx_wp t ?_)
  unfold rptx_T
  rw [hv, Int.toNat_natCast]
  have h9 := vbl_len9 (n := t.size) (by omega)
  refine ⟨hs, fun c => absurd c (by simp), fun _ => ⟨by omega, by omega, decide_eq_true (by rw [bS_size]; omega), ?_, rfl⟩⟩
  rw [show bS (vbl t.size) ++ t = bS (vbl t.size ++ lB t) by rw [← bS_append, bS_lB]]
theorem rptext_no (t : ByteArray) (hv : V t = false) (hs : t.size ≤ 140737488355328) : FOk Tryd.prog 19 [.str t] [] (.tuple [.str ⟨#[]⟩, .int .i64 11]) [] := by
  refine FOk.wp (rptx_wp t ?_)
  unfold rptx_T
  rw [hv]
  exact ⟨hs, fun _ => ⟨rfl, rfl⟩, fun c => absurd c (by simp)⟩
theorem texts_law (t z : ByteArray) (ht : t.size ≤ 140737488355328) (hz : z.size ≤ 140737488355328) : FOk Tryd.prog 7 [.str t, .str z] [] (.bool true) [] := by
  cases hv : V t with
  | true =>
    have h9 := vbl_len9 (n := t.size) (by omega)
    have hsz : (bS (vbl t.size ++ lB t)).size = (vbl t.size).length + t.size := by rw [bS_size, List.length_append, lB_length]
    refine FOk.wp (texts_wp t z (bS (vbl t.size ++ lB t)) t 0 (((vbl t.size).length + t.size : Nat) : Int) 0 ?_)
    unfold texts_T
    rw [hsz]
    refine ⟨ht, fun c => absurd c (by simp), fun _ => ⟨ptext_ok t hv ht, rptext_ok t hv ht, fun c => absurd c (by simp), fun _ => ⟨fun c => absurd c (by simp), fun _ => ⟨fun c => absurd c (by simp), fun _ => ⟨decide_eq_true (by omega), text_ok t z _ hv (by omega) ht (by omega), fun _ => ⟨fun _ => ⟨fun _ => ⟨awake_ok, rfl, rfl⟩, fun c => absurd c (by simp)⟩, fun c => absurd c (by simp)⟩, fun c => absurd c (by simp)⟩⟩⟩⟩⟩
  | false =>
    refine FOk.wp (texts_wp t z ⟨#[]⟩ t 11 0 0 ?_)
    unfold texts_T
    exact ⟨ht, fun c => absurd c (by simp), fun _ => ⟨ptext_no t hv, rptext_no t hv ht, fun c => absurd c (by simp), fun _ => ⟨fun c => absurd c (by simp), fun _ => ⟨fun _ => ⟨awake_ok, rfl, rfl⟩, fun c => absurd c (by decide)⟩⟩⟩⟩
theorem texts_row (xs : List AVal) (h : okArgs Tryd.prog Tryd.f7.params.toList [[.str], [.str]] xs) : ∃ σ', FOk Tryd.prog 7 xs [] (.bool true) σ' := by
  obtain ⟨a, bs, rfl, h1, a2, bs2, rfl, h2, h4⟩ := h
  cases h4
  unfold okArg at h1 h2
  rw [if_neg (by rw [show isAggT Tryd.prog 9 = false from by kernel_rfl]; simp)] at h1 h2
  simp only [okKs, okK] at h1 h2
  obtain ⟨v, us, e, ⟨t, rfl, ht⟩, rfl⟩ := h1
  cases e
  obtain ⟨v, us, e, ⟨u, rfl, hu⟩, rfl⟩ := h2
  cases e
  exact ⟨_, texts_law t u (Nat.le_trans ht (by decide)) (Nat.le_trans hu (by decide))⟩
end Go.L01
