import Derived.Test.YtkecmndppllijaaDoorL01AC
import Derived.Test.YtkecmndppllijaaDoorL01G
set_option linter.unusedVariables false
set_option linter.unusedSimpArgs false
set_option maxRecDepth 100000
namespace Go.L01
open Go Go.Abs Go.Proofs
abbrev tb (t : ByteArray) : ByteArray := bS (vbl t.size ++ lB t)
theorem tb_size (t : ByteArray) : (tb t).size = (vbl t.size).length + t.size := by rw [bS_size, List.length_append, lB_length]
theorem tb_inj {t u : ByteArray} (ht : t.size < 2 ^ 63) (hu : u.size < 2 ^ 63) (h : tb t = tb u) : t = u := by
  have h := bS_inj h
  have r1 := rdV_vbl ht (lB t)
  have r2 := rdV_vbl hu (lB u)
  rw [h, r2] at r1
  have es : u.size = t.size := by injection r1
  rw [es] at h
  exact lB_inj (List.append_cancel_left h)
theorem put_any (m : Int) (hm : m < 9223372036854775808) : ∃ a e, FOk Tryd.prog 12 [.int .i64 m] [] (.tuple [.str a, .int .i64 e]) [] ∧ (e = 0 → 0 ≤ m ∧ a = bS (vbl m.toNat)) := by
  by_cases h : 0 ≤ m
  · exact ⟨_, _, putv_ok m h hm, fun _ => ⟨h, rfl⟩⟩
  · exact ⟨_, _, putv_neg m (by omega), fun c => absurd c (by decide)⟩
theorem ptext_any (t : ByteArray) (ht : t.size ≤ 140737488355328) : ∃ c g, FOk Tryd.prog 18 [.str t] [] (.tuple [.str c, .int .i64 g]) [] ∧ (g = 0 → V t = true ∧ c = tb t) := by
  cases h : V t with
  | true => exact ⟨_, _, ptext_ok t h ht, fun _ => ⟨rfl, rfl⟩⟩
  | false => exact ⟨_, _, ptext_no t h, fun c => absurd c (by decide)⟩
theorem eqB (a b : ByteArray) : (a.toList == b.toList) = decide (a = b) := by
  rw [toList_lB, toList_lB, Bool.eq_iff_iff, beq_iff_eq, decide_eq_true_iff]
  exact ⟨lB_inj, fun h => by rw [h]⟩
theorem apart_law (m n : Int) (t u : ByteArray) (hm : m < 9223372036854775808) (hn : n < 9223372036854775808) (ht : t.size ≤ 140737488355328) (hu : u.size ≤ 140737488355328) : FOk Tryd.prog 8 [.agg [.int .i64 m, .int .i64 n], .str t, .str u] [] (.bool true) [] := by
  obtain ⟨a, e, pa, ha⟩ := put_any m hm
  obtain ⟨b, f, pb, hb⟩ := put_any n hn
  obtain ⟨c, g, pc, hc⟩ := ptext_any t ht
  obtain ⟨d, h, pd, hd⟩ := ptext_any u hu
  have k1 : (e == 0) = true → (f == 0) = true → ¬ ((!(a.toList == b.toList) == (m == n)) = true) := by
    intro c1 c2 c3
    obtain ⟨m0, rfl⟩ := ha (eq_of_beq c1)
    obtain ⟨n0, rfl⟩ := hb (eq_of_beq c2)
    rw [eqB] at c3
    by_cases q : m = n
    · subst q; simp at c3
    · have : ¬ bS (vbl m.toNat) = bS (vbl n.toNat) := fun w => q (by have := vbl_inj (by omega) (by omega) (bS_inj w); omega)
      rw [decide_eq_false this] at c3
      simp [q] at c3
  refine FOk.wp (apart_wp m n t u a b c d t u e f g h ((tb t).size : Int) 0 ((tb u).size : Int) 0 ?_)
  unfold apart_T
  refine ⟨pa, pb, fun ce => ⟨fun cf => ⟨fun bad => absurd bad (k1 ce cf), fun _ => ?_⟩, fun _ => ?_⟩, fun _ => ?_⟩
  all_goals
    refine ⟨pc, pd, fun _ => ⟨awake_ok, rfl, rfl⟩, fun cg => ⟨fun _ => ⟨awake_ok, rfl, rfl⟩, fun ch => ⟨fun _ => ⟨awake_ok, rfl, rfl⟩, fun ct => ⟨fun _ => ⟨awake_ok, rfl, rfl⟩, fun cu => ?_⟩⟩⟩⟩
    obtain ⟨vt, rfl⟩ := hc (by simpa using cg)
    obtain ⟨vu, rfl⟩ := hd (by simpa using ch)
    have ct := of_decide_eq_false ct
    have cu := of_decide_eq_false cu
    have st := tb_size t
    have su := tb_size u
    have lt := vbl_len9 (n := t.size) (by omega)
    have lu := vbl_len9 (n := u.size) (by omega)
    have x1 := text_ok t (tb u) 4096 vt (by omega) ht (by omega)
    have x2 := text_ok u ⟨#[]⟩ 4096 vu (by omega) hu (by decide)
    rw [← st] at x1
    rw [← su, show bS (vbl u.size ++ lB u) ++ ⟨#[]⟩ = tb u from lB_inj (by rw [lB_append]; simp)] at x2
    have ex : (tb t ++ tb u).extract (tb t).size (tb t ++ tb u).size = tb u := by
      apply lB_inj
      rw [lB_from, lB_append, ← lB_length (tb t), List.drop_left]
    refine ⟨decide_eq_true (by omega), x1, fun w => ?_, fun _ => ⟨fun w => absurd w (by simp), fun _ => ⟨fun w => absurd w (by simp), fun _ => ⟨fun w => absurd w (by simp), fun _ => ⟨decide_eq_true (by rw [ByteArray.size_append]; omega), ?_, fun _ => ⟨fun _ => ⟨awake_ok, rfl, rfl⟩, fun w => absurd w (by simp)⟩, fun w => absurd w (by simp)⟩⟩⟩⟩⟩
    · exfalso
      rw [eqB, eqB] at w
      by_cases q : t = u
      · subst q; simp at w
      · rw [decide_eq_false q, decide_eq_false (fun z => q (tb_inj (by omega) (by omega) z))] at w
        simp at w
    · rw [Int.toNat_natCast, Int.toNat_natCast, ex]; exact x2
end Go.L01
