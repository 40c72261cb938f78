import Derived.Test.YtkecmndppllijaaDoorL01TA
set_option linter.unusedVariables false
set_option linter.unusedSimpArgs false
set_option maxRecDepth 100000
namespace Go.L01
open Go Go.Abs Go.Proofs

/-- so many bytes that go on -/
def moreL : Nat → List UInt8 → Bool
  | 0, _ => true
  | _ + 1, [] => false
  | n + 1, b :: t => decide (128 ≤ b.toNat ∧ b.toNat ≤ 191) && moreL n t
theorem moreL_short : ∀ (n : Nat) (l : List UInt8), l.length < n → moreL n l = false
  | 0, l, h => by omega
  | n + 1, [], h => rfl
  | n + 1, b :: t, h => by
    rw [moreL, moreL_short n t (by simpa using h), Bool.and_false]
theorem mo_rounds (s : ByteArray) (a n : Nat) (hs : s.size < 9223372036854775807) (ha : a + n ≤ s.size) : ∀ (d i : Nat), i + d = a + n →
    if moreL d ((lB s).drop i) = true then LoopRun Tryd.prog 0 (loopNo Tryd.f24 0) (rgMo s a n i) [] (.exit 0) (rgMo s a n ((a : Int) + (n : Int))) [] else LoopRun Tryd.prog 0 (loopNo Tryd.f24 0) (rgMo s a n i) [] .ret (mkR 32 [(6, .tt false)]) []
  | 0, i, hi => by
    rw [moreL, if_pos rfl]
    refine .done (TripN.wp (mo_wp s a n i ?_)) (by simp)
    unfold mo_T
    rw [wrapS (n := (a : Int) + (n : Int)) (by omega) (by omega)]
    refine ⟨fun h => absurd (of_decide_eq_true h) (by omega), fun _ => ⟨rfl, ?_, rfl⟩⟩
    rw [show (i : Int) = (a : Int) + (n : Int) by omega]; rfl
  | d + 1, i, hi => by
    have ih := mo_rounds s a n hs ha d (i + 1) (by omega)
    have hlt : i < (lB s).length := by rw [lB_length]; omega
    have hb : byteAt s (i : Int) = ((((lB s).getD i 0).toNat : Nat) : Int) := by rw [byteAt_lB, Int.toNat_natCast]
    have hd : (lB s).drop i = (lB s).getD i 0 :: (lB s).drop (i + 1) := by
      rw [List.drop_eq_getElem_cons hlt, List.getD_eq_getElem?_getD, List.getElem?_eq_getElem hlt]; rfl
    rw [hd, moreL]
    generalize (lB s).getD i 0 = B at *
    have w1 : IntKind.wrap .i64 ((a : Int) + (n : Int)) = (a : Int) + (n : Int) := wrapS (by omega) (by omega)
    have w2 : IntKind.wrap .i64 ((i : Int) + 1) = ((i + 1 : Nat) : Int) := by rw [wrapS (by omega) (by omega)]; omega
    have key : ∀ (Q : AExit → Regs → AState → Prop), (¬ (128 ≤ B.toNat ∧ B.toNat ≤ 191) → Q .ret (mkR 32 [(6, .tt false)]) []) → (128 ≤ B.toNat ∧ B.toNat ≤ 191 → Q .normal (rgMo s a n ((i + 1 : Nat) : Int)) []) → mo_T s a n i Q := by
      intro Q q1 q2
      unfold mo_T
      rw [w1, w2, hb]
      refine ⟨fun _ => ⟨decide_eq_true (by rw [lB_length] at hlt; omega), fun h => q1 (by have := of_decide_eq_true h; omega), fun h => ⟨fun h2 => q1 (by have := of_decide_eq_true h2; omega), fun h2 => q2 (by have := of_decide_eq_false h; have := of_decide_eq_false h2; omega)⟩⟩, fun h => absurd (of_decide_eq_false h) (by omega)⟩
    by_cases hc : 128 ≤ B.toNat ∧ B.toNat ≤ 191
    · rw [decide_eq_true hc, Bool.true_and]
      have t := TripN.wp (mo_wp s a n i (key _ (fun h => absurd hc h) (fun _ => ⟨rfl, rfl, rfl⟩)))
      split at ih
      · rename_i h; rw [if_pos h]; exact .more t ih
      · rename_i h; rw [if_neg h]; exact .more t ih
    · rw [decide_eq_false hc, Bool.false_and, if_neg (by simp)]
      exact .done (TripN.wp (mo_wp s a n i (key _ (fun _ => ⟨rfl, rfl, rfl⟩) (fun h => absurd h hc)))) (by simp)
theorem more_ok (s : ByteArray) (a n : Nat) (hs : s.size < 9223372036854775807) (ha : a ≤ s.size) (hn : n < 9) : FOk Tryd.prog 24 [.str s, .int .i64 (a : Int), .int .i64 (n : Int)] [] (.bool (moreL n ((lB s).drop a))) [] := by
  have w : IntKind.wrap .i64 ((s.size : Int) - (a : Int)) = (s.size : Int) - (a : Int) := wrapS (by omega) (by omega)
  by_cases h : a + n ≤ s.size
  · have r := mo_rounds s a n hs h n a rfl
    split at r
    · rename_i hm
      rw [hm]
      refine FOk.wp (more_wp s a n ?_)
      unfold more_T
      rw [w]
      exact ⟨fun h => absurd (of_decide_eq_true h) (by omega), fun _ => ⟨r.trip, rfl, rfl⟩⟩
    · rename_i hm
      rw [show moreL n ((lB s).drop a) = false by simpa using hm]
      refine FOk.wp (moreR_wp s a n ?_)
      unfold moreR_T
      rw [w]
      exact ⟨fun h => absurd (of_decide_eq_true h) (by omega), fun _ => ⟨r.trip, rfl, rfl⟩⟩
  · rw [moreL_short n _ (by rw [List.length_drop, lB_length]; omega)]
    refine FOk.wp (more_wp s a n ?_)
    unfold more_T
    rw [w]
    exact ⟨fun _ => ⟨rfl, rfl⟩, fun h => absurd (of_decide_eq_false h) (by omega)⟩
theorem more_okI (s : ByteArray) (a n : Int) (hs : s.size < 9223372036854775807) (h0 : 0 ≤ a) (ha : a ≤ s.size) (hn0 : 0 ≤ n) (hn : n < 9) : FOk Tryd.prog 24 [.str s, .int .i64 a, .int .i64 n] [] (.bool (moreL n.toNat ((lB s).drop a.toNat))) [] := by
  have := more_ok s a.toNat n.toNat hs (by omega) (by omega)
  rw [Int.toNat_of_nonneg h0, Int.toNat_of_nonneg hn0] at this
  exact this
end Go.L01
