import Derived.Test.YtkecmndppllijaaDoorL01N
set_option linter.unusedVariables false
set_option linter.unusedSimpArgs false
set_option maxRecDepth 100000
namespace Go.L01
open Go Go.Abs Go.Proofs

theorem shl_val {c i : Nat} (hc : c < 128) (hi : i ≤ 8) : IntKind.wrap .i64 ((c : Int) * 2 ^ (min (IntKind.wrap .i64 (7 * (i : Int))).toNat 64)) = ((c * 2 ^ (7 * i) : Nat) : Int) := by
  rw [wrapS (n := 7 * (i : Int)) (by omega) (by omega)]
  have e : min (7 * (i : Int)).toNat 64 = 7 * i := by omega
  rw [e]
  have hp : (2 : Nat) ^ (7 * i) ≤ 2 ^ 56 := Nat.pow_le_pow_right (by omega) (by omega)
  have hm : c * 2 ^ (7 * i) ≤ 127 * 2 ^ 56 := Nat.mul_le_mul (by omega) hp
  have e2 : (c : Int) * 2 ^ (7 * i) = ((c * 2 ^ (7 * i) : Nat) : Int) := by simp
  rw [e2]
  exact wrapS (by omega) (by omega)
theorem or_val {acc c i : Nat} (ha : acc < 2 ^ (7 * i)) (hc : c < 128) (hi : i ≤ 8) : bits .or .i64 (acc : Int) ((c * 2 ^ (7 * i) : Nat) : Int) = ((acc + c * 2 ^ (7 * i) : Nat) : Int) := by
  have hp : (2 : Nat) ^ (7 * i) ≤ 2 ^ 56 := Nat.pow_le_pow_right (by omega) (by omega)
  have hm : c * 2 ^ (7 * i) ≤ 127 * 2 ^ 56 := Nat.mul_le_mul (by omega) hp
  rw [bits_or64 (by omega) (by omega), or_add ha]
theorem acc_lt {acc c i : Nat} (ha : acc < 2 ^ (7 * i)) (hc : c < 128) : acc + c * 2 ^ (7 * i) < 2 ^ (7 * (i + 1)) := by
  rw [show 7 * (i + 1) = 7 * i + 7 by omega, Nat.pow_add, show (2 : Nat) ^ 7 = 128 by rfl]
  have : c * 2 ^ (7 * i) ≤ 127 * 2 ^ (7 * i) := Nat.mul_le_mul_right _ (by omega)
  omega

/-- how a number that bytes begin with is read, round by round -/
def VEnd (f : Func) (l : List UInt8) (rg : Nat → Regs) (rt : Nat × Nat × Nat → Regs) (r0 : Regs) (x : Nat × Nat × Nat) : Prop :=
  (∃ a, LoopRun Tryd.prog 0 (loopNo f 0) r0 [] (.exit 0) (rg a) [] ∧ x = (if l.length < 9 then (0, 0, 5) else (0, 0, 10))) ∨ LoopRun Tryd.prog 0 (loopNo f 0) r0 [] .ret (rt x) []
theorem VEnd.step {f : Func} {l : List UInt8} {rg : Nat → Regs} {rt : Nat × Nat × Nat → Regs} {r0 r1 : Regs} {x : Nat × Nat × Nat} (t : TripN Tryd.prog 0 (loopNo f 0) r0 [] .normal r1 []) (h : VEnd f l rg rt r1 x) : VEnd f l rg rt r0 x := by
  rcases h with ⟨a, r, e⟩ | r
  · exact .inl ⟨a, .more t r, e⟩
  · exact .inr (.more t r)

theorem va_rounds (s : ByteArray) : ∀ (d i acc : Nat), i + d = min (lB s).length 9 → acc < 2 ^ (7 * i) →
    VEnd Tryd.f14 (lB s) (fun a => rgVa s (a : Int) ((min (lB s).length 9 : Nat) : Int) ((min (lB s).length 9 : Nat) : Int)) (fun x => mkR 41 [(2, .int .i64 (x.1 : Int)), (3, .int .i64 (x.2.1 : Int)), (4, .int .i64 (x.2.2 : Int))])
      (rgVa s (acc : Int) ((min (lB s).length 9 : Nat) : Int) (i : Int)) (rdGo (lB s) d i acc)
  | 0, i, acc, hi, ha => by
    refine .inl ⟨acc, ?_, rfl⟩
    have : i = min (lB s).length 9 := by omega
    subst this
    refine .done (TripN.wp (va_wp s acc _ _ ?_)) (by simp)
    unfold va_T
    exact ⟨fun h => absurd (of_decide_eq_true h) (by omega), fun _ => ⟨rfl, rfl, rfl⟩⟩
  | d + 1, i, acc, hi, ha => by
    have hi8 : i ≤ 8 := by omega
    have hil : i < (lB s).length := by omega
    have hsz := lB_length s
    have hb : byteAt s (i : Int) = ((((lB s).getD i 0).toNat : Nat) : Int) := by rw [byteAt_lB, Int.toNat_natCast]
    simp only [rdGo]
    generalize hB : (lB s).getD i 0 = B at hb
    have hB256 : B.toNat < 256 := B.toNat_lt
    have hc : B.toNat % 128 < 128 := Nat.mod_lt _ (by omega)
    have hv : bits .or .i64 (acc : Int) (IntKind.wrap .i64 (IntKind.wrap .i64 (bits .and .u8 (byteAt s (i : Int)) 127) * 2 ^ (min (IntKind.wrap .i64 (7 * (i : Int))).toNat 64))) = ((acc + B.toNat % 128 * 2 ^ (7 * i) : Nat) : Int) := by
      rw [hb, and_u8 _ hB256, wrapS (n := ((B.toNat % 128 : Nat) : Int)) (by omega) (by omega), shl_val hc hi8, or_val ha hc hi8]
    have w7 : IntKind.wrap .i64 (7 * (i : Int)) = 7 * (i : Int) := wrapS (by omega) (by omega)
    have w1 : IntKind.wrap .i64 ((i : Int) + 1) = ((i + 1 : Nat) : Int) := by rw [wrapS (by omega) (by omega)]; omega
    have key : ∀ (Q : AExit → Regs → AState → Prop), (B.toNat < 128 → B.toNat = 0 ∧ 0 < i → Q .ret (mkR 41 [(2, .int .i64 0), (3, .int .i64 0), (4, .int .i64 10)]) []) →
        (B.toNat < 128 → ¬ (B.toNat = 0 ∧ 0 < i) → Q .ret (mkR 41 [(2, .int .i64 ((acc + B.toNat % 128 * 2 ^ (7 * i) : Nat) : Int)), (3, .int .i64 ((i + 1 : Nat) : Int)), (4, .int .i64 0)]) []) →
        (¬ B.toNat < 128 → Q .normal (rgVa s ((acc + B.toNat % 128 * 2 ^ (7 * i) : Nat) : Int) ((min (lB s).length 9 : Nat) : Int) ((i + 1 : Nat) : Int)) []) → va_T s (acc : Int) ((min (lB s).length 9 : Nat) : Int) (i : Int) Q := by
      intro Q q1 q2 q3
      unfold va_T
      rw [hv, w1, w7, hb]
      refine ⟨fun _ => ⟨decide_eq_true (by omega), decide_eq_true (by omega), fun h => ⟨fun h0 => ⟨fun hp => ?_, fun hp => ?_⟩, fun h0 => ?_⟩, fun h => ?_⟩, fun h => absurd (of_decide_eq_false h) (by omega)⟩
      · exact q1 (by have := of_decide_eq_true h; omega) ⟨by have := eq_of_beq h0; omega, by have := of_decide_eq_true hp; omega⟩
      · exact q2 (by have := of_decide_eq_true h; omega) (fun ⟨_, hp'⟩ => by have := of_decide_eq_false hp; omega)
      · exact q2 (by have := of_decide_eq_true h; omega) (fun ⟨h0', _⟩ => by rw [h0'] at h0; simp at h0)
      · exact q3 (by have := of_decide_eq_false h; omega)
    by_cases h1 : B.toNat < 128
    · rw [if_pos h1]
      by_cases h2 : B.toNat = 0 ∧ 0 < i
      · rw [if_pos h2]
        exact .inr (.done (TripN.wp (va_wp s acc _ i (key _ (fun _ _ => ⟨rfl, rfl, rfl⟩) (fun _ h => absurd h2 h) (fun h => absurd h1 h)))) (by simp))
      · rw [if_neg h2]
        exact .inr (.done (TripN.wp (va_wp s acc _ i (key _ (fun _ h => absurd h h2) (fun _ _ => ⟨rfl, rfl, rfl⟩) (fun h => absurd h1 h)))) (by simp))
    · rw [if_neg h1]
      exact VEnd.step (TripN.wp (va_wp s acc _ i (key _ (fun h => absurd h h1) (fun h => absurd h h1) (fun _ => ⟨rfl, rfl, rfl⟩)))) (va_rounds s d (i + 1) _ (by omega) (acc_lt ha hc))

theorem var_ok (s : ByteArray) : FOk Tryd.prog 14 [.str s] [] (.tuple [.int .i64 ((rdV (lB s)).1 : Int), .int .i64 ((rdV (lB s)).2.1 : Int), .int .i64 ((rdV (lB s)).2.2 : Int)]) [] := by
  have hmin : imin (s.size : Int) 9 = ((min (lB s).length 9 : Nat) : Int) := by
    rw [lB_length]; unfold imin; split <;> omega
  have h := va_rounds s (min (lB s).length 9) 0 0 (by omega) (by simp)
  rw [show rdGo (lB s) (min (lB s).length 9) 0 0 = rdV (lB s) from rfl] at h
  rcases h with ⟨a, r, e⟩ | r
  · refine FOk.wp (varE_wp s a ((min (lB s).length 9 : Nat) : Int) ((min (lB s).length 9 : Nat) : Int) ?_)
    unfold varE_T
    rw [hmin, e]
    refine ⟨r.trip, fun h => ?_, fun h => ?_⟩
    · rw [if_pos (by have := of_decide_eq_true h; rw [lB_length]; omega)]; exact ⟨rfl, rfl⟩
    · rw [if_neg (by have := of_decide_eq_false h; rw [lB_length]; omega)]; exact ⟨rfl, rfl⟩
  · refine FOk.wp (varR_wp s ((rdV (lB s)).1 : Int) ((rdV (lB s)).2.1 : Int) ((rdV (lB s)).2.2 : Int) ?_)
    unfold varR_T
    rw [hmin]
    exact ⟨r.trip, rfl, rfl⟩

end Go.L01
