import Derived.Test.YtkecmndppllijaaDoorL01E
set_option linter.unusedVariables false
set_option linter.unusedSimpArgs false
set_option maxRecDepth 100000
namespace Go.L01
open Go Go.Abs Go.Proofs Go.Lib

abbrev regF : Regs := mkR 169 [(2, .tt false)]
theorem size_list (s : ByteArray) : s.size = (lB s).length := (lB_length s).symm
theorem byteN (s : ByteArray) (k : Nat) : byteAt s (k : Int) = (((lB s).getD k 0).toNat : Int) := by rw [byteAt_lB, Int.toNat_natCast]
/-- a round of ValidString -/
theorem vout_key (s : ByteArray) : ∃ t, ∀ {Q : AExit → Regs → AState → Prop}, (∀ s', s'.size < s.size → V s' = V s → Q .normal (rgV s') []) → (V s = false → Q .ret regF []) → (V s = true → Q (.exit 0) (rgV s) []) → vout_T s t Q := by
  obtain ⟨t, t1, t2, tr⟩ := vin_rounds _ (ext s 25) (Nat.le_refl _)
  refine ⟨t, fun {Q} hn hf he => ?_⟩
  by_cases h0 : 0 < s.size
  · have b0 := byteN s 0
    have b1 := byteN s 1
    have b2 := byteN s 2
    have b3 := byteN s 3
    have hne : lB s ≠ [] := by intro c; rw [size_list, c] at h0; simp at h0
    by_cases hb : ((lB s).getD 0 0).toNat < 128
    · have v1 : V (ext s 1) = V s := by
        show validD (lB (ext s 1)) = validD (lB s)
        rw [lB_from]
        cases hl : lB s with
        | nil => exact absurd hl hne
        | cons c r =>
          rw [hl] at hb
          exact (validD_cons c r hb).symm
      unfold vout_T
      simp only [Int.toNat_natCast, wd_wn, ext_ext, show ∀ s a, ByteArray.extract s a s.size = ext s a from fun _ _ => rfl]
      rw [show byteAt s 0 = _ from b0]
      refine ⟨fun _ => ⟨decide_eq_true (by omega), fun _ => ⟨decide_eq_true (by omega), fun c1 => ?_, fun _ => hn _ (by rw [ext_sz]; omega) v1⟩, fun c => absurd (of_decide_eq_false c) (by omega)⟩, fun c => absurd (of_decide_eq_false c) (by omega)⟩
      have c1 := of_decide_eq_true c1
      rw [ext_sz] at c1
      refine ⟨by rw [ext_sz]; omega, fun c2 => ?_, fun _ => hn _ (by rw [ext_sz]; omega) v1⟩
      have v9 : V (ext s 9) = V s := by
        have := skip8 (s := ext s 1) (by rw [ext_sz]; omega) (mask0 (wn_lt _) c2)
        rw [ext_ext] at this
        exact this.trans v1
      refine ⟨decide_eq_true (by rw [ext_sz]; omega), fun c3 => ?_, fun _ => hn _ (by rw [ext_sz]; omega) v9⟩
      have c3 := of_decide_eq_true c3
      rw [ext_sz] at c3
      have o := bits_oru (wn_lt (ext s (1 + 8))) (wn_lt (ext s (1 + 8 + 8)))
      refine ⟨by rw [ext_sz]; omega, decide_eq_true (by rw [ext_sz]; omega), by rw [ext_sz]; omega, fun c4 => ?_, fun _ => hn _ (by rw [ext_sz]; omega) v9⟩
      rw [show bits .or .u64 _ _ = _ from o] at c4
      have m := mask0 (or_lt (wn_lt _) (wn_lt _)) c4
      rw [or_mask] at m
      have k1 := skip8 (s := ext s 9) (by rw [ext_sz]; omega) m.1
      have k2 := skip8 (s := ext s 17) (by rw [ext_sz]; omega) m.2
      rw [ext_ext] at k1 k2
      refine ⟨decide_eq_true (by rw [ext_sz]; omega), tr.trip, hn t ?_ (t1.trans (k2.trans (k1.trans v9)))⟩
      rw [ext_sz] at t2
      omega
    · have h8 := ((lB s).getD 0 0).toNat_lt
      have hv := validD_lead (lB s) hne (by omega)
      obtain ⟨f1, f2, f3, f4⟩ := first_at ⟨((lB s).getD 0 0).toNat, h8⟩
      dsimp only at f1 f2 f3 f4
      obtain ⟨a1, a2, a3⟩ := acc_at ⟨firstT ((lB s).getD 0 0).toNat / 16, f4⟩
      have a7 := and7u ⟨firstT ((lB s).getD 0 0).toNat, f3⟩
      dsimp only at a1 a2 a3 a7
      have hsz := lB_length s
      unfold vout_T
      rw [show byteAt s 0 = _ from b0, show byteAt s 1 = _ from b1, show byteAt s 2 = _ from b2, show byteAt s 3 = _ from b3]
      simp only [Int.toNat_natCast, Nat.mul_one, f1, fdiv16, a1, a2, a7]
      rw [← hsz] at hn h0 ⊢
      have hg : ∀ k, 0 < k → k ≤ (lB s).length → validD ((lB s).drop k) = V s → Q .normal (rgV (s.extract k (lB s).length)) [] := fun k hk hl hvk => hn _ (by rw [hsz]; show (ext s k).size < s.size; rw [ext_sz]; omega) (by rw [hsz]; show validD (lB (ext s k)) = V s; rw [lB_from]; exact hvk)
      clear hn b0 b1 b2 b3 tr t1 t2 f1 a1 a2 a7
      change V s = _ at hv
      generalize ((lB s).getD 0 0).toNat = x0 at *
      generalize ((lB s).getD 1 0).toNat = x1 at *
      generalize ((lB s).getD 2 0).toNat = x2 at *
      generalize ((lB s).getD 3 0).toNat = x3 at *
      generalize accLo (firstT x0 / 16) = lo at *
      generalize accHi (firstT x0 / 16) = hi at *
      generalize hz : firstT x0 % 8 = z at *
      have bad : checkN (lB s).length x1 x2 x3 z lo hi = none → Q .ret regF [] := fun c => hf (by rw [hv, c])
      have good : ∀ k, 0 < k → k ≤ (lB s).length → checkN (lB s).length x1 x2 x3 z lo hi = some k → Q .normal (rgV (s.extract k (lB s).length)) [] := fun k hk hl c => hg k hk hl (by rw [hv, c])
      generalize (lB s).length = N at *
      refine ⟨fun _ => ⟨decide_eq_true (by omega), fun c => absurd (of_decide_eq_true c) (by omega), fun _ => ⟨decide_eq_true (by omega), f2, decide_eq_true (by omega), decide_eq_true (by omega), a3, decide_eq_true (by omega), fun c2 => ?_, fun n2 => ⟨fun c3 => ?_, fun n3 => ⟨fun c4 => ?_, fun n4 => bad ?_⟩⟩⟩⟩, fun c => absurd (of_decide_eq_false c) (by omega)⟩
      · have c2 := eq_of_beq c2
        have e : z = 2 := by omega
        subst e
        refine ⟨fun k => bad ?_, fun k => ⟨decide_eq_true ?_, fun l => bad ?_, fun l => ⟨fun m => bad ?_, fun m => ⟨decide_eq_true ?_, good 2 (by omega) ?_ ?_⟩⟩⟩⟩
        all_goals (try have k1 := of_decide_eq_true k)
        all_goals (try have k2 := of_decide_eq_false k)
        all_goals (try have l1 := of_decide_eq_true l)
        all_goals (try have l2 := of_decide_eq_false l)
        all_goals (try have m1 := of_decide_eq_true m)
        all_goals (try have m2 := of_decide_eq_false m)
        all_goals first | omega | (unfold checkN; rw [if_pos rfl, if_pos (by omega)]) | (unfold checkN; rw [if_pos rfl, if_neg (by omega)])
      · have c3 := eq_of_beq c3
        have e : z = 3 := by omega
        subst e
        refine ⟨fun k => bad ?_, fun k => ⟨decide_eq_true ?_, fun l => bad ?_, fun l => ⟨fun m => bad ?_, fun m => ⟨decide_eq_true ?_, fun o => bad ?_, fun o => ⟨fun p => bad ?_, fun p => ⟨decide_eq_true ?_, good 3 (by omega) ?_ ?_⟩⟩⟩⟩⟩⟩
        all_goals (try have k1 := of_decide_eq_true k)
        all_goals (try have k2 := of_decide_eq_false k)
        all_goals (try have l1 := of_decide_eq_true l)
        all_goals (try have l2 := of_decide_eq_false l)
        all_goals (try have m1 := of_decide_eq_true m)
        all_goals (try have m2 := of_decide_eq_false m)
        all_goals (try have o1 := of_decide_eq_true o)
        all_goals (try have o2 := of_decide_eq_false o)
        all_goals (try have p1 := of_decide_eq_true p)
        all_goals (try have p2 := of_decide_eq_false p)
        all_goals first | omega | (unfold checkN; rw [if_neg (by omega), if_pos rfl, if_pos (by omega)]) | (unfold checkN; rw [if_neg (by omega), if_pos rfl, if_neg (by omega)])
      · have c4 := eq_of_beq c4
        have e : z = 4 := by omega
        subst e
        refine ⟨fun k => bad ?_, fun k => ⟨decide_eq_true ?_, fun l => bad ?_, fun l => ⟨fun m => bad ?_, fun m => ⟨decide_eq_true ?_, fun o => bad ?_, fun o => ⟨fun p => bad ?_, fun p => ⟨decide_eq_true ?_, fun q => bad ?_, fun q => ⟨fun r => bad ?_, fun r => ⟨decide_eq_true ?_, good 4 (by omega) ?_ ?_⟩⟩⟩⟩⟩⟩⟩⟩
        all_goals (try have k1 := of_decide_eq_true k)
        all_goals (try have k2 := of_decide_eq_false k)
        all_goals (try have l1 := of_decide_eq_true l)
        all_goals (try have l2 := of_decide_eq_false l)
        all_goals (try have m1 := of_decide_eq_true m)
        all_goals (try have m2 := of_decide_eq_false m)
        all_goals (try have o1 := of_decide_eq_true o)
        all_goals (try have o2 := of_decide_eq_false o)
        all_goals (try have p1 := of_decide_eq_true p)
        all_goals (try have p2 := of_decide_eq_false p)
        all_goals (try have q1 := of_decide_eq_true q)
        all_goals (try have q2 := of_decide_eq_false q)
        all_goals (try have r1 := of_decide_eq_true r)
        all_goals (try have r2 := of_decide_eq_false r)
        all_goals first | omega | (unfold checkN; rw [if_neg (by omega), if_neg (by omega), if_pos rfl, if_pos (by omega)]) | (unfold checkN; rw [if_neg (by omega), if_neg (by omega), if_pos rfl, if_neg (by omega)])
      · have n2 := beq_eq_false_iff_ne.1 n2
        have n3 := beq_eq_false_iff_ne.1 n3
        have n4 := beq_eq_false_iff_ne.1 n4
        unfold checkN
        rw [if_neg (by omega), if_neg (by omega), if_neg (by omega)]
  · unfold vout_T
    refine ⟨fun c => absurd (of_decide_eq_true c) (by omega), fun _ => he ?_⟩
    have : lB s = [] := List.eq_nil_of_length_eq_zero (by rw [lB_length]; omega)
    show validD (lB s) = true
    rw [this]; rfl
theorem vout_rounds : ∀ (n : Nat) (s : ByteArray), s.size ≤ n → (V s = true → ∃ t, LoopRun Tryd.prog 0 (loopNo Tryd.f21 0) (rgV s) [] (.exit 0) (rgV t) []) ∧ (V s = false → LoopRun Tryd.prog 0 (loopNo Tryd.f21 0) (rgV s) [] .ret regF []) := by
  intro n
  induction n with
  | zero =>
    intro s hs
    obtain ⟨t, hk⟩ := vout_key s
    obtain ⟨e, rg', σ', tr, h⟩ := vout_wp s t (hk (Q := fun e rg' σ' => (∃ s' : ByteArray, e = .normal ∧ s'.size < s.size ∧ V s' = V s ∧ rg' = rgV s' ∧ σ' = []) ∨ (V s = false ∧ e = .ret ∧ rg' = regF ∧ σ' = []) ∨ (V s = true ∧ e = .exit 0 ∧ rg' = rgV s ∧ σ' = [])) (fun s' h1 h2 => .inl ⟨s', rfl, h1, h2, rfl, rfl⟩) (fun h => .inr (.inl ⟨h, rfl, rfl, rfl⟩)) (fun h => .inr (.inr ⟨h, rfl, rfl, rfl⟩)))
    rcases h with ⟨s', rfl, h1, h2, rfl, rfl⟩ | ⟨h, rfl, rfl, rfl⟩ | ⟨h, rfl, rfl, rfl⟩
    · omega
    · exact ⟨fun c => (by rw [h] at c; cases c), fun _ => .done tr (by simp)⟩
    · exact ⟨fun _ => ⟨s, .done tr (by simp)⟩, fun c => (by rw [h] at c; cases c)⟩
  | succ n ih =>
    intro s hs
    obtain ⟨t, hk⟩ := vout_key s
    obtain ⟨e, rg', σ', tr, h⟩ := vout_wp s t (hk (Q := fun e rg' σ' => (∃ s' : ByteArray, e = .normal ∧ s'.size < s.size ∧ V s' = V s ∧ rg' = rgV s' ∧ σ' = []) ∨ (V s = false ∧ e = .ret ∧ rg' = regF ∧ σ' = []) ∨ (V s = true ∧ e = .exit 0 ∧ rg' = rgV s ∧ σ' = [])) (fun s' h1 h2 => .inl ⟨s', rfl, h1, h2, rfl, rfl⟩) (fun h => .inr (.inl ⟨h, rfl, rfl, rfl⟩)) (fun h => .inr (.inr ⟨h, rfl, rfl, rfl⟩)))
    rcases h with ⟨s', rfl, h1, h2, rfl, rfl⟩ | ⟨h, rfl, rfl, rfl⟩ | ⟨h, rfl, rfl, rfl⟩
    · obtain ⟨i1, i2⟩ := ih s' (by omega)
      refine ⟨fun c => ?_, fun c => .more tr (i2 (h2.trans c))⟩
      obtain ⟨u, r⟩ := i1 (h2.trans c)
      exact ⟨u, .more tr r⟩
    · exact ⟨fun c => (by rw [h] at c; cases c), fun _ => .done tr (by simp)⟩
    · exact ⟨fun _ => ⟨s, .done tr (by simp)⟩, fun c => (by rw [h] at c; cases c)⟩
/-- utf8.ValidString -/
theorem valid_ok (s : ByteArray) : FOk Tryd.prog 21 [.str s] [] (.bool (V s)) [] := by
  obtain ⟨h1, h2⟩ := vout_rounds _ s (Nat.le_refl _)
  cases h : V s with
  | true =>
    obtain ⟨t, r⟩ := h1 h
    exact (valid_1 s t r.trip).imp (Imp.bool rfl)
  | false => exact (validR_1 s (h2 h).trip).imp (Imp.bool rfl)
end Go.L01
