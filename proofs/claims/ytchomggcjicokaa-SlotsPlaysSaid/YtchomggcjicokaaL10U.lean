import Derived.Test.YtchomggcjicokaaL10T
set_option linter.unusedVariables false
set_option linter.unusedSimpArgs false
set_option maxRecDepth 100000
namespace Go.L10
open Go Go.Abs Go.Proofs

/-! ## The map's bytes -/
theorem grow {g : Int} (h1 : 1 ≤ g) (h8 : g ≤ 8) : [[AVal.int .u8 (IntKind.wrap .u8 g)]] = [UInt8.ofNat g.toNat].map fun b => brow b.toNat := by
  rw [wrapU8]
  simp [brow]
  omega
theorem bw_rounds {l : List Own} (h : Fine l) : ∀ (d i : Nat), i + d = 16 →
    LoopRun Try.prog 1 (loopNo Try.f17 0) (rgW (flat l) i) (BLp (flat l) ((83 :: (l.take i).flatMap enc1).map fun b => brow b.toNat).length ((83 :: (l.take i).flatMap enc1).map fun b => brow b.toNat)) (.exit 0)
      (rgW (flat l) 16) (BLp (flat l) ((83 :: (l.take 16).flatMap enc1).map fun b => brow b.toNat).length ((83 :: (l.take 16).flatMap enc1).map fun b => brow b.toNat))
  | 0, i, hi => by
    obtain rfl : i = 16 := by omega
    refine .done (TripN.wp (bwl_wp _ _ _ _ ?_)) (by simp)
    unfold bwl_T
    exact ⟨fun h => absurd (of_decide_eq_true h) (by omega), fun _ => ⟨rfl, rfl, rfl⟩⟩
  | d + 1, i, hi => by
    refine .more (TripN.wp (bwl_wp _ _ _ _ ?_)) (bw_rounds h d (i + 1) (by omega))
    have hl := h.len
    obtain ⟨f1, f2, f3, f4⟩ := h.at_ i (by omega)
    have t := take_enc l h i (by omega)
    have v9 := vbl_len9 (n := (l.getD i z).e.toNat) (by omega)
    have hfl : (flat l).length = 32 := by rw [flat_length own_w, h.len]
    unfold bwl_T
    rw [Int.toNat_natCast, flat0 i (by omega), flat1 i (by omega), w1 (by omega)]
    simp only [AVal.toInt, grow f1 f2, byteRows_bS, ← List.map_append, List.length_map, List.length_append, List.length_cons, List.length_nil]
    refine ⟨fun _ => ⟨by kernel_rfl, decide_eq_true (by omega), decide_eq_true (by omega), by omega, by omega, trivial, by omega, trivial, by omega, trivial, rfl, ?_⟩, fun h => absurd (of_decide_eq_false h) (by omega)⟩
    rw [take_snoc l i (by omega), List.flatMap_append, List.flatMap_singleton]
    simp [BLp, enc1]
    omega
theorem bytes_ok {l : List Own} (h : Fine l) : FOk Try.prog 17 [.ptr 0 32 0 0] (MapO l) (.tuple [.str (bS (enc l)), .int .i64 0]) (MapO l) := by
  have r := (bw_rounds h 16 0 rfl).trip
  have e : l.take 16 = l := List.take_of_length_le (by rw [h.len]; omega)
  rw [e] at r
  have t := take_enc l h 16 (by omega)
  rw [e] at t
  refine FOk.wp (byt_wp l 16 (enc l) ((enc l).map fun b => brow b.toNat).length ?_)
  unfold byt_T
  exact ⟨h.good, r, rfl, by simp, by simp only [enc, List.length_cons]; omega, rfl, rfl⟩

/-! ## told -/
theorem tl1_rounds {l : List Own} (h : Good l) : ∀ (d : Nat) (i : Int), i + d = 17 → -1 ≤ i →
    LoopRun Try.prog 1 (loopNo Try.f16 0) (rgT i) [.rows true 32 [flat l], .rows false 2 [[.fsl false 1 (l.map gR) none, .fsl false 1 (l.map eR) none]]] (.exit 0)
      (rgT 17) [.rows true 32 [flat l], .rows false 2 [[.fsl false 1 (l.map gR) none, .fsl false 1 (l.map eR) none]]]
  | 0, i, hi, hm => by
    obtain rfl : i = 17 := by omega
    refine .done (TripN.wp (tl1_wp _ _ _ _ ?_)) (by simp)
    unfold tl1_T
    exact ⟨fun h => absurd (of_decide_eq_true h) (by omega), fun _ => ⟨rfl, rfl, rfl⟩⟩
  | d + 1, i, hi, hm => by
    refine .more (TripN.wp (tl1_wp _ _ _ _ ?_)) (tl1_rounds h d (i + 1) (by omega) (by omega))
    have hw : IntKind.wrap .i64 (i + 1) = i + 1 := wrapS (by omega) (by omega)
    have hl := h.len
    unfold tl1_T
    rw [hw]
    refine ⟨fun _ => ⟨h, ?_⟩, fun h => absurd (of_decide_eq_false h) (by omega)⟩
    by_cases c : 0 ≤ i ∧ i ≤ 15
    · have eo : ownerS l i = (l.getD i.toNat z, 0) := if_pos (by simp [inB]; omega)
      have hn : i.toNat < l.length := by omega
      simp only [eo, gd l gR z i.toNat hn, gd l eR z i.toNat hn, List.getD_cons_zero, AVal.toInt, List.length_map]
      refine ⟨fun c => absurd (of_decide_eq_true c) (by omega), fun _ => ⟨fun c => absurd (of_decide_eq_true c) (by omega), fun _ => ?_⟩⟩
      simp
      refine ⟨by omega, rfl, by omega, ?_⟩
      exact ⟨by omega, rfl, by omega, rfl⟩
    · have eo : ownerS l i = (z, 1) := if_neg (by simp [inB]; omega)
      simp only [eo]
      by_cases c1 : i < 0
      · refine ⟨fun _ => ?_, fun c => absurd c1 (of_decide_eq_false c)⟩
        simp [z]
        rfl
      · refine ⟨fun c => absurd (of_decide_eq_true c) c1, fun _ => ⟨fun _ => ?_, fun c => absurd (of_decide_eq_false c) (by omega)⟩⟩
        simp [z]
        rfl
theorem tl2_rounds (l : List Own) (b : Bool) (rs : List Rng) (gs es : List (List AVal)) (hs : rs.length < 1000) : ∀ (d i : Nat), i + d = rs.length →
    LoopRun Try.prog 1 (loopNo Try.f16 1) (rgU i b (rs.map Rng.row)) [.rows true 32 [flat l], .rows false 2 [[.fsl false 1 gs none, .fsl false 1 es none]]] (.exit 2)
      (rgU rs.length b (rs.map Rng.row)) [.rows true 32 [flat l], .rows false 2 [[.fsl false 1 gs none, .fsl false 1 es none]]]
  | 0, i, hi => by
    obtain rfl : i = rs.length := by omega
    refine .done (TripN.wp (tl2_wp _ _ _ _ _ _ ?_)) (by simp)
    unfold tl2_T
    rw [List.length_map]
    exact ⟨fun h => absurd (of_decide_eq_true h) (by omega), fun _ => ⟨rfl, rfl, rfl⟩⟩
  | d + 1, i, hi => by
    refine .more (TripN.wp (tl2_wp _ _ _ _ _ _ ?_)) (tl2_rounds l b rs gs es hs d (i + 1) (by omega))
    unfold tl2_T
    rw [w1 (by omega), Int.toNat_natCast, gd rs Rng.row zr i (by omega), List.length_map]
    refine ⟨fun _ => ?_, fun h => absurd (of_decide_eq_false h) (by omega)⟩
    simp [AVal.toInt]
    exact ⟨by omega, rfl, by omega, rfl, rfl, rfl⟩
theorem told_ok {l : List Own} (h : Fine l) : FOk Try.prog 16 [.ptr 0 32 0 0, qO l] (MapO l) (.bool true) (MapO l) := by
  have hr : (rngS l).length < 1000 := by
    have := rngTo_len l l.length
    have := h.len
    unfold rngS; omega
  refine FOk.wp (told_wp 17 (rngS l).length l ?_)
  unfold told_T
  refine ⟨(tl1_rounds h.good 18 (-1) (by omega) (by omega)).trip, h.good, fun c => absurd c (by simp), fun _ => ⟨(tl2_rounds l _ (rngS l) _ _ hr (rngS l).length 0 (by omega)).trip, bytes_ok h, h, ?_, rfl⟩⟩
  simp

/-! ## Reading back -/
def step : List UInt8 → Option (Nat × Nat × Nat)
  | [] => none
  | c :: t => if 1 ≤ c.toNat ∧ c.toNat ≤ 8 ∧ (rdV t).2.2 = 0 ∧ 1 ≤ (rdV t).1 ∧ (rdV t).1 ≤ 2147483647 then some (c.toNat, (rdV t).1, (rdV t).2.1) else none
def dec : Nat → List UInt8 → Option (List Own × List UInt8)
  | 0, t => some ([], t)
  | k + 1, t => match step t with
    | none => none
    | some (g, n, w) => (dec k (t.drop (1 + w))).map fun x => (⟨g, n⟩ :: x.1, x.2)
theorem isE (s : ByteArray) : (s.toList == (ByteArray.mk #[]).toList) = (lB s).isEmpty := by
  rw [toList_lB, toList_lB]
  cases lB s <;> rfl
theorem lB_from (s : ByteArray) (a : Nat) : lB (s.extract a s.size) = (lB s).drop a := by
  rw [lB_extract, List.take_of_length_le (by rw [List.length_drop, lB_length]; exact Nat.le_refl _)]
theorem rdV_w {l : List UInt8} (h : (rdV l).2.2 = 0) : 0 < (rdV l).2.1 ∧ (rdV l).2.1 ≤ l.length ∧ (rdV l).2.1 ≤ 9 ∧ l.take (rdV l).2.1 = vbl (rdV l).1 := by
  have e : rdV l = ((rdV l).1, (rdV l).2.1, 0) := by rw [← h]
  obtain ⟨a, b, c⟩ := rdV_back e
  have := vbl_len9 (rdV_bound l)
  have h3 := congrArg List.length c
  rw [List.length_take] at h3
  exact ⟨a, b, by omega, c⟩
theorem frl_key (s : ByteArray) (row : List AVal) (i : Nat) (h16 : i < 16) {Q : AExit → Regs → AState → Prop}
    (hr : step (lB s) = none → Q .ret (mkR 60 [(2, .nilp), (3, .int .i64 140)]) [])
    (hn : ∀ g n w s', step (lB s) = some (g, n, w) → lB s' = (lB s).drop (1 + w) → Q .normal (mkR 60 [(0, .str s'), (4, .ptr 0 32 0 0), (16, .int .i64 ((i + 1 : Nat) : Int))]) [.rows true 32 [setCells row (i * 2) [.int .i64 (g : Int), .int .i64 (n : Int)]]]) : frl_T s row i Q := by
  have hsz := lB_length s
  unfold frl_T
  rw [w1 (by omega)]
  simp only [isE, byteAt_lB, Int.toNat_natCast, lB_from]
  cases h : lB s with
  | nil =>
    exact ⟨fun _ => ⟨fun _ => hr (by rw [h]; rfl), fun c => absurd c (by simp)⟩, fun c => absurd (of_decide_eq_false c) (by omega)⟩
  | cons c t =>
    have hc := c.toNat_lt
    rw [h] at hr hn hsz
    simp only [List.length_cons] at hsz
    have wc : IntKind.wrap .i64 (c.toNat : Int) = (c.toNat : Int) := wrapS (by omega) (by omega)
    simp only [List.isEmpty_cons, List.drop_succ_cons, List.drop_zero, Int.toNat_zero, List.getD_cons_zero, wc]
    refine ⟨fun _ => ⟨fun c => absurd c (by simp), fun _ => ⟨decide_eq_true (by omega), fun c1 => hr (if_neg ?_), fun c1 => ⟨decide_eq_true (by omega), fun c2 => hr (if_neg ?_), fun c2 => ⟨fun c3 => hr (if_neg ?_), fun c3 => ?_⟩⟩⟩⟩, fun c => absurd (of_decide_eq_false c) (by omega)⟩
    · simp [inB] at c1; omega
    · simp at c2; omega
    · simp [inB] at c3; omega
    · simp [inB] at c1 c2 c3
      obtain ⟨q1, q2, q3, q4⟩ := rdV_w c2
      have ww : IntKind.wrap .i64 (1 + ((rdV t).2.1 : Int)) = ((1 + (rdV t).2.1 : Nat) : Int) := by rw [wrapS (by omega) (by omega)]; omega
      rw [ww]
      refine ⟨decide_eq_true (by omega), decide_eq_true (by omega), decide_eq_true (by omega), hn _ _ _ _ (if_pos ⟨by omega, by omega, c2, by omega, by omega⟩) ?_⟩
      rw [Int.toNat_natCast, lB_from, h]
theorem set_mid (done : List Own) (x : Own) (d : Nat) : (done ++ List.replicate (d + 1) z).set done.length x = (done ++ [x]) ++ List.replicate d z := by
  rw [List.set_append_right _ _ (Nat.le_refl _), Nat.sub_self, List.append_assoc]
  rfl
theorem fr_rounds : ∀ (d i : Nat), i + d = 16 → ∀ (s : ByteArray) (done : List Own), done.length = i →
    (dec d (lB s) = none → LoopRun Try.prog 0 (loopNo Try.f18 0) (rgD s i) [.rows true 32 [flat (done ++ List.replicate d z)]] .ret (mkR 60 [(2, .nilp), (3, .int .i64 140)]) []) ∧
    (∀ x, dec d (lB s) = some x → ∃ s', lB s' = x.2 ∧ LoopRun Try.prog 0 (loopNo Try.f18 0) (rgD s i) [.rows true 32 [flat (done ++ List.replicate d z)]] (.exit 0) (rgD s' 16) [.rows true 32 [flat (done ++ x.1)]])
  | 0, i, hi, s, done, hd => by
    obtain rfl : i = 16 := by omega
    refine ⟨fun h => (by cases h), fun x h => ?_⟩
    obtain rfl : ([], lB s) = x := Option.some.inj h
    refine ⟨s, rfl, .done (TripN.wp (frl_wp _ _ _ ?_)) (by simp)⟩
    unfold frl_T
    exact ⟨fun h => absurd (of_decide_eq_true h) (by omega), fun _ => ⟨rfl, rfl, rfl⟩⟩
  | d + 1, i, hi, s, done, hd => by
    cases hs : step (lB s) with
    | none =>
      refine ⟨fun h => ?_, fun x h => by simp [dec, hs] at h⟩
      exact .done (TripN.wp (frl_wp _ _ _ (frl_key s _ i (by omega) (fun _ => ⟨rfl, rfl, rfl⟩) (fun g n w s' h2 _ => by rw [hs] at h2; cases h2)))) (by simp)
    | some v =>
      obtain ⟨g, n, w⟩ := v
      obtain ⟨s', e⟩ : ∃ s' : ByteArray, lB s' = (lB s).drop (1 + w) := ⟨bS _, lB_bS _⟩
      have round : TripN Try.prog 0 (loopNo Try.f18 0) (rgD s i) [.rows true 32 [flat (done ++ List.replicate (d + 1) z)]] .normal (rgD s' ((i + 1 : Nat) : Int)) [.rows true 32 [flat ((done ++ [⟨g, n⟩]) ++ List.replicate d z)]] := by
        refine TripN.wp (frl_wp _ _ _ (frl_key s _ i (by omega) (fun h2 => by rw [hs] at h2; cases h2) (fun g' n' w' s2 h2 e2 => ?_)))
        rw [hs] at h2
        obtain ⟨rfl, rfl, rfl⟩ : g = g' ∧ n = n' ∧ w = w' := by injection h2 with h2; injection h2 with a b; injection b with b c; exact ⟨a, b, c⟩
        obtain rfl : s2 = s' := lB_inj (e2.trans e.symm)
        refine ⟨rfl, rfl, ?_⟩
        have := flat_set own_w (done ++ List.replicate (d + 1) z) i ⟨g, n⟩ (by simp; omega)
        rw [this, ← hd, set_mid]
      have ih := fr_rounds d (i + 1) (by omega) s' (done ++ [⟨g, n⟩]) (by simp; omega)
      rw [e] at ih
      refine ⟨fun h => .more round (ih.1 ?_), fun x h => ?_⟩
      · simp only [dec, hs] at h
        cases hd2 : dec d ((lB s).drop (1 + w)) with
        | none => rfl
        | some v => rw [hd2] at h; cases h
      · simp only [dec, hs] at h
        cases hd2 : dec d ((lB s).drop (1 + w)) with
        | none => rw [hd2] at h; cases h
        | some v =>
          rw [hd2] at h
          obtain rfl := Option.some.inj h
          obtain ⟨s2, e2, r⟩ := ih.2 v hd2
          refine ⟨s2, e2, .more round ?_⟩
          simpa using r
def fromS : List UInt8 → Option (List Own)
  | [] => none
  | c :: t => if c = 83 then match dec 16 t with
    | none => none
    | some x => if x.2.isEmpty then some x.1 else none
    else none
theorem pre83 (s : ByteArray) : decide ([83] <+: lB s) = match lB s with | [] => false | c :: t => c == 83 := by
  cases lB s with
  | nil => rfl
  | cons c t => 
    rw [Bool.eq_iff_iff, decide_eq_true_iff, beq_iff_eq, List.cons_prefix_cons]
    simp [eq_comm]
theorem from_none (s : ByteArray) (h : fromS (lB s) = none) : FOk Try.prog 18 [.str s] [] (.tuple [.nilp, .int .i64 140]) [] := by
  have hsz := lB_length s
  cases e : lB s with
  | nil =>
    have hp : decide ([83] <+: lB s) = false := by rw [pre83, e]
    exact frm_1 s s [] 0 (by rw [hp]; rfl)
  | cons c t =>
    have hp : decide ([83] <+: lB s) = (c == 83) := by rw [pre83, e]
    rw [e] at h
    by_cases hc : c = 83
    · have hb : (!decide ([83] <+: lB s)) = false := by rw [hp]; simp [hc]
      simp only [fromS, if_pos hc] at h
      have e1 : lB (s.extract 1 s.size) = t := by rw [lB_from, e]; rfl
      rw [e] at hsz; simp only [List.length_cons] at hsz
      have r := fr_rounds 16 0 rfl (s.extract 1 s.size) [] rfl
      rw [e1] at r
      cases hd : dec 16 t with
      | none =>
        refine FOk.wp (frmR_wp s ?_)
        unfold frmR_T
        exact ⟨fun c => absurd c (by rw [hb]; simp), fun _ => ⟨decide_eq_true (by omega), (r.1 hd).trip, rfl, rfl⟩⟩
      | some x =>
        obtain ⟨s', e2, r2⟩ := r.2 x hd
        rw [hd] at h
        dsimp only at h
        refine FOk.wp (frm_wp s s' (flat x.1) 16 ?_)
        unfold frm_T
        rw [isE, e2]
        refine ⟨fun c => absurd c (by rw [hb]; simp), fun _ => ⟨decide_eq_true (by omega), r2.trip, fun _ => ⟨rfl, rfl⟩, fun c => ?_⟩⟩
        rw [if_pos (by simpa using c)] at h
        cases h
    · exact frm_1 s s [] 0 (by rw [hp]; simp [hc])
theorem from_some (s : ByteArray) (l : List Own) (h : fromS (lB s) = some l) : FOk Try.prog 18 [.str s] [] (.tuple [.ptr 0 32 0 0, .int .i64 0]) (MapO l) := by
  have hsz := lB_length s
  cases e : lB s with
  | nil => rw [e] at h; cases h
  | cons c t =>
    have hp : decide ([83] <+: lB s) = (c == 83) := by rw [pre83, e]
    rw [e] at h
    by_cases hc : c = 83
    · have hb : (!decide ([83] <+: lB s)) = false := by rw [hp]; simp [hc]
      simp only [fromS, if_pos hc] at h
      have e1 : lB (s.extract 1 s.size) = t := by rw [lB_from, e]; rfl
      rw [e] at hsz; simp only [List.length_cons] at hsz
      have r := fr_rounds 16 0 rfl (s.extract 1 s.size) [] rfl
      rw [e1] at r
      cases hd : dec 16 t with
      | none => rw [hd] at h; cases h
      | some x =>
        obtain ⟨s', e2, r2⟩ := r.2 x hd
        rw [hd] at h
        dsimp only at h
        by_cases hx : x.2.isEmpty
        · rw [if_pos hx] at h
          obtain rfl := Option.some.inj h
          refine FOk.wp (frm_wp s s' (flat x.1) 16 ?_)
          unfold frm_T
          rw [isE, e2]
          exact ⟨fun c => absurd c (by rw [hb]; simp), fun _ => ⟨decide_eq_true (by omega), r2.trip, fun c => absurd hx (by simpa using c), fun _ => ⟨rfl, rfl⟩⟩⟩
        · rw [if_neg hx] at h; cases h
    · simp only [fromS, if_neg hc] at h; cases h
end Go.L10
