import Derived.Test.YtchomggcjicokaaL10R
set_option linter.unusedVariables false
set_option linter.unusedSimpArgs false
set_option maxRecDepth 100000
namespace Go.L10
open Go Go.Abs Go.Proofs

abbrev gR (x : Own) : List AVal := [.int .i64 x.g]
abbrev eR (x : Own) : List AVal := [.int .i64 x.e]
abbrev qO (l : List Own) : AVal := qV (l.map gR) (l.map eR)
structure Fine (l : List Own) : Prop where
  len : l.length = 16
  at_ : ∀ i, i < 16 → 1 ≤ (l.getD i z).g ∧ (l.getD i z).g ≤ 8 ∧ 1 ≤ (l.getD i z).e ∧ (l.getD i z).e ≤ 2147483647
theorem Fine.good {l : List Own} (h : Fine l) : Good l := ⟨h.len, by have := (h.at_ 0 (by omega)).1; omega⟩

theorem take_snoc (m : List Own) (i : Nat) (h : i < m.length) : m.take (i + 1) = m.take i ++ [m.getD i z] := by
  rw [List.take_add_one, List.getD_eq_getElem?_getD, List.getElem?_eq_getElem h]; rfl
theorem len_take (m : List Own) (f : Own → List AVal) (i : Nat) (h : i ≤ m.length) : ((m.take i).map f).length = i := by
  rw [List.length_map, List.length_take]; omega
theorem w1 {i : Nat} (h : i < 1000) : IntKind.wrap .i64 ((i : Int) + 1) = ((i + 1 : Nat) : Int) := by rw [wrapS (by omega) (by omega)]; omega

abbrev gst (m : List Own) (i k : Nat) (b : Bool) : AObj := .rows false 2 [[.slc b k 1 0 ((m.take i).map gR).length none, .slc b (k + 1) 1 0 ((m.take i).map eR).length none]]
theorem rn_rounds (n : Int) (m : List Own) (hm : m.length = 16) (hv : ∀ i : Nat, i < 16 → m.getD i z = ⟨IntKind.wrap .i64 (1 + IntKind.wrap .i64 ((IntKind.wrap .i64 ((i : Int) * n)).tdiv 16)), 1⟩) : ∀ (d i : Nat), i + d = 16 →
    LoopRun Try.prog 0 (loopNo Try.f14 0) (rgN n i) [zz, gst m i 2 (i == 0), .rows true 1 ((m.take i).map gR), .rows true 1 ((m.take i).map eR)] (.exit 0) (rgN n 16) [zz, gst m 16 2 (16 == 0), .rows true 1 ((m.take 16).map gR), .rows true 1 ((m.take 16).map eR)]
  | 0, i, hi => by
    obtain rfl : i = 16 := by omega
    refine .done (TripN.wp (rnl_wp n _ _ _ _ _ ?_)) (by simp)
    unfold rnl_T
    exact ⟨fun h => absurd (of_decide_eq_true h) (by omega), fun _ => ⟨rfl, rfl, rfl⟩⟩
  | d + 1, i, hi => by
    refine .more (TripN.wp (rnl_wp n _ _ _ _ _ ?_)) (rn_rounds n m hm hv d (i + 1) (by omega))
    unfold rnl_T
    have hl := len_take m gR i (by omega)
    have hl2 := len_take m eR i (by omega)
    refine ⟨fun h => ⟨decide_eq_true (by omega), decide_eq_true (by omega), rfl, by rw [w1 (by omega)]; rfl, ?_⟩, fun h => absurd (of_decide_eq_false h) (by omega)⟩
    rw [take_snoc m i (by omega), hv i (by omega)]
    simp [Nat.min_eq_left (show i ≤ m.length by omega), Nat.min_eq_left (show i + 1 ≤ m.length by omega)]
theorem freeze_o (gs es : List (List AVal)) (v : Int) : freezeAL [.rows true 1 gs, .rows true 1 es] [.agg [.slc false 0 1 0 gs.length none, .slc false 1 1 0 es.length none], .int .i64 v] = some ([qV gs es, .int .i64 v], [.dead, .dead], [decide (0 + gs.length ≤ gs.length) = true, decide (0 + es.length ≤ es.length) = true]) := by
  have o : objP [AObj.rows true 1 gs, AObj.rows true 1 es] 0 = .rows true 1 gs := rfl
  have o2 : objP [AObj.dead, AObj.rows true 1 es] 1 = .rows true 1 es := rfl
  simp [freezeAL, freezeA, freezeL, freezeV, o, o2, pureCell]
theorem unpack {f : FuncId} {xs : List AVal} {gs es : List (List AVal)} {v : Int} (h : FOk Try.prog f xs [] (.tuple [.agg [.slc false 0 1 0 gs.length none, .slc false 1 1 0 es.length none], .int .i64 v]) [.rows true 1 gs, .rows true 1 es]) : FOk Try.prog f xs [] (.tuple [qV gs es, .int .i64 v]) [] :=
  (h.freezeT (freeze_o gs es v) (allP_of ⟨decide_eq_true (by omega), decide_eq_true (by omega), trivial⟩)).toN.move [] (by kernel_rfl) (by kernel_rfl) (by kernel_rfl)

theorem newS_at (n : Int) (h1 : 1 ≤ n) (h8 : n ≤ 8) (i : Nat) (hi : i < 16) : (newS n).getD i z = ⟨IntKind.wrap .i64 (1 + IntKind.wrap .i64 ((IntKind.wrap .i64 ((i : Int) * n)).tdiv 16)), 1⟩ := by
  have a0 : 0 ≤ (i : Int) * n := Int.mul_nonneg (by omega) (by omega)
  have a1 : (i : Int) * n ≤ 16 * 8 := Int.mul_le_mul (by omega) h8 (by omega) (by omega)
  rw [wrapS (n := (i : Int) * n) (by omega) (by omega), Int.tdiv_eq_ediv_of_nonneg a0, wrapS (n := (i : Int) * n / 16) (by omega) (by omega), wrapS (by omega) (by omega)]
  unfold newS
  rw [List.getD_eq_getElem?_getD, List.getElem?_map, List.getElem?_range hi]
  rfl
theorem new_fine (n : Int) (h1 : 1 ≤ n) (h8 : n ≤ 8) : Fine (newS n) := by
  refine ⟨by simp [newS], fun i hi => ?_⟩
  rw [newS_at n h1 h8 i hi]
  have a0 : 0 ≤ (i : Int) * n := Int.mul_nonneg (by omega) (by omega)
  have a1 : (i : Int) * n ≤ 15 * n := Int.mul_le_mul (by omega) (by omega) (by omega) (by omega)
  rw [wrapS (n := (i : Int) * n) (by omega) (by omega), Int.tdiv_eq_ediv_of_nonneg a0, wrapS (n := (i : Int) * n / 16) (by omega) (by omega), wrapS (by omega) (by omega)]
  dsimp only
  omega
theorem rnew_no (n : Int) (h : ¬ (1 ≤ n ∧ n ≤ 8)) : FOk Try.prog 14 [.int .i64 n] [] (.tuple [.agg [.fsl true 1 [] none, .fsl true 1 [] none], .int .i64 1]) [] := by
  by_cases h1 : n < 1
  · exact rnew_1 n 0 true true [] [] (decide_eq_true h1)
  · exact rnew_2 n 0 true true [] [] (decide_eq_true (by omega)) (decide_eq_false h1)
theorem rnew_ok (n : Int) (h1 : 1 ≤ n) (h8 : n ≤ 8) : FOk Try.prog 14 [.int .i64 n] [] (.tuple [qO (newS n), .int .i64 0]) [] := by
  have hl := (new_fine n h1 h8).len
  have r := (rn_rounds n (newS n) hl (newS_at n h1 h8) 16 0 rfl).trip
  have e : (newS n).take 16 = newS n := List.take_of_length_le (by omega)
  simp only [gst, e] at r
  exact unpack (rnew_3 n 16 false false _ _ (by exact r) (decide_eq_false (by omega)) (decide_eq_false (by omega)))

/-! ## Give -/
theorem gd {α : Type} (l : List α) (f : α → List AVal) (z : α) (i : Nat) (h : i < l.length) : (l.map f).getD i [] = f (l.getD i z) := getD_map l i z h
theorem rg_rounds (s g : Int) (l : List Own) (hm : l.length = 16) (h0 : 0 ≤ s) (hs : s < 16) (hw : IntKind.wrap .i64 ((l.getD s.toNat z).e + 1) = (l.getD s.toNat z).e + 1) : ∀ (d i : Nat), i + d = 16 →
    LoopRun Try.prog 0 (loopNo Try.f15 0) (rgG s g i) [.rows false 2 [[.fsl false 1 (l.map gR) none, .fsl false 1 (l.map eR) none]], zz, gst (l.set s.toNat ⟨g, (l.getD s.toNat z).e + 1⟩) i 3 (i == 0), .rows true 1 (((l.set s.toNat ⟨g, (l.getD s.toNat z).e + 1⟩).take i).map gR), .rows true 1 (((l.set s.toNat ⟨g, (l.getD s.toNat z).e + 1⟩).take i).map eR)] (.exit 0)
      (rgG s g 16) [.rows false 2 [[.fsl false 1 (l.map gR) none, .fsl false 1 (l.map eR) none]], zz, gst (l.set s.toNat ⟨g, (l.getD s.toNat z).e + 1⟩) 16 3 (16 == 0), .rows true 1 (((l.set s.toNat ⟨g, (l.getD s.toNat z).e + 1⟩).take 16).map gR), .rows true 1 (((l.set s.toNat ⟨g, (l.getD s.toNat z).e + 1⟩).take 16).map eR)]
  | 0, i, hi => by
    obtain rfl : i = 16 := by omega
    refine .done (TripN.wp (rgl_wp s g _ _ _ _ _ _ _ ?_)) (by simp)
    unfold rgl_T
    exact ⟨fun h => absurd (of_decide_eq_true h) (by omega), fun _ => ⟨rfl, rfl, rfl⟩⟩
  | d + 1, i, hi => by
    refine .more (TripN.wp (rgl_wp s g _ _ _ _ _ _ _ ?_)) (rg_rounds s g l hm h0 hs hw d (i + 1) (by omega))
    have em : (l.set s.toNat ⟨g, (l.getD s.toNat z).e + 1⟩).length = 16 := by rw [List.length_set, hm]
    have hv : (l.set s.toNat ⟨g, (l.getD s.toNat z).e + 1⟩).getD i z = if i = s.toNat then ⟨g, (l.getD s.toNat z).e + 1⟩ else l.getD i z := by
      rw [List.getD_eq_getElem?_getD, List.getElem?_set]
      by_cases c : s.toNat = i
      · rw [if_pos c, if_pos (by omega), if_pos c.symm]; rfl
      · rw [if_neg c, if_neg (Ne.symm c), List.getD_eq_getElem?_getD]
    generalize l.set s.toNat ⟨g, (l.getD s.toNat z).e + 1⟩ = m at em hv ⊢
    have hl := len_take m gR i (by omega)
    have hl2 := len_take m eR i (by omega)
    unfold rgl_T
    rw [Int.toNat_natCast, gd l gR z i (by omega), gd l eR z i (by omega)]
    refine ⟨fun h => ⟨decide_eq_true (by rw [List.length_map]; omega), rfl, decide_eq_true (by rw [List.length_map]; omega), decide_eq_true (by rw [List.length_map]; omega), rfl, decide_eq_true (by rw [List.length_map]; omega), fun hc => ⟨decide_eq_true (by omega), decide_eq_true (by omega), rfl, by rw [w1 (by omega)]; rfl, ?_⟩, fun hc => ⟨decide_eq_true (by omega), decide_eq_true (by omega), rfl, by rw [w1 (by omega)]; rfl, ?_⟩⟩, fun h => absurd (of_decide_eq_false h) (by omega)⟩
    · have := eq_of_beq hc
      have c : i = s.toNat := by omega
      rw [if_pos c] at hv
      rw [take_snoc m i (by omega), hv]
      simp [Nat.min_eq_left (show i ≤ m.length by omega), Nat.min_eq_left (show i + 1 ≤ m.length by omega), AVal.toInt, c]
      exact ⟨by omega, by simpa using hw⟩
    · have := beq_eq_false_iff_ne.1 hc
      have c : ¬ i = s.toNat := by omega
      rw [if_neg c] at hv
      rw [take_snoc m i (by omega), hv]
      simp [Nat.min_eq_left (show i ≤ m.length by omega), Nat.min_eq_left (show i + 1 ≤ m.length by omega), AVal.toInt]
theorem rgive_ok {l : List Own} (h : Fine l) (s g : Int) : FOk Try.prog 15 [qO l, .int .i64 s, .int .i64 g] [] (.tuple [qO (giveS l s g).2, .int .i64 (giveS l s g).1]) [] := by
  unfold giveS
  have hl := h.len
  by_cases h1 : s < 0
  · rw [if_neg (by simp [inB]; omega)]; exact rgive_1 s g 0 true true _ _ [] [] (decide_eq_true h1)
  by_cases h2 : s ≥ 16
  · rw [if_neg (by simp [inB]; omega)]; exact rgive_2 s g 0 true true _ _ [] [] (decide_eq_true h2) (decide_eq_false h1)
  rw [if_pos (by simp [inB]; omega)]
  by_cases h3 : g < 1
  · rw [if_neg (by simp [inB]; omega)]; exact rgive_3 s g 0 true true _ _ [] [] (decide_eq_true h3) (decide_eq_false h2) (decide_eq_false h1)
  by_cases h4 : g > 8
  · rw [if_neg (by simp [inB]; omega)]; exact rgive_4 s g 0 true true _ _ [] [] (decide_eq_true h4) (decide_eq_false h3) (decide_eq_false h2) (decide_eq_false h1)
  rw [if_pos (by simp [inB]; omega)]
  have k5 := rgive_5 s g 0 true true (l.map gR) (l.map eR) [] []
  have k6 := rgive_6 s g 0 true true (l.map gR) (l.map eR) [] []
  have k7 := rgive_7 s g 16 false false (l.map gR) (l.map eR) ((l.set s.toNat ⟨g, (l.getD s.toNat z).e + 1⟩).map gR) ((l.set s.toNat ⟨g, (l.getD s.toNat z).e + 1⟩).map eR)
  rw [gd l gR z s.toNat (by omega), gd l eR z s.toNat (by omega)] at k6 k7
  rw [gd l gR z s.toNat (by omega)] at k5
  by_cases h5 : (l.getD s.toNat z).g = g
  · rw [if_pos h5]
    exact k5 (beq_iff_eq.2 h5) (decide_eq_true (by rw [List.length_map]; omega)) rfl (decide_eq_true (by rw [List.length_map]; omega)) (decide_eq_false h4) (decide_eq_false h3) (decide_eq_false h2) (decide_eq_false h1)
  rw [if_neg h5]
  by_cases h6 : (l.getD s.toNat z).e ≥ 2147483647
  · rw [if_pos h6]
    exact k6 (decide_eq_true h6) (decide_eq_true (by rw [List.length_map]; omega)) rfl (decide_eq_true (by rw [List.length_map]; omega)) (beq_eq_false_iff_ne.2 h5) (decide_eq_true (by rw [List.length_map]; omega)) rfl (decide_eq_true (by rw [List.length_map]; omega)) (decide_eq_false h4) (decide_eq_false h3) (decide_eq_false h2) (decide_eq_false h1)
  rw [if_neg h6]
  have hf := h.at_ s.toNat (by omega)
  have hw : IntKind.wrap .i64 ((l.getD s.toNat z).e + 1) = (l.getD s.toNat z).e + 1 := wrapS (by omega) (by omega)
  have r := (rg_rounds s g l hl (by omega) (by omega) hw 16 0 rfl).trip
  rw [hw]
  have e : (l.set s.toNat ⟨g, (l.getD s.toNat z).e + 1⟩).take 16 = l.set s.toNat ⟨g, (l.getD s.toNat z).e + 1⟩ := List.take_of_length_le (by rw [List.length_set]; omega)
  simp only [gst, e] at r
  exact unpack (k7 (by exact r) (decide_eq_false h6) (decide_eq_true (by rw [List.length_map]; omega)) rfl (decide_eq_true (by rw [List.length_map]; omega)) (beq_eq_false_iff_ne.2 h5) (decide_eq_true (by rw [List.length_map]; omega)) rfl (decide_eq_true (by rw [List.length_map]; omega)) (decide_eq_false h4) (decide_eq_false h3) (decide_eq_false h2) (decide_eq_false h1))

/-! ## Ranges -/
theorem rngTo_last (l : List Own) (i : Nat) : 0 < (rngTo l (i + 1)).length ∧ ((rngTo l (i + 1)).getD ((rngTo l (i + 1)).length - 1) zr).g = (l.getD i z).g := by
  simp only [rngTo]
  generalize rngTo l i = out
  refine ⟨(rngAdd_len _ _ _).2, ?_⟩
  unfold rngAdd
  split
  · rename_i h
    rw [List.length_set, List.getD_eq_getElem?_getD, List.getElem?_set_self (by omega)]
    exact h.2
  · rw [List.length_append, List.getD_eq_getElem?_getD, List.length_singleton, Nat.add_sub_cancel, List.getElem?_concat_length]
    rfl
theorem rr_rounds {l : List Own} (h : l.length = 16) : ∀ (d i : Nat), i + d = 16 →
    LoopRun Try.prog 0 (loopNo Try.f22 0) (rgRg i (rngTo l i).isEmpty ((rngTo l i).map Rng.row).length) [.rows false 2 [[.fsl false 1 (l.map gR) none, .fsl false 1 (l.map eR) none]], .rows true 3 ((rngTo l i).map Rng.row)] (.exit 0)
      (rgRg 16 (rngTo l 16).isEmpty ((rngTo l 16).map Rng.row).length) [.rows false 2 [[.fsl false 1 (l.map gR) none, .fsl false 1 (l.map eR) none]], .rows true 3 ((rngTo l 16).map Rng.row)]
  | 0, i, hi => by
    obtain rfl : i = 16 := by omega
    refine .done (TripN.wp (rrl_wp _ _ _ _ _ ?_)) (by simp)
    unfold rrl_T
    exact ⟨fun h => absurd (of_decide_eq_true h) (by omega), fun _ => ⟨rfl, rfl, rfl⟩⟩
  | d + 1, i, hi => by
    refine .more (TripN.wp (rrl_wp _ _ _ _ _ ?_)) (rr_rounds h d (i + 1) (by omega))
    have hlen := rngTo_len l i
    have e : rngTo l (i + 1) = rngAdd (rngTo l i) (i : Int) (l.getD i z).g := rfl
    unfold rrl_T
    rw [Int.toNat_natCast, gd l gR z i (by omega), w1 (by omega), e]
    refine ⟨fun h1 => ⟨fun h2 => ?_, fun h2 => ?_⟩, fun h => absurd (of_decide_eq_false h) (by omega)⟩
    · have i0 : 0 < i := by have := of_decide_eq_true h2; omega
      obtain ⟨k, rfl⟩ : ∃ k, i = k + 1 := ⟨i - 1, by omega⟩
      obtain ⟨hp, hg⟩ := rngTo_last l k
      rw [show IntKind.wrap .i64 (((k + 1 : Nat) : Int) - 1) = (k : Int) by rw [wrapS (by omega) (by omega)]; omega, Int.toNat_natCast, gd l gR z k (by omega)]
      generalize rngTo l (k + 1) = out at *
      have hwl : IntKind.wrap .i64 ((out.length : Int) - 1) = ((out.length - 1 : Nat) : Int) := by rw [wrapS (by omega) (by omega)]; omega
      simp only [List.length_map, hwl, Int.toNat_natCast, gd out Rng.row zr _ (show out.length - 1 < out.length by omega)]
      refine ⟨decide_eq_true (by omega), rfl, decide_eq_true (by omega), decide_eq_true (by omega), rfl, decide_eq_true (by omega), fun hc => ⟨decide_eq_true (by omega), decide_eq_true (by omega), trivial, ?_⟩, fun hc => ⟨decide_eq_true (by omega), trivial, ?_⟩⟩
      · have hc := eq_of_beq hc
        simp only [gR, List.getD_cons_zero, AVal.toInt] at hc
        have e2 : rngAdd out ((k + 1 : Nat) : Int) (l.getD (k + 1) z).g = out.set (out.length - 1) ⟨(out.getD (out.length - 1) zr).lo, ((k + 1 : Nat) : Int), (out.getD (out.length - 1) zr).g⟩ := if_pos ⟨hp, hg.trans hc.symm⟩
        have e4 : ∀ y, (out.set (out.length - 1) y).isEmpty = out.isEmpty := fun y => by cases out <;> simp
        have e3 : setCells (Rng.row (out.getD (out.length - 1) zr)) 1 [.int .i64 ((k + 1 : Nat) : Int)] = Rng.row ⟨(out.getD (out.length - 1) zr).lo, ((k + 1 : Nat) : Int), (out.getD (out.length - 1) zr).g⟩ := rfl
        rw [e2, e3, set_map (f := Rng.row), e4, List.length_set]
        exact ⟨rfl, rfl⟩
      · have hc := beq_eq_false_iff_ne.1 hc
        simp only [gR, List.getD_cons_zero, AVal.toInt] at hc
        have e2 : rngAdd out ((k + 1 : Nat) : Int) (l.getD (k + 1) z).g = out ++ [⟨((k + 1 : Nat) : Int), ((k + 1 : Nat) : Int), (l.getD (k + 1) z).g⟩] := if_neg (by rintro ⟨_, c⟩; exact hc (c.symm.trans hg))
        rw [e2]
        simp [rgRg, isEmpty_snoc, AVal.toInt]
    · have i0 : i = 0 := by have := of_decide_eq_false h2; omega
      subst i0
      have e2 : rngAdd (rngTo l 0) ((0 : Nat) : Int) (l.getD 0 z).g = [] ++ [⟨((0 : Nat) : Int), ((0 : Nat) : Int), (l.getD 0 z).g⟩] := if_neg (by rintro ⟨c, _⟩; exact absurd c (by simp [rngTo]))
      rw [e2]
      simp [rgRg, rngTo, AVal.toInt]
      exact ⟨by omega, rfl, by omega⟩
theorem rranges_ok {l : List Own} (h : Good l) : FOk Try.prog 22 [qO l] [] (.fsl (rngS l).isEmpty 3 ((rngS l).map Rng.row) none) [] := by
  have e : rngS l = rngTo l 16 := by unfold rngS; rw [h.len]
  have hr := (rr_rounds h.len 16 0 rfl).trip
  rw [← e] at hr
  have := rrng_1 16 (rngS l).isEmpty (l.map gR) (l.map eR) ((rngS l).map Rng.row) hr
  exact this.fsl rfl rfl rfl

/-! ## The bytes -/
abbrev enc1 (x : Own) : List UInt8 := UInt8.ofNat x.g.toNat :: vbl x.e.toNat
abbrev enc (l : List Own) : List UInt8 := 83 :: l.flatMap enc1
theorem enc1_len {x : Own} (h1 : 1 ≤ x.e) (h2 : x.e ≤ 2147483647) : (enc1 x).length ≤ 10 ∧ 0 < (enc1 x).length := by
  have := vbl_len9 (n := x.e.toNat) (by omega)
  simp [enc1]; omega
theorem take_enc (l : List Own) (h : Fine l) (i : Nat) (hi : i ≤ 16) : ((l.take i).flatMap enc1).length ≤ 10 * i := by
  induction i with
  | zero => simp
  | succ i ih =>
    have := enc1_len (h.at_ i (by omega)).2.2.1 (h.at_ i (by omega)).2.2.2
    have := ih (by omega)
    rw [take_snoc l i (by rw [h.len]; omega), List.flatMap_append, List.length_append, List.flatMap_singleton]
    omega
theorem u8_of {g : Int} (h1 : 1 ≤ g) (h8 : g ≤ 8) : rowBytes [[.int .u8 (IntKind.wrap .u8 g)]] = bS [UInt8.ofNat g.toNat] := by
  rw [wrapU8]
  simp [rowBytes, bS, AVal.toInt]
  congr 1
  omega
theorem rb_rounds {l : List Own} (h : Fine l) : ∀ (d i : Nat), i + d = 16 →
    LoopRun Try.prog 0 (loopNo Try.f23 0) (rgB i (bS (83 :: (l.take i).flatMap enc1))) [.rows false 2 [[.fsl false 1 (l.map gR) none, .fsl false 1 (l.map eR) none]]] (.exit 0)
      (rgB 16 (bS (83 :: (l.take 16).flatMap enc1))) [.rows false 2 [[.fsl false 1 (l.map gR) none, .fsl false 1 (l.map eR) none]]]
  | 0, i, hi => by
    obtain rfl : i = 16 := by omega
    refine .done (TripN.wp (rbl_wp _ _ _ _ ?_)) (by simp)
    unfold rbl_T
    exact ⟨fun h => absurd (of_decide_eq_true h) (by omega), fun _ => ⟨rfl, rfl, rfl⟩⟩
  | d + 1, i, hi => by
    refine .more (TripN.wp (rbl_wp _ _ _ _ ?_)) (rb_rounds h d (i + 1) (by omega))
    have hl := h.len
    obtain ⟨f1, f2, f3, f4⟩ := h.at_ i (by omega)
    have t := take_enc l h i (by omega)
    have v9 := vbl_len9 (n := (l.getD i z).e.toNat) (by omega)
    unfold rbl_T
    rw [Int.toNat_natCast, gd l gR z i (by omega), gd l eR z i (by omega), w1 (by omega)]
    simp only [List.getD_cons_zero, AVal.toInt, List.length_map, u8_of f1 f2, bS_append, bS_size]
    refine ⟨fun _ => ⟨decide_eq_true (by omega), rfl, decide_eq_true (by omega), by omega, by omega, decide_eq_true (by omega), rfl, decide_eq_true (by omega), decide_eq_true ?_, decide_eq_true ?_, trivial, ?_, trivial⟩, fun h => absurd (of_decide_eq_false h) (by omega)⟩
    · simp only [List.length_cons, List.length_append, List.length_nil]; omega
    · simp only [List.length_cons, List.length_append, List.length_nil]; omega
    · rw [take_snoc l i (by omega), List.flatMap_append, List.flatMap_singleton]
      simp [rgB]
theorem rbytes_ok {l : List Own} (h : Fine l) : FOk Try.prog 23 [qO l] [] (.str (bS (enc l))) [] := by
  have r := (rb_rounds h 16 0 rfl).trip
  have e : l.take 16 = l := List.take_of_length_le (by rw [h.len]; omega)
  rw [e] at r
  exact rbyt_1 16 _ _ _ r
end Go.L10
