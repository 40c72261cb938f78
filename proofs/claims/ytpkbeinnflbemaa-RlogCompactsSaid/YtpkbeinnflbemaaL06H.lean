import Derived.Test.YtpkbeinnflbemaaL06G
set_option linter.unusedVariables false
set_option linter.unusedSimpArgs false
set_option maxRecDepth 100000
namespace Go.L06
open Go Go.Abs Go.Proofs

/-! ## RlogRises: the walk -/
abbrev rsH (L : Lg) (h : List En) : AState := RS L.a L.m L.b L.l.length (L.l.map En.row) (h.map En.row)
theorem rgR_cap (b : Bool) (xs : List (List AVal)) (b2 : Bool) (n : Nat) (k : Option Nat) (i : Int) : RImp (mkR 129 [(0, .fsl b 5 xs none), (3, .ptr 0 4 0 0), (5, .slc b2 1 2 0 n k), (6, .int .i64 i)]) (rgR b xs b2 n i) := by
  have e : rgR b xs b2 n i = rput (mkR 129 [(0, .fsl b 5 xs none), (3, .ptr 0 4 0 0), (5, .slc b2 1 2 0 n k), (6, .int .i64 i)]) (some 5) (.slc b2 1 2 0 n none) := by kernel_rfl
  have g : (mkR 129 [(0, .fsl b 5 xs none), (3, .ptr 0 4 0 0), (5, .slc b2 1 2 0 n k), (6, .int .i64 i)]).getD 5 .any = .slc b2 1 2 0 n k := by kernel_rfl
  rw [e]
  refine RImp.set ?_
  rw [g]; exact Imp.slcCap _ _ _ _ _ _

def Ends (b : Bool) (X : List (List AVal)) (i : Nat) (L : Lg) (h : List En) (b2 : Bool) : Prop :=
  (∃ (L' : Lg) (h' : List En) (b2' : Bool) (j : Int), Inv L' h' ∧ LoopRun Try.prog 0 (loopNo Try.f5 0) (rgR b X b2 h.length (i : Int)) (rsH L h) (.exit 0) (rgR b X b2' h'.length j) (rsH L' h'))
  ∨ LoopRun Try.prog 0 (loopNo Try.f5 0) (rgR b X b2 h.length (i : Int)) (rsH L h) .ret (mkR 129 [(2, .bool true)]) []
theorem Ends.step {b : Bool} {X : List (List AVal)} {i : Nat} {L L' : Lg} {h h' : List En} {b2 b2' : Bool}
    (t : TripN Try.prog 0 (loopNo Try.f5 0) (rgR b X b2 h.length (i : Int)) (rsH L h) .normal (rgR b X b2' h'.length ((i + 1 : Nat) : Int)) (rsH L' h')) (e : Ends b X (i + 1) L' h' b2') : Ends b X i L h b2 := by
  rcases e with ⟨L2, h2, b3, j, hi, r⟩ | r
  · exact .inl ⟨L2, h2, b3, j, hi, .more t r⟩
  · exact .inr (.more t r)

theorem rs_rounds (b : Bool) (xs : List Op) : ∀ (d i : Nat) (L : Lg) (h : List En) (b2 : Bool), i + d = xs.length → Inv L h → Ends b (xs.map Op.row) i L h b2
  | 0, i, L, h, b2, hi, v => by
    obtain rfl : i = xs.length := by omega
    refine .inl ⟨L, h, b2, (xs.length : Int), v, .done ?_ (by simp)⟩
    exact rsX_1 b L.b b2 L.b (xs.map Op.row) (L.l.map En.row) (h.map En.row) [] L.l.length h.length 0 L.a L.m (xs.length : Int) 0 0 0 (decide_eq_false (by rw [List.length_map]; omega))
  | d + 1, i, L, h, b2, hi, v => by
    have hil : i < xs.length := by omega
    have c3 : decide ((i : Int) < ((xs.map Op.row).length : Int)) = true := decide_eq_true (by rw [List.length_map]; omega)
    by_cases h200 : ¬ (i : Int) < 200
    · refine .inl ⟨L, h, b2, (i : Int), v, .done ?_ (by simp)⟩
      exact rsX2_1 b L.b b2 L.b (xs.map Op.row) (L.l.map En.row) (h.map En.row) [] L.l.length h.length 0 L.a L.m (i : Int) 0 0 0 (decide_eq_false h200) c3
    have c4 : decide ((i : Int) < 200) = true := decide_eq_true (by omega)
    have w : IntKind.wrap .i64 ((i : Int) + 1) = ((i + 1 : Nat) : Int) := by rw [wrapS (by omega) (by omega)]; omega
    have g : (xs.map Op.row).getD (Int.toNat (i : Int)) [] = (xs.getD i zop).row := by rw [Int.toNat_natCast]; exact getD_map (f := Op.row) xs _ zop hil
    generalize hx : xs.getD i zop = x at g
    have c1 : decide (Int.toNat (i : Int) < (xs.map Op.row).length) = true := decide_eq_true (by rw [List.length_map, Int.toNat_natCast]; exact hil)
    have c2 : decide (0 ≤ (i : Int) ∧ (i : Int) < ((xs.map Op.row).length : Int)) = true := decide_eq_true (by rw [List.length_map]; omega)
    have hlen := v.len
    have hn := v.ok.n
    have ha0 := v.ok.a0
    have stay := fun v => rs_rounds b xs d (i + 1) L h b2 (by omega) v
    by_cases k1 : x.kd = 1
    · have b1 : (x.kd == 1) = true := beq_iff_eq.2 k1
      by_cases hs : (x.e.d.size : Int) > 4096
      · refine .inr (.done ?_ (by simp))
        have key := rsL_1 b L.b b2 L.b (xs.map Op.row) (L.l.map En.row) (h.map En.row) [] L.l.length h.length 0 L.a L.m (i : Int) 0 0 0
        rw [g] at key
        exact key awake_ok (decide_eq_true hs) b1 c1 (by kernel_rfl) c2 c4 c3
      · by_cases hw : L.why x.e = 0
        · refine Ends.step (L' := L.add x.e) (h' := h ++ [x.e]) (b2' := false) ?_ (rs_rounds b xs d (i + 1) _ _ _ (by omega) (v.add hw))
          have key := rsA_2 b L.b b2 false (xs.map Op.row) (L.l.map En.row) (h.map En.row) ((L.add x.e).l.map En.row) L.l.length h.length (L.add x.e).l.length L.a L.m (i : Int) (L.last + 1)
          rw [g, w] at key
          simp only [List.getD_cons_zero, List.getD_cons_succ, AVal.toInt, AVal.toStr, List.length_cons, List.length_nil, Nat.zero_add, List.isEmpty_cons, Bool.and_false] at key
          have e1 : (h ++ [x.e]).map En.row = h.map En.row ++ [[.int .i64 x.e.t, .str x.e.d]] := by rw [List.map_append]; rfl
          have e2 : (h ++ [x.e]).length = h.length + 1 := by rw [List.length_append]; rfl
          unfold rsH
          rw [e1, e2]
          exact key (by rw [v.last]; exact bne_eq_false_iff_eq.2 (by omega)) (decide_eq_true (by rw [List.length_map])) (decide_eq_true (by omega)) (append_yes v.ok x.e hw) (decide_eq_false hs) b1 c1 (by kernel_rfl) c2 c4 c3
        · refine Ends.step ?_ (stay v)
          have key := rsAn_1 b L.b b2 L.b (xs.map Op.row) (L.l.map En.row) (h.map En.row) [] L.l.length h.length 0 L.a L.m (i : Int) 0 0 (L.why x.e)
          rw [g, w] at key
          exact key (beq_eq_false_iff_ne.2 hw) (append_no v.ok x.e hw) (decide_eq_false hs) b1 c1 (by kernel_rfl) c2 c4 c3
    have b1 : (x.kd == 1) = false := beq_eq_false_iff_ne.2 k1
    by_cases k2 : x.kd = 2
    · have bb2 : (x.kd == 2) = true := beq_iff_eq.2 k2
      by_cases hw : (L.frm x.n).2 = 0
      · refine Ends.step (L' := L.cut x.n) (h' := h.take (x.n - 1).toNat) (b2' := b2) ?_ (rs_rounds b xs d (i + 1) _ _ _ (by omega) (v.cut hw))
        obtain ⟨f1, f2, _⟩ := frm_in hw
        rw [v.last] at f2
        have key := rsC_1 b L.b b2 L.b (xs.map Op.row) (L.l.map En.row) (h.map En.row) ((L.cut x.n).l.map En.row) L.l.length h.length (L.cut x.n).l.length L.a L.m (i : Int) 0 0 0
        rw [g, w] at key
        simp only [List.getD_cons_zero, List.getD_cons_succ, AVal.toInt, AVal.toStr] at key
        have w2 : IntKind.wrap .i64 (x.n - 1) = x.n - 1 := wrapS (by omega) (by omega)
        rw [w2, Nat.sub_zero] at key
        have e2 : (h.take (x.n - 1).toNat).length = (x.n - 1).toNat := by rw [List.length_take]; omega
        have e1 : (h.map En.row).take (x.n - 1).toNat = (h.take (x.n - 1).toNat).map En.row := by rw [List.map_take]
        unfold rsH
        rw [e2, ← e1]
        exact ((key (decide_eq_true ⟨by omega, by omega, by omega, by omega⟩) (cut_yes v.ok x.n hw) bb2 b1 c1 (by kernel_rfl) c2 c4 c3).out (rgR_cap _ _ _ _ _ _)).takeRows (id := 1) rfl (x.n - 1).toNat
      · refine Ends.step ?_ (stay v)
        have key := rsCn_1 b L.b b2 L.b (xs.map Op.row) (L.l.map En.row) (h.map En.row) [] L.l.length h.length 0 L.a L.m (i : Int) 0 0 (L.frm x.n).2
        rw [g, w] at key
        exact key (beq_eq_false_iff_ne.2 hw) (cut_no v.ok x.n hw) bb2 b1 c1 (by kernel_rfl) c2 c4 c3
    have bb2 : (x.kd == 2) = false := beq_eq_false_iff_ne.2 k2
    by_cases k3 : x.kd = 3
    · have b3 : (x.kd == 3) = true := beq_iff_eq.2 k3
      by_cases hw : (L.term x.n).2 = 0
      · refine Ends.step (L' := L.cmp x.n) (h' := h) (b2' := b2) ?_ (rs_rounds b xs d (i + 1) _ _ _ (by omega) (v.cmp hw))
        have key := rsP_1 b L.b b2 L.b (xs.map Op.row) (L.l.map En.row) (h.map En.row) ((L.cmp x.n).l.map En.row) L.l.length h.length (L.cmp x.n).l.length L.a L.m (i : Int) x.n (L.cmp x.n).m 0
        rw [g, w] at key
        exact key (cmp_yes v.ok x.n hw) b3 bb2 b1 c1 (by kernel_rfl) c2 c4 c3
      · refine Ends.step ?_ (stay v)
        have key := rsPn_1 b L.b b2 L.b (xs.map Op.row) (L.l.map En.row) (h.map En.row) [] L.l.length h.length 0 L.a L.m (i : Int) 0 0 (L.term x.n).2
        rw [g, w] at key
        exact key (cmp_no v.ok x.n hw) b3 bb2 b1 c1 (by kernel_rfl) c2 c4 c3
    have b3 : (x.kd == 3) = false := beq_eq_false_iff_ne.2 k3
    refine Ends.step ?_ (stay v)
    have key := rsO_1 b L.b b2 L.b (xs.map Op.row) (L.l.map En.row) (h.map En.row) [] L.l.length h.length 0 L.a L.m (i : Int) 0 0 0
    rw [g, w] at key
    exact key b3 bb2 b1 c1 (by kernel_rfl) c2 c4 c3

theorem re_rounds (L : Lg) (h : List En) (v : Inv L h) (b2 : Bool) : ∀ (d i : Nat) (t : Int), i + d = h.length + 1 → L.a ≤ i → (i = 0 → t = 0) → t ≤ T h i →
    ∃ t', LoopRun Try.prog 0 (loopNo Try.f5 1) (rgE b2 h.length t (i : Int)) (rsH L h) (.exit 3) (rgE b2 h.length t' ((h.length + 1 : Nat) : Int)) (rsH L h)
  | 0, i, t, hi, ha, h0, ht => by
    obtain rfl : i = h.length + 1 := by omega
    refine ⟨t, .done ?_ (by simp)⟩
    exact rsE_5 L.b b2 (L.l.map En.row) (h.map En.row) L.l.length h.length L.a L.m h.length t ((h.length + 1 : Nat) : Int) 0 (decide_eq_false (by omega)) (by have := last_ok v.ok; rw [v.last] at this; exact this)
  | d + 1, i, t, hi, ha, h0, ht => by
    have hn := v.ok.n
    have hlen := v.len
    have hl := last_ok v.ok
    rw [v.last] at hl
    have htm := term_ok v.ok (i : Int)
    rw [v.term i ha (by omega)] at htm
    have w : IntKind.wrap .i64 ((i : Int) + 1) = ((i + 1 : Nat) : Int) := by rw [wrapS (by omega) (by omega)]; omega
    have hT : T h i ≤ T h (i + 1) ∨ i = h.length := by
      by_cases e : i = h.length
      · exact .inr e
      · exact .inl (v.s i (i + 1) (by omega) (by omega))
    have go : TripN Try.prog 0 (loopNo Try.f5 1) (rgE b2 h.length t (i : Int)) (rsH L h) .normal (rgE b2 h.length (T h i) ((i + 1 : Nat) : Int)) (rsH L h) := by
      by_cases e : i = 0
      · subst e
        have key := rsE_4 L.b b2 (L.l.map En.row) (h.map En.row) L.l.length h.length L.a L.m h.length t ((0 : Nat) : Int) (T h 0)
        rw [w] at key
        exact key (by rfl) (decide_eq_false (by omega)) htm (decide_eq_true (by omega)) hl
      · have key := rsE_3 L.b b2 (L.l.map En.row) (h.map En.row) L.l.length h.length L.a L.m h.length t (i : Int) (T h i)
        have w2 : IntKind.wrap .i64 ((i : Int) - 1) = (i : Int) - 1 := wrapS (by omega) (by omega)
        have w3 : ((i : Int) - 1).toNat = i - 1 := by omega
        have g : (h.map En.row).getD (i - 1) [] = (h.getD (i - 1) z).row := getD_map (f := En.row) h _ z (by omega)
        rw [w, w2, w3, Nat.add_zero, g] at key
        simp only [List.getD_cons_zero, AVal.toInt] at key
        have eT : T h i = (h.getD (i - 1) z).t := by unfold T; rw [if_neg e]
        exact key (bne_eq_false_iff_eq.2 eT) (decide_eq_true (by rw [List.length_map]; omega)) (by kernel_rfl) (decide_eq_true (by omega)) (decide_eq_true (by omega)) (decide_eq_false (by omega)) htm (decide_eq_true (by omega)) hl
    by_cases e : i = h.length
    · have hdone := rsE_5 L.b b2 (L.l.map En.row) (h.map En.row) L.l.length h.length L.a L.m h.length (T h i) ((i + 1 : Nat) : Int) 0 (decide_eq_false (by omega)) hl
      subst e
      exact ⟨_, .more go (.done hdone (by simp))⟩
    · obtain ⟨t', r⟩ := re_rounds L h v b2 d (i + 1) (T h i) (by omega) (by omega) (by omega) (v.s i (i + 1) (by omega) (by omega))
      exact ⟨t', .more go r⟩

theorem inv0 : Inv (L0 true []) [] := by
  refine ⟨⟨by decide, by decide, by decide, fun _ => rfl⟩, by decide, rfl, rfl, ?_⟩
  intro i j hij hj
  have : j = 0 := by simpa using hj
  subst this
  obtain rfl : i = 0 := by omega
  exact Int.le_refl _

theorem rises_law (b : Bool) (xs : List Op) : FOk Try.prog 5 [.fsl b 5 (xs.map Op.row) none] [] (.bool true) [] := by
  have hnew := new_ok 0 0 (by decide) (by decide) (by decide) (by decide)
  rcases rs_rounds b xs xs.length 0 (L0 true []) [] true (by omega) inv0 with ⟨L, h, b2, j, v, r⟩ | r
  · have t1 := r.trip
    obtain ⟨a, ha⟩ : ∃ a : Nat, L.a = a := ⟨L.a.toNat, by have := v.ok.a0; omega⟩
    have hla := v.la
    have h0 : (0 : Int) ≤ T h a := by have := v.s 0 a (by omega) (by omega); simpa [T] using this
    obtain ⟨t', r2⟩ := re_rounds L h v b2 (h.length + 1 - a) a 0 (by omega) (by omega) (fun _ => rfl) h0
    have t2 := r2.trip
    rw [← ha] at t2
    have hl := last_ok v.ok
    rw [v.last] at hl
    exact rsF_2 b L.b b2 (xs.map Op.row) (L.l.map En.row) (h.map En.row) L.l.length h.length L.a L.m h.length t' j ((h.length + 1 : Nat) : Int) awake_ok t2 (base_ok L) (bne_eq_false_iff_eq.2 rfl) hl t1 hnew
  · exact rsR_1 b true true (xs.map Op.row) [] [] 0 0 0 0 r.trip hnew

theorem rises_row (xs : List AVal) (h : okArgs Try.prog Try.f5.params.toList [[.sl 48 [.int .i64, .int .i64, .int .i64, .int .i64, .str]]] xs) : ∃ σ', FOk Try.prog 5 xs [] (.bool true) σ' := by
  obtain ⟨a, bs, rfl, h1, h3⟩ := h
  cases h3
  simp only [okArg, show isAggT Try.prog 41 = false from by kernel_rfl, okKs, okK] at h1
  obtain ⟨v, us, e, ⟨b, rows, rfl, _, _, _, hr⟩, rfl⟩ := h1
  cases e
  obtain ⟨l, rfl⟩ := rows_of (f := Op.row) rows (fun row hrow => by
    obtain ⟨v, us, rfl, ⟨x1, rfl, _⟩, v, us, rfl, ⟨x2, rfl, _⟩, v, us, rfl, ⟨x3, rfl, _⟩, v, us, rfl, ⟨x4, rfl, _⟩, v2, us2, rfl, ⟨y, rfl, _⟩, rfl⟩ := hr row hrow
    exact ⟨⟨x1, x2, x3, ⟨x4, y⟩⟩, rfl⟩)
  exact ⟨_, rises_law b l⟩
end Go.L06
