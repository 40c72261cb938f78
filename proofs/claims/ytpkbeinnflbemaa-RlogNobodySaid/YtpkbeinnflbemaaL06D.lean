import Derived.Test.YtpkbeinnflbemaaL06C2
import Derived.Test.YtpkbeinnflbemaaAbsLaw
set_option linter.unusedVariables false
set_option linter.unusedSimpArgs false
set_option maxRecDepth 100000
namespace Go.L06
open Go Go.Abs Go.Proofs

/-! ## RlogNewer -/
abbrev L52 : Lg := ⟨5, 2, true, []⟩
abbrev x3 : En := ⟨3, ⟨#[120]⟩⟩
theorem L52_ok : L52.ok := ⟨by decide, by decide, by decide, fun _ => rfl⟩
theorem why52 : L52.why x3 = 0 := by kernel_rfl
theorem awake_ok : FOk Try.prog 9 [] [] (.bool true) [] := by
  have hA := add_ok L52_ok why52
  have h1 := base_ok (L52.add x3)
  have h2 := last_ok hA
  have h3 := entry_ok hA 5
  have h4 := term_ok hA 5
  have h5 := append_yes L52_ok x3 why52
  have h6 := new_ok 5 2 (by decide) (by decide) (by decide) (by decide)
  exact awake_1 ((L52.add x3).l.map En.row) h1 h2 h3 h4 h5 h6

abbrev L0 (b : Bool) (l : List En) : Lg := ⟨0, 0, b, l⟩

theorem a_rounds (b c b2 : Bool) (l : List En) (ys r2 : List (List AVal)) (n2 : Nat) (hn : l.length ≤ 100) : ∀ (d i : Nat) (b1 : Bool) (m : List En), i + d = l.length → (L0 b1 m).ok →
    ∃ b1' m', (L0 b1' m').ok ∧ LoopRun Try.prog 0 (loopNo Try.f3 0) (rgN b c (l.map En.row) ys (i : Int)) (Two b1 b2 m.length n2 (m.map En.row) r2) (.exit 0) (rgN b c (l.map En.row) ys ((l.map En.row).length : Int)) (Two b1' b2 m'.length n2 (m'.map En.row) r2)
  | 0, i, b1, m, hi, hL => by
    obtain rfl : i = l.length := by omega
    refine ⟨b1, m, hL, .done ?_ (by simp)⟩
    have key := nwA_3 b c b1 b2 b (l.map En.row) ys (m.map En.row) r2 [] m.length n2 0 (l.length : Int) 0 0 (decide_eq_false (by rw [List.length_map]; omega))
    rw [List.length_map]
    exact key
  | d + 1, i, b1, m, hi, hL => by
    have hil : i < l.length := by omega
    have w : IntKind.wrap .i64 ((i : Int) + 1) = ((i + 1 : Nat) : Int) := by rw [wrapS (by omega) (by omega)]; omega
    have g : (l.map En.row).getD (Int.toNat (i : Int)) [] = (l.getD i z).row := by rw [Int.toNat_natCast]; exact getD_map (f := En.row) l _ z hil
    generalize hx : l.getD i z = x at g
    have c1 : decide (Int.toNat (i : Int) < (l.map En.row).length) = true := decide_eq_true (by rw [List.length_map, Int.toNat_natCast]; exact hil)
    have c2 : decide (0 ≤ (i : Int) ∧ (i : Int) < ((l.map En.row).length : Int)) = true := decide_eq_true (by rw [List.length_map]; omega)
    have c3 : decide ((i : Int) < ((l.map En.row).length : Int)) = true := decide_eq_true (by rw [List.length_map]; omega)
    by_cases hs : (x.d.size : Int) ≤ 4096
    · by_cases hw : (L0 b1 m).why x = 0
      · obtain ⟨b1', m', h1, h2⟩ := a_rounds b c b2 l ys r2 n2 hn d (i + 1) false (m ++ [x]) (by omega) (add_ok hL hw)
        refine ⟨b1', m', h1, .more ?_ h2⟩
        have key := nwA_1 b c b1 b2 false (l.map En.row) ys (m.map En.row) r2 ((m ++ [x]).map En.row) m.length n2 (m ++ [x]).length (i : Int) ((L0 b1 m).last + 1) 0
        rw [w, g] at key
        exact key (append_yes hL x hw) c1 (by kernel_rfl) c2 (decide_eq_true hs) (by kernel_rfl) c3
      · obtain ⟨b1', m', h1, h2⟩ := a_rounds b c b2 l ys r2 n2 hn d (i + 1) b1 m (by omega) hL
        refine ⟨b1', m', h1, .more ?_ h2⟩
        have key := nwAn_1 b c b1 b2 (l.map En.row) ys (m.map En.row) r2 m.length n2 (i : Int) ((L0 b1 m).why x)
        rw [w, g] at key
        exact key (append_no hL x hw) c1 (by kernel_rfl) c2 (decide_eq_true hs) (by kernel_rfl) c3
    · obtain ⟨b1', m', h1, h2⟩ := a_rounds b c b2 l ys r2 n2 hn d (i + 1) b1 m (by omega) hL
      refine ⟨b1', m', h1, .more ?_ h2⟩
      have key := nwA_2 b c b1 b2 b (l.map En.row) ys (m.map En.row) r2 [] m.length n2 0 (i : Int) 0 0
      rw [w, g] at key
      exact key (decide_eq_false hs) c1 (by kernel_rfl) c2 c3

theorem b_rounds (c b1 : Bool) (l : List En) (r1 : List (List AVal)) (n1 : Nat) (hn : l.length ≤ 100) : ∀ (d i : Nat) (b2 : Bool) (m : List En), i + d = l.length → (L0 b2 m).ok →
    ∃ b2' m', (L0 b2' m').ok ∧ LoopRun Try.prog 0 (loopNo Try.f3 1) (rgN2 c (l.map En.row) (i : Int)) (Two b1 b2 n1 m.length r1 (m.map En.row)) (.exit 2) (rgN2 c (l.map En.row) ((l.map En.row).length : Int)) (Two b1 b2' n1 m'.length r1 (m'.map En.row))
  | 0, i, b2, m, hi, hL => by
    obtain rfl : i = l.length := by omega
    refine ⟨b2, m, hL, .done ?_ (by simp)⟩
    have key := nwB_3 c b1 b2 b2 (l.map En.row) r1 (m.map En.row) [] n1 m.length 0 (l.length : Int) 0 0 (decide_eq_false (by rw [List.length_map]; omega))
    rw [List.length_map]
    exact key
  | d + 1, i, b2, m, hi, hL => by
    have hil : i < l.length := by omega
    have w : IntKind.wrap .i64 ((i : Int) + 1) = ((i + 1 : Nat) : Int) := by rw [wrapS (by omega) (by omega)]; omega
    have g : (l.map En.row).getD (Int.toNat (i : Int)) [] = (l.getD i z).row := by rw [Int.toNat_natCast]; exact getD_map (f := En.row) l _ z hil
    generalize hx : l.getD i z = x at g
    have c1 : decide (Int.toNat (i : Int) < (l.map En.row).length) = true := decide_eq_true (by rw [List.length_map, Int.toNat_natCast]; exact hil)
    have c2 : decide (0 ≤ (i : Int) ∧ (i : Int) < ((l.map En.row).length : Int)) = true := decide_eq_true (by rw [List.length_map]; omega)
    have c3 : decide ((i : Int) < ((l.map En.row).length : Int)) = true := decide_eq_true (by rw [List.length_map]; omega)
    by_cases hs : (x.d.size : Int) ≤ 4096
    · by_cases hw : (L0 b2 m).why x = 0
      · obtain ⟨b2', m', h1, h2⟩ := b_rounds c b1 l r1 n1 hn d (i + 1) false (m ++ [x]) (by omega) (add_ok hL hw)
        refine ⟨b2', m', h1, .more ?_ h2⟩
        have key := nwB_1 c b1 b2 false (l.map En.row) r1 (m.map En.row) ((m ++ [x]).map En.row) n1 m.length (m ++ [x]).length (i : Int) ((L0 b2 m).last + 1) 0
        rw [w, g] at key
        exact key (append_yes hL x hw) c1 (by kernel_rfl) c2 (decide_eq_true hs) (by kernel_rfl) c3
      · obtain ⟨b2', m', h1, h2⟩ := b_rounds c b1 l r1 n1 hn d (i + 1) b2 m (by omega) hL
        refine ⟨b2', m', h1, .more ?_ h2⟩
        have key := nwBn_1 c b1 b2 (l.map En.row) r1 (m.map En.row) n1 m.length (i : Int) ((L0 b2 m).why x)
        rw [w, g] at key
        exact key (append_no hL x hw) c1 (by kernel_rfl) c2 (decide_eq_true hs) (by kernel_rfl) c3
    · obtain ⟨b2', m', h1, h2⟩ := b_rounds c b1 l r1 n1 hn d (i + 1) b2 m (by omega) hL
      refine ⟨b2', m', h1, .more ?_ h2⟩
      have key := nwB_2 c b1 b2 b2 (l.map En.row) r1 (m.map En.row) [] n1 m.length 0 (i : Int) 0 0
      rw [w, g] at key
      exact key (decide_eq_false hs) c1 (by kernel_rfl) c2 c3

theorem term_last {L : Lg} (h : L.ok) : L.term L.last = (L.endT, 0) := by
  have h0 := h.a0
  unfold Lg.endT Lg.term
  rw [if_neg (by unfold Lg.last; omega), if_neg (by omega)]
  split <;> rfl

theorem newer_law (b c : Bool) (l m : List En) : FOk Try.prog 3 [.fsl b 2 (l.map En.row) none, .fsl c 2 (m.map En.row) none] [] (.bool true) [] := by
  have hnew := new_ok 0 0 (by decide) (by decide) (by decide) (by decide)
  by_cases n1 : l.length > 100
  · exact nwL_1 b c _ _ awake_ok (decide_eq_true (by rw [List.length_map]; omega)) hnew
  have d1 : decide (((l.map En.row).length : Int) > 100) = false := decide_eq_false (by rw [List.length_map]; omega)
  by_cases n2 : m.length > 100
  · exact nwL2_1 b c _ _ awake_ok (decide_eq_true (by rw [List.length_map]; omega)) d1 hnew
  have d2 : decide (((m.map En.row).length : Int) > 100) = false := decide_eq_false (by rw [List.length_map]; omega)
  have ok0 : (L0 true []).ok := ⟨by decide, by decide, by decide, fun _ => rfl⟩
  obtain ⟨b1, p1, k1, r1⟩ := a_rounds b c true l (m.map En.row) [] 0 (by omega) l.length 0 true [] (by omega) ok0
  obtain ⟨b2, p2, k2, r2⟩ := b_rounds c b1 m (p1.map En.row) p1.length (by omega) m.length 0 true [] (by omega) ok0
  have t1 := r1.trip
  have t2 := r2.trip
  rw [show ((0 : Nat) : Int) = 0 from rfl] at t1 t2
  have hl1 := last_ok k1
  have hl2 := last_ok k2
  have hs := term_ok k1 (L0 b1 p1).last
  have ht := term_ok k2 (L0 b2 p2).last
  rw [term_last k1] at hs
  rw [term_last k2] at ht
  have hp := newer_ok k1 (L0 b2 p2).last (L0 b2 p2).endT
  have hq := newer_ok k2 (L0 b1 p1).last (L0 b1 p1).endT
  generalize hs' : (L0 b1 p1).endT = s at hs hp hq
  generalize ht' : (L0 b2 p2).endT = t at ht hp hq
  generalize hx' : (L0 b1 p1).last = x at hl1 hs hp hq
  generalize hy' : (L0 b2 p2).last = y at hl2 ht hp hq
  by_cases e : s = t
  · have e1 : (s == t) = true := beq_iff_eq.2 e
    by_cases g1 : y ≥ x
    · rw [decide_eq_true (.inr ⟨e.symm, g1⟩)] at hp
      by_cases g2 : x ≥ y
      · rw [decide_eq_true (.inr ⟨e, g2⟩)] at hq
        have e2 : (true == (x == y)) = true := by rw [beq_iff_eq.2 (show x = y by omega)]; rfl
        exact nwF_1 b c b1 b2 _ _ _ _ _ _ x y s t true true awake_ok e2 hl2 hl1 e1 rfl hq hp ht hs t2 t1 d2 d1 hnew
      · rw [decide_eq_false (by rintro (h | ⟨_, h⟩) <;> omega)] at hq
        have e2 : (false == (x == y)) = true := by rw [beq_eq_false_iff_ne.2 (show x ≠ y by omega)]; rfl
        exact nwF_1 b c b1 b2 _ _ _ _ _ _ x y s t true false awake_ok e2 hl2 hl1 e1 rfl hq hp ht hs t2 t1 d2 d1 hnew
    · rw [decide_eq_false (by rintro (h | ⟨_, h⟩) <;> omega)] at hp
      rw [decide_eq_true (.inr ⟨e, by omega⟩)] at hq
      have e2 : (false == (x == y)) = true := by rw [beq_eq_false_iff_ne.2 (show x ≠ y by omega)]; rfl
      exact nwF_12 b c b1 b2 _ _ _ _ _ _ x y s t false true awake_ok e2 hl2 hl1 e1 rfl rfl hq hp ht hs t2 t1 d2 d1 hnew
  · have e1 : (s == t) = false := beq_eq_false_iff_ne.2 e
    by_cases g : t > s
    · rw [decide_eq_true (.inl g)] at hp
      rw [decide_eq_false (by rintro (h | ⟨h, _⟩) <;> omega)] at hq
      exact nwF_3 b c b1 b2 _ _ _ _ _ _ x y s t true false awake_ok rfl e1 rfl hq hl1 hp hl2 ht hs t2 t1 d2 d1 hnew
    · rw [decide_eq_false (by rintro (h | ⟨h, _⟩) <;> omega)] at hp
      rw [decide_eq_true (.inl (by omega))] at hq
      exact nwF_14 b c b1 b2 _ _ _ _ _ _ x y s t false true awake_ok e1 rfl rfl hq hl1 hp hl2 ht hs t2 t1 d2 d1 hnew

theorem newer_row (xs : List AVal) (h : okArgs Try.prog Try.f3.params.toList [[.sl 24 [.int .i64, .str]], [.sl 24 [.int .i64, .str]]] xs) : ∃ σ', FOk Try.prog 3 xs [] (.bool true) σ' := by
  obtain ⟨a, bs, rfl, h1, a2, bs2, rfl, h2, h3⟩ := h
  cases h3
  simp only [okArg, show isAggT Try.prog 22 = false from by kernel_rfl, okKs, okK] at h1 h2
  obtain ⟨v, us, e, ⟨b, rows, rfl, _, _, _, hr⟩, rfl⟩ := h1
  cases e
  obtain ⟨v, us, e, ⟨c, rows2, rfl, _, _, _, hr2⟩, rfl⟩ := h2
  cases e
  obtain ⟨l, rfl⟩ := rows_of (f := En.row) rows (fun row hrow => by
    obtain ⟨v, us, rfl, ⟨x, rfl, _⟩, v2, us2, rfl, ⟨y, rfl, _⟩, rfl⟩ := hr row hrow
    exact ⟨⟨x, y⟩, rfl⟩)
  obtain ⟨m, rfl⟩ := rows_of (f := En.row) rows2 (fun row hrow => by
    obtain ⟨v, us, rfl, ⟨x, rfl, _⟩, v2, us2, rfl, ⟨y, rfl, _⟩, rfl⟩ := hr2 row hrow
    exact ⟨⟨x, y⟩, rfl⟩)
  exact ⟨_, newer_law b c l m⟩

end Go.L06
