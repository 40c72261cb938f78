import Derived.Test.YtpkbeinnflbemaaL06I
set_option linter.unusedVariables false
set_option linter.unusedSimpArgs false
set_option maxRecDepth 100000
namespace Go.L06
open Go Go.Abs Go.Proofs

/-! ## RlogCompacts -/
theorem Inv.entry {L : Lg} {h : List En} (v : Inv L h) (i : Nat) (h1 : L.a < i) (h2 : i ≤ h.length) : L.entry i = (h.getD (i - 1) z, 0) := by
  have hl := v.last
  have a0 := v.ok.a0
  unfold Lg.entry
  rw [if_neg (by omega), if_neg (by omega)]
  congr 1
  rw [v.l, List.getD_eq_getElem?_getD, List.getElem?_drop, List.getD_eq_getElem?_getD]
  congr 2
  omega

abbrev cpH (e0 e1 : Int) (b1 : Bool) (m : List En) : AState := CP e0 e1 b1 m.length (m.map En.row)
def EndsC (b : Bool) (X : List (List AVal)) (k e0 e1 : Int) (i : Nat) (b1 : Bool) (m : List En) : Prop :=
  (∃ (b1' : Bool) (m' : List En) (j : Int), Inv (L0 b1' m') m' ∧ LoopRun Try.prog 0 (loopNo Try.f4 0) (rgC b X k (i : Int)) (cpH e0 e1 b1 m) (.exit 0) (rgC b X k j) (cpH e0 e1 b1' m'))
  ∨ LoopRun Try.prog 0 (loopNo Try.f4 0) (rgC b X k (i : Int)) (cpH e0 e1 b1 m) .ret (mkR 199 [(6, .bool true)]) []
theorem EndsC.step {b : Bool} {X : List (List AVal)} {k e0 e1 : Int} {i : Nat} {b1 b1' : Bool} {m m' : List En}
    (t : TripN Try.prog 0 (loopNo Try.f4 0) (rgC b X k (i : Int)) (cpH e0 e1 b1 m) .normal (rgC b X k ((i + 1 : Nat) : Int)) (cpH e0 e1 b1' m')) (e : EndsC b X k e0 e1 (i + 1) b1' m') : EndsC b X k e0 e1 i b1 m := by
  rcases e with ⟨b2, m2, j, hi, r⟩ | r
  · exact .inl ⟨b2, m2, j, hi, .more t r⟩
  · exact .inr (.more t r)

theorem cp_rounds (b : Bool) (xs : List En) (k e0 e1 : Int) (hx : xs.length ≤ 100) : ∀ (d i : Nat) (b1 : Bool) (m : List En), i + d = xs.length → Inv (L0 b1 m) m → EndsC b (xs.map En.row) k e0 e1 i b1 m
  | 0, i, b1, m, hi, v => by
    obtain rfl : i = xs.length := by omega
    refine .inl ⟨b1, m, (xs.length : Int), v, .done ?_ (by simp)⟩
    exact cpX_1 b b1 b1 (xs.map En.row) (m.map En.row) [] m.length 0 k (xs.length : Int) 0 0 e0 e1 (decide_eq_false (by rw [List.length_map]; omega))
  | d + 1, i, b1, m, hi, v => by
    have hil : i < xs.length := by omega
    have w : IntKind.wrap .i64 ((i : Int) + 1) = ((i + 1 : Nat) : Int) := by rw [wrapS (by omega) (by omega)]; omega
    have g : (xs.map En.row).getD (Int.toNat (i : Int)) [] = (xs.getD i z).row := by rw [Int.toNat_natCast]; exact getD_map (f := En.row) xs _ z hil
    generalize hx : xs.getD i z = x at g
    have c1 : decide (Int.toNat (i : Int) < (xs.map En.row).length) = true := decide_eq_true (by rw [List.length_map, Int.toNat_natCast]; exact hil)
    have c2 : decide (0 ≤ (i : Int) ∧ (i : Int) < ((xs.map En.row).length : Int)) = true := decide_eq_true (by rw [List.length_map]; omega)
    have c3 : decide ((i : Int) < ((xs.map En.row).length : Int)) = true := decide_eq_true (by rw [List.length_map]; omega)
    by_cases hs : (x.d.size : Int) > 4096
    · refine .inr (.done ?_ (by simp))
      have key := cpL_1 b b1 b1 (xs.map En.row) (m.map En.row) [] m.length 0 k (i : Int) 0 0 e0 e1
      rw [g] at key
      exact key awake_ok (decide_eq_true hs) c1 (by kernel_rfl) c2 c3
    · by_cases hw : (L0 b1 m).why x = 0
      · refine EndsC.step ?_ (cp_rounds b xs k e0 e1 ‹_› d (i + 1) false (m ++ [x]) (by omega) (v.add hw))
        have key := cpA_1 b b1 false (xs.map En.row) (m.map En.row) ((m ++ [x]).map En.row) m.length (m ++ [x]).length k (i : Int) ((L0 b1 m).last + 1) 0 e0 e1
        rw [w, g] at key
        exact key (append_yes v.ok x hw) c1 (by kernel_rfl) c2 (decide_eq_false hs) (by kernel_rfl) c3
      · refine EndsC.step ?_ (cp_rounds b xs k e0 e1 ‹_› d (i + 1) b1 m (by omega) v)
        have key := cpAn_1 b b1 b1 (xs.map En.row) (m.map En.row) [] m.length 0 k (i : Int) 0 ((L0 b1 m).why x) e0 e1
        rw [w, g] at key
        exact key (append_no v.ok x hw) c1 (by kernel_rfl) c2 (decide_eq_false hs) (by kernel_rfl) c3

abbrev cdH (b : Bool) (m : List En) (C : Lg) : AState := CD C.a C.m b m.length C.l.length (m.map En.row) (C.l.map En.row)
theorem cd_rounds (b : Bool) (m : List En) (kk : Nat) (v : Inv (L0 b m) m) (hk : ((L0 b m).term kk).2 = 0) : ∀ (d i : Nat), i + d = m.length + 1 →
    LoopRun Try.prog 0 (loopNo Try.f4 1) (rgD kk (i : Int)) (cdH b m ((L0 b m).cmp kk)) (.exit 2) (rgD kk ((m.length + 1 : Nat) : Int)) (cdH b m ((L0 b m).cmp kk))
  | 0, i, hi => by
    obtain rfl : i = m.length + 1 := by omega
    have hl := last_ok v.ok
    rw [v.last] at hl
    refine .done ?_ (by simp)
    exact cpEX_1 b (m.map En.row) _ m.length _ kk _ ((m.length + 1 : Nat) : Int) m.length 0 0 ⟨#[]⟩ (decide_eq_false (by omega)) hl
  | d + 1, i, hi => by
    have hl := last_ok v.ok
    rw [v.last] at hl
    have vc := v.cmp hk
    have hn := v.ok.n
    have w : IntKind.wrap .i64 ((i : Int) + 1) = ((i + 1 : Nat) : Int) := by rw [wrapS (by omega) (by dsimp only [L0] at hn; omega)]; omega
    have tL := term_ok v.ok (i : Int)
    rw [v.term i (by show (0 : Int) ≤ i; omega) (by omega)] at tL
    have eL := entry_ok v.ok (i : Int)
    have tC := term_ok vc.ok (i : Int)
    have eC := entry_ok vc.ok (i : Int)
    have hil : decide ((i : Int) ≤ (m.length : Int)) = true := decide_eq_true (by omega)
    refine .more ?_ (cd_rounds b m kk v hk d (i + 1) (by omega))
    have zero : ∀ j : Nat, j ≤ kk → ((L0 b m).cmp kk).entry j = (z, 60) := by
      intro j hj
      unfold Lg.entry
      rw [if_pos (by show (j : Int) ≤ kk; omega)]
    by_cases c1 : i < kk
    · have gone : ((L0 b m).cmp kk).term i = (0, 60) := by
        unfold Lg.term
        rw [if_pos (by show (i : Int) < kk; omega)]
      rw [gone] at tC
      rw [zero i (by omega)] at eC
      have key := cpE1_1 b (m.map En.row) (((L0 b m).cmp kk).l.map En.row) m.length ((L0 b m).cmp kk).l.length kk ((L0 b m).cmp kk).m (i : Int) m.length (T m i) ((L0 b m).entry i).1.t ((L0 b m).entry i).2 ((L0 b m).entry i).1.d
      rw [w] at key
      exact key (decide_eq_false (by omega)) (decide_eq_true (by omega)) eC eL (decide_eq_false (by omega)) (decide_eq_true (by omega)) tC tL hil hl
    · rw [vc.term i (by show (kk : Int) ≤ i; omega) (by omega)] at tC
      by_cases c2 : i = kk
      · rw [zero i (by omega)] at eC
        have key := cpE2_1 b (m.map En.row) (((L0 b m).cmp kk).l.map En.row) m.length ((L0 b m).cmp kk).l.length kk ((L0 b m).cmp kk).m (i : Int) m.length (T m i) ((L0 b m).entry i).1.t ((L0 b m).entry i).2 ((L0 b m).entry i).1.d
        rw [w] at key
        exact key (decide_eq_false (by omega)) (decide_eq_true (by omega)) eC eL (bne_eq_false_iff_eq.2 rfl) (decide_eq_true (by omega)) (decide_eq_false (by omega)) tC tL hil hl
      · rw [v.entry i (by show (0 : Int) < i; omega) (by omega)] at eL
        rw [vc.entry i (by show (kk : Int) < i; omega) (by omega)] at eC
        have key := cpE3_1 b (m.map En.row) (((L0 b m).cmp kk).l.map En.row) m.length ((L0 b m).cmp kk).l.length kk ((L0 b m).cmp kk).m (i : Int) m.length (T m i) (m.getD (i - 1) z).t (m.getD (i - 1) z).d
        rw [w] at key
        exact key (by simp) (decide_eq_true (by omega)) (decide_eq_false (by omega)) eC eL (bne_eq_false_iff_eq.2 rfl) (decide_eq_true (by omega)) (decide_eq_false (by omega)) tC tL hil hl
theorem compacts_law (b : Bool) (xs : List En) (k e0 e1 : Int) : FOk Try.prog 4 [.fsl b 2 (xs.map En.row) none, .int .i64 k, .agg [.int .i64 e0, .int .i64 e1]] [] (.bool true) [] := by
  have hnew := new_ok 0 0 (by decide) (by decide) (by decide) (by decide)
  by_cases n1 : xs.length > 100
  · exact cpFL_1 b _ k e0 e1 awake_ok (decide_eq_true (by rw [List.length_map]; omega)) hnew
  have d1 : decide (((xs.map En.row).length : Int) > 100) = false := decide_eq_false (by rw [List.length_map]; omega)
  rcases cp_rounds b xs k e0 e1 (by omega) xs.length 0 true [] (by omega) inv0 with ⟨b1, m, j, v, r⟩ | r
  · have t1 := r.trip
    have hn : m.length ≤ 1099511627776 := by have := v.ok.n; simp only [L0] at this; omega
    have hb := (and_small k 65535 (by decide)).1
    have w : IntKind.wrap .i64 ((m.length : Int) + 1) = (m.length : Int) + 1 := wrapS (by omega) (by omega)
    have h0 : 0 ≤ Int.tmod (bits .and .i64 k (65535 : Nat)) ((m.length : Int) + 1) := Int.tmod_nonneg _ hb
    have h1 : Int.tmod (bits .and .i64 k (65535 : Nat)) ((m.length : Int) + 1) < (m.length : Int) + 1 := Int.tmod_lt_of_pos _ (by omega)
    obtain ⟨kk, hkk⟩ : ∃ kk : Nat, Int.tmod (bits .and .i64 k (65535 : Nat)) ((m.length : Int) + 1) = kk := ⟨_, (Int.toNat_of_nonneg h0).symm⟩
    rw [hkk] at h1
    have hk : ((L0 b1 m).term kk).2 = 0 := by rw [v.term kk (by show (0 : Int) ≤ kk; omega) (by omega)]
    have vc := v.cmp hk
    have t2 := (cd_rounds b1 m kk v hk (m.length + 1) 0 (by omega)).trip
    have hl1 := last_ok v.ok
    rw [v.last] at hl1
    have hl2 := last_ok vc.ok
    rw [vc.last] at hl2
    have hp := newer_ok v.ok e0 e1
    have hq := newer_ok vc.ok e0 e1
    rw [v.endT, v.last] at hp
    rw [vc.endT, vc.last] at hq
    have hc := cmp_yes v.ok kk hk
    have hbase := base_ok ((L0 b1 m).cmp kk)
    have key := cpF_4 b b1 (decide (e1 > T m m.length ∨ e1 = T m m.length ∧ e0 ≥ (m.length : Int))) (xs.map En.row) (m.map En.row) (((L0 b1 m).cmp kk).l.map En.row) m.length ((L0 b1 m).cmp kk).l.length k e0 e1 j m.length ((L0 b1 m).cmp kk).m kk ((m.length + 1 : Nat) : Int)
    have hkk' : Int.tmod (bits .and .i64 k 65535) ((m.length : Int) + 1) = kk := hkk
    rw [w, hkk'] at key
    exact key awake_ok t2 (by cases decide (e1 > T m m.length ∨ e1 = T m m.length ∧ e0 ≥ (m.length : Int)) <;> rfl) hq hp (bne_eq_false_iff_eq.2 rfl) hl1 hl2 (bne_eq_false_iff_eq.2 rfl) hbase hc (decide_eq_true (by omega)) t1 d1 hnew
  · exact cpFR_1 b _ k e0 e1 r.trip d1 hnew

theorem compacts_row (xs : List AVal) (h : okArgs Try.prog Try.f4.params.toList [[.sl 24 [.int .i64, .str]], [.int .i64], [.int .i64, .int .i64]] xs) : ∃ σ', FOk Try.prog 4 xs [] (.bool true) σ' := by
  obtain ⟨a, bs, rfl, h1, a2, bs2, rfl, h2, a3, bs3, rfl, h3, h4⟩ := h
  cases h4
  simp only [okArg, show isAggT Try.prog 22 = false from by kernel_rfl, show isAggT Try.prog 3 = false from by kernel_rfl, show isAggT Try.prog 36 = true from by kernel_rfl, okKs, okK] at h1 h2 h3
  obtain ⟨v, us, e, ⟨b, rows, rfl, _, _, _, hr⟩, rfl⟩ := h1
  cases e
  obtain ⟨v, us, e, ⟨k, rfl, _⟩, rfl⟩ := h2
  cases e
  obtain ⟨cells, rfl, v, us, rfl, ⟨e0, rfl, _⟩, v2, us2, rfl, ⟨e1, rfl, _⟩, rfl⟩ := h3
  obtain ⟨l, rfl⟩ := rows_of (f := En.row) rows (fun row hrow => by
    obtain ⟨v, us, rfl, ⟨x, rfl, _⟩, v2, us2, rfl, ⟨y, rfl, _⟩, rfl⟩ := hr row hrow
    exact ⟨⟨x, y⟩, rfl⟩)
  exact ⟨_, compacts_law b l k e0 e1⟩
end Go.L06
