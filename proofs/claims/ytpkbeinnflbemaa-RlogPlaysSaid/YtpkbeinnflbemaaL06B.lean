import Derived.Test.YtpkbeinnflbemaaL06A
import Derived.Test.YtpkbeinnflbemaaAbsLib
set_option linter.unusedVariables false
set_option linter.unusedSimpArgs false
set_option maxRecDepth 100000
namespace Go.L06
open Go Go.Abs Go.Proofs

/-! ## A log, plainly -/
structure En where
  t : Int
  d : ByteArray
def z : En := ⟨0, ⟨#[]⟩⟩
abbrev En.row (x : En) : List AVal := [.int .i64 x.t, .str x.d]
structure Lg where
  a : Int
  m : Int
  b : Bool
  l : List En
structure Lg.ok (L : Lg) : Prop where
  a0 : 0 ≤ L.a
  a1 : L.a ≤ 1099511627776
  n : L.a + L.l.length ≤ 1099511627776
  b : L.b = true → L.l = []
abbrev Lg.o (L : Lg) : AState := LogO L.a L.m L.b L.l.length (L.l.map En.row)
def Lg.last (L : Lg) : Int := L.a + L.l.length
def Lg.term (L : Lg) (i : Int) : Int × Int :=
  if i < L.a then (0, 60) else if i > L.last then (0, 3) else if i = L.a then (L.m, 0) else ((L.l.getD (i - L.a - 1).toNat z).t, 0)
def Lg.entry (L : Lg) (i : Int) : En × Int :=
  if i ≤ L.a then (z, 60) else if i > L.last then (z, 3) else (L.l.getD (i - L.a - 1).toNat z, 0)
def Lg.endT (L : Lg) : Int := (L.term L.last).1
/-- why an entry may not be appended; 0: it may -/
def Lg.why (L : Lg) (x : En) : Int :=
  if x.t > 1099511627776 then 1 else if (x.d.size : Int) > 262144 then 1 else if x.t < L.endT then 50 else if L.last ≥ 1099511627776 then 2 else 0
def Lg.add (L : Lg) (x : En) : Lg := { L with b := false, l := L.l ++ [x] }

theorem given_ok (L : Lg) : FOk Try.prog 22 [logP] L.o (.bool true) L.o := given_1 _ _ _ _ _
theorem base_ok (L : Lg) : FOk Try.prog 15 [logP] L.o (.int .i64 L.a) L.o := by
  have := base_1 L.a L.m L.b L.l.length (L.l.map En.row) (given_ok L)
  exact this
theorem last_ok {L : Lg} (h : L.ok) : FOk Try.prog 12 [logP] L.o (.int .i64 L.last) L.o := by
  have h1 := h.a0; have h2 := h.n
  have := last_1 L.a L.m L.b L.l.length (L.l.map En.row) (given_ok L)
  rw [wrapS (by omega) (by omega)] at this
  exact this
theorem place_ok {L : Lg} (h : L.ok) {i : Int} (h1 : L.a < i) (h2 : i ≤ L.last) : IntKind.wrap .i64 (IntKind.wrap .i64 (i - L.a) - 1) = i - L.a - 1 ∧ (i - L.a - 1).toNat < L.l.length := by
  have a0 := h.a0; have a1 := h.a1; have n := h.n
  unfold Lg.last at h2
  rw [wrapS (n := i - L.a) (by omega) (by omega), wrapS (by omega) (by omega)]
  exact ⟨rfl, by omega⟩
theorem term_ok {L : Lg} (h : L.ok) (i : Int) : FOk Try.prog 11 [logP, .int .i64 i] L.o (.tuple [.int .i64 (L.term i).1, .int .i64 (L.term i).2]) L.o := by
  have hg := given_ok L
  have hl := last_ok h
  unfold Lg.term
  by_cases h1 : i < L.a
  · rw [if_pos h1]; exact term_1 L.a L.m 0 i L.b L.l.length (L.l.map En.row) (decide_eq_true h1) hg
  · rw [if_neg h1]
    by_cases h2 : i > L.last
    · rw [if_pos h2]; exact term_2 L.a L.m L.last i L.b L.l.length (L.l.map En.row) (decide_eq_true h2) hl (decide_eq_false h1) hg
    · rw [if_neg h2]
      by_cases h3 : i = L.a
      · rw [if_pos h3]; exact term_3 L.a L.m L.last i L.b L.l.length (L.l.map En.row) (beq_iff_eq.2 h3) (decide_eq_false h2) hl (decide_eq_false h1) hg
      · rw [if_neg h3]
        obtain ⟨e1, e2⟩ := place_ok h (i := i) (by omega) (by omega)
        have key := term_4 L.a L.m L.last i L.b L.l.length (L.l.map En.row)
        simp only [e1, Nat.add_zero, getD_map (f := En.row) L.l _ z e2, List.length_map, List.getD_cons_zero, AVal.toInt] at key
        exact key (decide_eq_true e2) (by kernel_rfl) (decide_eq_true (by omega)) (beq_eq_false_iff_ne.2 h3) (decide_eq_false h2) hl (decide_eq_false h1) hg
theorem entry_ok {L : Lg} (h : L.ok) (i : Int) : FOk Try.prog 16 [logP, .int .i64 i] L.o (.tuple [.agg (L.entry i).1.row, .int .i64 (L.entry i).2]) L.o := by
  have hg := given_ok L
  have hl := last_ok h
  unfold Lg.entry
  by_cases h1 : i ≤ L.a
  · rw [if_pos h1]; exact entry_1 L.a L.m 0 i L.b L.l.length (L.l.map En.row) (decide_eq_true h1) hg
  · rw [if_neg h1]
    by_cases h2 : i > L.last
    · rw [if_pos h2]; exact entry_2 L.a L.m L.last i L.b L.l.length (L.l.map En.row) (decide_eq_true h2) hl (decide_eq_false h1) hg
    · rw [if_neg h2]
      obtain ⟨e1, e2⟩ := place_ok h (i := i) (by omega) (by omega)
      have key := entry_3 L.a L.m L.last i L.b L.l.length (L.l.map En.row)
      simp only [e1, Nat.add_zero, getD_map (f := En.row) L.l _ z e2, List.length_map, List.getD_cons_zero, List.getD_cons_succ, AVal.toInt, AVal.toStr] at key
      exact key (decide_eq_true e2) (by kernel_rfl) (decide_eq_true (by omega)) (decide_eq_false h2) hl (decide_eq_false h1) hg
theorem end_ok {L : Lg} (h : L.ok) : FOk Try.prog 23 [logP] L.o (.int .i64 L.endT) L.o :=
  endT_1 L.a L.m L.last L.endT (L.term L.last).2 L.b L.l.length (L.l.map En.row) (term_ok h L.last) (last_ok h)
theorem newer_ok {L : Lg} (h : L.ok) (i t : Int) : FOk Try.prog 13 [logP, .int .i64 i, .int .i64 t] L.o (.bool (decide (t > L.endT ∨ t = L.endT ∧ i ≥ L.last))) L.o := by
  have hg := given_ok L
  have he := end_ok h
  by_cases h1 : t > L.endT
  · exact (newer_1 L.a L.m L.last L.endT i t L.b L.l.length (L.l.map En.row) (decide_eq_true h1) he hg).imp (Imp.bool (decide_eq_true (.inl h1)).symm)
  · by_cases h2 : t = L.endT
    · exact (newer_2 L.a L.m L.last L.endT i t L.b L.l.length (L.l.map En.row) (last_ok h) (beq_iff_eq.2 h2) he (decide_eq_false h1) hg).imp (Imp.bool (by congr 1; simp [h2]))
    · exact (newer_3 L.a L.m L.last L.endT i t L.b L.l.length (L.l.map En.row) (beq_eq_false_iff_ne.2 h2) he (decide_eq_false h1) hg).imp (Imp.bool (decide_eq_false (by rintro (h | ⟨h, _⟩); exact h1 h; exact h2 h)).symm)

theorem add_ok {L : Lg} (h : L.ok) {x : En} (hw : L.why x = 0) : (L.add x).ok := by
  have h1 := h.a0; have h2 := h.a1; have h3 := h.n
  unfold Lg.why at hw
  repeat' split at hw
  all_goals first | (simp at hw; done) | skip
  rename_i hl
  unfold Lg.last at hl
  exact ⟨h.a0, h.a1, by simp [Lg.add]; omega, by simp [Lg.add]⟩

theorem append_no {L : Lg} (h : L.ok) (x : En) (hw : L.why x ≠ 0) : FOk Try.prog 10 [logP, .agg x.row] L.o (.tuple [.int .i64 0, .int .i64 (L.why x)]) L.o := by
  have hg := given_ok L
  have he := end_ok h
  have hl := last_ok h
  unfold Lg.why at hw ⊢
  by_cases h1 : x.t > 1099511627776
  · rw [if_pos h1]; exact append_1 L.a L.m 0 0 x.t x.d L.b L.l.length (L.l.map En.row) (decide_eq_true h1) hg
  · rw [if_neg h1] at hw ⊢
    by_cases h2 : (x.d.size : Int) > 262144
    · rw [if_pos h2]; exact append_2 L.a L.m 0 0 x.t x.d L.b L.l.length (L.l.map En.row) (decide_eq_true h2) (decide_eq_false h1) hg
    · rw [if_neg h2] at hw ⊢
      by_cases h3 : x.t < L.endT
      · rw [if_pos h3]; exact append_3 L.a L.m 0 L.endT x.t x.d L.b L.l.length (L.l.map En.row) (decide_eq_true h3) he (decide_eq_false h2) (decide_eq_false h1) hg
      · rw [if_neg h3] at hw ⊢
        by_cases h4 : L.last ≥ 1099511627776
        · rw [if_pos h4]; exact append_4 L.a L.m L.last L.endT x.t x.d L.b L.l.length (L.l.map En.row) (decide_eq_true h4) hl (decide_eq_false h3) he (decide_eq_false h2) (decide_eq_false h1) hg
        · rw [if_neg h4] at hw; exact absurd rfl hw

/-- the heap behind an entry that was appended -/
abbrev Lg.o' (L : Lg) : AState := [.rows false 4 [[.int .i64 L.a, .int .i64 L.m, .slc L.b 2 2 0 L.l.length none, .tt true]], .dead, .rows true 2 (L.l.map En.row)]

theorem append_yes {L : Lg} (h : L.ok) (x : En) (hw : L.why x = 0) : FOk Try.prog 10 [logP, .agg x.row] L.o (.tuple [.int .i64 (L.last + 1), .int .i64 0]) (L.add x).o' := by
  have hg := given_ok L
  have he := end_ok h
  have hl := last_ok h
  have hL := add_ok h hw
  have hl2 := last_ok hL
  have a0 := h.a0; have a1 := h.a1; have n0 := h.n
  have e0 : (L.add x).last = L.last + 1 := by simp [Lg.last, Lg.add]; omega
  have w : IntKind.wrap .i64 (L.last + 1) = L.last + 1 := by unfold Lg.last; exact wrapS (by omega) (by omega)
  rw [e0] at hl2
  have c1 : ¬ x.t > 1099511627776 := by intro c; unfold Lg.why at hw; rw [if_pos c] at hw; simp at hw
  have c2 : ¬ (x.d.size : Int) > 262144 := by intro c; unfold Lg.why at hw; rw [if_neg c1, if_pos c] at hw; simp at hw
  have c3 : ¬ x.t < L.endT := by intro c; unfold Lg.why at hw; rw [if_neg c1, if_neg c2, if_pos c] at hw; simp at hw
  have c4 : ¬ L.last ≥ 1099511627776 := by intro c; unfold Lg.why at hw; rw [if_neg c1, if_neg c2, if_neg c3, if_pos c] at hw; simp at hw
  have key := append_5 L.a L.m L.last L.endT x.t x.d L.b L.l.length (L.l.map En.row)
  rw [w] at key
  have e1 : (L.l.map En.row) ++ [[.int .i64 x.t, .str x.d]] = (L.add x).l.map En.row := by simp [Lg.add]
  have e2 : (L.b && List.isEmpty [[AVal.int IntKind.i64 x.t, AVal.str x.d]]) = (L.add x).b := by simp [Lg.add]
  have e3 : L.l.length + List.length [[AVal.int IntKind.i64 x.t, AVal.str x.d]] = (L.add x).l.length := by simp [Lg.add]
  rw [e1, e2, e3] at key
  have hn := hL.n
  have ha := hL.a0
  exact key hl2 (decide_eq_true (by rw [List.length_map])) (decide_eq_true (by omega)) (decide_eq_false c4) hl (decide_eq_false c3) he (decide_eq_false c2) (decide_eq_false c1) hg

theorem new_ok (a m : Int) (h0 : 0 ≤ a) (h1 : a ≤ 1099511627776) (h2 : 0 ≤ m) (h3 : m ≤ 1099511627776) : FOk Try.prog 8 [.int .i64 a, .int .i64 m] [] (.tuple [logP, .int .i64 0]) (Lg.o ⟨a, m, true, []⟩) := by
  have := new_5 a m (decide_eq_false (by omega)) (decide_eq_false (by omega)) (decide_eq_false (by omega)) (decide_eq_false (by omega))
  exact this.nilCell (id := 0) (i := 0) (j := 2) (es := 2) rfl rfl true

end Go.L06
