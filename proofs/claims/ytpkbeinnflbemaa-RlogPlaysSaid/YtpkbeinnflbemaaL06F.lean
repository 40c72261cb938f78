import Derived.Test.YtpkbeinnflbemaaL06E0
import Derived.Test.YtpkbeinnflbemaaL06X0
set_option linter.unusedVariables false
set_option linter.unusedSimpArgs false
set_option maxRecDepth 100000
namespace Go.L06
open Go Go.Abs Go.Proofs

/-! ## Cut and Compact -/
def Lg.frm (L : Lg) (i : Int) : Int × Int := if i ≤ L.a then (0, 60) else if i > L.last + 1 then (0, 3) else (i - L.a - 1, 0)
theorem frm_ok {L : Lg} (h : L.ok) (i : Int) : FOk Try.prog 25 [logP, .int .i64 i] L.o (.tuple [.int .i64 (L.frm i).1, .int .i64 (L.frm i).2]) L.o := by
  have hg := given_ok L
  have hl := last_ok h
  have a0 := h.a0; have a1 := h.a1; have n0 := h.n
  have w : IntKind.wrap .i64 (L.last + 1) = L.last + 1 := by unfold Lg.last; exact wrapS (by omega) (by omega)
  unfold Lg.frm
  by_cases h1 : i ≤ L.a
  · rw [if_pos h1]; exact from__1 L.a L.m 0 i L.b L.l.length (L.l.map En.row) (decide_eq_true h1) hg
  · rw [if_neg h1]
    by_cases h2 : i > L.last + 1
    · rw [if_pos h2]; exact from__2 L.a L.m L.last i L.b L.l.length (L.l.map En.row) (decide_eq_true (by rw [w]; exact h2)) hl (decide_eq_false h1) hg
    · rw [if_neg h2]
      have key := from__3 L.a L.m L.last i L.b L.l.length (L.l.map En.row) (decide_eq_false (by rw [w]; exact h2)) hl (decide_eq_false h1) hg
      unfold Lg.last at h2
      rw [wrapS (n := i - L.a) (by omega) (by omega), wrapS (by omega) (by omega)] at key
      exact key
def Lg.cut (L : Lg) (i : Int) : Lg := { L with l := L.l.take (i - L.a - 1).toNat }
theorem cut_okL {L : Lg} (h : L.ok) (i : Int) : (L.cut i).ok :=
  ⟨h.a0, h.a1, by have := h.n; have : (L.l.take (i - L.a - 1).toNat).length ≤ L.l.length := by rw [List.length_take]; exact Nat.min_le_right _ _
                  unfold Lg.cut; dsimp only; omega, fun hb => by unfold Lg.cut; dsimp only; rw [h.b hb]; simp⟩
theorem cut_no {L : Lg} (h : L.ok) (i : Int) (hw : (L.frm i).2 ≠ 0) : FOk Try.prog 17 [logP, .int .i64 i] L.o (.int .i64 (L.frm i).2) L.o :=
  cut_2 L.a L.m i (L.frm i).1 (L.frm i).2 L.b L.l.length (L.l.map En.row) (beq_eq_false_iff_ne.2 hw) (frm_ok h i)
theorem frm_in {L : Lg} {i : Int} (hw : (L.frm i).2 = 0) : L.a < i ∧ i ≤ L.last + 1 ∧ (L.frm i).1 = i - L.a - 1 := by
  unfold Lg.frm at hw ⊢
  split at hw
  · simp at hw
  · split at hw
    · simp at hw
    · rename_i h1 h2
      rw [if_neg h1, if_neg h2]
      exact ⟨by omega, by omega, rfl⟩
theorem cut_yes {L : Lg} (h : L.ok) (i : Int) (hw : (L.frm i).2 = 0) : FOk Try.prog 17 [logP, .int .i64 i] L.o (.int .i64 0) (L.cut i).o := by
  obtain ⟨h1, h2, h3⟩ := frm_in hw
  have hf := frm_ok h i
  rw [hw, h3] at hf
  unfold Lg.last at h2
  have hk : (i - L.a - 1).toNat ≤ L.l.length := by omega
  have key := cut_1 L.a L.m i (i - L.a - 1) 0 L.b L.l.length (L.l.map En.row) (decide_eq_true ⟨by omega, by omega, by omega, by omega⟩) rfl hf
  have k2 := (key.weakCell (id := 0) (i := 0) (j := 2) rfl (Imp.slcCap _ _ _ _ _ _)).takeRows (id := 1) rfl (i - L.a - 1).toNat
  have e1 : (L.l.map En.row).take (i - L.a - 1).toNat = (L.cut i).l.map En.row := by unfold Lg.cut; dsimp only; rw [List.map_take]
  have e2 : (L.cut i).l.length = (i - L.a - 1).toNat - 0 := by unfold Lg.cut; dsimp only; rw [List.length_take]; omega
  unfold Lg.o LogO
  rw [e2, ← e1]
  exact k2

theorem rows_plain (l : List En) : (l.map En.row).all (fun r => r.all oneCell) = true := by
  induction l with
  | nil => rfl
  | cons x l ih => rw [List.map_cons, List.all_cons, ih]; rfl
theorem clone_ok (l : List En) (o n : Nat) (h : o + n ≤ l.length) (hn : l.length ≤ 1099511627777) : FOk Try.prog 24 [.slc false 0 2 o n none] [.rows true 2 (l.map En.row)] (.slc false 1 2 0 n none) [.rows true 2 (l.map En.row), .rows true 2 (((l.drop o).take n).map En.row)] := by
  have e : List.take n (List.drop o (l.map En.row)) = ((l.drop o).take n).map En.row := by rw [← List.map_drop, ← List.map_take]
  have hl : (((l.drop o).take n).map En.row).length = n := by rw [List.length_map, List.length_take, List.length_drop]; omega
  have key := clone_2 false o n (l.map En.row)
  dsimp only at key
  rw [e, hl, List.nil_append, Nat.zero_add] at key
  exact key (decide_eq_true (by omega)) (decide_eq_true (by rw [List.length_map]; exact h)) (rows_plain _) rfl
def Lg.cmp (L : Lg) (i : Int) : Lg := { L with a := i, m := (L.term i).1, l := L.l.drop (i - L.a).toNat }
theorem term_in {L : Lg} {i : Int} (hw : (L.term i).2 = 0) : L.a ≤ i ∧ i ≤ L.last := by
  unfold Lg.term at hw
  split at hw
  · simp at hw
  · split at hw
    · simp at hw
    · exact ⟨by omega, by omega⟩
theorem cmp_okL {L : Lg} (h : L.ok) {i : Int} (hw : (L.term i).2 = 0) : (L.cmp i).ok := by
  obtain ⟨h1, h2⟩ := term_in hw
  have a0 := h.a0; have a1 := h.a1; have n0 := h.n
  unfold Lg.last at h2
  have hl : (L.l.drop (i - L.a).toNat).length = L.l.length - (i - L.a).toNat := List.length_drop
  exact ⟨by unfold Lg.cmp; dsimp only; omega, by unfold Lg.cmp; dsimp only; omega, by unfold Lg.cmp; dsimp only; rw [hl]; omega, fun hb => by unfold Lg.cmp; dsimp only; rw [h.b hb]; simp⟩
theorem cmp_no {L : Lg} (h : L.ok) (i : Int) (hw : (L.term i).2 ≠ 0) : FOk Try.prog 14 [logP, .int .i64 i] L.o (.int .i64 (L.term i).2) L.o := by
  have ht := term_ok h i
  generalize (L.term i).1 = t at ht
  generalize (L.term i).2 = e at hw ht
  obtain ⟨a, m, b, l⟩ := L
  cases b with
  | false => exact cmpA_2 a m i t e l.length 0 (l.map En.row) [] (beq_eq_false_iff_ne.2 hw) ht
  | true => exact cmpN_2 a m i t e l.length (l.map En.row) (beq_eq_false_iff_ne.2 hw) ht
/-- the heap behind a log that was compacted: what it had is nobody's -/
abbrev Lg.oc (L K : Lg) : AState := [.rows false 4 [[.int .i64 L.a, .int .i64 L.m, .slc L.b 2 2 0 L.l.length none, .tt true]], .rows true 2 (K.l.map En.row), .rows true 2 (L.l.map En.row)]
theorem cmp_yes {L : Lg} (h : L.ok) (i : Int) (hw : (L.term i).2 = 0) : FOk Try.prog 14 [logP, .int .i64 i] L.o (.int .i64 0) ((L.cmp i).oc L) := by
  obtain ⟨h1, h2⟩ := term_in hw
  have a0 := h.a0; have a1 := h.a1; have n0 := h.n; have hb := h.b
  have ht := term_ok h i
  rw [hw] at ht
  unfold Lg.oc Lg.cmp
  dsimp only
  unfold Lg.last at h2
  generalize (L.term i).1 = t at ht
  have w : IntKind.wrap .i64 (i - L.a) = i - L.a := wrapS (by omega) (by omega)
  have hl : (L.l.drop (i - L.a).toNat).length = L.l.length - (i - L.a).toNat := List.length_drop
  obtain ⟨a, m, b, l⟩ := L
  dsimp only at *
  have hc : decide (0 ≤ IntKind.wrap .i64 (i - a) ∧ IntKind.wrap .i64 (i - a) ≤ (l.length : Int) ∧ (l.length : Int) ≤ (l.length : Int)) = true := decide_eq_true (by rw [w]; omega)
  have hcl := clone_ok l (i - a).toNat (l.length - (i - a).toNat) (by omega) (by omega)
  rw [List.take_of_length_le (by rw [hl]; exact Nat.le_refl _)] at hcl
  cases b with
  | false =>
    have key := cmpA_1 a m i t 0 l.length (l.drop (i - a).toNat).length (l.map En.row) ((l.drop (i - a).toNat).map En.row)
    rw [w, hl, Int.toNat_natCast, Nat.add_zero] at key
    rw [w] at hc
    rw [hl]
    exact key hcl hc rfl ht
  | true =>
    have hl0 := hb rfl
    subst hl0
    have key := cmpN_1 a m i t 0 0 []
    have e0 : (i - a).toNat = 0 := by simp at h2; omega
    rw [w] at key hc
    rw [e0] at key ⊢
    have k2 := (key (clone_1 true (0 + 0) _ [] rfl) hc rfl ht)
    exact k2.nilCell (id := 0) (i := 0) (j := 2) (es := 2) rfl rfl true
end Go.L06
