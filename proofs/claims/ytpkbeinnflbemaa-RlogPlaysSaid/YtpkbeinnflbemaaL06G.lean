import Derived.Test.YtpkbeinnflbemaaL06F
set_option linter.unusedVariables false
set_option linter.unusedSimpArgs false
set_option maxRecDepth 100000
namespace Go.L06
open Go Go.Abs Go.Proofs

/-! ## RlogRises: what a log ought to have, plainly -/
structure Op where
  kd : Int
  n : Int
  m : Int
  e : En
abbrev Op.row (o : Op) : List AVal := [.int .i64 o.kd, .int .i64 o.n, .int .i64 o.m, .int .i64 o.e.t, .str o.e.d]
def zop : Op := ⟨0, 0, 0, z⟩

/-- the term at an index -/
def T (h : List En) (i : Nat) : Int := if i = 0 then 0 else (h.getD (i - 1) z).t
theorem T_app (h : List En) (x : En) (j : Nat) (hj : j ≤ h.length) : T (h ++ [x]) j = T h j := by
  unfold T
  split
  · rfl
  · rw [List.getD_eq_getElem?_getD, List.getD_eq_getElem?_getD, List.getElem?_append_left (by omega)]
theorem T_snoc (h : List En) (x : En) : T (h ++ [x]) (h.length + 1) = x.t := by
  unfold T
  rw [if_neg (by omega), List.getD_eq_getElem?_getD, List.getElem?_append_right (by omega)]
  simp
theorem T_take (h : List En) (k j : Nat) (hj : j ≤ k) : T (h.take k) j = T h j := by
  unfold T
  split
  · rfl
  · rw [List.getD_eq_getElem?_getD, List.getD_eq_getElem?_getD, List.getElem?_take_of_lt (by omega)]

structure Inv (L : Lg) (h : List En) : Prop where
  ok : L.ok
  la : L.a ≤ h.length
  l : L.l = h.drop L.a.toNat
  m : L.m = T h L.a.toNat
  s : ∀ i j : Nat, i ≤ j → j ≤ h.length → T h i ≤ T h j
theorem Inv.len {L : Lg} {h : List En} (v : Inv L h) : (L.l.length : Int) = h.length - L.a := by
  have := v.la; have := v.ok.a0
  rw [v.l, List.length_drop]; omega
theorem Inv.last {L : Lg} {h : List En} (v : Inv L h) : L.last = h.length := by
  have := v.len
  unfold Lg.last; omega
theorem Inv.term {L : Lg} {h : List En} (v : Inv L h) (i : Nat) (h1 : L.a ≤ i) (h2 : i ≤ h.length) : L.term i = (T h i, 0) := by
  have hl := v.last
  have a0 := v.ok.a0
  unfold Lg.term
  rw [if_neg (by omega), if_neg (by omega)]
  by_cases e : (i : Int) = L.a
  · rw [if_pos e, v.m, ← e, Int.toNat_natCast]
  · rw [if_neg e]
    congr 1
    unfold T
    rw [if_neg (by omega), v.l, List.getD_eq_getElem?_getD, List.getElem?_drop, List.getD_eq_getElem?_getD]
    congr 3
    omega
theorem Inv.endT {L : Lg} {h : List En} (v : Inv L h) : L.endT = T h h.length := by
  unfold Lg.endT
  rw [v.last, v.term h.length v.la (Nat.le_refl _)]
theorem Inv.add {L : Lg} {h : List En} (v : Inv L h) {x : En} (hw : L.why x = 0) : Inv (L.add x) (h ++ [x]) := by
  have la := v.la; have a0 := v.ok.a0
  have hx : T h h.length ≤ x.t := by
    have he := v.endT
    unfold Lg.why at hw
    repeat' split at hw
    all_goals first | (simp at hw; done) | skip
    omega
  refine ⟨add_ok v.ok hw, ?_, ?_, ?_, ?_⟩
  · simp only [Lg.add, List.length_append, List.length_cons, List.length_nil]; omega
  · simp only [Lg.add]; rw [v.l, List.drop_append_of_le_length (by omega)]
  · simp only [Lg.add]; rw [T_app _ _ _ (by omega)]; exact v.m
  · intro i j hij hj
    rw [List.length_append, List.length_cons, List.length_nil, Nat.zero_add] at hj
    by_cases e : j = h.length + 1
    · subst e
      rw [T_snoc]
      by_cases e2 : i = h.length + 1
      · subst e2; rw [T_snoc]; exact Int.le_refl _
      · rw [T_app _ _ _ (by omega)]; exact Int.le_trans (v.s i h.length (by omega) (Nat.le_refl _)) hx
    · rw [T_app _ _ _ (by omega), T_app _ _ _ (by omega)]; exact v.s i j hij (by omega)
theorem Inv.cut {L : Lg} {h : List En} (v : Inv L h) {i : Int} (hw : (L.frm i).2 = 0) : Inv (L.cut i) (h.take (i - 1).toNat) := by
  obtain ⟨h1, h2, _⟩ := frm_in hw
  have la := v.la; have a0 := v.ok.a0
  rw [v.last] at h2
  have hl : (h.take (i - 1).toNat).length = (i - 1).toNat := by rw [List.length_take]; omega
  refine ⟨cut_okL v.ok i, ?_, ?_, ?_, ?_⟩
  · rw [hl]; simp only [Lg.cut]; omega
  · simp only [Lg.cut]; rw [v.l, List.drop_take]; congr 1; omega
  · simp only [Lg.cut]; rw [T_take _ _ _ (by omega)]; exact v.m
  · intro a b hab hb
    rw [hl] at hb
    rw [T_take _ _ _ (by omega), T_take _ _ _ (by omega)]; exact v.s a b hab (by omega)
theorem Inv.cmp {L : Lg} {h : List En} (v : Inv L h) {i : Int} (hw : (L.term i).2 = 0) : Inv (L.cmp i) h := by
  obtain ⟨h1, h2⟩ := term_in hw
  have la := v.la; have a0 := v.ok.a0
  rw [v.last] at h2
  have ht := v.term i.toNat (by omega) (by omega)
  rw [Int.toNat_of_nonneg (by omega)] at ht
  refine ⟨cmp_okL v.ok hw, ?_, ?_, ?_, v.s⟩
  · simp only [Lg.cmp]; omega
  · simp only [Lg.cmp]; rw [v.l, List.drop_drop]; congr 1; omega
  · simp only [Lg.cmp]; rw [ht]
end Go.L06
