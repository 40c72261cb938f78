import Derived.Test.YtchomggcjicokaaAbsOrder
set_option linter.unusedVariables false
set_option linter.unusedSimpArgs false
namespace Go.Abs

section
variable {P : Program} {ops : Array Oper} {sg : Nat → AState} {cur rgs : Nat → Regs} {vs : Nat → AVal}

abbrev clsAt (ops : Array Oper) (i : Nat) : Cls := clsOf ops.toList (ancs ops.toList []) i

abbrev Chain (P : Program) (ops : Array Oper) (sg : Nat → AState) (cur rgs : Nat → Regs) (vs : Nat → AVal) : Prop :=
  ∀ i o, ops[i]? = some o → ChainAt P ops (o, clsAt ops i) (cur i) (rgs i) (cur (i + 1)) (sg i) (sg (i + 1)) (vs i)

theorem cls_pure {i : Nat} {o : Oper} (ho : ops[i]? = some o) (hp : isPure o.op = true) : clsAt ops i = .pure := by
  simp [clsAt, clsOf, ho, hp]
theorem cls_np {i : Nat} {o : Oper} (ho : ops[i]? = some o) (hp : isPure o.op = false) : clsAt ops i = .bar ∨ (clsAt ops i ≠ .bar ∧ ((clsAt ops i = .ext ∧ isExt o.op = true) ∨ clsAt ops i = .extq)) := by
  simp only [clsAt, clsOf, Array.getElem?_toList, ho, Option.map_some, hp, Option.getD_some, Bool.false_eq_true, if_false]
  split
  · exact .inl rfl
  · refine .inr ?_
    split
    · rename_i h; exact ⟨by simp, .inl ⟨rfl, h⟩⟩
    · exact ⟨by simp, .inr rfl⟩
theorem clsConds_scope {c : Cls} {σ σ' : AState} {v : AVal} (h : allP (clsConds c σ v σ')) (hc : c ≠ .plain) : (inScope σ'.length v && σ'.all (inScopeO σ'.length)) = true := by
  cases c <;> first | exact absurd rfl hc | exact h.cons.1

theorem cls_bar {q : Nat} (h : clsAt ops q = .bar) : (∃ o, ops[q]? = some o ∧ isPure o.op = false) ∧ ∀ j o, ops[j]? = some o → isPure o.op = false → j ≠ q →
    (j < q → ((ancs ops.toList []).getD q 0).testBit j = true) ∧ (q < j → ((ancs ops.toList []).getD j 0).testBit q = true) := by
  unfold clsAt clsOf at h
  split at h
  · cases h
  · rename_i hnp
    split at h
    · rename_i hb
      refine ⟨?_, fun j o ho hp hne => ?_⟩
      · cases ho : ops[q]? with
        | none => simp [ho] at hnp
        | some o => exact ⟨o, rfl, by simpa [ho] using hnp⟩
      · have hlt : j < ops.toList.length := by simpa using (Array.getElem?_eq_some_iff.1 ho).1
        have := List.all_eq_true.1 hb j (List.mem_range.2 hlt)
        simp only [Array.getElem?_toList, ho, Option.map_some, Option.getD_some, hp, Bool.or_eq_true, decide_eq_true_eq, Bool.false_eq_true, or_false] at this
        rcases this with h | h
        · exact absurd h.symm hne
        · refine ⟨fun hl => by rw [if_pos hl] at h; exact h, fun hl => by rw [if_neg (by omega)] at h; exact h⟩
    · split at h <;> cases h

theorem Chain.take (hc : Chain P ops sg cur rgs vs) {i : Nat} {o : Oper} (ho : ops[i]? = some o) (hb : clsAt ops i ≠ .bar) : (sg (i + 1)).take (sg i).length = sg i := by
  have h := hc i o ho
  cases hp : isPure o.op with
  | true => rw [(h.pur hp).1]; simp
  | false =>
    rcases cls_np ho hp with e | ⟨_, ⟨_, e⟩ | e⟩
    · exact absurd e hb
    · exact h.ext e
    · have hcnd := h.cnd
      simp only [e, clsConds] at hcnd
      exact hcnd.cons.2.cons.1
theorem Chain.len (hc : Chain P ops sg cur rgs vs) {i : Nat} {o : Oper} (ho : ops[i]? = some o) : (sg i).length ≤ (sg (i + 1)).length := by
  by_cases hb : clsAt ops i = .bar
  · have hcnd := (hc i o ho).cnd
    simp only [hb, clsConds] at hcnd
    exact of_decide_eq_true hcnd.cons.2.cons.1
  · have := congrArg List.length (hc.take ho hb)
    rw [List.length_take] at this
    omega
theorem Chain.mono (hc : Chain P ops sg cur rgs vs) : ∀ (d i : Nat), i + d ≤ ops.size → (sg i).length ≤ (sg (i + d)).length
  | 0, i, _ => Nat.le_refl _
  | d + 1, i, h => by
    have := hc.len (i := i + d) (Array.getElem?_eq_getElem (by omega))
    exact Nat.le_trans (Chain.mono hc d i (by omega)) this
theorem Chain.le (hc : Chain P ops sg cur rgs vs) {i j : Nat} (h : i ≤ j) (hj : j ≤ ops.size) : (sg i).length ≤ (sg j).length := by
  obtain ⟨d, rfl⟩ := Nat.exists_eq_add_of_le h
  exact hc.mono d i hj
theorem Chain.scopes (hc : Chain P ops sg cur rgs vs) {i : Nat} {o : Oper} (ho : ops[i]? = some o) : inScope (sg (i + 1)).length (vs i) = true ∧ (sg (i + 1)).all (inScopeO (sg (i + 1)).length) = true := by
  have h := hc i o ho
  have hcnd := h.cnd
  have key : (inScope (sg (i + 1)).length (vs i) && (sg (i + 1)).all (inScopeO (sg (i + 1)).length)) = true := by
    refine clsConds_scope hcnd ?_
    cases hp : isPure o.op with
    | true => rw [cls_pure ho hp]; simp
    | false => rcases cls_np ho hp with e | ⟨_, ⟨e, _⟩ | e⟩ <;> rw [e] <;> simp
  simpa [Bool.and_eq_true] using key
theorem Chain.scopeAt (hc : Chain P ops sg cur rgs vs) (h0 : (sg 0).all (inScopeO (sg 0).length) = true) : ∀ i, i ≤ ops.size → (sg i).all (inScopeO (sg i).length) = true
  | 0, _ => h0
  | i + 1, h => (hc.scopes (Array.getElem?_eq_getElem (by omega))).2
theorem Chain.pre (hc : Chain P ops sg cur rgs vs) : ∀ (d i : Nat), i + d ≤ ops.size → (∀ b, i ≤ b → b < i + d → clsAt ops b ≠ .bar) → (sg (i + d)).take (sg i).length = sg i
  | 0, i, _, _ => by simp
  | d + 1, i, h, hb => by
    have hlt : i < ops.size := by omega
    have ho : ops[i]? = some ops[i] := Array.getElem?_eq_getElem hlt
    have ih := Chain.pre hc d (i + 1) (by omega) (fun b h1 h2 => hb b (by omega) (by omega))
    have e : i + 1 + d = i + (d + 1) := by omega
    rw [e] at ih
    have h1 := hc i _ ho
    have step : (sg (i + 1)).take (sg i).length = sg i := hc.take ho (hb i (Nat.le_refl _) (by omega))
    have hl := hc.len ho
    calc (sg (i + (d + 1))).take (sg i).length = ((sg (i + (d + 1))).take (sg (i + 1)).length).take (sg i).length := by rw [List.take_take]; congr 1; omega
      _ = sg i := by rw [ih, step]
theorem Chain.pre' (hc : Chain P ops sg cur rgs vs) {i q : Nat} (h : i ≤ q) (hq : q ≤ ops.size) (hb : ∀ b, i ≤ b → b < q → clsAt ops b ≠ .bar) : (sg q).take (sg i).length = sg i := by
  obtain ⟨d, rfl⟩ := Nat.exists_eq_add_of_le h
  exact hc.pre d i hq hb

theorem nextBar (ops : Array Oper) : ∀ (d i : Nat), i + d = ops.size → ∃ q, i ≤ q ∧ q ≤ ops.size ∧ (q < ops.size → clsAt ops q = .bar) ∧ ∀ b, i ≤ b → b < q → clsAt ops b ≠ .bar
  | 0, i, h => ⟨i, Nat.le_refl _, by omega, fun h => by omega, fun b h1 h2 => by omega⟩
  | d + 1, i, h => by
    by_cases hb : clsAt ops i = .bar
    · exact ⟨i, Nat.le_refl _, by omega, fun _ => hb, fun b h1 h2 => by omega⟩
    · obtain ⟨q, h1, h2, h3, h4⟩ := nextBar ops d (i + 1) (by omega)
      refine ⟨q, by omega, h2, h3, fun b hb1 hb2 => ?_⟩
      by_cases e : b = i
      · subst e; exact hb
      · exact h4 b (by omega) hb2

theorem cur_len (hc : Chain P ops sg cur rgs vs) : ∀ i, i ≤ ops.size → (cur i).length = (cur 0).length
  | 0, _ => rfl
  | i + 1, h => by
    have := (hc i _ (Array.getElem?_eq_getElem (by omega))).nxt
    rw [this, rput_length]
    exact cur_len hc i (by omega)

theorem cur_at (hc : Chain P ops sg cur rgs vs) (t : Tmp) (ht : t < (cur 0).length) : ∀ i, i ≤ ops.size →
    (∃ j o, j < i ∧ ops[j]? = some o ∧ o.dst = some t ∧ (cur i).getD t .any = vs j) ∨ ((cur i).getD t .any = (cur 0).getD t .any ∧ ∀ j o, j < i → ops[j]? = some o → o.dst ≠ some t)
  | 0, _ => .inr ⟨rfl, fun j o h => by omega⟩
  | i + 1, h => by
    have hlt : i < ops.size := by omega
    have ho : ops[i]? = some ops[i] := Array.getElem?_eq_getElem hlt
    have hn := (hc i _ ho).nxt
    dsimp only at hn
    have hl := cur_len hc i (by omega)
    by_cases hd : ops[i].dst = some t
    · refine .inl ⟨i, ops[i], Nat.lt_succ_self _, ho, hd, ?_⟩
      have hti : t < (cur i).length := by rw [hl]; exact ht
      rw [hn, hd, rput_getD, if_pos ⟨rfl, hti⟩]
    · have hsame : (cur (i + 1)).getD t .any = (cur i).getD t .any := by
        rw [hn]
        cases hdst : ops[i].dst with
        | none => rfl
        | some d => rw [rput_getD, if_neg]; rintro ⟨rfl, _⟩; exact hd hdst
      rw [hsame]
      rcases cur_at hc t ht i (by omega) with ⟨j, o, h1, h2, h3, h4⟩ | ⟨h1, h2⟩
      · exact .inl ⟨j, o, by omega, h2, h3, h4⟩
      · refine .inr ⟨h1, fun j o hj hjo => ?_⟩
        by_cases e : j = i
        · subst e; rw [ho] at hjo; cases hjo; exact hd
        · exact h2 j o (by omega) hjo

theorem okOrd_edges (h : okOrd ops = true) {j : Nat} {o : Oper} (ho : ops[j]? = some o) : ∀ e ∈ o.after, Region.binds .any e = true → e.on < j := by
  unfold okOrd at h
  simp only [Bool.and_eq_true] at h
  have := List.all_eq_true.1 h.2 j (List.mem_range.2 (Array.getElem?_eq_some_iff.1 ho).1)
  simp only [ho, Option.map_some, Option.getD_some, Bool.and_eq_true] at this
  intro e he hb
  have := List.all_eq_true.1 this.1 e (by simpa using he)
  simpa [hb] using this
theorem okOrd_pair (h : okOrd ops = true) {i j : Nat} {x y : Oper} (hij : i < j) (hx : ops[i]? = some x) (hy : ops[j]? = some y) :
    (((ancs ops.toList []).getD j 0).testBit i = true ∨ x.apart ops y = true) ∧ ∀ d, x.dst = some d → y.dst ≠ some d := by
  unfold okOrd at h
  simp only [Bool.and_eq_true] at h
  have := List.all_eq_true.1 h.2 j (List.mem_range.2 (Array.getElem?_eq_some_iff.1 hy).1)
  simp only [Bool.and_eq_true] at this
  have := List.all_eq_true.1 this.2 i (List.mem_range.2 hij)
  unfold okPair at this
  rw [hx, hy] at this
  simp only [Bool.and_eq_true, Bool.or_eq_true] at this
  refine ⟨this.1, fun d hd he => ?_⟩
  rcases this.2 with h | h
  · rw [hd] at h; cases h
  · rw [hd, he] at h; simp at h

end
end Go.Abs
