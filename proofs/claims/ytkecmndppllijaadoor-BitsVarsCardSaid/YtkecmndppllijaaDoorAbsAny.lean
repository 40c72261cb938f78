import Derived.Test.YtkecmndppllijaaDoorAbsOrder
set_option linter.unusedVariables false
set_option linter.unusedSectionVars false
set_option linter.unusedSimpArgs false
namespace Go.Abs
variable [Glob]

section
variable {F : Nat → Prop} {w : World} {ρ : RMap}

/-- How one thing, done at some places of a heap, stands in the whole. -/
theorem lift_mask {σ0 S S' σ2 σ2' : AState} {ρ0 ρs' : RMap} {F0 F' : Nat → Prop} {w0 w' : World} {k : Nat} {A : Nat → Prop}
    (r0 : Rel ρ0 F0 σ0 w0) (T0 : Tr σ0 S ρ0 ρ F0 F w0 w) (r : Rel ρ F S w) (h0 : σ0.length ≤ k) (hk : k ≤ S.length) (h2 : σ2.length = k) (hkl : k ≤ σ2'.length) (hl : σ2'.length ≤ S.length) (hS : S'.length = S.length)
    (hm : ∀ id, id < k → (A id ∧ obj σ2 id = obj S id) ∨ (¬ A id ∧ obj σ2 id = .dead))
    (hA : ∀ id, A id → id < σ2'.length ∧ obj S' id = obj σ2' id) (hAk : ∀ id, k ≤ id → id < σ2'.length → A id) (hB : ∀ id, ¬ A id → obj S' id = obj S id)
    (t : Tr σ2 σ2' (cut k ρ) ρs' F F' w w') (r' : Rel ρs' F' σ2' w') (hgap : ∀ id, k ≤ id → id < σ2'.length → ρ id = none) :
    Rel (fun id => if k ≤ id ∧ id < σ2'.length then ρs' id else ρ id) F' S' w' ∧ Tr σ0 S' ρ0 (fun id => if k ≤ id ∧ id < σ2'.length then ρs' id else ρ id) F0 F' w0 w' ∧
      (∀ id b, ρ id = some b → (fun id => if k ≤ id ∧ id < σ2'.length then ρs' id else ρ id) id = some b) ∧ (∀ id b, ρs' id = some b → (fun id => if k ≤ id ∧ id < σ2'.length then ρs' id else ρ id) id = some b) ∧
      ∀ (v : AVal) (c : Value), VRel F w ρ v c → VRel F' w' (fun id => if k ≤ id ∧ id < σ2'.length then ρs' id else ρ id) v c := by
  classical
  have hliv : ∀ b, Live (cut k ρ) σ2 b → ∃ id o, id < k ∧ A id ∧ S[id]? = some o ∧ o.live = true ∧ ρ id = some b := fun b ⟨id, o, h1, h2, h3⟩ => by
    obtain ⟨h4, h5⟩ := cut_some h3
    rcases hm id h4 with ⟨a1, a2⟩ | ⟨a1, a2⟩
    · exact ⟨id, o, h4, a1, by rw [obj_get (by omega), ← a2, obj_of h1], h2, h5⟩
    · rw [obj_of h1] at a2; subst a2; cases h2
  have hlive : ∀ b, Live (cut k ρ) σ2 b → Live ρ S b := fun b h => let ⟨id, o, _, _, h1, h2, h3⟩ := hliv b h; ⟨id, o, h1, h2, h3⟩
  have hup : ∀ id b, ρs' id = some b → id < σ2'.length := fun id b h => by
    rcases Nat.lt_or_ge id σ2'.length with h' | h'
    · exact h'
    · rw [r'.dom _ h'] at h; cases h
  have hback : ∀ id b, id < k → ρs' id = some b → ρ id = some b := fun id b hid h => by
    rcases t.newρ id b h with h1 | ⟨h1, _⟩
    · exact (cut_some h1).2
    · omega
  have hmap : ∀ id b, ρ id = some b → (fun id => if k ≤ id ∧ id < σ2'.length then ρs' id else ρ id) id = some b := by
    intro id b h
    try dsimp only
    split
    · rename_i hlt; rw [hgap id hlt.1 hlt.2] at h; cases h
    · exact h
  have hmap' : ∀ id b, ρs' id = some b → (fun id => if k ≤ id ∧ id < σ2'.length then ρs' id else ρ id) id = some b := by
    intro id b h
    have := hup id b h
    try dsimp only
    split
    · exact h
    · exact hback id b (by omega) h
  -- whichever place
  have hAs : ∀ id b, A id → (fun id => if k ≤ id ∧ id < σ2'.length then ρs' id else ρ id) id = some b → ρs' id = some b := by
    intro id b ha h
    try dsimp only at h
    split at h
    · exact h
    · have := (hA id ha).1
      exact t.map id b (cut_of (by omega) h)
  have hBs : ∀ id b, ¬ A id → (fun id => if k ≤ id ∧ id < σ2'.length then ρs' id else ρ id) id = some b → ρ id = some b := by
    intro id b ha h
    try dsimp only at h
    split at h
    · rename_i hc; exact absurd (hAk id hc.1 hc.2) ha
    · exact h
  have hFr : ∀ x, F x → F' x ∧ w'.heap[x]? = w.heap[x]? := fun x hx => ⟨t.frz x hx, t.keep x (r.fr x hx).1 (fun hl => (r.fr x hx).2 (hlive x hl))⟩
  have objA : ∀ id o, A id → S'[id]? = some o → σ2'[id]? = some o := fun id o ha h => by
    obtain ⟨h1, h2⟩ := hA id ha
    rw [obj_get h1, ← h2, obj_of h]
  have objB : ∀ id o, ¬ A id → S'[id]? = some o → S[id]? = some o := fun id o ha h => by
    have hlt := (List.getElem?_eq_some_iff.1 h).1
    rw [obj_get (by omega), ← hB id ha, obj_of h]
  refine ⟨⟨?_, ?_, ?_, ?_, ?_⟩, ⟨?_, ?_, t.os.trans T0.os, t.tape.trans T0.tape, t.output.trans T0.output, Nat.le_trans T0.size t.size, ?_, ?_, ?_, ?_, ?_, ?_⟩, hmap, hmap',
    fun v c h => h.mono hFr t.row hmap⟩
  · intro id o b h1 h2
    by_cases ha : A id
    · exact (r'.obj id o b (objA id o ha h1) (hAs id b ha h2)).weak hmap'
    · have h3 := objB id o ha h1
      have h4 := hBs id b ha h2
      cases hol : o.live with
      | false => cases o <;> simp [AObj.live] at hol; trivial
      | true =>
        have hnl : ¬ Live (cut k ρ) σ2 b := fun hl => by
          obtain ⟨id', o', h5, h6, h7, h8, h9⟩ := hliv b hl
          have := r.inj id id' o o' b h3 h7 hol h8 h4 h9
          subst this
          exact ha h6
        exact (r.obj id o b h3 h4).move (t.keep b (r.lt _ _ h4) hnl) hFr t.row hmap
  · intro id id' o o' b h1 h2 h3 h4 h5 h6
    have mixed : ∀ id id' o o', S'[id]? = some o → S'[id']? = some o' → o.live = true → o'.live = true → A id → ¬ A id' → ρs' id = some b → ρ id' = some b → False := by
      intro id id' o o' h1 h2 h3 h4 ha hna h5 h6
      have g1 := objA id o ha h1
      have g2 := objB id' o' hna h2
      rcases t.newρ id b h5 with h7 | ⟨h7, h8⟩
      · obtain ⟨h8, h9⟩ := cut_some h7
        obtain ⟨o2, h10, h11⟩ := t.live id o g1 h3 (by omega)
        rcases hm id h8 with ⟨_, a2⟩ | ⟨a1, _⟩
        · have e : S[id]? = some o2 := by rw [obj_get (by omega), ← a2, obj_of h10]
          have := r.inj id id' o2 o' b e g2 h11 h4 h9 h6
          subst this
          exact hna ha
        · exact a1 ha
      · rcases h8 with h8 | h8
        · exact absurd (r.lt _ _ h6) (Nat.not_lt.2 h8)
        · obtain ⟨id2, o2, h9, h10, h11, h12, h13⟩ := hliv b h8
          have := r.inj id2 id' o2 o' b h11 g2 h12 h4 h13 h6
          subst this
          exact hna h10
    by_cases ha : A id
    · have e1 := hAs id b ha h5
      by_cases ha' : A id'
      · exact r'.inj id id' o o' b (objA id o ha h1) (objA id' o' ha' h2) h3 h4 e1 (hAs id' b ha' h6)
      · exact (mixed id id' o o' h1 h2 h3 h4 ha ha' e1 (hBs id' b ha' h6)).elim
    · have e1 := hBs id b ha h5
      by_cases ha' : A id'
      · exact (mixed id' id o' o h2 h1 h4 h3 ha' ha (hAs id' b ha' h6) e1).elim
      · exact r.inj id id' o o' b (objB id o ha h1) (objB id' o' ha' h2) h3 h4 e1 (hBs id' b ha' h6)
  · intro b hb
    refine ⟨(r'.fr b hb).1, fun ⟨id, o, h1, h2, h3⟩ => ?_⟩
    by_cases ha : A id
    · exact (r'.fr b hb).2 ⟨id, o, objA id o ha h1, h2, hAs id b ha h3⟩
    · have g1 := objB id o ha h1
      have g2 := hBs id b ha h3
      rcases t.newF b hb with h4 | h4 | h4
      · exact (r.fr b h4).2 ⟨id, o, g1, h2, g2⟩
      · exact absurd (r.lt _ _ g2) (Nat.not_lt.2 h4)
      · obtain ⟨id2, o2, h9, h10, h11, h12, h13⟩ := hliv b h4
        have := r.inj id2 id o2 o b h11 g1 h12 h2 h13 g2
        subst this
        exact ha h10
  · intro id b h
    try dsimp only at h
    split at h
    · exact r'.lt id b h
    · exact Nat.lt_of_lt_of_le (r.lt id b h) t.size
  · intro id h
    try dsimp only
    rw [hS] at h
    rw [if_neg (by omega)]
    exact r.dom id h
  · intro id b h; exact hmap id b (T0.map id b h)
  · intro b h; exact t.frz b (T0.frz b h)
  · intro b cs T fr h
    obtain ⟨cs1, fr1, h1, h2⟩ := T0.row b cs T fr h
    obtain ⟨cs2, fr2, h3, h4⟩ := t.row b cs1 T fr1 h1
    exact ⟨cs2, fr2, h3, h4.trans h2⟩
  · intro b h1 h2
    rw [t.keep b (Nat.lt_of_lt_of_le h1 T0.size) (fun hl => (T0.live' r0 (hlive b hl)).elim h2 (fun h => absurd h1 (Nat.not_lt.2 h))), T0.keep b h1 h2]
  · intro b h
    rcases t.newF b h with h | h | h
    · exact T0.newF b h
    · exact .inr (.inl (Nat.le_trans T0.size h))
    · exact (T0.live' r0 (hlive b h)).elim (fun h => .inr (.inr h)) (fun h => .inr (.inl h))
  · intro id b h
    try dsimp only at h
    split at h
    · rename_i hc
      rcases t.newρ id b h with h1 | ⟨h1, h2⟩
      · have := (cut_some h1).1; omega
      · refine .inr ⟨by omega, ?_⟩
        rcases h2 with h2 | h2
        · exact .inl (Nat.le_trans T0.size h2)
        · exact (T0.live' r0 (hlive b h2)).elim .inr .inl
    · exact T0.newρ id b h
  · rw [hS]; exact T0.len
  · intro id o' h1 h2 h3
    by_cases ha : A id
    · have g1 := objA id o' ha h1
      by_cases hidk : id < k
      · obtain ⟨o, h4, h5⟩ := t.live id o' g1 h2 (by omega)
        rcases hm id hidk with ⟨_, a2⟩ | ⟨a1, _⟩
        · exact T0.live id o (by rw [obj_get (by omega), ← a2, obj_of h4]) h5 h3
        · exact absurd ha a1
      · omega
    · exact T0.live id o' (objB id o' ha h1) h2 h3

end

section
variable {P : Program} {ops : Array Oper} {sg : Nat → AState} {cur rgs : Nat → Regs} {vs : Nat → AVal} {Ts Ws : Nat → List Nat}

/-- what is known of the operations of a region -/
structure FreeOp (P : Program) (ops : Array Oper) (sg : Nat → AState) (cur rgs : Nat → Regs) (vs : Nat → AVal) (Ts Ws : Nat → List Nat) (i : Nat) (o : Oper) : Prop where
  ch : ChainAt P ops o (cur i) (rgs i) (cur (i + 1)) (sg i) (sg (i + 1)) (vs i)
  loc : LocS P ops o (rgs i) (Ts i) (Ws i) (sg i) (vs i) (sg (i + 1))
  scope : okScope (sg (i + 1)) (vs i) = true
  len : (sg i).length ≤ (sg (i + 1)).length
  pairs : ∀ k, k < i → ((ancs ops.toList []).getD i 0).testBit k = false → (∀ id ∈ Ws k, id ∈ Ts i → obj (sg (k + 1)) id = obj (sg k) id) ∧ (∀ id ∈ Ws i, id ∈ Ts k → obj (sg (i + 1)) id = obj (sg i) id) ∧
    ∀ id ∈ Ts i, id < (sg k).length ∨ (sg (k + 1)).length ≤ id

abbrev Chain (P : Program) (ops : Array Oper) (sg : Nat → AState) (cur rgs : Nat → Regs) (vs : Nat → AVal) (Ts Ws : Nat → List Nat) : Prop :=
  ∀ i o, ops[i]? = some o → FreeOp P ops sg cur rgs vs Ts Ws i o

theorem Chain.mono (hc : Chain P ops sg cur rgs vs Ts Ws) : ∀ (d i : Nat), i + d ≤ ops.size → (sg i).length ≤ (sg (i + d)).length
  | 0, i, _ => Nat.le_refl _
  | d + 1, i, h => by
    have := (hc (i + d) _ (Array.getElem?_eq_getElem (by omega))).len
    exact Nat.le_trans (Chain.mono hc d i (by omega)) this
theorem Chain.le (hc : Chain P ops sg cur rgs vs Ts Ws) {i j : Nat} (h : i ≤ j) (hj : j ≤ ops.size) : (sg i).length ≤ (sg j).length := by
  obtain ⟨d, rfl⟩ := Nat.exists_eq_add_of_le h
  exact hc.mono d i hj
theorem Chain.scopes (hc : Chain P ops sg cur rgs vs Ts Ws) {i : Nat} {o : Oper} (ho : ops[i]? = some o) : inScope (sg (i + 1)).length (vs i) = true ∧ (sg (i + 1)).all (inScopeO (sg (i + 1)).length) = true := by
  have := (hc i o ho).scope
  unfold okScope at this
  simpa [Bool.and_eq_true] using this
theorem Chain.scopeAt (hc : Chain P ops sg cur rgs vs Ts Ws) (h0 : (sg 0).all (inScopeO (sg 0).length) = true) : ∀ i, i ≤ ops.size → (sg i).all (inScopeO (sg i).length) = true
  | 0, _ => h0
  | i + 1, h => (hc.scopes (Array.getElem?_eq_getElem (by omega))).2

/-- what is changed -/
def Chg (sg : Nat → AState) (i id : Nat) : Prop := obj (sg (i + 1)) id ≠ obj (sg i) id ∨ ((sg i).length ≤ id ∧ id < (sg (i + 1)).length)
theorem lev_eq {id : Nat} : ∀ (d a : Nat), (∀ j, a ≤ j → j < a + d → ¬ Chg sg j id) → obj (sg a) id = obj (sg (a + d)) id
  | 0, a, _ => rfl
  | d + 1, a, h => by
    have h1 := lev_eq d a fun j h1 h2 => h j h1 (by omega)
    have h2 := h (a + d) (by omega) (by omega)
    unfold Chg at h2
    simp only [not_or, ne_eq, Classical.not_not] at h2
    rw [h1]; exact h2.1.symm
theorem lev_eq' {id a b : Nat} (hab : a ≤ b) (h : ∀ j, a ≤ j → j < b → ¬ Chg sg j id) : obj (sg a) id = obj (sg b) id := by
  obtain ⟨d, rfl⟩ := Nat.exists_eq_add_of_le hab
  exact lev_eq d a h
/-- what is changed below is looked at -/
theorem Chain.chg (hc : Chain P ops sg cur rgs vs Ts Ws) {i id : Nat} {o : Oper} (ho : ops[i]? = some o) (h : Chg sg i id) : (id < (sg i).length ∧ id ∈ Ws i ∧ id ∈ Ts i) ∨ ((sg i).length ≤ id ∧ id < (sg (i + 1)).length) := by
  have hf := hc i o ho
  rcases Nat.lt_or_ge id (sg i).length with hl | hl
  · refine .inl ?_
    have hw : id ∈ Ws i := by
      refine Classical.byContradiction fun hn => ?_
      obtain ⟨σ2', _, m⟩ := hf.loc.2 (sg i) ⟨rfl, fun _ _ => rfl⟩
      rcases h with h | h
      · exact h (m.rest id hl hn).2
      · omega
    exact ⟨hl, hw, hf.loc.1 id hw⟩
  · refine .inr ⟨hl, ?_⟩
    rcases h with h | h
    · refine Classical.byContradiction fun hn => h ?_
      rw [obj_none hl, obj_none (Nat.not_lt.1 hn)]
    · exact h.2

theorem cur_len (hc : Chain P ops sg cur rgs vs Ts Ws) : ∀ i, i ≤ ops.size → (cur i).length = (cur 0).length
  | 0, _ => rfl
  | i + 1, h => by
    have := (hc i _ (Array.getElem?_eq_getElem (by omega))).ch.nxt
    rw [this, rput_length]
    exact cur_len hc i (by omega)

theorem cur_at (hc : Chain P ops sg cur rgs vs Ts Ws) (t : Tmp) (ht : t < (cur 0).length) : ∀ i, i ≤ ops.size →
    (∃ j o, j < i ∧ ops[j]? = some o ∧ o.dst = some t ∧ (cur i).getD t .any = vs j) ∨ ((cur i).getD t .any = (cur 0).getD t .any ∧ ∀ j o, j < i → ops[j]? = some o → o.dst ≠ some t)
  | 0, _ => .inr ⟨rfl, fun j o h => by omega⟩
  | i + 1, h => by
    have hlt : i < ops.size := by omega
    have ho : ops[i]? = some ops[i] := Array.getElem?_eq_getElem hlt
    have hn := (hc i _ ho).ch.nxt
    have hl := cur_len hc i (by omega)
    by_cases hd : ops[i].dst = some t
    · refine .inl ⟨i, ops[i], Nat.lt_succ_self _, ho, hd, ?_⟩
      have hti : t < (cur i).length := by rw [hl]; exact ht
      rw [hn, hd, rput_getD, if_pos ⟨rfl, hti⟩]
    · have hsame : (cur (i + 1)).getD t .any = (cur i).getD t .any := by
        rw [hn]
        cases hdst : ops[i].dst with
        | none => rfl
        | some d => rw [rput_getD, if_neg]; rintro ⟨rfl, _⟩; exact hd hdst
      rw [hsame]
      rcases cur_at hc t ht i (by omega) with ⟨j, o, h1, h2, h3, h4⟩ | ⟨h1, h2⟩
      · exact .inl ⟨j, o, by omega, h2, h3, h4⟩
      · refine .inr ⟨h1, fun j o hj hjo => ?_⟩
        by_cases e : j = i
        · subst e; rw [ho] at hjo; cases hjo; exact hd
        · exact h2 j o (by omega) hjo

theorem okOrd_edges (h : okOrd ops = true) {j : Nat} {o : Oper} (ho : ops[j]? = some o) : ∀ e ∈ o.after, Region.binds .any e = true → e.on < j := by
  unfold okOrd at h
  simp only [Bool.and_eq_true] at h
  have := List.all_eq_true.1 h.2 j (List.mem_range.2 (Array.getElem?_eq_some_iff.1 ho).1)
  simp only [ho, Option.map_some, Option.getD_some, Bool.and_eq_true] at this
  intro e he hb
  have := List.all_eq_true.1 this.1 e (by simpa using he)
  simpa [hb] using this
theorem okOrd_pair (h : okOrd ops = true) {i j : Nat} {x y : Oper} (hij : i < j) (hx : ops[i]? = some x) (hy : ops[j]? = some y) :
    (((ancs ops.toList []).getD j 0).testBit i = true ∨ x.apart ops y = true) ∧ ∀ d, x.dst = some d → y.dst ≠ some d := by
  unfold okOrd at h
  simp only [Bool.and_eq_true] at h
  have := List.all_eq_true.1 h.2 j (List.mem_range.2 (Array.getElem?_eq_some_iff.1 hy).1)
  simp only [Bool.and_eq_true] at this
  have := List.all_eq_true.1 this.2 i (List.mem_range.2 hij)
  unfold okPair at this
  rw [hx, hy] at this
  simp only [Bool.and_eq_true, Bool.or_eq_true] at this
  refine ⟨this.1, fun d hd he => ?_⟩
  rcases this.2 with h | h
  · rw [hd] at h; cases h
  · rw [hd, he] at h; simp at h

end
end Go.Abs
