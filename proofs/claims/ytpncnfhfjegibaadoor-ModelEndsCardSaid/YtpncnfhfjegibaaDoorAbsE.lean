import Derived.Test.YtpncnfhfjegibaaDoorAbsD
section
set_option linter.unusedVariables false
set_option linter.unusedSectionVars false
set_option linter.unusedSimpArgs false
namespace Go.Abs
variable [Glob]

section
variable {F : FS} {w : World} {ρ : RMap}

theorem lift_mask {σ0 S S' σ2 σ2' : AState} {ρ0 ρs' : RMap} {F0 F' : FS} {w0 w' : World} {k : Nat} {A : Nat → Prop}
    (r0 : Rel ρ0 F0 σ0 w0) (T0 : Tr σ0 S ρ0 ρ F0 F w0 w) (r : Rel ρ F S w) (h0 : σ0.length ≤ k) (hk : k ≤ S.length) (h2 : σ2.length = k) (hkl : k ≤ σ2'.length) (hl : σ2'.length ≤ S.length) (hS : S'.length = S.length)
    (hm : ∀ id, id < k → (A id ∧ obj σ2 id = obj S id) ∨ (¬ A id ∧ obj σ2 id = .dead))
    (hA : ∀ id, A id → id < σ2'.length ∧ obj S' id = obj σ2' id) (hAk : ∀ id, k ≤ id → id < σ2'.length → A id) (hB : ∀ id, ¬ A id → obj S' id = obj S id)
    (t : Tr σ2 σ2' (cut k ρ) ρs' F F' w w') (r' : Rel ρs' F' σ2' w') (hgap : ∀ id, k ≤ id → id < σ2'.length → ρ id = none) :
    Rel (fun id => if k ≤ id ∧ id < σ2'.length then ρs' id else ρ id) F' S' w' ∧ Tr σ0 S' ρ0 (fun id => if k ≤ id ∧ id < σ2'.length then ρs' id else ρ id) F0 F' w0 w' ∧
      (∀ id b, ρ id = some b → (fun id => if k ≤ id ∧ id < σ2'.length then ρs' id else ρ id) id = some b) ∧ (∀ id b, ρs' id = some b → (fun id => if k ≤ id ∧ id < σ2'.length then ρs' id else ρ id) id = some b) ∧
      ∀ (v : AVal) (c : Value), VRel F w ρ v c → VRel F' w' (fun id => if k ≤ id ∧ id < σ2'.length then ρs' id else ρ id) v c := by
  classical
  have hliv : ∀ b, Live F (cut k ρ) σ2 b → ∃ id o, id < k ∧ A id ∧ S[id]? = some o ∧ o.live = true ∧ Own F ρ id o b := fun b ⟨id, o, h1, h2, h3⟩ => by
    have h4 : id < k := by
      rcases h3 with h3 | ⟨_, y, h3, _⟩ <;> exact (cut_some h3).1
    rcases hm id h4 with ⟨a1, a2⟩ | ⟨a1, a2⟩
    · exact ⟨id, o, h4, a1, by rw [obj_get (by omega), ← a2, obj_of h1], h2, h3.to fun y hy => (cut_some hy).2⟩
    · rw [obj_of h1] at a2; subst a2; cases h2
  have hlive : ∀ b, Live F (cut k ρ) σ2 b → Live F ρ S b := fun b h => let ⟨id, o, _, _, h1, h2, h3⟩ := hliv b h; ⟨id, o, h1, h2, h3⟩
  have hdom : ∀ id, σ2.length ≤ id → cut k ρ id = none := fun id h => by unfold cut; rw [if_neg (by omega)]
  have hL' : ∀ b, Live F' ρs' σ2' b → (∃ id o, id < k ∧ A id ∧ S[id]? = some o ∧ o.live = true ∧ Own F ρ id o b) ∨ w.heap.size ≤ b := fun b hb => (t.liveD hdom hb).imp_left (hliv b)
  have hnl : ∀ id o x, ¬ A id → S[id]? = some o → o.live = true → Own F ρ id o x → ¬ Live F (cut k ρ) σ2 x := fun id o x h1 h2 h3 h4 hl => by
    obtain ⟨id', o', g1, ga, g2, g3, g4⟩ := hliv x hl
    have := r.injO id id' o o' x h2 g2 h3 g3 h4 g4
    subst this
    exact h1 ga
  have hup : ∀ id b, ρs' id = some b → id < σ2'.length := fun id b h => by
    rcases Nat.lt_or_ge id σ2'.length with h' | h'
    · exact h'
    · rw [r'.dom _ h'] at h; cases h
  have hback : ∀ id b, id < k → ρs' id = some b → ρ id = some b := fun id b hid h => by
    rcases t.newρ id b h with h1 | ⟨h1, _⟩
    · exact (cut_some h1).2
    · omega
  have hmap : ∀ id b, ρ id = some b → (fun id => if k ≤ id ∧ id < σ2'.length then ρs' id else ρ id) id = some b := by
    intro id b h
    try dsimp only
    split
    · rename_i hlt; rw [hgap id hlt.1 hlt.2] at h; cases h
    · exact h
  have hmap' : ∀ id b, ρs' id = some b → (fun id => if k ≤ id ∧ id < σ2'.length then ρs' id else ρ id) id = some b := by
    intro id b h
    have := hup id b h
    try dsimp only
    split
    · exact h
    · exact hback id b (by omega) h
  -- whichever place
  have hAs : ∀ id b, A id → (fun id => if k ≤ id ∧ id < σ2'.length then ρs' id else ρ id) id = some b → ρs' id = some b := by
    intro id b ha h
    try dsimp only at h
    split at h
    · exact h
    · have := (hA id ha).1
      exact t.map id b (cut_of (by omega) h)
  have hBs : ∀ id b, ¬ A id → (fun id => if k ≤ id ∧ id < σ2'.length then ρs' id else ρ id) id = some b → ρ id = some b := by
    intro id b ha h
    try dsimp only at h
    split at h
    · rename_i hc; exact absurd (hAk id hc.1 hc.2) ha
    · exact h
  have hFr : ∀ x, F x → F' x ∧ w'.heap[x]? = w.heap[x]? := fun x hx => ⟨t.frz x hx, t.keep x (r.fr x hx).1 (fun hl => (r.fr x hx).2 (hlive x hl))⟩
  have objA : ∀ id o, A id → S'[id]? = some o → σ2'[id]? = some o := fun id o ha h => by
    obtain ⟨h1, h2⟩ := hA id ha
    rw [obj_get h1, ← h2, obj_of h]
  have objB : ∀ id o, ¬ A id → S'[id]? = some o → S[id]? = some o := fun id o ha h => by
    have hlt := (List.getElem?_eq_some_iff.1 h).1
    rw [obj_get (by omega), ← hB id ha, obj_of h]
  have hO2 : ∀ id o x, S'[id]? = some o → o.live = true → Own F' (fun id => if k ≤ id ∧ id < σ2'.length then ρs' id else ρ id) id o x → (A id ∧ σ2'[id]? = some o ∧ Own F' ρs' id o x) ∨ (¬ A id ∧ S[id]? = some o ∧ Own F ρ id o x) := fun id o x h1 h2 h3 => by
    by_cases ha : A id
    · exact .inl ⟨ha, objA id o ha h1, h3.to fun y hy => hAs id y ha hy⟩
    · have g1 := objB id o ha h1
      refine .inr ⟨ha, g1, ?_⟩
      exact h3.to (fun y hy => hBs id y ha hy) fun hg y hy hx => (t.gho.keepO y (r.lt _ _ (hBs id y ha hy)) (hnl id o y ha g1 h2 (.inl (hBs id y ha hy))) x).1 hx
  have hmix : ∀ id o x, σ2'[id]? = some o → o.live = true → Own F' ρs' id o x → ∀ id' o', ¬ A id' → S[id']? = some o' → o'.live = true → Own F ρ id' o' x → False := fun id o x h2 h3 h4 id' o' g1 g2 g3 g4 => by
    rcases hL' x ⟨id, o, h2, h3, h4⟩ with ⟨i2, o2, k1, ka, k2, k3, k4⟩ | h
    · have := r.injO i2 id' o2 o' x k2 g2 k3 g3 k4 g4
      subst this
      exact g1 ka
    · exact absurd (r.ownB g2 g4) (Nat.not_lt.2 h)
  refine ⟨⟨?_, ?_, ?_, ?_, ?_⟩, ⟨?_, ?_, t.os.trans T0.os, t.tape.trans T0.tape, t.output.trans T0.output, Nat.le_trans T0.size t.size, ?_, ?_, ?_, ?_, ?_, ?_, ?_, ?_⟩, hmap, hmap',
    fun v c h => h.mono hFr t.row hmap⟩
  · intro id o b h1 h2
    by_cases ha : A id
    · exact (r'.obj id o b (objA id o ha h1) (hAs id b ha h2)).weak hmap'
    · have h3 := objB id o ha h1
      have h4 := hBs id b ha h2
      cases hol : o.live with
      | false => cases o <;> simp [AObj.live] at hol; trivial
      | true =>
        have hn := hnl id o b ha h3 hol (.inl h4)
        exact (r.obj id o b h3 h4).move (t.keep b (r.lt _ _ h4) hn) hFr t.row hmap fun hg => ⟨t.gho.keepO b (r.lt _ _ h4) hn, fun x hx => t.keep x (r.ownLt h3 hg h4 x hx) (hnl id o x ha h3 hol (.inr ⟨hg, b, h4, hx⟩)), t.size⟩
  · intro id id' o o' b h1 h2 h3 h4 h5 h6
    rcases hO2 id o b h1 h3 h5 with ⟨g1, g2, g3⟩ | ⟨g1, g2, g3⟩ <;> rcases hO2 id' o' b h2 h4 h6 with ⟨k1, k2, k3⟩ | ⟨k1, k2, k3⟩
    · exact r'.injO id id' o o' b g2 k2 h3 h4 g3 k3
    · exact (hmix id o b g2 h3 g3 id' o' k1 k2 h4 k3).elim
    · exact (hmix id' o' b k2 h4 k3 id o g1 g2 h3 g3).elim
    · exact r.injO id id' o o' b g2 k2 h3 h4 g3 k3
  · intro b hb
    refine ⟨(r'.fr b hb).1, fun ⟨id, o, h1, h2, h3⟩ => ?_⟩
    rcases hO2 id o b h1 h2 h3 with ⟨g1, g2, g3⟩ | ⟨g1, g2, g3⟩
    · exact (r'.fr b hb).2 ⟨id, o, g2, h2, g3⟩
    · rcases t.newF b hb with h4 | h4 | h4
      · exact (r.fr b h4).2 ⟨id, o, g2, h2, g3⟩
      · exact absurd (r.ownB g2 g3) (Nat.not_lt.2 h4)
      · exact hnl id o b g1 g2 h2 g3 h4
  · intro id b h
    try dsimp only at h
    split at h
    · exact r'.lt id b h
    · exact Nat.lt_of_lt_of_le (r.lt id b h) t.size
  · intro id h
    try dsimp only
    rw [hS] at h
    rw [if_neg (by omega)]
    exact r.dom id h
  · intro id b h; exact hmap id b (T0.map id b h)
  · intro b h; exact t.frz b (T0.frz b h)
  · intro b cs T fr h
    obtain ⟨cs1, fr1, h1, h2⟩ := T0.row b cs T fr h
    obtain ⟨cs2, fr2, h3, h4⟩ := t.row b cs1 T fr1 h1
    exact ⟨cs2, fr2, h3, h4.trans h2⟩
  · intro b h1 h2
    rw [t.keep b (Nat.lt_of_lt_of_le h1 T0.size) (fun hl => (T0.live' r0 (hlive b hl)).elim h2 (fun h => absurd h1 (Nat.not_lt.2 h))), T0.keep b h1 h2]
  · intro b h
    rcases t.newF b h with h | h | h
    · exact T0.newF b h
    · exact .inr (.inl (Nat.le_trans T0.size h))
    · exact (T0.live' r0 (hlive b h)).elim (fun h => .inr (.inr h)) (fun h => .inr (.inl h))
  · intro id b h
    try dsimp only at h
    split at h
    · rename_i hc
      rcases t.newρ id b h with h1 | ⟨h1, h2⟩
      · have := (cut_some h1).1; omega
      · refine .inr ⟨by omega, ?_⟩
        rcases h2 with h2 | h2
        · exact .inl (Nat.le_trans T0.size h2)
        · exact (T0.live' r0 (hlive b h2)).elim .inr .inl
    · exact T0.newρ id b h
  · rw [hS]; exact T0.len
  · intro id o' h1 h2 h3
    by_cases ha : A id
    · have g1 := objA id o' ha h1
      by_cases hidk : id < k
      · obtain ⟨o, h4, h5⟩ := t.live id o' g1 h2 (by omega)
        rcases hm id hidk with ⟨_, a2⟩ | ⟨a1, _⟩
        · exact T0.live id o (by rw [obj_get (by omega), ← a2, obj_of h4]) h5 h3
        · exact absurd ha a1
      · omega
    · exact T0.live id o' (objB id o' ha h1) h2 h3
  · intro b h1 h2 x
    rw [t.gho.keepO b (Nat.lt_of_lt_of_le h1 T0.size) (fun hl => (T0.live' r0 (hlive b hl)).elim h2 (fun h => absurd h1 (Nat.not_lt.2 h))) x, T0.gho.keepO b h1 h2 x]
  · intro id o' b x h1 h2 h3 h4
    have hlv : Live F ρ S x ∨ w.heap.size ≤ x := by
      rcases hO2 id o' x h1 (AObj.isGh_live h2) (.inr ⟨h2, b, h3, h4⟩) with ⟨g1, g2, g3⟩ | ⟨g1, g2, g3⟩
      · rcases hL' x ⟨id, o', g2, AObj.isGh_live h2, g3⟩ with ⟨i2, o2, _, _, k2, k3, k4⟩ | h
        · exact .inl ⟨i2, o2, k2, k3, k4⟩
        · exact .inr h
      · exact .inl ⟨id, o', g2, AObj.isGh_live h2, g3⟩
    rcases hlv with h | h
    · exact T0.live' r0 h
    · exact .inr (Nat.le_trans T0.size h)

end

section
variable {P : Program} {ops : Array Oper} {sg : Nat → AState} {cur rgs : Nat → Regs} {vs : Nat → AVal} {Ts Ws : Nat → List Nat}

structure FreeOp (P : Program) (ops : Array Oper) (sg : Nat → AState) (cur rgs : Nat → Regs) (vs : Nat → AVal) (Ts Ws : Nat → List Nat) (i : Nat) (o : Oper) : Prop where
  ch : ChainAt P ops o (cur i) (rgs i) (cur (i + 1)) (sg i) (sg (i + 1)) (vs i)
  loc : LocS P ops o (rgs i) (Ts i) (Ws i) (sg i) (vs i) (sg (i + 1))
  scope : okScope (sg (i + 1)) (vs i) = true
  len : (sg i).length ≤ (sg (i + 1)).length
  pairs : ∀ k, k < i → ((ancs ops.toList []).getD i 0).testBit k = false → (∀ id ∈ Ws k, id ∈ Ts i → obj (sg (k + 1)) id = obj (sg k) id) ∧ (∀ id ∈ Ws i, id ∈ Ts k → obj (sg (i + 1)) id = obj (sg i) id) ∧
    ∀ id ∈ Ts i, id < (sg k).length ∨ (sg (k + 1)).length ≤ id

abbrev Chain (P : Program) (ops : Array Oper) (sg : Nat → AState) (cur rgs : Nat → Regs) (vs : Nat → AVal) (Ts Ws : Nat → List Nat) : Prop :=
  ∀ i o, ops[i]? = some o → FreeOp P ops sg cur rgs vs Ts Ws i o

theorem Chain.mono (hc : Chain P ops sg cur rgs vs Ts Ws) : ∀ (d i : Nat), i + d ≤ ops.size → (sg i).length ≤ (sg (i + d)).length
  | 0, i, _ => Nat.le_refl _
  | d + 1, i, h => by
    have := (hc (i + d) _ (Array.getElem?_eq_getElem (by omega))).len
    exact Nat.le_trans (Chain.mono hc d i (by omega)) this
theorem Chain.le (hc : Chain P ops sg cur rgs vs Ts Ws) {i j : Nat} (h : i ≤ j) (hj : j ≤ ops.size) : (sg i).length ≤ (sg j).length := by
  obtain ⟨d, rfl⟩ := Nat.exists_eq_add_of_le h
  exact hc.mono d i hj
theorem Chain.scopes (hc : Chain P ops sg cur rgs vs Ts Ws) {i : Nat} {o : Oper} (ho : ops[i]? = some o) : inScope (sg (i + 1)).length (vs i) = true ∧ (sg (i + 1)).all (inScopeO (sg (i + 1)).length) = true := by
  have := (hc i o ho).scope
  unfold okScope at this
  simpa [Bool.and_eq_true] using this
theorem Chain.scopeAt (hc : Chain P ops sg cur rgs vs Ts Ws) (h0 : (sg 0).all (inScopeO (sg 0).length) = true) : ∀ i, i ≤ ops.size → (sg i).all (inScopeO (sg i).length) = true
  | 0, _ => h0
  | i + 1, h => (hc.scopes (Array.getElem?_eq_getElem (by omega))).2

def Chg (sg : Nat → AState) (i id : Nat) : Prop := obj (sg (i + 1)) id ≠ obj (sg i) id ∨ ((sg i).length ≤ id ∧ id < (sg (i + 1)).length)
theorem lev_eq {id : Nat} : ∀ (d a : Nat), (∀ j, a ≤ j → j < a + d → ¬ Chg sg j id) → obj (sg a) id = obj (sg (a + d)) id
  | 0, a, _ => rfl
  | d + 1, a, h => by
    have h1 := lev_eq d a fun j h1 h2 => h j h1 (by omega)
    have h2 := h (a + d) (by omega) (by omega)
    unfold Chg at h2
    simp only [not_or, ne_eq, Classical.not_not] at h2
    rw [h1]; exact h2.1.symm
theorem lev_eq' {id a b : Nat} (hab : a ≤ b) (h : ∀ j, a ≤ j → j < b → ¬ Chg sg j id) : obj (sg a) id = obj (sg b) id := by
  obtain ⟨d, rfl⟩ := Nat.exists_eq_add_of_le hab
  exact lev_eq d a h
theorem Chain.chg (hc : Chain P ops sg cur rgs vs Ts Ws) {i id : Nat} {o : Oper} (ho : ops[i]? = some o) (h : Chg sg i id) : (id < (sg i).length ∧ id ∈ Ws i ∧ id ∈ Ts i) ∨ ((sg i).length ≤ id ∧ id < (sg (i + 1)).length) := by
  have hf := hc i o ho
  rcases Nat.lt_or_ge id (sg i).length with hl | hl
  · refine .inl ?_
    have hw : id ∈ Ws i := by
      refine Classical.byContradiction fun hn => ?_
      obtain ⟨σ2', _, m⟩ := hf.loc.2 (sg i) ⟨rfl, fun _ _ => rfl⟩
      rcases h with h | h
      · exact h (m.rest id hl hn).2
      · omega
    exact ⟨hl, hw, hf.loc.1 id hw⟩
  · refine .inr ⟨hl, ?_⟩
    rcases h with h | h
    · refine Classical.byContradiction fun hn => h ?_
      rw [obj_none hl, obj_none (Nat.not_lt.1 hn)]
    · exact h.2

theorem cur_len (hc : Chain P ops sg cur rgs vs Ts Ws) : ∀ i, i ≤ ops.size → (cur i).length = (cur 0).length
  | 0, _ => rfl
  | i + 1, h => by
    have := (hc i _ (Array.getElem?_eq_getElem (by omega))).ch.nxt
    rw [this, rput_length]
    exact cur_len hc i (by omega)

theorem cur_at (hc : Chain P ops sg cur rgs vs Ts Ws) (t : Tmp) (ht : t < (cur 0).length) : ∀ i, i ≤ ops.size →
    (∃ j o, j < i ∧ ops[j]? = some o ∧ o.dst = some t ∧ (cur i).getD t .any = vs j) ∨ ((cur i).getD t .any = (cur 0).getD t .any ∧ ∀ j o, j < i → ops[j]? = some o → o.dst ≠ some t)
  | 0, _ => .inr ⟨rfl, fun j o h => by omega⟩
  | i + 1, h => by
    have hlt : i < ops.size := by omega
    have ho : ops[i]? = some ops[i] := Array.getElem?_eq_getElem hlt
    have hn := (hc i _ ho).ch.nxt
    have hl := cur_len hc i (by omega)
    by_cases hd : ops[i].dst = some t
    · refine .inl ⟨i, ops[i], Nat.lt_succ_self _, ho, hd, ?_⟩
      have hti : t < (cur i).length := by rw [hl]; exact ht
      rw [hn, hd, rput_getD, if_pos ⟨rfl, hti⟩]
    · have hsame : (cur (i + 1)).getD t .any = (cur i).getD t .any := by
        rw [hn]
        cases hdst : ops[i].dst with
        | none => rfl
        | some d => rw [rput_getD, if_neg]; rintro ⟨rfl, _⟩; exact hd hdst
      rw [hsame]
      rcases cur_at hc t ht i (by omega) with ⟨j, o, h1, h2, h3, h4⟩ | ⟨h1, h2⟩
      · exact .inl ⟨j, o, by omega, h2, h3, h4⟩
      · refine .inr ⟨h1, fun j o hj hjo => ?_⟩
        by_cases e : j = i
        · subst e; rw [ho] at hjo; cases hjo; exact hd
        · exact h2 j o (by omega) hjo

theorem okOrd_edges (h : okOrd ops = true) {j : Nat} {o : Oper} (ho : ops[j]? = some o) : ∀ e ∈ o.after, Region.binds .any e = true → e.on < j := by
  unfold okOrd at h
  simp only [Bool.and_eq_true] at h
  have := List.all_eq_true.1 h.2 j (List.mem_range.2 (Array.getElem?_eq_some_iff.1 ho).1)
  simp only [ho, Option.map_some, Option.getD_some, Bool.and_eq_true] at this
  intro e he hb
  have := List.all_eq_true.1 this.1 e (by simpa using he)
  simpa [hb] using this
theorem okOrd_pair (h : okOrd ops = true) {i j : Nat} {x y : Oper} (hij : i < j) (hx : ops[i]? = some x) (hy : ops[j]? = some y) :
    (((ancs ops.toList []).getD j 0).testBit i = true ∨ x.apart ops y = true) ∧ ∀ d, x.dst = some d → y.dst ≠ some d := by
  unfold okOrd at h
  simp only [Bool.and_eq_true] at h
  have := List.all_eq_true.1 h.2 j (List.mem_range.2 (Array.getElem?_eq_some_iff.1 hy).1)
  simp only [Bool.and_eq_true] at this
  have := List.all_eq_true.1 this.2 i (List.mem_range.2 hij)
  unfold okPair at this
  rw [hx, hy] at this
  simp only [Bool.and_eq_true, Bool.or_eq_true] at this
  refine ⟨this.1, fun d hd he => ?_⟩
  rcases this.2 with h | h
  · rw [hd] at h; cases h
  · rw [hd, he] at h; simp at h

end
end Go.Abs
end

section
set_option linter.unusedVariables false
set_option linter.unusedSectionVars false
set_option linter.unusedSimpArgs false
namespace Go.Abs
variable [Glob]

section
variable {P : Program} {ops : Array Oper} {sg : Nat → AState} {cur rgs : Nat → Regs} {vs : Nat → AVal} {Ts Ws : Nat → List Nat}
  {F0 : FS} {w0 : World} {ρ0 : RMap}

structure Inv (ops : Array Oper) (sg : Nat → AState) (cur : Nat → Regs) (vs : Nat → AVal) (ρ0 : RMap) (F0 : FS) (w0 : World) (listed : Array Bool) (a : Act) (w : World) (ρ : RMap) (F : FS) (S : AState) : Prop where
  lsz : listed.size = ops.size
  down : Down ops listed
  len : S.length = (sg ops.size).length
  lev : ∀ id, ∃ k, k ≤ ops.size ∧ obj S id = obj (sg k) id ∧ (∀ i, i < ops.size → listed.getD i false = true → Chg sg i id → i < k) ∧ (∀ i, i < ops.size → listed.getD i false = false → Chg sg i id → k ≤ i)
  rel : Rel ρ F S w
  tr : Tr (sg 0) S ρ0 ρ F0 F w0 w
  unl : ∀ j, j < ops.size → listed.getD j false = false → ∀ id, (sg j).length ≤ id → id < (sg (j + 1)).length → ρ id = none
  asz : a.tmps.size = (cur 0).length
  dfr : a.defers = Glob.ds
  val : ∀ t j o, ops[j]? = some o → o.dst = some t → listed.getD j false = true → t < a.tmps.size → VRel F w ρ (vs j) (a.tmps.getD t undef)
  old : ∀ t, t < a.tmps.size → (∀ j o, ops[j]? = some o → o.dst = some t → listed.getD j false = false) → VRel F w ρ ((cur 0).getD t .any) (a.tmps.getD t undef)

theorem listed_set {listed : Array Bool} {i j : Nat} (h : i < listed.size) : (listed.setIfInBounds i true).getD j false = if i = j then true else listed.getD j false := by
  by_cases e : i = j
  · subst e
    simp [Array.getD_eq_getD_getElem?, h]
  · rw [getD_set_ne false e, if_neg e]

theorem Inv.look {listed : Array Bool} {a : Act} {w : World} {ρ : RMap} {F : FS} {S : AState} (I : Inv ops sg cur vs ρ0 F0 w0 listed a w ρ F S) (hc : Chain P ops sg cur rgs vs Ts Ws) (hok : okOrd ops = true)
    {i : Nat} {o : Oper} (ho : ops[i]? = some o) (hun : listed.getD i false = false) (hall : ∀ e ∈ o.after, Region.binds .any e = true → listed.getD e.on false = true) :
    (∀ t ∈ o.looksAt ops, (∃ j o', j < i ∧ ops[j]? = some o' ∧ listed.getD j false = true ∧ (cur i).getD t .any = vs j ∧ VRel F w ρ (vs j) (a.tmps.getD t undef)) ∨ ((cur i).getD t .any = (cur 0).getD t .any ∧ VRel F w ρ ((cur 0).getD t .any) (a.tmps.getD t undef))) := by
  intro t ht
  have hi : i < ops.size := (Array.getElem?_eq_some_iff.1 ho).1
  by_cases hts : t < (cur 0).length
  · rcases cur_at hc t hts i (by omega) with ⟨j, o', h1, h2, h3, h4⟩ | ⟨h1, h2⟩
    · have hl : listed.getD j false = true := by
        rcases (okOrd_pair hok h1 h2 ho).1 with h | h
        · exact anc_listed I.down i o j ho hall h I.lsz
        · exact absurd ht ((Oper.apart_spec h).1 t h3)
      exact .inl ⟨j, o', h1, h2, hl, h4, I.val t j o' h2 h3 hl (by rw [I.asz]; exact hts)⟩
    · refine .inr ⟨h1, I.old t (by rw [I.asz]; exact hts) fun j o' hj hd => ?_⟩
      rcases Nat.lt_trichotomy j i with h | h | h
      · exact absurd hd (h2 j o' h hj)
      · subst h; exact hun
      · rcases (okOrd_pair hok h ho hj).1 with g | g
        · cases hlj : listed.getD j false with
          | false => rfl
          | true =>
            have := anc_listed I.down j o' i hj (I.down j o' hj hlj) g I.lsz
            rw [hun] at this; cases this
        · exact absurd ht ((Oper.apart_spec g).2.2 t hd)
  · have hl := cur_len hc i (by omega)
    have e1 : (cur i).getD t .any = .any := by rw [List.getD_eq_getElem?_getD, List.getElem?_eq_none (show (cur i).length ≤ t by rw [hl]; exact Nat.not_lt.1 hts)]; rfl
    have e2 : (cur 0).getD t .any = .any := by rw [List.getD_eq_getElem?_getD, List.getElem?_eq_none (show (cur 0).length ≤ t from Nat.not_lt.1 hts)]; rfl
    exact .inr ⟨by rw [e1, e2], by rw [e2]; exact .any _ _⟩

theorem Inv.vals {listed : Array Bool} {a : Act} {w : World} {ρ : RMap} {F : FS} {S : AState} (I : Inv ops sg cur vs ρ0 F0 w0 listed a w ρ F S) (hok : okOrd ops = true) {i : Nat} {o : Oper} (ho : ops[i]? = some o)
    {F' : FS} {w' : World} {ρ' : RMap} {cv : Value} (hm : ∀ v c, VRel F w ρ v c → VRel F' w' ρ' v c) (hv : VRel F' w' ρ' (vs i) cv) :
    (a.put o.dst cv).tmps.size = (cur 0).length ∧ (a.put o.dst cv).defers = Glob.ds ∧
    (∀ t j o', ops[j]? = some o' → o'.dst = some t → (listed.setIfInBounds i true).getD j false = true → t < (a.put o.dst cv).tmps.size → VRel F' w' ρ' (vs j) ((a.put o.dst cv).tmps.getD t undef)) ∧
    ∀ t, t < (a.put o.dst cv).tmps.size → (∀ j o', ops[j]? = some o' → o'.dst = some t → (listed.setIfInBounds i true).getD j false = false) → VRel F' w' ρ' ((cur 0).getD t .any) ((a.put o.dst cv).tmps.getD t undef) := by
  have hi : i < listed.size := by rw [I.lsz]; exact (Array.getElem?_eq_some_iff.1 ho).1
  have hsz : (a.put o.dst cv).tmps.size = a.tmps.size := by cases o.dst <;> simp [Act.put]
  have hself : ∀ t, o.dst = some t → t < a.tmps.size → (a.put o.dst cv).tmps.getD t undef = cv := by
    intro t hd hlt
    rw [hd]
    simp [Act.put, Array.getD_eq_getD_getElem?, hlt]
  have hother : ∀ t, o.dst ≠ some t → (a.put o.dst cv).tmps.getD t undef = a.tmps.getD t undef := by
    intro t hd
    cases hdst : o.dst with
    | none => rfl
    | some d =>
      have : d ≠ t := fun e => hd (by rw [hdst, e])
      simp [Act.put, Array.getD_eq_getD_getElem?, Array.getElem?_setIfInBounds_ne this]
  refine ⟨hsz.trans I.asz, by cases o.dst <;> exact I.dfr, ?_, ?_⟩
  · intro t j o' hj hd hl ht
    rw [hsz] at ht
    rw [listed_set hi] at hl
    by_cases e : i = j
    · subst e
      rw [ho] at hj; cases hj
      rw [hself t hd ht]; exact hv
    · rw [if_neg e] at hl
      have hne : o.dst ≠ some t := by
        intro hd'
        rcases Nat.lt_or_ge i j with h | h
        · exact (okOrd_pair hok h ho hj).2 t hd' hd
        · exact (okOrd_pair hok (by omega) hj ho).2 t hd hd'
      rw [hother t hne]
      exact hm _ _ (I.val t j o' hj hd hl ht)
  · intro t ht hno
    rw [hsz] at ht
    have hne : o.dst ≠ some t := fun hd => by
      have := hno i o ho hd
      rw [listed_set hi, if_pos rfl] at this; cases this
    rw [hother t hne]
    refine hm _ _ (I.old t ht fun j o' hj hd => ?_)
    have := hno j o' hj hd
    rw [listed_set hi] at this
    split at this
    · cases this
    · exact this

theorem Inv.downSet {listed : Array Bool} {i : Nat} {o : Oper} (hsz : listed.size = ops.size) (hd : Down ops listed) (ho : ops[i]? = some o) (hall : ∀ e ∈ o.after, Region.binds .any e = true → listed.getD e.on false = true) : Down ops (listed.setIfInBounds i true) := by
  have hi : i < listed.size := by rw [hsz]; exact (Array.getElem?_eq_some_iff.1 ho).1
  intro j o' hj hl e he hb
  rw [listed_set hi] at hl ⊢
  split
  · rfl
  · split at hl
    · rename_i e2; subst e2; rw [ho] at hj; cases hj; exact hall e he hb
    · exact hd j o' hj hl e he hb

end
end Go.Abs
end

section
set_option linter.unusedVariables false
set_option linter.unusedSectionVars false
set_option linter.unusedSimpArgs false
namespace Go.Abs
variable [Glob]

def maskH (T : List Nat) (σ : AState) : AState := (List.range σ.length).map fun id => if T.contains id then obj σ id else .dead
theorem maskH_length (T : List Nat) (σ : AState) : (maskH T σ).length = σ.length := by simp [maskH]
theorem maskH_obj (T : List Nat) (σ : AState) {id : Nat} (h : id < σ.length) : obj (maskH T σ) id = if T.contains id then obj σ id else .dead := by
  refine obj_of ?_
  unfold maskH
  rw [List.getElem?_map, List.getElem?_range h]; rfl
noncomputable def overH (A : Nat → Prop) (σ' S : AState) : AState := by
  classical exact (List.range S.length).map fun id => if A id then obj σ' id else obj S id
theorem overH_length (A : Nat → Prop) (σ' S : AState) : (overH A σ' S).length = S.length := by simp [overH]
theorem overH_in {A : Nat → Prop} {σ' S : AState} {id : Nat} (h : id < S.length) (ha : A id) : obj (overH A σ' S) id = obj σ' id := by
  refine obj_of ?_
  unfold overH
  rw [List.getElem?_map, List.getElem?_range h]
  simp [ha]
theorem overH_out {A : Nat → Prop} {σ' S : AState} {id : Nat} (ha : ¬ A id) : obj (overH A σ' S) id = obj S id := by
  rcases Nat.lt_or_ge id S.length with h | h
  · refine obj_of ?_
    unfold overH
    rw [List.getElem?_map, List.getElem?_range h]
    simp [ha]
  · rw [obj_none h, obj_none (by rw [overH_length]; exact h)]

section
variable {P : Program} {ops : Array Oper} {sg : Nat → AState} {cur rgs : Nat → Regs} {vs : Nat → AVal} {Ts Ws : Nat → List Nat}
  {F0 : FS} {w0 : World} {ρ0 : RMap}

theorem Inv.step {listed : Array Bool} {a : Act} {w : World} {ρ : RMap} {F : FS} {S : AState} (g0 : GOk F0 w0) (r0 : Rel ρ0 F0 (sg 0) w0) (h0s : (inScopeL (sg 0).length (cur 0) && (sg 0).all (inScopeO (sg 0).length)) = true)
    (I : Inv ops sg cur vs ρ0 F0 w0 listed a w ρ F S) (hc : Chain P ops sg cur rgs vs Ts Ws) (hok : okOrd ops = true) {i : Nat} {o : Oper} (ho : ops[i]? = some o) (hun : listed.getD i false = false)
    (hall : ∀ e ∈ o.after, Region.binds .any e = true → listed.getD e.on false = true) (K : Act → World → Prop) (Q : Exit → Act → World → Prop)
    (hK : ∀ a' w' ρ' F' S' cv, VRel F' w' ρ' (vs i) cv → Inv ops sg cur vs ρ0 F0 w0 (listed.setIfInBounds i true) a' w' ρ' F' S' → K a' w')
    (hpan : ∀ t, vs i = .pan t → i + 1 = ops.size ∧ ∀ j, j < i → ((ancs ops.toList []).getD i 0).testBit j = true)
    (hP : ∀ t ρ' F' w', vs i = .pan t → Tr (sg 0) (sg ops.size) ρ0 ρ' F0 F' w0 w' → Rel ρ' F' (sg ops.size) w' → ARel F' w' ρ' (cur i) a → Q (.panic (panChain t)) a w') :
    if Region.wanted o (yielded ops a.tmps) = true then o.wp P a w K Q else K (a.put o.dst undef) w := by
  simp only [Bool.and_eq_true] at h0s
  have hi : i < ops.size := (Array.getElem?_eq_some_iff.1 ho).1
  have his : i < listed.size := by rw [I.lsz]; exact hi
  have hf := hc i o ho
  have hlook := I.look hc hok ho hun hall
  have hdown := Inv.downSet I.lsz I.down ho hall
  have hanc : ∀ j, ((ancs ops.toList []).getD i 0).testBit j = true → listed.getD j false = true := fun j h => anc_listed I.down i o j ho hall h I.lsz
  have hdesc : ∀ j oj, ops[j]? = some oj → listed.getD j false = true → ((ancs ops.toList []).getD j 0).testBit i = false := fun j oj hj hl => by
    cases h : ((ancs ops.toList []).getD j 0).testBit i with
    | false => rfl
    | true =>
      have := anc_listed I.down j oj i hj (I.down j oj hj hl) h I.lsz
      rw [hun] at this; cases this
  have hanc' : ∀ j, listed.getD j false = false → ((ancs ops.toList []).getD i 0).testBit j = false := fun j hl => by
    cases h : ((ancs ops.toList []).getD i 0).testBit j with
    | false => rfl
    | true => rw [hanc j h] at hl; cases hl
  have lset : ∀ j, (listed.setIfInBounds i true).getD j false = if i = j then true else listed.getD j false := fun j => listed_set his
  have hscope := hc.scopes ho
  have hscopeI : (sg i).all (inScopeO (sg i).length) = true := hc.scopeAt h0s.2 i (by omega)
  have h0i : (sg 0).length ≤ (sg i).length := hc.le (Nat.zero_le _) (by omega)
  have hin : (sg i).length ≤ S.length := by rw [I.len]; exact hc.le (by omega) (Nat.le_refl _)
  have hin1 : (sg (i + 1)).length ≤ S.length := by rw [I.len]; exact hc.le (by omega) (Nat.le_refl _)
  have hget : ∀ j, j < ops.size → ops[j]? = some (ops[j]!) := fun j hj => by rw [getElem!_pos ops j hj]; exact Array.getElem?_eq_getElem hj
  -- the places that it looks at
  have htouch : ∀ id ∈ Ts i, id < (sg i).length → obj S id = obj (sg i) id := by
    intro id hid hlt
    obtain ⟨k, k1, k2, k3, k4⟩ := I.lev id
    rw [k2]
    rcases Nat.le_total k i with hki | hki
    · refine lev_eq' hki fun j hj1 hj2 hch => ?_
      have hjs : j < ops.size := by omega
      cases hl : listed.getD j false with
      | true => have := k3 j hjs hl hch; omega
      | false =>
        obtain ⟨p1, p2, p3⟩ := hf.pairs j hj2 (hanc' j hl)
        rcases hc.chg (hget j hjs) hch with ⟨c1, c2, _⟩ | ⟨c1, c2⟩
        · rcases hch with h | h
          · exact h (p1 id c2 hid)
          · omega
        · have := p3 id hid; omega
    · refine (lev_eq' hki fun j hj1 hj2 hch => ?_).symm
      have hjs : j < ops.size := by omega
      cases hl : listed.getD j false with
      | false => have := k4 j hjs hl hch; omega
      | true =>
        have hne : i < j := by
          rcases Nat.lt_or_ge i j with h | h
          · exact h
          · obtain rfl : i = j := by omega
            rw [hun] at hl; cases hl
        have hfj := hc j _ (hget j hjs)
        obtain ⟨p1, p2, p3⟩ := hfj.pairs i hne (hdesc j _ (hget j hjs) hl)
        have hle : (sg i).length ≤ (sg j).length := hc.le (by omega) (by omega)
        rcases hc.chg (hget j hjs) hch with ⟨c1, c2, _⟩ | ⟨c1, c2⟩
        · rcases hch with h | h
          · exact h (p2 id c2 hid)
          · omega
        · omega
  -- values under the names below
  have hcut : ∀ t ∈ o.looksAt ops, VRel F w (cut (sg i).length ρ) ((cur i).getD t .any) (a.tmps.getD t undef) := fun t ht => by
    rcases hlook t ht with ⟨j, o', h1, h2, h3, h4, h5⟩ | ⟨h1, h2⟩
    · rw [h4]
      exact (h5.scope (hc.scopes h2).1).weak (cut_le (hc.le (by omega) (by omega)))
    · rw [h1]
      refine (h2.scope (k := (sg 0).length) ?_).weak (cut_le h0i)
      cases hg : (cur 0)[t]? with
      | none => rw [List.getD_eq_getElem?_getD, hg]; rfl
      | some v => rw [List.getD_eq_getElem?_getD, hg]; exact scopeL h0s.1 t v hg
  have hlk : LookOk F w (cut (sg i).length ρ) (rgs i) a (o.looksAt ops) := LookOk.imp ⟨g0.tr r0 I.tr, fun t ht => hcut t ht⟩ hf.ch.req.1
  -- the small heap
  obtain ⟨σ2', hop, hmv⟩ := hf.loc.2 (maskH (Ts i) (sg i)) ⟨maskH_length _ _, fun id hid => by
    rcases Nat.lt_or_ge id (sg i).length with h | h
    · rw [maskH_obj _ _ h, if_pos (by simpa using hid)]
    · rw [obj_none h, obj_none (by rw [maskH_length]; exact h)]⟩
  have hmget : ∀ id o', (maskH (Ts i) (sg i))[id]? = some o' → o' = .dead ∨ (id ∈ Ts i ∧ id < (sg i).length ∧ S[id]? = some o' ∧ (sg i)[id]? = some o') := fun id o' h => by
    have hlt : id < (sg i).length := by have := (List.getElem?_eq_some_iff.1 h).1; rwa [maskH_length] at this
    have he := obj_of h
    rw [maskH_obj _ _ hlt] at he
    split at he
    · rename_i hct
      have hid : id ∈ Ts i := by simpa using hct
      exact .inr ⟨hid, hlt, by rw [obj_get (by omega), htouch id hid hlt, he], by rw [obj_get hlt, he]⟩
    · exact .inl he.symm
  have rlow : Rel (cut (sg i).length ρ) F (maskH (Ts i) (sg i)) w := by
    refine ⟨fun id o' b h1 h2 => ?_, fun id id' o1 o2 b h1 h2 h3 h4 h5 h6 => ?_, fun b hb => ⟨(I.rel.fr b hb).1, fun ⟨id, o', h1, h2, h3⟩ => ?_⟩, fun id b h => I.rel.lt id b (cut_some h).2, fun id h => ?_⟩
    · rcases hmget id o' h1 with rfl | ⟨g1, g2, g3, g4⟩
      · trivial
      · exact (I.rel.obj id o' b g3 (cut_some h2).2).scope (List.all_eq_true.1 hscopeI o' (List.mem_of_getElem? g4))
    · rcases hmget id o1 h1 with rfl | ⟨_, _, g3, _⟩
      · cases h3
      · rcases hmget id' o2 h2 with rfl | ⟨_, _, k3, _⟩
        · cases h4
        · exact I.rel.injO id id' o1 o2 b g3 k3 h3 h4 (h5.to fun y hy => (cut_some hy).2) (h6.to fun y hy => (cut_some hy).2)
    · rcases hmget id o' h1 with rfl | ⟨_, _, g3, _⟩
      · cases h2
      · exact (I.rel.fr b hb).2 ⟨id, o', g3, h2, h3.to fun y hy => (cut_some hy).2⟩
    · rw [maskH_length] at h
      unfold cut
      rw [if_neg (by omega)]
  have hl2 : σ2'.length = (sg (i + 1)).length := hmv.len
  have hgap : ∀ id, (sg i).length ≤ id → id < σ2'.length → ρ id = none := fun id h1 h2 => I.unl i hi hun id h1 (by omega)
  let A : Nat → Prop := fun id => id < (sg (i + 1)).length ∧ (id ∈ Ts i ∨ (sg i).length ≤ id)
  have hAsame : ∀ id, A id → obj σ2' id = obj (sg (i + 1)) id := fun id ha => by
    rcases ha.2 with h | h
    · exact hmv.at_ id h
    · exact hmv.new id h
  have lifted := fun (F' : FS) (w' : World) (ρs' : RMap) (t : Tr (maskH (Ts i) (sg i)) σ2' (cut (sg i).length ρ) ρs' F F' w w') (r' : Rel ρs' F' σ2' w') => lift_mask (S' := overH A (sg (i + 1)) S) (A := A) r0 I.tr I.rel h0i hin (maskH_length _ _) (by rw [hl2]; exact hf.len) (by rw [hl2]; exact hin1) (overH_length _ _ _)
    (fun id hid => by
      by_cases ht : id ∈ Ts i
      · exact .inl ⟨⟨by have := hf.len; omega, .inl ht⟩, by rw [maskH_obj _ _ hid, if_pos (by simpa using ht), htouch id ht hid]⟩
      · exact .inr ⟨fun ha => by rcases ha.2 with h | h; exact ht h; omega, by rw [maskH_obj _ _ hid, if_neg (by simpa using ht)]⟩)
    (fun id ha => ⟨by rw [hl2]; exact ha.1, by rw [overH_in (by have := ha.1; omega) ha, hAsame id ha]⟩)
    (fun id h1 h2 => ⟨by omega, .inr h1⟩) (fun id ha => overH_out ha) t r' hgap
  refine hop F w (cut (sg i).length ρ) a rlow hlk K Q (fun F' w' ρs' cv t r' hv => ?_) (fun F' w' ρs' t hv tt r' => ?_)
  rotate_left
  · obtain ⟨L1, L2, L3, L4, L5⟩ := lifted F' w' ρs' tt r'
    obtain ⟨hsz, hancs⟩ := hpan t hv
    have hl : ∀ j, j < i → listed.getD j false = true := fun j hj => hanc j (hancs j hj)
    have hS : overH A (sg (i + 1)) S = sg ops.size := by
      rw [← hsz]
      refine List.ext_getElem? fun id => ?_
      have hlen : (overH A (sg (i + 1)) S).length = (sg (i + 1)).length := by rw [overH_length, I.len, hsz]
      rcases Nat.lt_or_ge id (sg (i + 1)).length with hlt | hge
      · rw [obj_get (by rw [hlen]; exact hlt), obj_get hlt]
        by_cases hA : A id
        · rw [overH_in (by rw [I.len, ← hsz]; exact hlt) hA]
        · rw [overH_out hA]
          have hnt : id ∉ Ts i := fun h => hA ⟨hlt, .inl h⟩
          have hlo : id < (sg i).length := Classical.byContradiction fun h => hA ⟨hlt, .inr (Nat.not_lt.1 h)⟩
          have hni : ¬ Chg sg i id := fun h => by
            rcases hc.chg ho h with ⟨_, _, c3⟩ | ⟨c1, _⟩
            · exact hnt c3
            · omega
          obtain ⟨k, k1, k2, k3, k4⟩ := I.lev id
          rw [k2]
          rw [lev_eq' (b := i + 1) (by omega) fun j h1 h2 hch => ?_]
          by_cases e : j = i
          · subst e; exact hni hch
          · have := k3 j (by omega) (hl j (by omega)) hch; omega
      · rw [List.getElem?_eq_none (by rw [hlen]; exact hge), List.getElem?_eq_none hge]
    rw [hS] at L1 L2
    have hlc := cur_len hc i (by omega)
    refine hP t _ F' w' hv L2 L1 ⟨by rw [hlc, I.asz], fun t v u h1 h2 => ?_, I.dfr, g0.tr r0 L2⟩
    have ht : t < (cur 0).length := by rw [← I.asz]; exact (Array.getElem?_eq_some_iff.1 h2).1
    have hu : a.tmps.getD t undef = u := by rw [Array.getD_eq_getD_getElem?, h2]; rfl
    have hv : (cur i).getD t .any = v := by rw [List.getD_eq_getElem?_getD, h1]; rfl
    rw [← hu, ← hv]
    refine L5 _ _ ?_
    rcases cur_at hc t ht i (by omega) with ⟨j, o', h1, h2, h3, h4⟩ | ⟨h1, h2⟩
    · rw [h4]; exact I.val t j o' h2 h3 (hl j h1) (by rw [I.asz]; exact ht)
    · rw [h1]
      refine I.old t (by rw [I.asz]; exact ht) fun j o' hj hd => ?_
      have hjs : j < ops.size := (Array.getElem?_eq_some_iff.1 hj).1
      by_cases e : j = i
      · subst e; exact hun
      · exact absurd hd (h2 j o' (by omega) hj)
  obtain ⟨L1, L2, L3, L4, L5⟩ := lifted F' w' ρs' t r'
  obtain ⟨v1, v2, v3, v4⟩ := I.vals hok ho L5 (hv.weak L4)
  refine hK _ w' _ F' _ cv (hv.weak L4) ⟨by simpa using I.lsz, hdown, by rw [overH_length]; exact I.len, fun id => ?_, L1, L2, ?_, v1, v2, v3, v4⟩
  · by_cases hch : Chg sg i id
    · -- changed by this one
      have hA : A id := by
        rcases hc.chg ho hch with ⟨c1, c2, c3⟩ | ⟨c1, c2⟩
        · exact ⟨by have := hf.len; omega, .inl c3⟩
        · exact ⟨c2, .inr c1⟩
      refine ⟨i + 1, by omega, overH_in (by have := hA.1; omega) hA, fun j hj hl hcj => ?_, fun j hj hl hcj => ?_⟩
      · rw [lset] at hl
        split at hl
        · omega
        · rename_i hne
          refine Classical.byContradiction fun hnot => ?_
          have hlt : i < j := by omega
          have hfj := hc j _ (hget j hj)
          obtain ⟨p1, p2, p3⟩ := hfj.pairs i hlt (hdesc j _ (hget j hj) hl)
          have hle : (sg (i + 1)).length ≤ (sg j).length := hc.le (by omega) (by omega)
          rcases hc.chg (hget j hj) hcj with ⟨c1, c2, c3⟩ | ⟨c1, c2⟩
          · rcases hc.chg ho hch with ⟨d1, d2, d3⟩ | ⟨d1, d2⟩
            · rcases hcj with h | h
              · exact h (p2 id c2 d3)
              · omega
            · have := p3 id c3; omega
          · have := hA.1; omega
      · rw [lset] at hl
        split at hl
        · cases hl
        · rename_i hne
          refine Classical.byContradiction fun hnot => ?_
          have hlt : j < i := by omega
          obtain ⟨p1, p2, p3⟩ := hf.pairs j hlt (hanc' j hl)
          have hle : (sg (j + 1)).length ≤ (sg i).length := hc.le (by omega) (by omega)
          rcases hc.chg ho hch with ⟨d1, d2, d3⟩ | ⟨d1, d2⟩
          · rcases hc.chg (hget j hj) hcj with ⟨c1, c2, c3⟩ | ⟨c1, c2⟩
            · rcases hcj with h | h
              · exact h (p1 id c2 d3)
              · omega
            · have := p3 id d3; omega
          · rcases hc.chg (hget j hj) hcj with ⟨c1, c2, c3⟩ | ⟨c1, c2⟩
            · have : (sg j).length ≤ (sg i).length := hc.le (by omega) (by omega)
              omega
            · omega
    · obtain ⟨k, k1, k2, k3, k4⟩ := I.lev id
      refine ⟨k, k1, ?_, fun j hj hl hcj => ?_, fun j hj hl hcj => ?_⟩
      · by_cases hA : A id
        · have hlt : id < (sg i).length := by
            refine Classical.byContradiction fun hn => hch (.inr ⟨Nat.not_lt.1 hn, hA.1⟩)
          have hT : id ∈ Ts i := by rcases hA.2 with h | h; exact h; omega
          rw [overH_in (by omega) hA]
          have : obj (sg (i + 1)) id = obj (sg i) id := Classical.byContradiction fun hn => hch (.inl hn)
          rw [this, ← htouch id hT hlt, k2]
        · rw [overH_out hA, k2]
      · rw [lset] at hl
        split at hl
        · rename_i e; subst e; exact absurd hcj hch
        · exact k3 j hj hl hcj
      · rw [lset] at hl
        split at hl
        · cases hl
        · exact k4 j hj hl hcj
  · intro j hj hl id h1 h2
    rw [lset] at hl
    split at hl
    · cases hl
    · rename_i hne
      try dsimp only
      rw [if_neg ?_]
      · exact I.unl j hj hl id h1 h2
      · rintro ⟨g1, g2⟩
        rcases Nat.lt_or_ge i j with h | h
        · have : (sg (i + 1)).length ≤ (sg j).length := hc.le (by omega) (by omega)
          omega
        · have : (sg (j + 1)).length ≤ (sg i).length := hc.le (by omega) (by omega)
          omega

theorem count_set {listed : Array Bool} {i : Nat} (hi : i < listed.size) (h : listed.getD i false = false) : (listed.setIfInBounds i true).toList.count false + 1 = listed.toList.count false := by
  have hl : listed.toList[i]? = some false := by
    rw [Array.getElem?_toList, Array.getElem?_eq_getElem hi]
    rw [Array.getD_eq_getD_getElem?, Array.getElem?_eq_getElem hi] at h
    simpa using h
  rw [Array.toList_setIfInBounds]
  generalize listed.toList = l at hl
  clear h hi
  induction l generalizing i with
  | nil => simp at hl
  | cons x xs ih =>
    match i with
    | 0 => simp at hl; subst hl; simp
    | i + 1 =>
      have := ih (i := i) (by simpa using hl)
      simp only [List.set_cons_succ, List.count_cons]
      omega

theorem any_ok (g0 : GOk F0 w0) (r0 : Rel ρ0 F0 (sg 0) w0) (h0s : (inScopeL (sg 0).length (cur 0) && (sg 0).all (inScopeO (sg 0).length)) = true) (hc : Chain P ops sg cur rgs vs Ts Ws) (hok : okOrd ops = true) {Q : Exit → Act → World → Prop} {e : AExit} {rg' : Regs} (hE : EndsLast (ancs ops.toList []) e 0 ops.size rg' cur vs)
    (hQ : ∀ ρ' F' w' a', Tr (sg 0) (sg ops.size) ρ0 ρ' F0 F' w0 w' → Rel ρ' F' (sg ops.size) w' → ARel F' w' ρ' rg' a' → Q e.real a' w') :
    ∀ (fuel : Nat) (listed : Array Bool) (a : Act) (w : World) (ρ : RMap) (F : FS) (S : AState), listed.toList.count false = fuel → (∀ j, j < ops.size → listed.getD j false = true → (vs j).isPan = false) → Inv ops sg cur vs ρ0 F0 w0 listed a w ρ F S → wpAny P .any ops Q fuel listed a w := by
  have fin : ∀ (listed : Array Bool) (a : Act) (w : World) (ρ : RMap) (F : FS) (S : AState), Inv ops sg cur vs ρ0 F0 w0 listed a w ρ F S → (∀ j, j < ops.size → listed.getD j false = true → (vs j).isPan = false) → (∀ j, j < ops.size → listed.getD j false = true) → Q .normal a w := by
    intro listed a w ρ F S I hnp hall
    have ⟨he, hrq⟩ : e = .normal ∧ REq (cur ops.size) rg' := by
      rcases hE with ⟨h1, h2, _⟩ | ⟨t, m, h1, h2, h3, _⟩
      · exact ⟨h1, h2⟩
      · have := hnp m (by omega) (hall m (by omega)); rw [h3] at this; cases this
    subst he
    have hS : S = sg ops.size := by
      refine List.ext_getElem? fun id => ?_
      rcases Nat.lt_or_ge id S.length with hlt | hge
      · rw [obj_get hlt, obj_get (by rw [← I.len]; exact hlt)]
        obtain ⟨k, k1, k2, k3, _⟩ := I.lev id
        rw [k2, lev_eq' k1 fun j h1 h2 hch => by have := k3 j h2 (hall j h2) hch; omega]
      · rw [List.getElem?_eq_none hge, List.getElem?_eq_none (by rw [← I.len]; exact hge)]
    subst hS
    have hl := cur_len hc ops.size (Nat.le_refl _)
    refine hQ ρ F w a I.tr I.rel (ARel.imp (rg := cur ops.size) ⟨by rw [hl, I.asz], fun t v u h1 h2 => ?_, I.dfr, g0.tr r0 I.tr⟩ hrq.1)
    have ht : t < (cur 0).length := by rw [← I.asz]; exact (Array.getElem?_eq_some_iff.1 h2).1
    have hu : a.tmps.getD t undef = u := by rw [Array.getD_eq_getD_getElem?, h2]; rfl
    have hv : (cur ops.size).getD t .any = v := by rw [List.getD_eq_getElem?_getD, h1]; rfl
    rw [← hu, ← hv]
    rcases cur_at hc t ht ops.size (Nat.le_refl _) with ⟨j, o', h1, h2, h3, h4⟩ | ⟨h1, h2⟩
    · rw [h4]; exact I.val t j o' h2 h3 (hall j h1) (by rw [I.asz]; exact ht)
    · rw [h1]; exact I.old t (by rw [I.asz]; exact ht) fun j o' hj hd => absurd hd (h2 j o' (Array.getElem?_eq_some_iff.1 hj).1 hj)
  have none_ready : ∀ (listed : Array Bool), listed.size = ops.size → Region.ready .any ops listed = [] → ∀ j, j < ops.size → listed.getD j false = true := by
    intro listed hsz hr j
    induction j using Nat.strongRecOn with
    | _ j ih =>
      intro hj
      cases hl : listed.getD j false with
      | true => rfl
      | false =>
        have : j ∈ Region.ready .any ops listed := mem_ready.2 ⟨by
          rw [Array.getD_eq_getD_getElem?, Array.getElem?_eq_getElem (by rw [hsz]; exact hj)] at hl ⊢
          simpa using hl, ops[j], Array.getElem?_eq_getElem hj, fun e he hb => by
            have := okOrd_edges hok (Array.getElem?_eq_getElem hj) e he hb
            exact ih e.on this (by omega)⟩
        rw [hr] at this; cases this
  intro fuel
  induction fuel with
  | zero =>
    intro listed a w ρ F S hcnt hnp I
    have hall : ∀ j, j < ops.size → listed.getD j false = true := fun j hj => by
      have hj' : j < listed.size := by rw [I.lsz]; exact hj
      have := List.count_eq_zero.1 hcnt
      rw [Array.getD_eq_getD_getElem?, Array.getElem?_eq_getElem hj']
      have hm : listed[j] ∈ listed.toList := by simp
      cases hv : listed[j] with
      | true => rfl
      | false => rw [hv] at hm; exact absurd hm this
    refine ⟨?_, fin listed a w ρ F S I hnp hall⟩
    cases hr : Region.ready .any ops listed with
    | nil => rfl
    | cons x xs =>
      have hx : x ∈ Region.ready .any ops listed := by rw [hr]; simp
      obtain ⟨h1, o, ho, _⟩ := mem_ready.1 hx
      have := hall x (Array.getElem?_eq_some_iff.1 ho).1
      have hx' : x < listed.size := by rw [I.lsz]; exact (Array.getElem?_eq_some_iff.1 ho).1
      rw [Array.getD_eq_getD_getElem?, Array.getElem?_eq_getElem hx'] at h1 this
      simp at h1 this
      rw [h1] at this; cases this
  | succ fuel ih =>
    intro listed a w ρ F S hcnt hnp I
    refine ⟨fun hr => fin listed a w ρ F S I hnp (none_ready listed I.lsz hr), fun i hi => ?_⟩
    obtain ⟨h1, o, ho, hall⟩ := mem_ready.1 hi
    have hlt : i < listed.size := by rw [I.lsz]; exact (Array.getElem?_eq_some_iff.1 ho).1
    have hun : listed.getD i false = false := by
      rw [Array.getD_eq_getD_getElem?, Array.getElem?_eq_getElem hlt] at h1 ⊢
      simpa using h1
    have his : i < ops.size := (Array.getElem?_eq_some_iff.1 ho).1
    have hs := I.step g0 r0 h0s hc hok ho hun hall (wpAny P .any ops Q fuel (listed.setIfInBounds i true)) Q (fun a' w' ρ' F' S' cv hv I' => ih _ a' w' ρ' F' S' (by have := count_set hlt hun; omega) (fun j hj hl => by
        rw [listed_set hlt] at hl
        by_cases e : i = j
        · subst e
          cases hp : (vs i).isPan with
          | false => rfl
          | true =>
            have ⟨t, ht⟩ : ∃ t, vs i = .pan t := by cases hq : vs i <;> first | exact ⟨_, rfl⟩ | (rw [hq] at hp; cases hp)
            rw [ht] at hv; cases hv
        · rw [if_neg e] at hl; exact hnp j hj hl) I')
      (fun t ht => by
        rcases hE with ⟨_, _, h3⟩ | ⟨t', m, _, h2, h3, _, h5, h6⟩
        · have := h3 i his; rw [ht] at this; cases this
        · have him : i = m := by
            rcases Nat.lt_or_ge i m with h | h
            · have := h5 i h; rw [ht] at this; cases this
            · omega
          subst him
          rw [Nat.zero_add] at h6
          exact ⟨h2.symm, fun j hj => List.all_eq_true.1 h6 j (List.mem_range.2 hj)⟩)
      (fun t ρ' F' w' ht t2 r2 ha2 => by
        rcases hE with ⟨_, _, h3⟩ | ⟨t', m, rfl, h2, h3, h4, h5, h6⟩
        · have := h3 i his; rw [ht] at this; cases this
        · have him : i = m := by
            rcases Nat.lt_or_ge i m with h | h
            · have := h5 i h; rw [ht] at this; cases this
            · omega
          subst him
          rw [h3] at ht; cases ht
          exact hQ ρ' F' w' a t2 r2 (ha2.imp h4.1))
    unfold wpOp
    rw [ho]
    dsimp only
    split
    · rename_i hw; rw [if_pos hw] at hs; exact .inl hs
    · rename_i hw; rw [if_neg hw] at hs; exact hs

end
end Go.Abs
end

section
set_option linter.unusedVariables false
set_option linter.unusedSectionVars false
set_option linter.unusedSimpArgs false
namespace Go.Abs
variable [Glob]

section
variable {P : Program} {F : FS} {w : World} {ρ : RMap} {σ : AState}

def FineS (P : Program) (F : FS) (w : World) (ρ : RMap) (σ : AState) (out : Out) (s : Sem Value) : Prop := out.σ = σ ∧ ∃ cv, s.run P w = .ok cv w ∧ VRel F w ρ out.v cv
theorem FineS.same {out : Out} {s : Sem Value} {cv : Value} (r : Rel ρ F σ w) (h : s.run P w = .ok cv w) (hσ : out.σ = σ) (hv : VRel F w ρ out.v cv) : FineS P F w ρ σ out s := ⟨hσ, cv, h, hv⟩

theorem aload_same {t : TypeId} {a : AVal} {ca : Value} {out : Out} (r : Rel ρ F σ w) (ha : VRel F w ρ a ca) (h : aload P t a σ = some out) (hcs : allP out.cs) :
    FineS P F w ρ σ out (Instr.loadAt t ca) := by
  unfold aload at h
  cases hu : P.underlying t with
  | none => simp [hu] at h
  | some d =>
  simp only [hu, Option.isNone_some, Bool.false_eq_true, if_false] at h
  have hfin : ∀ {b o : Nat} {cs : List Value} {xs : List AVal}, ca = .pointer (some ⟨b, o, none⟩) → w.rangeAt b o cs → PW F w ρ xs cs → P.cellsOf t = cs.length → cs.length ≠ 0 → out.σ = σ → out.v = asType P t xs → FineS P F w ρ σ out (Instr.loadAt t ca) := by
    intro b o cs xs e1 e2 e3 e4 e5 e6 e7
    subst e1
    refine FineS.same r (cv := if isAggT P t then .agg cs.toArray else cs.headD undef) ?_ e6 ?_
    · simp only [Instr.loadAt, Instr.sureAddr, Sem.run_bind, Sem.run_pure, Result.andThen_ok]
      exact run_loadVar_cells hu e2 e4 e5
    · rw [e7]; exact asType_ok e3 (by rw [e3.1]; omega)
  have hfin2 : ∀ {b o : Nat} {cs : List Value} {xs : List AVal}, ca = .pointer (some ⟨b, o, none⟩) → w.rangeAt b o cs → PW F w noId xs cs → P.cellsOf t = cs.length → cs.length ≠ 0 → out.σ = σ → out.v = .pagg xs → d.isRow = true → FineS P F w ρ σ out (Instr.loadAt t ca) := by
    intro b o cs xs e1 e2 e3 e4 e5 e6 e7 e8
    subst e1
    have hagg : isAggT P t = true := by
      unfold isAggT; rw [hu]; cases d <;> first | rfl | cases e8
    refine FineS.same r (cv := if isAggT P t then .agg cs.toArray else cs.headD undef) ?_ e6 ?_
    · simp only [Instr.loadAt, Instr.sureAddr, Sem.run_bind, Sem.run_pure, Result.andThen_ok]
      exact run_loadVar_cells hu e2 e4 e5
    · rw [e7, hagg, if_pos rfl]; exact e3.pagg
  split at h
  · rename_i id es i j
    obtain ⟨b, hb, rfl⟩ := ha.ptr_inv
    split at h
    · rename_i es' rs ho
      split at h
      · rename_i hc
        simp only [Bool.and_eq_true, beq_iff_eq, decide_eq_true_eq] at hc
        obtain ⟨he, hn⟩ := hc
        subst he
        split at h
        · rename_i harr
          simp only [Bool.and_eq_true, beq_iff_eq] at harr
          obtain ⟨harr, hne⟩ := harr
          cases h
          obtain ⟨hi, hj⟩ := hcs.cons
          have hi : i < rs.length := by simpa using hi
          have hj : j + P.cellsOf t ≤ es := by have := hj.cons.1; simpa using this
          have ho := r.objP ho rfl hb
          obtain ⟨cs, hl, hr, hp⟩ := ho.part hi hj
          have hw := ho.width hi
          have hj0 : j = 0 := by omega
          subst hj0
          rw [List.drop_zero, List.take_of_length_le (by omega)] at hp
          refine hfin2 rfl hr hp hl.symm (by omega) rfl rfl ?_
          unfold isArr at harr
          rw [hu] at harr
          cases d <;> first | rfl | cases harr
        split at h
        · cases h
          obtain ⟨hi, hk⟩ := hcs.cons
          obtain ⟨hj, hk⟩ := hk.cons
          have hk := hk.cons.1
          have hi : i < rs.length := by simpa using hi
          have hj : j + P.cellsOf t ≤ es := by simpa using hj
          have ho := r.objP ho rfl hb
          obtain ⟨cs, hl, hr, hp⟩ := ho.part hi hj
          rw [← cellsAt_eq (ho.width hi) hj] at hp
          exact hfin rfl hr (reifyL_ok _ _ _ hp.pure hk) hl.symm (by omega) rfl rfl
        · cases h
      · cases h
    · rename_i es' rs ho
      split at h
      · rename_i hc
        simp only [Bool.and_eq_true, beq_iff_eq, decide_eq_true_eq] at hc
        obtain ⟨he, hn⟩ := hc
        subst he
        cases h
        obtain ⟨hi, hj⟩ := hcs.cons
        have hi : i < rs.length := by simpa using hi
        have hj : j + P.cellsOf t ≤ es := by have := hj.cons.1; simpa using this
        have ho := r.objP ho rfl hb
        obtain ⟨cs, hl, hr, hp⟩ := ho.part hi hj
        rw [← cellsAt_eq (ho.width hi) hj] at hp
        exact hfin rfl hr hp hl.symm (by omega) rfl rfl
      · cases h
    · cases h
  · rename_i es rs i j
    obtain ⟨b, o, f, hF, hw, hg, hv, rfl⟩ := ha.fptr_inv
    split at h
    · rename_i hn
      simp only [decide_eq_true_eq] at hn
      split at h
      · cases h
        obtain ⟨hi, hk⟩ := hcs.cons
        obtain ⟨hj, hk⟩ := hk.cons
        have hk := hk.cons.1
        have hi : i < rs.length := by simpa using hi
        have hj : j + P.cellsOf t ≤ es := by simpa using hj
        obtain ⟨cs, hl, hr, hp⟩ := part_of (ρ := noId) (n := P.cellsOf t) hi hj hw hg hv
        rw [← cellsAt_eq (by rw [List.getD_eq_getElem?_getD, List.getElem?_eq_getElem hi]; exact hw i _ (List.getElem?_eq_getElem hi)) hj] at hp
        exact hfin rfl hr (reifyL_ok _ _ _ hp.pure hk) hl.symm (by omega) rfl rfl
      · cases h
    · cases h
  · cases h


def resOne (P : Program) (rg : Regs) (σ : AState) : ResultVar → Option (AVal × List Prop)
  | .tmp t => some (rg.getD t .any, [])
  | .cell a t => (aload P t (rg.getD a .any) σ).map fun o => (o.v, o.cs)
def resAll (P : Program) (rg : Regs) (σ : AState) : List ResultVar → Option (List AVal × List Prop)
  | [] => some ([], [])
  | r :: rs => (resOne P rg σ r).bind fun x => (resAll P rg σ rs).map fun y => (x.1 :: y.1, x.2 ++ y.2)
def resVal (vs : List AVal) : AVal :=
  match vs with
  | [v] => v
  | vs => .tuple vs

def resSem (tmps : Array Value) : ResultVar → Sem Value
  | .tmp t => pure (tmps.getD t undef)
  | .cell a t => do loadVar t (← asAddr (tmps.getD a undef))

theorem resOne_ok {rg : Regs} {a : Act} {rv : ResultVar} {x : AVal × List Prop} (r : Rel ρ F σ w) (ha : ARel F w ρ rg a) (h : resOne P rg σ rv = some x) (hcs : allP x.2) : ∃ cv, (resSem a.tmps rv).run P w = .ok cv w ∧ VRel F w ρ x.1 cv := by
  cases rv with
  | tmp t => cases h; exact ⟨_, rfl, (ha.look [t]).2 t (by simp)⟩
  | cell c t =>
    simp only [resOne, Option.map_eq_some_iff] at h
    obtain ⟨o, ho, rfl⟩ := h
    have hv := (ha.look [c]).2 c (by simp)
    obtain ⟨_, cv, h1, h2⟩ := aload_same r hv ho hcs
    refine ⟨cv, ?_, h2⟩
    simp only [resSem]
    have hp : ∃ ad, a.tmps.getD c undef = .pointer (some ad) := by
      unfold aload at ho
      generalize rg.getD c .any = q at ho hv
      dsimp only at ho
      split at ho
      · cases ho
      · cases q <;> first
          | (obtain ⟨b, hb, e⟩ := hv.ptr_inv; exact ⟨_, e⟩)
          | (obtain ⟨b, o, f, _, _, _, _, e⟩ := hv.fptr_inv; exact ⟨_, e⟩)
          | (simp at ho; done)
    obtain ⟨ad, e⟩ := hp
    rw [e] at h1 ⊢
    exact h1

theorem resAll_ok {rg : Regs} {a : Act} (r : Rel ρ F σ w) (ha : ARel F w ρ rg a) : ∀ (rvs : List ResultVar) {x : List AVal × List Prop}, resAll P rg σ rvs = some x → allP x.2 →
    ∃ cvs : List Value, (rvs.mapM (resSem a.tmps)).run P w = .ok cvs w ∧ PW F w ρ x.1 cvs
  | [], x, h, _ => by cases h; exact ⟨[], by simp, rfl, fun i x y h => by simp at h⟩
  | rv :: rvs, x, h, hcs => by
    simp only [resAll, Option.bind_eq_some_iff, Option.map_eq_some_iff] at h
    obtain ⟨y, hy, z, hz, rfl⟩ := h
    obtain ⟨h1, h2⟩ := hcs.append
    obtain ⟨cv, e1, e2⟩ := resOne_ok r ha hy h1
    obtain ⟨cvs, e3, e4⟩ := resAll_ok r ha rvs hz h2
    refine ⟨cv :: cvs, by simp [List.mapM_cons, e1, e3], by simp [e4.1], fun i u v g1 g2 => ?_⟩
    match i with
    | 0 => simp at g1 g2; subst g1; subst g2; exact e2
    | i + 1 => exact e4.2 i u v (by simpa using g1) (by simpa using g2)

theorem results_ok {fn : Func} {rg : Regs} {a : Act} {x : List AVal × List Prop} (r : Rel ρ F σ w) (ha : ARel F w ρ rg a) (h : resAll P rg σ fn.results.toList = some x) (hcs : allP x.2) :
    ∃ cv, (results fn a.tmps).run P w = .ok cv w ∧ VRel F w ρ (resVal x.1) cv := by
  obtain ⟨cvs, h1, h2⟩ := resAll_ok r ha _ h hcs
  have hm : (fn.results.mapM (resSem a.tmps)).run P w = .ok cvs.toArray w := by
    have e : (Array.toList <$> fn.results.mapM (resSem a.tmps)).run P w = .ok cvs w := by rw [Array.toList_mapM]; exact h1
    rw [map_eq_pure_bind, Sem.run_bind] at e
    cases hr : (fn.results.mapM (resSem a.tmps)).run P w with
    | halt y w' => rw [hr] at e; cases e
    | ok y w' =>
      rw [hr] at e
      simp only [Result.andThen, Sem.run_pure, Result.ok.injEq] at e
      obtain ⟨rfl, rfl⟩ := e
      rfl
  have hrun : (results fn a.tmps).run P w = .ok (if h : cvs.toArray.size = 1 then cvs.toArray[0] else .tuple cvs.toArray) w := by
    unfold results
    have e : (fn.results.mapM fun | .tmp t => pure (a.tmps.getD t undef) | .cell c t => do loadVar t (← asAddr (a.tmps.getD c undef))) = fn.results.mapM (resSem a.tmps) := by
      congr 1
    rw [Sem.run_bind]
    erw [e]
    rw [hm]
    rfl
  refine ⟨_, hrun, ?_⟩
  obtain ⟨hl, hp⟩ := h2
  by_cases h1 : cvs.length = 1
  · obtain ⟨c, rfl⟩ := List.length_eq_one_iff.1 h1
    obtain ⟨v, hv⟩ := List.length_eq_one_iff.1 (hl.trans h1)
    rw [hv] at hp ⊢
    exact hp 0 v c rfl rfl
  · rw [dif_neg (by simpa using h1)]
    have : resVal x.1 = .tuple x.1 := by
      unfold resVal
      split
      · rename_i v e; rw [e] at hl; simp at hl; omega
      · rfl
    rw [this]
    exact .tuple _ _ _ (by simpa using hl) fun i v u g1 g2 => hp i v u g1 (by simpa using g2)

end
end Go.Abs
end

section
set_option linter.unusedVariables false
set_option linter.unusedSectionVars false
set_option linter.unusedSimpArgs false
namespace Go.Abs
variable [Glob]

section
variable {N : Nat} {P : Program}

theorem Rel.ext {ρ : RMap} {F : FS} {σ S : AState} {w : World} (r : Rel ρ F σ w) (h : S.take σ.length = σ) : Rel ρ F S w ∧ Tr σ S ρ ρ F F w w := by
  have hlow : ∀ id, id < σ.length → S[id]? = σ[id]? := fun id hlt => by
    have := congrArg (·[id]?) h
    simp only [List.getElem?_take_of_lt hlt] at this
    exact this
  have hin : ∀ id b, ρ id = some b → id < σ.length := fun id b hb => by
    rcases Nat.lt_or_ge id σ.length with h' | h'
    · exact h'
    · rw [r.dom _ h'] at hb; cases hb
  have hinO : ∀ {id x : Nat} {o : AObj}, Own F ρ id o x → id < σ.length := fun {id x o} h => by
    rcases h with h | ⟨_, y, h, _⟩ <;> exact hin _ _ h
  have hlen : σ.length ≤ S.length := by have := congrArg List.length h; rw [List.length_take] at this; omega
  refine ⟨⟨?_, ?_, ?_, r.lt, fun id hid => r.dom id (by omega)⟩, ⟨fun _ _ h => h, fun _ h => h, rfl, rfl, rfl, Nat.le_refl _, fun _ cs _ _ h => ⟨cs, _, h, rfl⟩, fun _ _ _ => rfl, fun _ h => .inl h, fun _ _ h => .inl h, hlen, ?_, .same rfl fun id o' b h1 _ h3 => ⟨id, by rwa [hlow id (hin id b h3)] at h1, h3⟩⟩⟩
  · intro id o b h1 h2
    rw [hlow id (hin id b h2)] at h1
    exact r.obj id o b h1 h2
  · intro id id' o o' b h1 h2 h3 h4 h5 h6
    rw [hlow id (hinO h5)] at h1
    rw [hlow id' (hinO h6)] at h2
    exact r.injO id id' o o' b h1 h2 h3 h4 h5 h6
  · intro b hb
    refine ⟨(r.fr b hb).1, fun ⟨id, o, h1, h2, h3⟩ => ?_⟩
    rw [hlow id (hinO h3)] at h1
    exact (r.fr b hb).2 ⟨id, o, h1, h2, h3⟩
  · intro id o' h1 h2 h3
    rw [hlow id h3] at h1
    exact ⟨o', h1, h2⟩

theorem draw_ok {ops : Array Oper} {st st' : St} {e : AExit} {id : Nat} (hm : P.follows .mixedOrders = true) (hok : okOrd ops = true) (h : evalAny P (owed P N) ops (ancs ops.toList []) 0 ops.toList [] st = .ok (e, st')) (hcs : allP st'.cs)
    (h0 : (inScopeL st.σ.length st.rg && st.σ.all (inScopeO st.σ.length)) = true) : Trip P (.region id ops true) st.rg st.σ e st'.rg st'.σ := by
  intro F w ρ a Q r ha hQ
  obtain ⟨_, vs, rgs, sg, cur, Ts, Ws, k1, k2, k3, k4, k5⟩ := evalAny_ok (ancs ops.toList []) _ 0 [] st st' e st.rg h hcs (REq.refl _)
  rw [Array.length_toList] at k2
  have hc : Chain P ops sg cur rgs vs Ts Ws := fun i o ho => by
    obtain ⟨a1, a2⟩ := k5 i o (by simpa using ho)
    refine ⟨a1, a2.loc, a2.scope, a2.len, fun k hk hb => ?_⟩
    have hp := a2.pairs
    rw [Nat.zero_add, List.nil_append] at hp
    exact pairC_spec (pairsC_get hp k ⟨Ts k, Ws k, sg k, sg (k + 1)⟩ (by rw [List.getElem?_map, List.getElem?_range hk]; rfl) (by rw [Nat.zero_add]; exact hb))
  rw [← k1] at r h0
  obtain ⟨r1, t1⟩ := drew_rel r
  refine wp_region_any hm ?_
  have hle := hc.le (Nat.zero_le ops.size) (Nat.le_refl _)
  obtain ⟨r2, t2⟩ := r1.ext (S := sg 0 ++ List.replicate ((sg ops.size).length - (sg 0).length) .dead) (by simp)
  rw [← k3] at h0
  have hget : ∀ j, (Array.replicate ops.size false).getD j false = false := fun j => by
    rw [Array.getD_eq_getD_getElem?, Array.getElem?_replicate]; split <;> rfl
  have harel : ARel F w.drew ρ (cur 0) a := by rw [k3]; exact ha.tr r (by rw [k1] at t1 ⊢; exact t1)
  refine any_ok (F0 := F) (w0 := w.drew) (ρ0 := ρ) (ha.glob.tr r t1) r1 h0 hc hok (by rw [Array.length_toList] at k4; exact k4) (fun ρ' F' w' a' t r' ha' => ?_) ops.size _ a w.drew ρ F (sg 0 ++ List.replicate ((sg ops.size).length - (sg 0).length) .dead) (by simp) (fun j hj hl => by rw [hget] at hl; cases hl) ?_
  · refine hQ ρ' F' w' a' ?_ (by rw [← k2]; exact r') ha'
    rw [← k1, ← k2]
    exact Tr.trans r t1 t
  · refine ⟨by simp, fun j o hj hl => (by rw [hget] at hl; cases hl), by simp; omega, fun id => ⟨0, Nat.zero_le _, ?_, fun i hi hl => (by rw [hget] at hl; cases hl), fun i _ _ _ => Nat.zero_le _⟩, r2, t2, ?_, harel.size.symm, harel.defers, fun t j o hj hd hl => (by rw [hget] at hl; cases hl), ?_⟩
    · rcases Nat.lt_or_ge id (sg 0).length with hl | hl
      · refine obj_of ?_
        rw [List.getElem?_append_left hl, obj_get hl]
      · rw [obj_none hl]
        unfold obj
        rw [List.getD_eq_getElem?_getD, List.getElem?_append_right hl, List.getElem?_replicate]
        split <;> rfl
    · intro j hj hl id h1 h2
      exact r1.dom id (Nat.le_trans (hc.le (Nat.zero_le j) (by omega)) h1)
    · intro t ht _
      exact (harel.look [t]).2 t (by simp)

theorem plain_ok {ops : Array Oper} {st st' : St} {e : AExit} {id : Nat} (h : evalOps P (owed P N) ops ops.toList st = .ok (e, st')) (hcs : allP st'.cs) : Trip P (.region id ops false) st.rg st.σ e st'.rg st'.σ := by
  intro F w ρ a Q r ha hQ
  obtain ⟨_, m, vs, rgs, sg, cur, k1, k2, k3, k4, k5⟩ := evalOps_ok _ st st' e st.rg h hcs (REq.refl _)
  rw [Array.length_toList] at k4
  refine wp_region ?_
  rw [List.range_eq_range']
  rw [← k1] at r
  rw [← k3] at ha
  refine seq_ok (sg := sg) (cur := cur) (rgs := rgs) (vs := vs) k4 (fun i o hi ho => k5 i _ hi (by simpa using ho)) ops.size 0 (by omega) (Nat.zero_le _) (fun hm => by
    rcases k4 with ⟨h, _⟩ | ⟨t, k, _, h2, _⟩
    · exact h
    · omega) F w ρ a r ha fun ρ' F' w' a' t r' ha' => ?_
  exact hQ ρ' F' w' a' (by rw [← k1, ← k2]; exact t) (by rw [← k2]; exact r') ha'

theorem Trip.imp {c : Code} {rg rg' : Regs} {σ σ' : AState} {e : AExit} {rg0 : Regs} (h : Trip P c rg σ e rg' σ') (hi : RImp rg0 rg) : Trip P c rg0 σ e rg' σ' :=
  fun F w ρ a Q r ha hQ => h F w ρ a Q r (ha.imp hi) hQ
theorem Trip.toN {c : Code} {rg rg' : Regs} {σ σ' : AState} {e : AExit} (h : Trip P c rg σ e rg' σ') : TripN P N c rg σ e rg' σ' :=
  fun hn F w ρ a Q r ha hQ => h F w ρ a Q r ha fun ρ' F' w' a' t r' ha' => hQ ρ' F' w' a' (t.toN r hn) r' ha'
theorem TripN.imp {c : Code} {rg rg' : Regs} {σ σ' : AState} {e : AExit} {rg0 : Regs} (h : TripN P N c rg σ e rg' σ') (hi : RImp rg0 rg) : TripN P N c rg0 σ e rg' σ' :=
  fun hn F w ρ a Q r ha hQ => h hn F w ρ a Q r (ha.imp hi) hQ
theorem TripN.out {c : Code} {rg rg' rg2 : Regs} {σ σ' : AState} {e : AExit} (h : TripN P N c rg σ e rg' σ') (hi : RImp rg' rg2) : TripN P N c rg σ e rg2 σ' :=
  fun hn F w ρ a Q r ha hQ => h hn F w ρ a Q r ha fun ρ' F' w' a' t r' ha' => hQ ρ' F' w' a' t r' (ha'.imp hi)

theorem TripN.seqN {x y : Code} {rg rg1 rg2 : Regs} {σ σ1 σ2 : AState} {e : AExit} (h1 : TripN P N x rg σ .normal rg1 σ1) (h2 : TripN P N y rg1 σ1 e rg2 σ2) : TripN P N (.seq x y) rg σ e rg2 σ2 :=
  fun hn F w ρ a Q r ha hQ => wp_seq (h1 hn F w ρ a _ r ha fun ρ' F' w' a' t r' ha' => h2 t.len F' w' ρ' a' Q r' ha' fun ρ2 F2 w2 a2 t2 r2 ha2 => hQ ρ2 F2 w2 a2 (TrN.trans t t2) r2 ha2)
theorem TripN.seqE {x y : Code} {rg rg1 : Regs} {σ σ1 : AState} {e : AExit} (h1 : TripN P N x rg σ e rg1 σ1) (he : e ≠ .normal) : TripN P N (.seq x y) rg σ e rg1 σ1 :=
  fun hn F w ρ a Q r ha hQ => wp_seq (h1 hn F w ρ a _ r ha fun ρ' F' w' a' t r' ha' => by
    have := hQ ρ' F' w' a' t r' ha'
    cases e with
    | normal => exact absurd rfl he
    | exit id => exact this
    | pan t => exact this
    | ret => exact this)
theorem TripN.cond {c : Operand} {x y : Code} {rg rg1 : Regs} {σ σ1 : AState} {e : AExit} {b : Bool} (hb : Imp (aev rg c) (.tt b)) (h : TripN P N (if b then x else y) rg σ e rg1 σ1) : TripN P N (.cond c x y) rg σ e rg1 σ1 :=
  fun hn F w ρ a Q r ha hQ => wp_cond (t := b) ((hb _ _ _ _ (aev_ok ha c)).tt_inv) (h hn F w ρ a Q r ha hQ)
def AExit.out (id : Nat) : AExit → AExit
  | .exit k => if k == id then .normal else .exit k
  | e => e
theorem TripN.block {id : Nat} {c : Code} {rg rg1 : Regs} {σ σ1 : AState} {e : AExit} (h : TripN P N c rg σ e rg1 σ1) : TripN P N (.block id c) rg σ (e.out id) rg1 σ1 :=
  fun hn F w ρ a Q r ha hQ => wp_block (h hn F w ρ a _ r ha fun ρ' F' w' a' t r' ha' => by
    have := hQ ρ' F' w' a' t r' ha'
    cases e with
    | normal => exact this
    | ret => exact this
    | pan t => exact this
    | exit k =>
      simp only [AExit.real, Exit.inBlock]
      simp only [AExit.out] at this
      by_cases hk : k = id
      · simp only [hk, beq_self_eq_true, if_true] at this ⊢; exact this
      · have hk' : (k == id) = false := by simpa using hk
        simp only [hk, hk', if_false, Bool.false_eq_true] at this ⊢; exact this)

inductive LoopRun (P : Program) (N : Nat) (c : Code) : Regs → AState → AExit → Regs → AState → Prop
  | done {rg σ e rg' σ'} (h : TripN P N c rg σ e rg' σ') (he : e ≠ .normal) : LoopRun P N c rg σ e rg' σ'
  | more {rg σ rg1 σ1 e rg' σ'} (h : TripN P N c rg σ .normal rg1 σ1) (h' : LoopRun P N c rg1 σ1 e rg' σ') : LoopRun P N c rg σ e rg' σ'

theorem LoopRun.run {c : Code} {rg rg' : Regs} {σ σ' : AState} {e : AExit} (h : LoopRun P N c rg σ e rg' σ') : N ≤ σ.length → ∀ (F : FS) (w : World) (ρ : RMap) (a : Act) (Q : Exit → Act → World → Prop), Rel ρ F σ w → ARel F w ρ rg a →
    (∀ ρ' F' w' a', TrN N σ σ' ρ ρ' F F' w w' → Rel ρ' F' σ' w' → ARel F' w' ρ' rg' a' → Q e.real a' w') → ∀ (b : Frame) (k : List Item) (cs : List Frame),
      ∃ e a' w', Q e a' w' ∧ Arrives P (lone (b.at a (.code c :: .inLoop c :: k)) cs w) b k cs e a' w' := by
  induction h with
  | @done rg σ e rg' σ' h he =>
    intro hn F w ρ a Q r ha hQ b k cs
    obtain ⟨e1, a1, w1, hq, harr⟩ := h hn F w ρ a (fun e' a' w' => e' ≠ .normal ∧ Q e' a' w') r ha (fun ρ' F' w' a' t r' ha' => ⟨by cases e <;> simp [AExit.real] at he ⊢, hQ ρ' F' w' a' t r' ha'⟩) b (.inLoop c :: k) cs
    exact ⟨e1, a1, w1, hq.2, .pass (x := .inLoop c) rfl (fun _ _ => .inl hq.1) harr⟩
  | @more rg σ rg1 σ1 e rg' σ' h h' ih =>
    intro hn F w ρ a Q r ha hQ b k cs
    obtain ⟨e1, a1, w1, ⟨rfl, ρ1, F1, t1, r1, ha1⟩, harr⟩ := h hn F w ρ a (fun e' a' w' => e' = .normal ∧ ∃ ρ' F', TrN N σ σ1 ρ ρ' F F' w w' ∧ Rel ρ' F' σ1 w' ∧ ARel F' w' ρ' rg1 a') r ha
      (fun ρ' F' w' a' t r' ha' => ⟨rfl, ρ', F', t, r', ha'⟩) b (.inLoop c :: k) cs
    obtain ⟨e2, a2, w2, hq2, harr2⟩ := ih t1.len F1 w1 ρ1 a1 Q r1 ha1 (fun ρ' F' w' a' t r' ha' => hQ ρ' F' w' a' (TrN.trans t1 t) r' ha') b k cs
    exact ⟨e2, a2, w2, hq2, .of_steps (Steps.trans harr (.one step_inLoop)) harr2⟩

theorem LoopRun.trip {c : Code} {rg rg' : Regs} {σ σ' : AState} {e : AExit} (h : LoopRun P N c rg σ e rg' σ') : TripN P N (.loop c) rg σ e rg' σ' :=
  fun hn F w ρ a Q r ha hQ b k cs => let ⟨e, a', w', q, arr⟩ := h.run hn F w ρ a Q r ha hQ b k cs; ⟨e, a', w', q, .of_steps (.one step_loop) arr⟩

theorem LoopRun.imp {c : Code} {rg rg' rg0 : Regs} {σ σ' : AState} {e : AExit} (h : LoopRun P N c rg σ e rg' σ') (hi : RImp rg0 rg) : LoopRun P N c rg0 σ e rg' σ' := by
  cases h with
  | done h he => exact .done (h.imp hi) he
  | more h h' => exact .more (h.imp hi) h'


theorem Imp.nilSlc (es id es' off : Nat) (cap : Option Nat) : Imp (.fsl true es [] cap) (.slc true id es' off 0 none) := fun F w ρ c hc => by
  cases hc with
  | fnil _ _ _ _ => exact .slcE _ _ _ _ _ _ _ rfl (by simp)

theorem TripN.ext {c : Code} {rg rg' : Regs} {σ σ' S : AState} {e : AExit} (h : TripN P N c rg S e rg' σ') (hS : S.take σ.length = σ) : TripN P N c rg σ e rg' σ' := by
  intro hn F w ρ a Q r ha hQ
  obtain ⟨r1, t1⟩ := r.ext hS
  exact h (Nat.le_trans hn t1.len) F w ρ a Q r1 ha fun ρ' F' w' a' t r' ha' => hQ ρ' F' w' a' ((t1.toN r hn).trans t) r' ha'

def moved (π : List Nat) (ρ : RMap) : RMap := fun i => if i < π.length then ρ (old π i) else none

theorem move_rel {n : Nat} {ρ : RMap} {F : FS} {σ σ' σ2 : AState} {w w' : World} {ρ' : RMap} {F' : FS} {π : List Nat} {vs : List AVal} (t : TrN n σ σ' ρ ρ' F F' w w') (r : Rel ρ' F' σ' w')
    (hh : π.map (fun j => σ'[j]?) = σ2.map fun o => some (renO (old π) o)) (ok : okMove n π σ'.length vs σ2 = true) :
    TrN n σ σ2 ρ (moved π ρ') F F' w w' ∧ Rel (moved π ρ') F' σ2 w' := by
  unfold okMove at ok
  simp only [Bool.and_eq_true, decide_eq_true_eq, beq_iff_eq] at ok
  obtain ⟨⟨⟨⟨⟨hnd, hlt⟩, hn⟩, htk⟩, _⟩, hsO⟩ := ok
  have hlen : π.length = σ2.length := by have := congrArg List.length hh; simpa using this
  have hget : ∀ i o, σ2[i]? = some o → i < π.length ∧ σ'[old π i]? = some (renO (old π) o) := fun i o ho => by
    have hi : i < π.length := by rw [hlen]; exact (List.getElem?_eq_some_iff.1 ho).1
    refine ⟨hi, ?_⟩
    have := congrArg (·[i]?) hh
    simp only [List.getElem?_map, ho, Option.map_some] at this
    have hp : π[i]? = some (old π i) := by unfold old; rw [List.getD_eq_getElem?_getD, List.getElem?_eq_getElem hi]; rfl
    rw [hp] at this
    simpa using this
  have hinj : ∀ i j, i < π.length → j < π.length → old π i = old π j → i = j := fun i j hi hj he => nodupB_inj hnd i j hi hj he
  have hlow : ∀ i, i < n → old π i = i := fun i hi => by
    have h1 := congrArg (·[i]?) htk
    simp only [List.getElem?_take_of_lt hi, List.getElem?_range hi] at h1
    unfold old
    rw [List.getD_eq_getElem?_getD, h1]; rfl
  have hhigh : ∀ i, n ≤ i → i < π.length → n ≤ old π i := fun i hi hl => by
    rcases Nat.lt_or_ge (old π i) n with h | h
    · have := hinj i (old π i) hl (by omega) (hlow _ h).symm
      omega
    · exact h
  have hsome : ∀ {i b}, moved π ρ' i = some b → i < π.length ∧ ρ' (old π i) = some b := fun {i b} h => by
    unfold moved at h; split at h
    · exact ⟨by assumption, h⟩
    · cases h
  have hof : ∀ {i b}, i < π.length → ρ' (old π i) = some b → moved π ρ' i = some b := fun {i b} hi h => by unfold moved; rw [if_pos hi]; exact h
  have hOm : ∀ {i x : Nat} {o : AObj}, Own F' (moved π ρ') i o x → Own F' ρ' (old π i) (renO (old π) o) x := fun {i x o} h => by
    rcases h with h | ⟨hg, y, h, hy⟩
    · exact .inl (hsome h).2
    · exact .inr ⟨by rw [renO_isGh]; exact hg, y, (hsome h).2, hy⟩
  have hLive : ∀ b, Live F' (moved π ρ') σ2 b → Live F' ρ' σ' b := fun b ⟨i, o, h1, h2, h3⟩ => ⟨old π i, _, (hget i o h1).2, by rw [renO_live]; exact h2, hOm h3⟩
  refine ⟨⟨fun id b h1 h2 => hof (by omega) (by rw [hlow id h1]; exact t.map id b h1 h2), t.frz, t.os, t.tape, t.output, t.size, t.row, t.keep, t.newF, fun id b h1 h2 => ?_, fun id o' b h1 h2 h3 h4 => ?_, by omega, fun id o' h1 h2 h3 => ?_, ⟨t.gho.keepO, fun id o' b x h1 h2 h3 h4 => ?_⟩⟩,
    ⟨fun id o b h1 h2 => ?_, fun id id' o o' b h1 h2 h3 h4 h5 h6 => ?_, fun b hb => ⟨(r.fr b hb).1, fun hl => (r.fr b hb).2 (hLive b hl)⟩, fun id b h => r.lt _ b (hsome h).2, fun id h => by unfold moved; rw [if_neg (by omega)]⟩⟩
  · have := (hsome h2).2
    rw [hlow id h1] at this
    exact t.back id b h1 this
  · obtain ⟨g1, g2⟩ := hget id o' h2
    exact t.newρ (old π id) _ b (hhigh id h1 g1) g2 (by rw [renO_live]; exact h3) (hsome h4).2
  · obtain ⟨g1, g2⟩ := hget id o' h1
    rw [hlow id h3] at g2
    exact t.live id _ g2 (by rw [renO_live]; exact h2) h3
  · obtain ⟨g1, g2⟩ := hget id o' h1
    exact t.gho.newO (old π id) _ b x g2 (by rw [renO_isGh]; exact h2) (hsome h3).2 h4
  · obtain ⟨g1, g2⟩ := hget id o h1
    exact ORel.unren (k := σ2.length) (r.obj _ _ b g2 (hsome h2).2) (fun i b hi h => hof (by omega) h) (List.all_eq_true.1 hsO o (List.mem_of_getElem? h1))
  · obtain ⟨g1, g2⟩ := hget id o h1
    obtain ⟨k1, k2⟩ := hget id' o' h2
    exact hinj id id' g1 k1 (r.injO _ _ _ _ b g2 k2 (by rw [renO_live]; exact h3) (by rw [renO_live]; exact h4) (hOm h5) (hOm h6))

theorem move_val {F : FS} {w : World} {ρ : RMap} {π : List Nat} {k : Nat} {v2 : AVal} {c : Value} (h : VRel F w ρ (ren (old π) v2) c) (hk : k ≤ π.length) (hs : inScope k v2 = true) : VRel F w (moved π ρ) v2 c :=
  VRel.unren (k := k) h (fun i b hi h => by unfold moved; rw [if_pos (by omega)]; exact h) v2 rfl hs

theorem keepR_cell : ∀ (m : List Bool) (rg : Regs), (keepR m rg).length = rg.length ∧ ∀ t, (keepR m rg).getD t .any = rg.getD t .any ∨ (keepR m rg).getD t .any = .any
  | true :: bs, v :: vs => ⟨by simp [keepR, (keepR_cell bs vs).1], fun t => by
      cases t with
      | zero => exact .inl rfl
      | succ t => simpa [keepR] using (keepR_cell bs vs).2 t⟩
  | false :: bs, v :: vs => ⟨by simp [keepR, (keepR_cell bs vs).1], fun t => by
      cases t with
      | zero => exact .inr rfl
      | succ t => simpa [keepR] using (keepR_cell bs vs).2 t⟩
  | [], v :: vs => ⟨by simp [keepR, (keepR_cell [] vs).1], fun t => by
      cases t with
      | zero => exact .inr rfl
      | succ t => simpa [keepR] using (keepR_cell [] vs).2 t⟩
  | [], [] => ⟨rfl, fun t => .inr (by simp [keepR])⟩
  | true :: bs, [] => ⟨rfl, fun t => .inr (by simp [keepR])⟩
  | false :: bs, [] => ⟨rfl, fun t => .inr (by simp [keepR])⟩
theorem keepR_imp (m : List Bool) (rg : Regs) : RImp rg (keepR m rg) := by
  refine ⟨(keepR_cell m rg).1.symm, fun t => ?_⟩
  rcases (keepR_cell m rg).2 t with h | h
  · rw [h]; exact Imp.refl _
  · rw [h]; exact fun F w ρ c hc => .any _ _

theorem ARel.move {F : FS} {w : World} {ρ : RMap} {rg rg2 : Regs} {a : Act} {π : List Nat} {k : Nat} (h : ARel F w ρ rg a) {m : List Bool} (hr : keepR m rg = renL (old π) rg2) (hk : k ≤ π.length) (hs : inScopeL k rg2 = true) : ARel F w (moved π ρ) rg2 a := by
  have h2 := h.imp (keepR_imp m rg)
  rw [hr] at h2
  refine ⟨by have := h2.size; rw [renL_length] at this; exact this, fun i v u h1 hu => ?_, h2.defers, h2.glob⟩
  exact move_val (h2.val i (ren (old π) v) u (by rw [renL_get, h1]; rfl) hu) hk (scopeL hs i v h1)


theorem TrN.refl (n : Nat) (σ : AState) (ρ : RMap) (F : FS) (w : World) (r : Rel ρ F σ w) (h : n ≤ σ.length) : TrN n σ σ ρ ρ F F w w := (Tr.refl σ ρ F w).toN r h

theorem TripN.pre {c : Code} {rg rg' rg2 : Regs} {σ σ' σ2 : AState} {e : AExit} (h : TripN P N c rg2 σ2 e rg' σ') (m : List Bool) (π : List Nat) (hr : keepR m rg = renL (old π) rg2)
    (hh : π.map (fun j => σ[j]?) = σ2.map fun o => some (renO (old π) o)) (ok : okMove N π σ.length rg2 σ2 = true) : TripN P N c rg σ e rg' σ' := by
  intro hn F w ρ a Q r ha hQ
  obtain ⟨t2, r2⟩ := move_rel (TrN.refl N σ ρ F w r hn) r hh ok
  have hlen : π.length = σ2.length := by have := congrArg List.length hh; simpa using this
  have ok2 := ok
  unfold okMove at ok
  simp only [Bool.and_eq_true] at ok
  exact h t2.len F w _ a Q r2 (ha.move hr (Nat.le_of_eq hlen.symm) ok.1.2) fun ρ' F' w' a' t r' ha' => hQ ρ' F' w' a' (t2.trans t) r' ha'

theorem Rel.weakCell {ρ : RMap} {F : FS} {σ : AState} {w : World} (r : Rel ρ F σ w) {id es' : Nat} {rs : List (List AVal)} {i j : Nat} {v' : AVal} (ho : Abs.obj σ id = .rows false es' rs) (hi : Imp ((rs.getD i []).getD j .any) v') :
    Rel ρ F (σ.set id (.rows false es' (rs.set i ((rs.getD i []).set j v')))) w ∧ Tr σ (σ.set id (.rows false es' (rs.set i ((rs.getD i []).set j v')))) ρ ρ F F w w := by
  have hid := obj_some ho rfl
  have hlt := (List.getElem?_eq_some_iff.1 hid).1
  have hcase : ∀ x o', (σ.set id (.rows false es' (rs.set i ((rs.getD i []).set j v'))))[x]? = some o' → (x = id ∧ o' = .rows false es' (rs.set i ((rs.getD i []).set j v'))) ∨ (x ≠ id ∧ σ[x]? = some o') := by
    intro x o' h
    rw [List.getElem?_set] at h
    by_cases e : id = x
    · subst e; simp only [if_true, hlt] at h; exact .inl ⟨rfl, by simpa using h.symm⟩
    · simp only [e, if_false] at h; exact .inr ⟨fun e' => e e'.symm, h⟩
  have hback : ∀ (x : Nat) (o' : AObj), (σ.set id (.rows false es' (rs.set i ((rs.getD i []).set j v'))))[x]? = some o' → o'.live = true → ∃ o : AObj, σ[x]? = some o ∧ o.live = true := by
    intro x o' h1 h2
    rcases hcase x o' h1 with ⟨rfl, _⟩ | ⟨_, h⟩
    · exact ⟨_, hid, rfl⟩
    · exact ⟨o', h, h2⟩
  have hownb : ∀ (x : Nat) (o' : AObj) (z : Nat), (σ.set id (.rows false es' (rs.set i ((rs.getD i []).set j v'))))[x]? = some o' → o'.live = true → Own F ρ x o' z → ∃ o : AObj, σ[x]? = some o ∧ o.live = true ∧ Own F ρ x o z := by
    intro x o' z h1 h2 h3
    rcases hcase x o' h1 with ⟨rfl, rfl⟩ | ⟨_, h⟩
    · exact ⟨_, hid, rfl, .inl (h3.root rfl)⟩
    · exact ⟨o', h, h2, h3⟩
  refine ⟨⟨?_, ?_, ?_, r.lt, fun id h => r.dom id (by simpa using h)⟩, ⟨fun _ _ h => h, fun _ h => h, rfl, rfl, rfl, Nat.le_refl _, fun _ cs _ _ h => ⟨cs, _, h, rfl⟩, fun _ _ _ => rfl, fun _ h => .inl h, fun _ _ h => .inl h, by simp, fun x o' h1 h2 _ => hback x o' h1 h2, .same rfl fun x o' y h1 h2 h3 => ?_⟩⟩
  · intro x o' y h1 h2
    rcases hcase x o' h1 with ⟨rfl, rfl⟩ | ⟨hne, h⟩
    · obtain ⟨cs, T, fr, k1, k2, k3, k4, k5⟩ := r.obj _ _ _ hid h2
      refine ⟨cs, T, fr, k1, k2, by simpa using k3, fun i' row e => ?_, fun i' j' row v e1 e2 => ?_⟩
      · rw [List.getElem?_set] at e
        by_cases hii : i = i'
        · subst hii
          by_cases hil : i < rs.length
          · simp only [if_true, hil] at e
            cases e
            rw [List.length_set]
            have hrow : rs[i]? = some rs[i] := List.getElem?_eq_getElem hil
            have hD : rs.getD i [] = rs[i] := by rw [List.getD_eq_getElem?_getD, hrow]; rfl
            rw [hD]; exact k4 i _ hrow
          · simp only [if_true, hil, if_false] at e; cases e
        · simp only [hii, if_false] at e; exact k4 i' row e
      · rw [List.getElem?_set] at e1
        by_cases hii : i = i'
        · subst hii
          by_cases hil : i < rs.length
          · simp only [if_true, hil] at e1
            cases e1
            have hrow : rs[i]? = some rs[i] := List.getElem?_eq_getElem hil
            have hD : rs.getD i [] = rs[i] := by rw [List.getD_eq_getElem?_getD, hrow]; rfl
            rw [List.getElem?_set] at e2
            by_cases hjj : j = j'
            · subst hjj
              split at e2
              · split at e2
                · rename_i hjl2
                  cases e2
                  rw [hD] at hjl2 hi
                  obtain ⟨cv, g1, g2⟩ := k5 i j _ (rs[i].getD j .any) hrow (by rw [List.getD_eq_getElem?_getD, List.getElem?_eq_getElem hjl2]; rfl)
                  exact ⟨cv, g1, hi _ _ _ _ g2⟩
                · cases e2
              · rename_i hne; exact absurd rfl hne
            · simp only [hjj, if_false] at e2
              rw [hD] at e2
              exact k5 i j' _ v hrow e2
          · simp only [if_true, hil, if_false] at e1; cases e1
        · simp only [hii, if_false] at e1; exact k5 i' j' row v e1 e2
    · exact r.obj x o' y h h2
  · intro x y o1 o2 z h1 h2 h3 h4 h5 h6
    obtain ⟨p1, e1, e2, e5⟩ := hownb x o1 z h1 h3 h5
    obtain ⟨p2, e3, e4, e6⟩ := hownb y o2 z h2 h4 h6
    exact r.injO _ _ _ _ _ e1 e3 e2 e4 e5 e6
  · intro x hx
    refine ⟨(r.fr x hx).1, ?_⟩
    rintro ⟨y, o', h1, h2, h3⟩
    obtain ⟨o, e1, e2, e3⟩ := hownb y o' x h1 h2 h3
    exact (r.fr x hx).2 ⟨y, o, e1, e2, e3⟩
  · rcases hcase x o' h1 with ⟨rfl, rfl⟩ | ⟨_, h⟩
    · cases h2
    · exact ⟨x, h, h3⟩

theorem TripN.weakCell {c : Code} {rg rg' : Regs} {σ σ' : AState} {e : AExit} {id es' : Nat} {rs : List (List AVal)} {i j : Nat} {v' : AVal} (h : TripN P N c rg (σ.set id (.rows false es' (rs.set i ((rs.getD i []).set j v')))) e rg' σ') (ho : Abs.obj σ id = .rows false es' rs) (hi : Imp ((rs.getD i []).getD j .any) v') : TripN P N c rg σ e rg' σ' := by
  intro hn F w ρ a Q r ha hQ
  obtain ⟨r1, t1⟩ := r.weakCell ho hi
  exact h (Nat.le_trans hn t1.len) F w ρ a Q r1 ha fun ρ' F' w' a' t r' ha' => hQ ρ' F' w' a' ((t1.toN r hn).trans t) r' ha'

theorem Rel.lift {ρ : RMap} {F : FS} {σ : AState} {w : World} (r : Rel ρ F σ w) {i : Nat} (hi : (Abs.obj σ i).live = true) :
    Rel (fun j => if j = σ.length then ρ i else ρ j) F (liftH i σ) w ∧ Tr σ (liftH i σ) ρ (fun j => if j = σ.length then ρ i else ρ j) F F w w ∧
      ∀ j b, ρ j = some b → (fun j => if j = σ.length then ρ i else ρ j) (liftE i σ.length j) = some b := by
  have hil : i < σ.length := Classical.byContradiction fun h => by rw [obj_none (Nat.not_lt.1 h)] at hi; cases hi
  have hio : σ[i]? = some (Abs.obj σ i) := obj_get hil
  have hlen : (liftH i σ).length = σ.length + 1 := by simp [liftH]
  have hne : ∀ j b, ρ j = some b → j ≠ σ.length := fun j b h e => by rw [r.dom j (by omega)] at h; cases h
  have hE : ∀ j b, ρ j = some b → (fun j => if j = σ.length then ρ i else ρ j) (liftE i σ.length j) = some b := fun j b h => by
    unfold liftE
    by_cases e : j = i
    · subst e; simp [h]
    · have : (j == i) = false := by simpa using e
      rw [this]
      simp only [Bool.false_eq_true, if_false]
      rw [if_neg (hne j b h)]; exact h
  have hget : ∀ j o, (liftH i σ)[j]? = some o → (j = σ.length ∧ o = renO (liftE i σ.length) (Abs.obj σ i)) ∨ (j = i ∧ o = .dead) ∨ (j < σ.length ∧ j ≠ i ∧ ∃ o0, σ[j]? = some o0 ∧ o = renO (liftE i σ.length) o0) := fun j o h => by
    have hjl : j < (liftH i σ).length := (List.getElem?_eq_some_iff.1 h).1
    unfold liftH at h
    rcases Nat.lt_or_ge j σ.length with hl | hl
    · rw [List.getElem?_append_left (by simpa using hl), List.getElem?_set] at h
      by_cases e : i = j
      · subst e
        simp [hl] at h
        exact .inr (.inl ⟨rfl, h.symm⟩)
      · rw [if_neg e, List.getElem?_map] at h
        rw [Option.map_eq_some_iff] at h
        obtain ⟨o0, h1, h2⟩ := h
        exact .inr (.inr ⟨hl, fun e' => e e'.symm, o0, h1, h2.symm⟩)
    · have : j = σ.length := by omega
      subst this
      rw [List.getElem?_append_right (by simp)] at h
      simp at h
      exact .inl ⟨rfl, h.symm⟩
  -- what is there stems from what was there
  have hold : ∀ j o b, (liftH i σ)[j]? = some o → o.live = true → (if j = σ.length then ρ i else ρ j) = some b → ∃ k o0, σ[k]? = some o0 ∧ o = renO (liftE i σ.length) o0 ∧ ρ k = some b ∧ j = liftE i σ.length k := fun j o b h hl hb => by
    rcases hget j o h with ⟨rfl, rfl⟩ | ⟨rfl, rfl⟩ | ⟨h1, h2, o0, h3, rfl⟩
    · rw [if_pos rfl] at hb
      exact ⟨i, _, hio, rfl, hb, by simp [liftE]⟩
    · cases hl
    · rw [if_neg (by omega)] at hb
      exact ⟨j, o0, h3, rfl, hb, by simp [liftE, h2]⟩
  have holdO : ∀ j o x, (liftH i σ)[j]? = some o → o.live = true → Own F (fun j => if j = σ.length then ρ i else ρ j) j o x → ∃ k o0, σ[k]? = some o0 ∧ o = renO (liftE i σ.length) o0 ∧ Own F ρ k o0 x ∧ j = liftE i σ.length k := fun j o x h hl hb => by
    rcases hb with hb | ⟨hg, y, hb, hy⟩
    · obtain ⟨k, o0, k1, k2, k3, k4⟩ := hold j o x h hl hb
      exact ⟨k, o0, k1, k2, .inl k3, k4⟩
    · obtain ⟨k, o0, k1, k2, k3, k4⟩ := hold j o y h hl hb
      exact ⟨k, o0, k1, k2, .inr ⟨by rw [k2, renO_isGh] at hg; exact hg, y, k3, hy⟩, k4⟩
  refine ⟨⟨fun j o b h1 h2 => ?_, fun j j' o o' b h1 h2 h3 h4 h5 h6 => ?_, fun b hb => ⟨(r.fr b hb).1, fun ⟨j, o, h1, h2, h3⟩ => ?_⟩, fun j b h => ?_, fun j h => ?_⟩,
    ⟨fun j b h => ?_, fun _ h => h, rfl, rfl, rfl, Nat.le_refl _, fun _ cs _ _ h => ⟨cs, _, h, rfl⟩, fun _ _ _ => rfl, fun _ h => .inl h, fun j b h => ?_, by omega, fun j o' h1 h2 h3 => ?_, .same rfl fun j o' y h1 h2 h3 => ?_⟩, hE⟩
  · cases hl : o.live with
    | false => cases o <;> simp [AObj.live] at hl; trivial
    | true =>
      obtain ⟨k, o0, k1, rfl, k3, _⟩ := hold j o b h1 hl h2
      exact (r.obj k o0 b k1 k3).ren hE
  · obtain ⟨k, o0, k1, rfl, k3, rfl⟩ := holdO j o b h1 h3 h5
    obtain ⟨k', o0', k1', rfl, k3', rfl⟩ := holdO j' o' b h2 h4 h6
    rw [renO_live] at h3 h4
    rw [r.injO k k' o0 o0' b k1 k1' h3 h4 k3 k3']
  · obtain ⟨k, o0, k1, rfl, k3, _⟩ := holdO j o b h1 h2 h3
    rw [renO_live] at h2
    exact (r.fr b hb).2 ⟨k, o0, k1, h2, k3⟩
  · try dsimp only at h
    split at h
    · exact r.lt _ b h
    · exact r.lt _ b h
  · rw [hlen] at h
    try dsimp only
    rw [if_neg (by omega)]
    exact r.dom j (by omega)
  · try dsimp only
    rw [if_neg (hne j b h)]; exact h
  · try dsimp only at h
    split at h
    · rename_i e
      exact .inr ⟨by omega, .inr ⟨i, _, hio, hi, .inl h⟩⟩
    · exact .inl h
  · rcases hget j o' h1 with ⟨rfl, _⟩ | ⟨rfl, rfl⟩ | ⟨_, _, o0, k1, rfl⟩
    · omega
    · cases h2
    · rw [renO_live] at h2; exact ⟨o0, k1, h2⟩
  · obtain ⟨k, o0, k1, k2, k3, _⟩ := hold j o' y h1 (AObj.isGh_live h2) h3
    subst k2
    refine ⟨k, ?_, k3⟩
    rw [renO_gh0 (by rw [renO_isGh] at h2; exact h2)]
    exact k1
theorem ARel.ren {F : FS} {w : World} {ρ ρ' : RMap} {rg : Regs} {a : Act} {E : Nat → Nat} (h : ARel F w ρ rg a) (hE : ∀ j b, ρ j = some b → ρ' (E j) = some b) : ARel F w ρ' (renL E rg) a := by
  refine ⟨by rw [renL_length]; exact h.size, fun i v u h1 h2 => ?_, h.defers, h.glob⟩
  rw [renL_get, Option.map_eq_some_iff] at h1
  obtain ⟨v0, h3, rfl⟩ := h1
  exact (h.val i v0 u h3 h2).ren hE
theorem TripN.lift {c : Code} {rg rg' : Regs} {σ σ' : AState} {e : AExit} {i : Nat} (h : TripN P N c (renL (liftE i σ.length) rg) (liftH i σ) e rg' σ') (hi : (Abs.obj σ i).live = true) : TripN P N c rg σ e rg' σ' := by
  intro hn F w ρ a Q r ha hQ
  obtain ⟨r1, t1, hE⟩ := r.lift hi
  exact h (Nat.le_trans hn t1.len) F w _ a Q r1 (ha.ren hE) fun ρ' F' w' a' t r' ha' => hQ ρ' F' w' a' ((t1.toN r hn).trans t) r' ha'

theorem placed_ok {c : Code} {rg' : Regs} {σ' : AState} {e : AExit} : ∀ (s : List Dec) (rg : Regs) (σ : AState), TripN P N c (placed N s rg σ).rg (placed N s rg σ).σ e rg' σ' → TripN P N c rg σ e rg' σ'
  | [], rg, σ, h => h
  | .place t es p :: s, rg, σ, h => by
    simp only [placed] at h
    split at h
    · rename_i hg
      have h1 := placed_ok s _ _ h
      refine (h1.ext (by simp)).imp (RImp.set ?_)
      rw [hg]; exact Imp.nilSlc _ _ _ _ _
    · exact h
  | .placeH id i j es p :: s, rg, σ, h => by
    simp only [placed] at h
    split at h
    · rename_i es' rs ho
      split at h
      · rename_i hg
        have h1 := placed_ok s _ _ h
        refine (h1.ext List.take_left).weakCell ho ?_
        rw [hg]; exact Imp.nilSlc _ _ _ _ _
      · exact h
    · exact h
  | .compact m π :: s, rg, σ, h => by
    simp only [placed] at h
    split at h
    · rename_i hc
      rw [Bool.and_eq_true, Bool.and_eq_true] at hc
      obtain ⟨⟨c1, c2⟩, c3⟩ := hc
      refine (placed_ok s _ _ h).pre m π (renL_back _ c2).symm ?_ c1
      rw [List.map_map]
      refine List.map_congr_left fun j hj => ?_
      have hlt : j < σ.length := by
        unfold okMove at c1
        simp only [Bool.and_eq_true] at c1
        have := List.all_eq_true.1 c1.1.1.1.1.2 j hj
        simpa using this
      show σ[j]? = some (renO (old π) (renO (invId π) (obj σ j)))
      rw [renO_back (List.all_eq_true.1 c3 j hj)]
      unfold obj
      rw [List.getD_eq_getElem?_getD, List.getElem?_eq_getElem hlt]; rfl
    · exact h
  | .br _ :: s, rg, σ, h => h
  | .call _ _ :: s, rg, σ, h => h
  | .lift i :: s, rg, σ, h => by
    simp only [placed] at h
    split at h
    · rename_i hi
      exact (placed_ok s _ _ h).lift hi
    · exact h
  | .rw _ :: s, rg, σ, h => h
  | .rwl _ :: s, rg, σ, h => h
  | .go :: s, rg, σ, h => h
  | .unroll _ :: s, rg, σ, h => h
  | .use _ _ _ _ _ :: s, rg, σ, h => h
  | .loop _ _ _ :: s, rg, σ, h => h

theorem iterC_ok {c : Code} {ev : St → Res (AExit × St)} (hev : ∀ (st st' : St) (e : AExit), ev st = .ok (e, st') → allP st'.cs → (∃ new, st'.cs = new ++ st.cs) ∧ TripN P N c st.rg st.σ e st'.rg st'.σ) :
    ∀ (n : Nat) (st st' : St) (e : AExit), iterC ev n st = .ok (e, st') → allP st'.cs → (∃ new, st'.cs = new ++ st.cs) ∧ LoopRun P N c st.rg st.σ e st'.rg st'.σ
  | 0, st, st', e, h, _ => by cases h
  | n + 1, st, st', e, h, hcs => by
    simp only [iterC] at h
    obtain ⟨⟨e1, st1⟩, h1, h2⟩ := Res.then_ok h
    cases e1 with
    | normal =>
      obtain ⟨⟨n2, hn2⟩, t2⟩ := iterC_ok hev n st1 st' e h2 hcs
      obtain ⟨⟨n1, hn1⟩, t1⟩ := hev st st1 .normal h1 (fun p hp => hcs p (by rw [hn2]; exact List.mem_append_right _ hp))
      exact ⟨⟨n2 ++ n1, by rw [hn2, hn1]; simp⟩, .more t1 t2⟩
    | exit k =>
      cases h2
      obtain ⟨s1, t1⟩ := hev st st1 (.exit k) h1 hcs
      exact ⟨s1, .done t1 (by simp)⟩
    | ret =>
      cases h2
      obtain ⟨s1, t1⟩ := hev st st1 .ret h1 hcs
      exact ⟨s1, .done t1 (by simp)⟩
    | pan t =>
      cases h2
      obtain ⟨s1, t1⟩ := hev st st1 (.pan t) h1 hcs
      exact ⟨s1, .done t1 (by simp)⟩

theorem evalC_ok (hm : P.follows .mixedOrders = true) : ∀ (c : Code) (st st' : St) (e : AExit), evalC P (owed P N) c st = .ok (e, st') → allP st'.cs → (∃ new, st'.cs = new ++ st.cs) ∧ TripN P N c st.rg st.σ e st'.rg st'.σ := by
  have suf : ∀ {a b : List Prop}, (∃ new, a = new ++ b) → allP a → allP b := fun ⟨new, hn⟩ h p hp => h p (by rw [hn]; exact List.mem_append_right _ hp)
  intro c
  induction c with
  | skip =>
    intro st st' e h hcs
    cases h
    exact ⟨⟨[], rfl⟩, Trip.toN fun F w ρ a Q r ha hQ => wp_skip (hQ ρ F w a (Tr.refl _ _ _ _) r ha)⟩
  | label l =>
    intro st st' e h hcs
    cases h
    exact ⟨⟨[], rfl⟩, Trip.toN fun F w ρ a Q r ha hQ => wp_label (hQ ρ F w a (Tr.refl _ _ _ _) r ha)⟩
  | exit id =>
    intro st st' e h hcs
    cases h
    exact ⟨⟨[], rfl⟩, Trip.toN fun F w ρ a Q r ha hQ => wp_exit (hQ ρ F w a (Tr.refl _ _ _ _) r ha)⟩
  | ret =>
    intro st st' e h hcs
    cases h
    exact ⟨⟨[], rfl⟩, Trip.toN fun F w ρ a Q r ha hQ => wp_ret (hQ ρ F w a (Tr.refl _ _ _ _) r ha)⟩
  | region id ops draw =>
    intro st st' e h hcs
    simp only [evalC] at h
    cases draw with
    | true =>
      simp only [if_true] at h
      split at h
      · rename_i hok
        obtain ⟨⟨e1, st1⟩, h1, h2⟩ := Res.then_ok h
        rw [forceSt_eq] at h2
        cases h2
        obtain ⟨⟨new, hn⟩, _⟩ := evalAny_ok (ancs ops.toList []) _ _ _ _ _ _ _ h1 hcs (REq.refl _)
        have h0 := suf ⟨new, hn⟩ hcs
        have hd := draw_ok (id := id) hm hok h1 hcs h0.cons.1
        exact ⟨⟨new ++ [(inScopeL st.σ.length st.rg && st.σ.all (inScopeO st.σ.length)) = true], by rw [hn, List.append_assoc]; rfl⟩, hd.toN⟩
      · cases h
    | false =>
      simp only [Bool.false_eq_true, if_false] at h
      obtain ⟨⟨e1, st1⟩, h1, h2⟩ := Res.then_ok h
      rw [forceSt_eq] at h2
      cases h2
      obtain ⟨hs, _⟩ := evalOps_ok _ _ _ _ _ h1 hcs (REq.refl _)
      exact ⟨hs, (plain_ok h1 hcs).toN⟩
  | seq x y ihx ihy =>
    intro st st' e h hcs
    simp only [evalC] at h
    obtain ⟨⟨e1, st1⟩, h1, h2⟩ := Res.then_ok h
    cases e1 with
    | normal =>
      obtain ⟨s2, t2⟩ := ihy st1 st' e h2 hcs
      obtain ⟨⟨n1, hn1⟩, t1⟩ := ihx st st1 .normal h1 (suf s2 hcs)
      obtain ⟨n2, hn2⟩ := s2
      exact ⟨⟨n2 ++ n1, by rw [hn2, hn1]; simp⟩, t1.seqN t2⟩
    | exit k =>
      cases h2
      obtain ⟨s1, t1⟩ := ihx st st1 (.exit k) h1 hcs
      exact ⟨s1, t1.seqE (by simp)⟩
    | ret =>
      cases h2
      obtain ⟨s1, t1⟩ := ihx st st1 .ret h1 hcs
      exact ⟨s1, t1.seqE (by simp)⟩
    | pan t =>
      cases h2
      obtain ⟨s1, t1⟩ := ihx st st1 (.pan t) h1 hcs
      exact ⟨s1, t1.seqE (by simp)⟩
  | cond c x y ihx ihy =>
    intro st st' e h hcs
    simp only [evalC] at h
    obtain ⟨⟨b, st1⟩, h1, h2⟩ := Res.then_ok h
    dsimp only at h2
    have fin : ∀ (z : Code), (∀ (st st' : St) (e : AExit), evalC P (owed P N) z st = .ok (e, st') → allP st'.cs → (∃ new, st'.cs = new ++ st.cs) ∧ TripN P N z st.rg st.σ e st'.rg st'.σ) → evalC P (owed P N) z st1 = .ok (e, st') → (if b then x else y) = z →
        (∃ new, st'.cs = new ++ st.cs) ∧ TripN P N (.cond c x y) st.rg st.σ e st'.rg st'.σ := by
      intro z ih hz hbz
      obtain ⟨⟨n2, hn2⟩, t2⟩ := ih st1 st' e hz hcs
      obtain ⟨g1, g2, g3, n1, hn1⟩ := ask_ok h1 (by intro t ht; cases c <;> simp [tmpOf] at ht; subst ht; rfl) (suf ⟨n2, hn2⟩ hcs)
      refine ⟨⟨n2 ++ n1, by rw [hn2, hn1]; simp⟩, TripN.cond (b := b) g3 ?_⟩
      rw [hbz, ← g2]
      exact t2.imp g1.1
    cases b with
    | true => exact fin x ihx (by simpa using h2) rfl
    | false => exact fin y ihy (by simpa using h2) rfl
  | block id c ih =>
    intro st st' e h hcs
    simp only [evalC] at h
    obtain ⟨⟨e1, st1⟩, h1, h2⟩ := Res.then_ok h
    have hst : st1 = st' ∧ e1.out id = e := by
      cases e1 with
      | normal => cases h2; exact ⟨rfl, rfl⟩
      | ret => cases h2; exact ⟨rfl, rfl⟩
      | pan t => cases h2; exact ⟨rfl, rfl⟩
      | exit k => cases h2; exact ⟨rfl, rfl⟩
    obtain ⟨rfl, rfl⟩ := hst
    obtain ⟨s1, t1⟩ := ih st st1 e1 h1 hcs
    exact ⟨s1, t1.block⟩
  | loop c ih =>
    intro st st' e h hcs
    simp only [evalC] at h
    split at h
    · cases h
      exact ⟨⟨[_], rfl⟩, placed_ok st.s st.rg st.σ hcs.cons.1⟩
    · obtain ⟨s1, t1⟩ := iterC_ok ih _ _ _ _ h hcs
      exact ⟨s1, placed_ok st.s st.rg st.σ t1.trip⟩
    · cases h
  | _ => intro st st' e h hcs; simp only [evalC] at h; cases h

structure FRes where
  v : AVal
  σ : AState
  cs : List Prop

def finF (P : Program) (fn : Func) (p : AExit × St) : Res FRes :=
  match p.1 with
  | .exit _ => .no .odd
  | .pan t => .ok ⟨.pan t, p.2.σ, p.2.cs⟩
  | _ =>
    match resAll P p.2.rg p.2.σ fn.results.toList with
    | some x => .ok ⟨resVal (normTs P fn.resultTypes.toList x.1), p.2.σ, x.2 ++ p.2.cs⟩
    | none => .no (.bad default p.2.rg p.2.σ)
def evalF (P : Program) (fn : Func) (as : List AVal) (σ : AState) (s : List Dec) : Res FRes :=
  match fn.body with
  | none => .no .odd
  | some c => (evalC P (owed P σ.length) c ⟨as ++ List.replicate (fn.ntmps - as.length) aundef, σ, s, []⟩).then (finF P fn)

theorem resVal_ok {F : FS} {w : World} {ρ : RMap} {xs ys : List AVal} {c : Value} (hi : ∀ cs, PW F w ρ xs cs → PW F w ρ ys cs) (hl : xs.length = ys.length) (h : VRel F w ρ (resVal xs) c) : VRel F w ρ (resVal ys) c := by
  match xs, ys, hl with
  | [], [], _ => exact h
  | [x], [y], _ => exact (hi [c] (.cons h .nil)).2 0 y c rfl rfl
  | x :: x2 :: xs, y :: y2 :: ys, hl =>
    simp only [resVal] at h ⊢
    obtain ⟨cv, rfl, hp⟩ := h.tuple_inv
    have := hi _ hp
    exact .tuple _ _ _ (by simpa using this.1) fun i v u h1 h2 => this.2 i v u h1 (by simpa using h2)
theorem normTs_length : ∀ (ts : List TypeId) (vs : List AVal), (normTs P ts vs).length = vs.length
  | [], vs => by cases vs <;> rfl
  | t :: ts, [] => rfl
  | t :: ts, v :: vs => by simp [normTs, normTs_length ts vs]

def FOkN (P : Program) (f : FuncId) (as : List AVal) (σ : AState) (r : AVal) (σ' : AState) : Prop :=
  (∃ fn c, P.funcs[f]? = some fn ∧ (fn.name == "runtime.NumGoroutine") = false ∧ fn.body = some c) ∧
  ∀ (F : FS) (w : World) (ρ : RMap) (args : Array Value), Rel ρ F σ w → (GOk F w ∧ PW F w ρ as args.toList) →
    Calls P f args w fun e w' => ∃ ρ' F', EndOk F' w' ρ' r e ∧ TrN σ.length σ σ' ρ ρ' F F' w w' ∧ Rel ρ' F' σ' w'

theorem ARel.enter {F : FS} {w : World} {ρ : RMap} {fn : Func} {as : List AVal} {args : Array Value} (hds : Glob.ds = []) (hp : GOk F w ∧ PW F w ρ as args.toList) :
    ARel F w ρ (as ++ List.replicate (fn.ntmps - as.length) aundef) { tmps := args ++ Array.replicate (fn.ntmps - args.size) undef, defers := [] } := by
  have hal : as.length = args.size := by have := hp.2.1; simpa using this
  refine ⟨by simp [hal], fun i v u e1 e2 => ?_, hds.symm, hp.1⟩
  rw [List.getElem?_append] at e1
  simp only [Array.getElem?_append] at e2
  split at e1
  · rename_i hlt
    rw [if_pos (by omega)] at e2
    exact hp.2.2 i v u e1 (by simpa using e2)
  · rename_i hge
    rw [if_neg (by omega)] at e2
    rw [List.getElem?_replicate] at e1
    rw [Array.getElem?_replicate] at e2
    split at e1
    · split at e2
      · cases e1; cases e2
        exact .tuple _ _ _ rfl fun i v u h _ => by simp at h
      · cases e2
    · cases e1

theorem evalF_ok {f : FuncId} {fn : Func} {as : List AVal} {σ : AState} {s : List Dec} {x : FRes} (hm : P.follows .mixedOrders = true) (hf : P.funcs[f]? = some fn) (hn : (fn.name == "runtime.NumGoroutine") = false)
    (h : evalF P fn as σ s = .ok x) (hcs : allP x.cs) (hds : Glob.ds = [] := by rfl) : FOkN P f as σ x.v x.σ := by
  unfold evalF at h
  split at h
  · cases h
  · rename_i c hb
    obtain ⟨⟨e, st⟩, h1, h2⟩ := Res.then_ok h
    unfold finF at h2
    dsimp only at h2
    refine ⟨⟨fn, c, hf, hn, hb⟩, fun F w ρ args r hp => calls_of_wp hf hb ?_⟩
    split at h2
    · cases h2
    · rename_i t
      cases h2
      obtain ⟨_, tr⟩ := evalC_ok hm c _ _ _ h1 hcs
      refine tr (Nat.le_refl _) F w ρ _ _ r (ARel.enter hds hp) fun ρ' F' w' a' tt r' ha' => ?_
      exact ⟨ha'.defers.trans hds, ρ', F', .inr ⟨t, rfl, rfl⟩, tt, r'⟩
    · rename_i hne hnp
      split at h2
      · rename_i y hy
        cases h2
        obtain ⟨hc1, hc2⟩ := hcs.append
        obtain ⟨_, t⟩ := evalC_ok hm c _ _ _ h1 hc2
        refine t (Nat.le_refl _) F w ρ _ _ r (ARel.enter hds hp) fun ρ' F' w' a' tt r' ha' => ?_
        obtain ⟨cv, hr, hv⟩ := results_ok r' ha' hy hc1
        have hv : VRel F' w' ρ' (resVal (normTs P fn.resultTypes.toList y.1)) cv := resVal_ok (fun cs => normTs_ok fn.resultTypes.toList _ cs) (normTs_length _ _).symm hv
        cases e with
        | normal => exact ⟨ha'.defers.trans hds, cv, hr, ρ', F', .inl ⟨cv, rfl, hv⟩, tt, r'⟩
        | ret => exact ⟨ha'.defers.trans hds, cv, hr, ρ', F', .inl ⟨cv, rfl, hv⟩, tt, r'⟩
        | pan t0 => exact absurd rfl (hnp t0)
        | exit k => exact absurd rfl (hne k)
      · cases h2

end
end Go.Abs
end

section
set_option linter.unusedVariables false
set_option linter.unusedSectionVars false
set_option linter.unusedSimpArgs false
namespace Go.Abs
variable [Glob]

section
variable {N : Nat} {P : Program}


theorem TripN.move {c : Code} {rg rg' rg2 : Regs} {σ σ' σ2 : AState} {e : AExit} (h : TripN P N c rg σ e rg' σ') (m : List Bool) (π : List Nat) (hr : keepR m rg' = renL (old π) rg2)
    (hh : π.map (fun j => σ'[j]?) = σ2.map fun o => some (renO (old π) o)) (ok : okMove N π σ'.length rg2 σ2 = true) : TripN P N c rg σ e rg2 σ2 := by
  intro hn F w ρ a Q r ha hQ
  refine h hn F w ρ a Q r ha fun ρ' F' w' a' t r' ha' => ?_
  obtain ⟨t2, r2⟩ := move_rel t r' hh ok
  have hlen : π.length = σ2.length := by have := congrArg List.length hh; simpa using this
  unfold okMove at ok
  simp only [Bool.and_eq_true] at ok
  exact hQ _ _ _ _ t2 r2 (ha'.move hr (Nat.le_of_eq hlen.symm) ok.1.2)

theorem FOkN.move {f : FuncId} {as : List AVal} {σ σ' σ2 : AState} {v v2 : AVal} (h : FOkN P f as σ v σ') (π : List Nat) (hv : v = ren (old π) v2)
    (hh : π.map (fun j => σ'[j]?) = σ2.map fun o => some (renO (old π) o)) (ok : (okMove σ.length π σ'.length [v2] σ2 && (σ2.drop σ.length).all AObj.live) = true) : FOk P f as σ v2 σ2 := by
  rw [Bool.and_eq_true] at ok
  obtain ⟨ok, hlive⟩ := ok
  refine ⟨h.1, fun F w ρ args r hp => (h.2 F w ρ args r hp).mono fun e w' ⟨ρ', F', he, t, r'⟩ => ?_⟩
  obtain ⟨t2, r2⟩ := move_rel t r' hh ok
  have hlen : π.length = σ2.length := by have := congrArg List.length hh; simpa using this
  unfold okMove at ok
  simp only [Bool.and_eq_true] at ok
  have hs : inScope σ2.length v2 = true := by have := ok.1.2; simpa [inScopeL] using this
  subst hv
  refine ⟨_, F', he.mono (fun x hx => move_val hx (Nat.le_of_eq hlen.symm) hs) (fun t h => ?_), ⟨fun id b h => ?_, t2.frz, t2.os, t2.tape, t2.output, t2.size, t2.row, t2.keep, t2.newF, fun id b h => ?_, t2.len, fun id o' h1 h2 h3 => t2.live id o' h1 h2 h3, t2.gho⟩, r2⟩
  · cases v2 <;> simp [ren] at h ⊢; exact h
  · rcases Nat.lt_or_ge id σ.length with hl | hl
    · exact t2.map id b hl h
    · rw [r.dom id hl] at h; cases h
  · rcases Nat.lt_or_ge id σ.length with hl | hl
    · exact .inl (t2.back id b hl h)
    · refine .inr ⟨hl, ?_⟩
      rcases Nat.lt_or_ge id σ2.length with hl2 | hl2
      · have ho : σ2[id]? = some σ2[id] := List.getElem?_eq_getElem hl2
        refine t2.newρ id _ b hl ho ?_ h
        refine List.all_eq_true.1 hlive _ (List.mem_of_getElem? (i := id - σ.length) ?_)
        rw [List.getElem?_drop, show σ.length + (id - σ.length) = id by omega]; exact ho
      · rw [r2.dom id hl2] at h; cases h

theorem TripN.keep {c : Code} {rg rg' rg0 : Regs} {σ σ' : AState} {e : AExit} (h : TripN P N c rg σ e rg' σ') (m : List Bool) (hk : keepR m rg0 = rg) : TripN P N c rg0 σ e rg' σ' := by
  subst hk; exact h.imp (keepR_imp m rg0)

end
end Go.Abs
end

section
set_option linter.unusedVariables false
set_option linter.unusedSectionVars false
set_option linter.unusedSimpArgs false
open Go.RowKit
namespace Go.Abs
variable [Glob]

@[reducible] def noGlob : Glob := ⟨fun _ => none, []⟩
theorem GOk.none (F : FS) (w : World) : @GOk noGlob F w := fun g v h => by cases h
theorem FOk.law {P : Program} {f : FuncId} {as : List AVal} {σ' : AState} {v : AVal} (h : FOk P f as [] v σ') (hv : Imp v (.tt true)) (hvp : v.isPan = false) (w : World) (args : Array Value) (hg : GOk (FS.of fun b => b < w.heap.size) w) (hp : PW (FS.of fun b => b < w.heap.size) w noId as args.toList) :
    Calls P f args w fun e w' => e = .returned (.bool true) ∧ Below w.heap.size w w' := by
  have r : Rel noId (FS.of fun b => b < w.heap.size) [] w := ⟨fun id o b h => by simp at h, fun id id' o o' b h => by simp at h, fun b hb => ⟨hb, fun ⟨id, o, h1, _⟩ => by simp at h1⟩, fun id b h => by simp [noId] at h, fun id _ => rfl⟩
  refine (h.2 _ w noId args r ⟨hg, hp⟩).mono fun e w' ⟨ρ', F', he, t, r'⟩ => ?_
  obtain ⟨x, he, hx⟩ := he.value hvp
  have hx := (hv _ _ _ _ hx).tt_inv
  subst hx
  refine ⟨he, ?_⟩
  have hk : ∀ b, b < w.heap.size → w'.heap[b]? = w.heap[b]? := fun b hb => t.keep b hb (fun ⟨id, o, h1, _⟩ => by simp at h1)
  exact ⟨t.os, t.tape, t.output, t.size, hk⟩

def allC : List Prop → Prop
  | [] => True
  | p :: ps => p ∧ allC ps
theorem allP_of : ∀ {cs : List Prop}, allC cs → allP cs
  | [], _, p, hp => by simp at hp
  | q :: qs, h, p, hp => by
    rcases List.mem_cons.1 hp with rfl | hp
    · exact h.1
    · exact allP_of h.2 p hp

def tr (n : Nat) : List Prop := List.replicate n (true = true)
theorem trC (n : Nat) {l : List Prop} (h : allC l) : allC (tr n ++ l) := by
  induction n with
  | zero => exact h
  | succ n ih => exact ⟨rfl, ih⟩
theorem brE {b : Bool} {X : Prop} (h1 : b = true → X) (h2 : b = false → X) : X := by cases b; exact h2 rfl; exact h1 rfl
theorem FOk.wp {P : Program} {f : FuncId} {as : List AVal} {σ σ' : AState} {v : AVal} (h : ∃ r σ2, FOk P f as σ r σ2 ∧ (r = v ∧ σ2 = σ')) : FOk P f as σ v σ' := by
  obtain ⟨r, σ2, h1, rfl, rfl⟩ := h; exact h1
theorem TripN.wp {P : Program} {N : Nat} {c : Code} {rg rg' : Regs} {σ σ' : AState} {e : AExit} (h : ∃ e2 rg2 σ2, TripN P N c rg σ e2 rg2 σ2 ∧ (e2 = e ∧ rg2 = rg' ∧ σ2 = σ')) : TripN P N c rg σ e rg' σ' := by
  obtain ⟨e2, rg2, σ2, h1, rfl, rfl, rfl⟩ := h; exact h1

theorem FOk.imp {P : Program} {f : FuncId} {as : List AVal} {σ σ' : AState} {v v' : AVal} (h : FOk P f as σ v σ') (hi : Imp v v') (hp : v.isPan = false := by rfl) : FOk P f as σ v' σ' :=
  ⟨h.1, fun F w ρ args r hp2 => (h.2 F w ρ args r hp2).mono fun e w' ⟨ρ', F', he, t, r'⟩ => ⟨ρ', F', he.mono (fun x hx => hi _ _ _ _ hx) (fun t h => by rw [h] at hp; cases hp), t, r'⟩⟩
theorem Imp.any (v : AVal) : Imp v .any := fun F w ρ c hc => .any _ _

theorem FOk.freeze {P : Program} {f : FuncId} {as : List AVal} {σ σ' : AState} {v : AVal} (h : FOk P f as σ v σ') {x : AVal × Frz} (hx : freezeA σ' v = some x) (hcs : allP x.2.cs) (hpn : v.isPan = false := by rfl) : FOk P f as σ x.1 x.2.σ :=
  ⟨h.1, fun F w ρ args r hp => (h.2 F w ρ args r hp).mono fun e w' ⟨ρ', F', he, t, r'⟩ => by
    obtain ⟨y, he, hy⟩ := he.value hpn
    obtain ⟨F2, r2, t2, hv⟩ := freezeA_ok r' hy hx hcs
    exact ⟨ρ', F2, .inl ⟨y, he, hv.pure⟩, Tr.trans r t t2, r2⟩⟩

def Imps : List AVal → List AVal → Prop
  | [], [] => True
  | x :: xs, y :: ys => Imp x y ∧ Imps xs ys
  | _, _ => False
theorem Imps.pw {F : FS} {w : World} {ρ : RMap} : ∀ {xs ys : List AVal} {cs : List Value}, Imps xs ys → PW F w ρ xs cs → PW F w ρ ys cs
  | [], [], cs, _, h => h
  | x :: xs, y :: ys, [], h, hp => by have := hp.1; simp at this
  | x :: xs, y :: ys, c :: cs, h, hp => by
    have ih : PW F w ρ ys cs := Imps.pw h.2 ⟨by have := hp.1; simpa using this, fun i a b h1 h2 => hp.2 (i + 1) a b (by simpa using h1) (by simpa using h2)⟩
    refine ⟨by simpa using ih.1, fun i a b h1 h2 => ?_⟩
    match i with
    | 0 =>
      simp only [List.getElem?_cons_zero, Option.some.injEq] at h1 h2
      subst h1; subst h2
      exact h.1 _ _ _ _ (hp.2 0 x c rfl rfl)
    | i + 1 => exact ih.2 i a b (by simpa using h1) (by simpa using h2)
  | [], _ :: _, _, h, _ => h.elim
  | _ :: _, [], _, h, _ => h.elim
theorem FOk.args {P : Program} {f : FuncId} {as as' : List AVal} {σ σ' : AState} {v : AVal} (h : FOk P f as σ v σ') (hi : Imps as' as) : FOk P f as' σ v σ' :=
  ⟨h.1, fun F w ρ args r hp => h.2 F w ρ args r ⟨hp.1, hi.pw hp.2⟩⟩
theorem Imp.agg {xs ys : List AVal} (h : Imps xs ys) : Imp (.agg xs) (.agg ys) := fun F w ρ c hc => by
  obtain ⟨cs, rfl, hp⟩ := PW.of_agg hc
  have := (h.pw hp).agg
  simpa using this
def loopsOf : Code → List Code
  | .loop c => c :: loopsOf c
  | .seq a b => loopsOf a ++ loopsOf b
  | .cond _ a b => loopsOf a ++ loopsOf b
  | .block _ c => loopsOf c
  | _ => []
def loopNo (f : Func) (k : Nat) : Code := (f.body.map fun c => (loopsOf c).getD k .skip).getD .skip

def mkRgo : List (Nat × AVal) → Nat → Nat → Regs
  | _, _, 0 => []
  | [], i, n + 1 => .any :: mkRgo [] (i + 1) n
  | p :: l, i, n + 1 => if p.1 == i then p.2 :: mkRgo l (i + 1) n else .any :: mkRgo (p :: l) (i + 1) n
def mkR (n : Nat) (l : List (Nat × AVal)) : Regs := mkRgo l 0 n
def keepMgo : List Nat → Nat → Nat → List Bool
  | _, _, 0 => []
  | [], i, n + 1 => false :: keepMgo [] (i + 1) n
  | k :: l, i, n + 1 => if k == i then true :: keepMgo l (i + 1) n else false :: keepMgo (k :: l) (i + 1) n
def keepM (n : Nat) (l : List Nat) : List Bool := keepMgo l 0 n

theorem evalT {P : Program} {N : Nat} {c : Code} {st st' : St} {e : AExit} (hm : P.follows .mixedOrders = true) (h : evalC P (owed P N) c st = .ok (e, st')) (hcs : allP st'.cs) (k : List Bool) (π : List Nat) {rg2 : Regs} {σ2 : AState}
    (hr : keepR k st'.rg = renL (old π) rg2) (hh : π.map (fun j => st'.σ[j]?) = σ2.map fun o => some (renO (old π) o)) (ok : okMove N π st'.σ.length rg2 σ2 = true) :
    TripN P N c st.rg st.σ e rg2 σ2 :=
  ((evalC_ok hm c _ _ _ h hcs).2).move k π hr hh ok

end Go.Abs
end
