import Derived.Test.YtkecmndppllijaaDoorAbsTouch
set_option linter.unusedVariables false
set_option linter.unusedSimpArgs false
namespace Go.Abs

section
variable {P : Program} {F : Nat → Prop} {w : World} {ρ : RMap} {σ : AState}

theorem scopeL {k : Nat} {vs : List AVal} (h : inScopeL k vs = true) : ∀ (i : Nat) (v : AVal), vs[i]? = some v → inScope k v = true := by
  induction vs with
  | nil => intro i v h; simp at h
  | cons x xs ih =>
    simp only [inScopeL, Bool.and_eq_true] at h
    intro i v hv
    match i with
    | 0 => simp at hv; subst hv; exact h.1
    | i + 1 => exact ih h.2 i v (by simpa using hv)

/-- the names below a bound -/
def cut (k : Nat) (ρ : RMap) : RMap := fun id => if id < k then ρ id else none
theorem cut_some {k id b : Nat} (h : cut k ρ id = some b) : id < k ∧ ρ id = some b := by
  unfold cut at h
  split at h
  · exact ⟨by assumption, h⟩
  · cases h
theorem cut_of {k id b : Nat} (hk : id < k) (h : ρ id = some b) : cut k ρ id = some b := by unfold cut; rw [if_pos hk, h]
theorem cut_le {j k : Nat} (h : j ≤ k) : ∀ id b, cut j ρ id = some b → cut k ρ id = some b := fun id b e => let ⟨a, c⟩ := cut_some e; cut_of (Nat.lt_of_lt_of_le a h) c

theorem ORel.weak {ρ' : RMap} {b : Nat} {o : AObj} (h : ORel F w ρ b o) (hρ : ∀ id b, ρ id = some b → ρ' id = some b) : ORel F w ρ' b o :=
  h.move rfl (fun _ h => ⟨h, rfl⟩) (fun _ cs _ _ h => ⟨cs, _, h, rfl⟩) hρ

/-- an object's cells, under fewer names: whatever is in scope -/
theorem Live.of_cut {k b : Nat} {S : AState} (h : Live (cut k ρ) (S.take k) b) : Live ρ S b := by
  obtain ⟨id, o, h1, h2, h3⟩ := h
  obtain ⟨h4, h5⟩ := cut_some h3
  exact ⟨id, o, by rwa [List.getElem?_take_of_lt h4] at h1, h2, h5⟩

/-- How one thing, done in the lower part of a heap, stands in the whole. -/
theorem lift_step {σ0 S S' σ2' : AState} {ρ0 ρs' : RMap} {F0 F' : Nat → Prop} {w0 w' : World} {k : Nat}
    (r0 : Rel ρ0 F0 σ0 w0) (T0 : Tr σ0 S ρ0 ρ F0 F w0 w) (r : Rel ρ F S w) (h0 : σ0.length ≤ k) (hk : k ≤ S.length)
    (t : Tr (S.take k) σ2' (cut k ρ) ρs' F F' w w') (r' : Rel ρs' F' σ2' w') (hp : S'.take σ2'.length = σ2')
    (hrest : ∀ id b, σ2'.length ≤ id → ρ id = some b → S'[id]? = S[id]?) (hgap : ∀ id, k ≤ id → id < σ2'.length → ρ id = none) :
    Rel (fun id => if id < σ2'.length then ρs' id else ρ id) F' S' w' ∧ Tr σ0 S' ρ0 (fun id => if id < σ2'.length then ρs' id else ρ id) F0 F' w0 w' ∧
      (∀ id b, ρ id = some b → (fun id => if id < σ2'.length then ρs' id else ρ id) id = some b) ∧ (∀ id b, ρs' id = some b → (fun id => if id < σ2'.length then ρs' id else ρ id) id = some b) ∧
      ∀ (v : AVal) (c : Value), VRel F w ρ v c → VRel F' w' (fun id => if id < σ2'.length then ρs' id else ρ id) v c := by
  have hkl : k ≤ σ2'.length := by have := t.len; rw [List.length_take] at this; omega
  have hlow : ∀ id, id < σ2'.length → S'[id]? = σ2'[id]? := fun id h => by
    have := congrArg (·[id]?) hp
    simp only [List.getElem?_take_of_lt h] at this
    exact this
  have hliv : ∀ b, Live (cut k ρ) (S.take k) b → ∃ id o, id < k ∧ S[id]? = some o ∧ o.live = true ∧ ρ id = some b := fun b ⟨id, o, h1, h2, h3⟩ => by
    obtain ⟨h4, h5⟩ := cut_some h3
    exact ⟨id, o, h4, by rwa [List.getElem?_take_of_lt h4] at h1, h2, h5⟩
  have hup : ∀ id b, ρs' id = some b → id < σ2'.length := fun id b h => by
    rcases Nat.lt_or_ge id σ2'.length with h' | h'
    · exact h'
    · rw [r'.dom _ h'] at h; cases h
  have hmap : ∀ id b, ρ id = some b → (fun id => if id < σ2'.length then ρs' id else ρ id) id = some b := by
    intro id b h
    try dsimp only
    split
    · rename_i hlt
      rcases Nat.lt_or_ge id k with h' | h'
      · exact t.map _ _ (cut_of h' h)
      · rw [hgap id h' hlt] at h; cases h
    · exact h
  have hmap' : ∀ id b, ρs' id = some b → (fun id => if id < σ2'.length then ρs' id else ρ id) id = some b := by
    intro id b h; dsimp only; rw [if_pos (hup id b h)]; exact h
  refine ⟨⟨?_, ?_, ?_, ?_, ?_⟩, ⟨?_, ?_, t.os.trans T0.os, t.tape.trans T0.tape, t.output.trans T0.output, Nat.le_trans T0.size t.size, ?_, ?_, ?_, ?_, ?_, ?_⟩, hmap, hmap',
    fun v c h => h.mono (fun x hx => ⟨t.frz x hx, t.keep x (r.fr x hx).1 (fun hl => (r.fr x hx).2 hl.of_cut)⟩) t.row hmap⟩
  · intro id o b h1 h2
    try dsimp only at h2
    split at h2
    · rename_i hlt
      rw [hlow id hlt] at h1
      exact (r'.obj id o b h1 h2).weak hmap'
    · rename_i hge
      rw [hrest id b (Nat.not_lt.1 hge) h2] at h1
      cases hol : o.live with
      | false => cases o <;> simp [AObj.live] at hol; trivial
      | true =>
        have hnl : ¬ Live (cut k ρ) (S.take k) b := fun hl => by
          obtain ⟨id', o', h3, h4, h5, h6⟩ := hliv b hl
          have := r.inj id id' o o' b h1 h4 hol h5 h2 h6
          omega
        have hkeep := t.keep b (r.lt _ _ h2) hnl
        refine (r.obj id o b h1 h2).move hkeep (fun x hx => ⟨t.frz x hx, t.keep x (r.fr x hx).1 (fun hl => (r.fr x hx).2 hl.of_cut)⟩) t.row hmap
  · intro id id' o o' b h1 h2 h3 h4 h5 h6
    try dsimp only at h5 h6
    have mixed : ∀ id id' o o', S'[id]? = some o → S'[id']? = some o' → o.live = true → o'.live = true → id < σ2'.length → ¬ id' < σ2'.length → ρs' id = some b → ρ id' = some b → False := by
      intro id id' o o' h1 h2 h3 h4 hlt hge h5 h6
      rw [hlow id hlt] at h1
      rw [hrest id' b (Nat.not_lt.1 hge) h6] at h2
      rcases t.newρ id b h5 with h7 | ⟨h7, h8⟩
      · obtain ⟨h8, h9⟩ := cut_some h7
        obtain ⟨o2, h10, h11⟩ := t.live id o h1 h3 (by rw [List.length_take]; omega)
        rw [List.getElem?_take_of_lt h8] at h10
        have := r.inj id id' o2 o' b h10 h2 h11 h4 h9 h6
        omega
      · rcases h8 with h8 | h8
        · exact absurd (r.lt _ _ h6) (Nat.not_lt.2 h8)
        · obtain ⟨id2, o2, h9, h10, h11, h12⟩ := hliv b h8
          have := r.inj id2 id' o2 o' b h10 h2 h11 h4 h12 h6
          omega
    split at h5
    · rename_i hlt
      split at h6
      · rename_i hlt'
        rw [hlow id hlt] at h1
        rw [hlow id' hlt'] at h2
        exact r'.inj id id' o o' b h1 h2 h3 h4 h5 h6
      · rename_i hge; exact (mixed id id' o o' h1 h2 h3 h4 hlt hge h5 h6).elim
    · rename_i hge
      split at h6
      · rename_i hlt; exact (mixed id' id o' o h2 h1 h4 h3 hlt hge h6 h5).elim
      · rename_i hge'
        rw [hrest id b (Nat.not_lt.1 hge) h5] at h1
        rw [hrest id' b (Nat.not_lt.1 hge') h6] at h2
        exact r.inj id id' o o' b h1 h2 h3 h4 h5 h6
  · intro b hb
    refine ⟨(r'.fr b hb).1, fun ⟨id, o, h1, h2, h3⟩ => ?_⟩
    try dsimp only at h3
    split at h3
    · rename_i hlt
      rw [hlow id hlt] at h1
      exact (r'.fr b hb).2 ⟨id, o, h1, h2, h3⟩
    · rename_i hge
      rw [hrest id b (Nat.not_lt.1 hge) h3] at h1
      rcases t.newF b hb with h4 | h4 | h4
      · exact (r.fr b h4).2 ⟨id, o, h1, h2, h3⟩
      · exact absurd (r.lt _ _ h3) (Nat.not_lt.2 h4)
      · obtain ⟨id2, o2, h9, h10, h11, h12⟩ := hliv b h4
        have := r.inj id2 id o2 o b h10 h1 h11 h2 h12 h3
        omega
  · intro id b h
    try dsimp only at h
    split at h
    · exact r'.lt id b h
    · exact Nat.lt_of_lt_of_le (r.lt id b h) t.size
  · intro id h
    try dsimp only
    have hl : σ2'.length ≤ S'.length := by have := congrArg List.length hp; rw [List.length_take] at this; omega
    rw [if_neg (by omega)]
    cases hr : ρ id with
    | none => rfl
    | some b =>
      have h1 := hrest id b (by omega) hr
      rw [List.getElem?_eq_none h] at h1
      have : ¬ id < S.length := fun hlt => by rw [List.getElem?_eq_getElem hlt] at h1; cases h1
      rw [r.dom id (Nat.not_lt.1 this)] at hr; cases hr
  · intro id b h; exact hmap id b (T0.map id b h)
  · intro b h; exact t.frz b (T0.frz b h)
  · intro b cs T fr h
    obtain ⟨cs1, fr1, h1, h2⟩ := T0.row b cs T fr h
    obtain ⟨cs2, fr2, h3, h4⟩ := t.row b cs1 T fr1 h1
    exact ⟨cs2, fr2, h3, h4.trans h2⟩
  · intro b h1 h2
    rw [t.keep b (Nat.lt_of_lt_of_le h1 T0.size) (fun hl => (T0.live' r0 hl.of_cut).elim h2 (fun h => absurd h1 (Nat.not_lt.2 h))), T0.keep b h1 h2]
  · intro b h
    rcases t.newF b h with h | h | h
    · exact T0.newF b h
    · exact .inr (.inl (Nat.le_trans T0.size h))
    · exact (T0.live' r0 h.of_cut).elim (fun h => .inr (.inr h)) (fun h => .inr (.inl h))
  · intro id b h
    try dsimp only at h
    split at h
    · rcases t.newρ id b h with h1 | ⟨h1, h2⟩
      · exact T0.newρ id b (cut_some h1).2
      · rw [List.length_take] at h1
        refine .inr ⟨by omega, ?_⟩
        rcases h2 with h2 | h2
        · exact .inl (Nat.le_trans T0.size h2)
        · exact (T0.live' r0 h2.of_cut).elim .inr .inl
    · exact T0.newρ id b h
  · have hl : σ2'.length ≤ S'.length := by have := congrArg List.length hp; rw [List.length_take] at this; omega
    omega
  · intro id o' h1 h2 h3
    rw [hlow id (by omega)] at h1
    obtain ⟨o, h4, h5⟩ := t.live id o' h1 h2 (by rw [List.length_take]; omega)
    rw [List.getElem?_take_of_lt (by omega)] at h4
    exact T0.live id o h4 h5 h3

/-! ## What is in scope -/
theorem VRel.scope {k : Nat} {v : AVal} {c : Value} (h : VRel F w ρ v c) : inScope k v = true → VRel F w (cut k ρ) v c := by
  induction h with
  | any => intro _; exact .any _ _
  | tt => intro _; exact .tt _ _
  | bool => intro _; exact .bool _ _
  | int => intro _; exact .int _ _ _
  | str => intro _; exact .str _ _
  | nilp => intro _; exact .nilp _
  | ptr ρ id es i j b h => intro hs; exact .ptr _ _ _ _ _ _ (cut_of (by simpa [inScope] using hs) h)
  | slc ρ id es off len cap c b h hl hc hs => intro hk; exact .slc _ _ _ _ _ _ _ _ (cut_of (by simpa [inScope] using hk) h) hl hc hs
  | slcE ρ n id es off cap base hb hc => intro _; exact .slcE _ _ _ _ _ _ _ hb hc
  | fnil ρ es cap hc => intro _; exact .fnil _ _ _ hc
  | femp ρ es a c cap hc => intro _; exact .femp _ _ _ _ _ hc
  | fsl ρ es rows b o c cap f hFb hl hc hw hg hv ih => intro _; exact .fsl _ _ _ _ _ _ _ f hFb hl hc hw hg hv
  | fptr ρ es rows i0 j0 b o f hFb hw hg hv ih => intro _; exact .fptr _ _ _ _ _ _ _ f hFb hw hg hv
  | nilm => intro _; exact .nilm _
  | map ρ id b h => intro hs; exact .map _ _ _ (cut_of (by simpa [inScope] using hs) h)
  | func ρ f cap cv hl h ih => intro hs; exact .func _ _ _ _ hl fun i v u h1 h2 => ih i v u h1 h2 (scopeL (by simpa [inScope] using hs) i v h1)
  | nilf => intro _; exact .nilf _
  | agg ρ cs cv hl h ih => intro hs; exact .agg _ _ _ hl fun i v u h1 h2 => ih i v u h1 h2 (scopeL (by simpa [inScope] using hs) i v h1)
  | pagg ρ cs cv hl h ih => intro hs; exact .pagg _ _ _ hl h
  | tuple ρ cs cv hl h ih => intro hs; exact .tuple _ _ _ hl fun i v u h1 h2 => ih i v u h1 h2 (scopeL (by simpa [inScope] using hs) i v h1)
  | nili => intro _; exact .nili _
  | iface ρ t v u h ih => intro hs; exact .iface _ _ _ _ (ih (by simpa [inScope] using hs))

theorem ORel.scope {k b : Nat} {o : AObj} (h : ORel F w ρ b o) (hs : inScopeO k o = true) : ORel F w (cut k ρ) b o := by
  have hno : ∀ id, cut k noId id = none := fun id => by unfold cut; split <;> rfl
  cases o with
  | dead => trivial
  | rows p es rs =>
    obtain ⟨cs, T, fr, h1, h2, h3, h4, h5⟩ := h
    refine ⟨cs, T, fr, h1, h2, h3, h4, fun i j row v e1 e2 => ?_⟩
    obtain ⟨cv, g1, g2⟩ := h5 i j row v e1 e2
    refine ⟨cv, g1, ?_⟩
    cases p with
    | true => exact g2
    | false =>
      simp only [inScopeO, Bool.false_or] at hs
      exact VRel.scope (ρ := ρ) g2 (scopeL (List.all_eq_true.1 hs row (List.mem_of_getElem? e1)) j v e2)
  | trows T0 p es rs =>
    obtain ⟨cs, fr, h1, h2, h3, h4, h5⟩ := h
    refine ⟨cs, fr, h1, h2, h3, h4, fun i j row v e1 e2 => ?_⟩
    obtain ⟨cv, g1, g2⟩ := h5 i j row v e1 e2
    refine ⟨cv, g1, ?_⟩
    cases p with
    | true => exact g2
    | false =>
      simp only [inScopeO, Bool.false_or] at hs
      exact VRel.scope (ρ := ρ) g2 (scopeL (List.all_eq_true.1 hs row (List.mem_of_getElem? e1)) j v e2)
  | mp p ents =>
    obtain ⟨es, clock, h1, h2, h3⟩ := h
    refine ⟨es, clock, h1, h2, fun i kk v e1 => ?_⟩
    obtain ⟨e, g1, g2, g3⟩ := h3 i kk v e1
    refine ⟨e, g1, ?_⟩
    cases p with
    | true => exact ⟨g2, g3⟩
    | false =>
      simp only [inScopeO, Bool.false_or] at hs
      have := List.all_eq_true.1 hs _ (List.mem_of_getElem? e1)
      simp only [Bool.and_eq_true] at this
      exact ⟨VRel.scope (ρ := ρ) g2 this.1, VRel.scope (ρ := ρ) g3 this.2⟩

/-- The lower part of a heap is one. -/
theorem Rel.low {S : AState} (r : Rel ρ F S w) {k : Nat} (hk : k ≤ S.length)
    (hsc : ∀ id o, id < k → S[id]? = some o → inScopeO k o = true) : Rel (cut k ρ) F (S.take k) w := by
  refine ⟨?_, ?_, ?_, ?_, ?_⟩
  · intro id o b h1 h2
    obtain ⟨h3, h4⟩ := cut_some h2
    rw [List.getElem?_take_of_lt h3] at h1
    exact (r.obj id o b h1 h4).scope (hsc id o h3 h1)
  · intro id id' o o' b h1 h2 h3 h4 h5 h6
    obtain ⟨h7, h8⟩ := cut_some h5
    obtain ⟨h9, h10⟩ := cut_some h6
    rw [List.getElem?_take_of_lt h7] at h1
    rw [List.getElem?_take_of_lt h9] at h2
    exact r.inj id id' o o' b h1 h2 h3 h4 h8 h10
  · intro b hb; exact ⟨(r.fr b hb).1, fun hl => (r.fr b hb).2 hl.of_cut⟩
  · intro id b h; exact r.lt id b (cut_some h).2
  · intro id h
    unfold cut
    rw [List.length_take] at h
    split
    · omega
    · rfl

end
end Go.Abs
