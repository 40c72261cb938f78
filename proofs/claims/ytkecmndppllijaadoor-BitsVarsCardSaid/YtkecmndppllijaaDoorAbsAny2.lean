import Derived.Test.YtkecmndppllijaaDoorAbsAny
set_option linter.unusedVariables false
set_option linter.unusedSectionVars false
set_option linter.unusedSimpArgs false
namespace Go.Abs
variable [Glob]

section
variable {P : Program} {ops : Array Oper} {sg : Nat → AState} {cur rgs : Nat → Regs} {vs : Nat → AVal} {Ts Ws : Nat → List Nat}
  {F0 : Nat → Prop} {w0 : World} {ρ0 : RMap}

structure Inv (ops : Array Oper) (sg : Nat → AState) (cur : Nat → Regs) (vs : Nat → AVal) (ρ0 : RMap) (F0 : Nat → Prop) (w0 : World) (listed : Array Bool) (a : Act) (w : World) (ρ : RMap) (F : Nat → Prop) (S : AState) : Prop where
  lsz : listed.size = ops.size
  down : Down ops listed
  len : S.length = (sg ops.size).length
  lev : ∀ id, ∃ k, k ≤ ops.size ∧ obj S id = obj (sg k) id ∧ (∀ i, i < ops.size → listed.getD i false = true → Chg sg i id → i < k) ∧ (∀ i, i < ops.size → listed.getD i false = false → Chg sg i id → k ≤ i)
  rel : Rel ρ F S w
  tr : Tr (sg 0) S ρ0 ρ F0 F w0 w
  unl : ∀ j, j < ops.size → listed.getD j false = false → ∀ id, (sg j).length ≤ id → id < (sg (j + 1)).length → ρ id = none
  asz : a.tmps.size = (cur 0).length
  dfr : a.defers = []
  val : ∀ t j o, ops[j]? = some o → o.dst = some t → listed.getD j false = true → t < a.tmps.size → VRel F w ρ (vs j) (a.tmps.getD t undef)
  old : ∀ t, t < a.tmps.size → (∀ j o, ops[j]? = some o → o.dst = some t → listed.getD j false = false) → VRel F w ρ ((cur 0).getD t .any) (a.tmps.getD t undef)

theorem listed_set {listed : Array Bool} {i j : Nat} (h : i < listed.size) : (listed.setIfInBounds i true).getD j false = if i = j then true else listed.getD j false := by
  by_cases e : i = j
  · subst e
    simp [Array.getD_eq_getD_getElem?, h]
  · rw [getD_set_ne false e, if_neg e]

/-- what an operation looks at, whatever else has come up -/
theorem Inv.look {listed : Array Bool} {a : Act} {w : World} {ρ : RMap} {F : Nat → Prop} {S : AState} (I : Inv ops sg cur vs ρ0 F0 w0 listed a w ρ F S) (hc : Chain P ops sg cur rgs vs Ts Ws) (hok : okOrd ops = true)
    {i : Nat} {o : Oper} (ho : ops[i]? = some o) (hun : listed.getD i false = false) (hall : ∀ e ∈ o.after, Region.binds .any e = true → listed.getD e.on false = true) :
    (∀ t ∈ o.looksAt ops, (∃ j o', j < i ∧ ops[j]? = some o' ∧ listed.getD j false = true ∧ (cur i).getD t .any = vs j ∧ VRel F w ρ (vs j) (a.tmps.getD t undef)) ∨ ((cur i).getD t .any = (cur 0).getD t .any ∧ VRel F w ρ ((cur 0).getD t .any) (a.tmps.getD t undef))) := by
  intro t ht
  have hi : i < ops.size := (Array.getElem?_eq_some_iff.1 ho).1
  by_cases hts : t < (cur 0).length
  · rcases cur_at hc t hts i (by omega) with ⟨j, o', h1, h2, h3, h4⟩ | ⟨h1, h2⟩
    · have hl : listed.getD j false = true := by
        rcases (okOrd_pair hok h1 h2 ho).1 with h | h
        · exact anc_listed I.down i o j ho hall h I.lsz
        · exact absurd ht ((Oper.apart_spec h).1 t h3)
      exact .inl ⟨j, o', h1, h2, hl, h4, I.val t j o' h2 h3 hl (by rw [I.asz]; exact hts)⟩
    · refine .inr ⟨h1, I.old t (by rw [I.asz]; exact hts) fun j o' hj hd => ?_⟩
      rcases Nat.lt_trichotomy j i with h | h | h
      · exact absurd hd (h2 j o' h hj)
      · subst h; exact hun
      · rcases (okOrd_pair hok h ho hj).1 with g | g
        · cases hlj : listed.getD j false with
          | false => rfl
          | true =>
            have := anc_listed I.down j o' i hj (I.down j o' hj hlj) g I.lsz
            rw [hun] at this; cases this
        · exact absurd ht ((Oper.apart_spec g).2.2 t hd)
  · have hl := cur_len hc i (by omega)
    have e1 : (cur i).getD t .any = .any := by rw [List.getD_eq_getElem?_getD, List.getElem?_eq_none (show (cur i).length ≤ t by rw [hl]; exact Nat.not_lt.1 hts)]; rfl
    have e2 : (cur 0).getD t .any = .any := by rw [List.getD_eq_getElem?_getD, List.getElem?_eq_none (show (cur 0).length ≤ t from Nat.not_lt.1 hts)]; rfl
    exact .inr ⟨by rw [e1, e2], by rw [e2]; exact .any _ _⟩

/-- the temporaries, once one more has come up -/
theorem Inv.vals {listed : Array Bool} {a : Act} {w : World} {ρ : RMap} {F : Nat → Prop} {S : AState} (I : Inv ops sg cur vs ρ0 F0 w0 listed a w ρ F S) (hok : okOrd ops = true) {i : Nat} {o : Oper} (ho : ops[i]? = some o)
    {F' : Nat → Prop} {w' : World} {ρ' : RMap} {cv : Value} (hm : ∀ v c, VRel F w ρ v c → VRel F' w' ρ' v c) (hv : VRel F' w' ρ' (vs i) cv) :
    (a.put o.dst cv).tmps.size = (cur 0).length ∧ (a.put o.dst cv).defers = [] ∧
    (∀ t j o', ops[j]? = some o' → o'.dst = some t → (listed.setIfInBounds i true).getD j false = true → t < (a.put o.dst cv).tmps.size → VRel F' w' ρ' (vs j) ((a.put o.dst cv).tmps.getD t undef)) ∧
    ∀ t, t < (a.put o.dst cv).tmps.size → (∀ j o', ops[j]? = some o' → o'.dst = some t → (listed.setIfInBounds i true).getD j false = false) → VRel F' w' ρ' ((cur 0).getD t .any) ((a.put o.dst cv).tmps.getD t undef) := by
  have hi : i < listed.size := by rw [I.lsz]; exact (Array.getElem?_eq_some_iff.1 ho).1
  have hsz : (a.put o.dst cv).tmps.size = a.tmps.size := by cases o.dst <;> simp [Act.put]
  have hself : ∀ t, o.dst = some t → t < a.tmps.size → (a.put o.dst cv).tmps.getD t undef = cv := by
    intro t hd hlt
    rw [hd]
    simp [Act.put, Array.getD_eq_getD_getElem?, hlt]
  have hother : ∀ t, o.dst ≠ some t → (a.put o.dst cv).tmps.getD t undef = a.tmps.getD t undef := by
    intro t hd
    cases hdst : o.dst with
    | none => rfl
    | some d =>
      have : d ≠ t := fun e => hd (by rw [hdst, e])
      simp [Act.put, Array.getD_eq_getD_getElem?, Array.getElem?_setIfInBounds_ne this]
  refine ⟨hsz.trans I.asz, by cases o.dst <;> exact I.dfr, ?_, ?_⟩
  · intro t j o' hj hd hl ht
    rw [hsz] at ht
    rw [listed_set hi] at hl
    by_cases e : i = j
    · subst e
      rw [ho] at hj; cases hj
      rw [hself t hd ht]; exact hv
    · rw [if_neg e] at hl
      have hne : o.dst ≠ some t := by
        intro hd'
        rcases Nat.lt_or_ge i j with h | h
        · exact (okOrd_pair hok h ho hj).2 t hd' hd
        · exact (okOrd_pair hok (by omega) hj ho).2 t hd hd'
      rw [hother t hne]
      exact hm _ _ (I.val t j o' hj hd hl ht)
  · intro t ht hno
    rw [hsz] at ht
    have hne : o.dst ≠ some t := fun hd => by
      have := hno i o ho hd
      rw [listed_set hi, if_pos rfl] at this; cases this
    rw [hother t hne]
    refine hm _ _ (I.old t ht fun j o' hj hd => ?_)
    have := hno j o' hj hd
    rw [listed_set hi] at this
    split at this
    · cases this
    · exact this

theorem Inv.downSet {listed : Array Bool} {i : Nat} {o : Oper} (hsz : listed.size = ops.size) (hd : Down ops listed) (ho : ops[i]? = some o) (hall : ∀ e ∈ o.after, Region.binds .any e = true → listed.getD e.on false = true) : Down ops (listed.setIfInBounds i true) := by
  have hi : i < listed.size := by rw [hsz]; exact (Array.getElem?_eq_some_iff.1 ho).1
  intro j o' hj hl e he hb
  rw [listed_set hi] at hl ⊢
  split
  · rfl
  · split at hl
    · rename_i e2; subst e2; rw [ho] at hj; cases hj; exact hall e he hb
    · exact hd j o' hj hl e he hb

end
end Go.Abs
