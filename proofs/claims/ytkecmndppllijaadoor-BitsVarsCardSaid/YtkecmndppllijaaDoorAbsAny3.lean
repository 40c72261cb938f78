import Derived.Test.YtkecmndppllijaaDoorAbsAny2
set_option linter.unusedVariables false
set_option linter.unusedSectionVars false
set_option linter.unusedSimpArgs false
namespace Go.Abs
variable [Glob]

/-- a heap, but for some places -/
def maskH (T : List Nat) (σ : AState) : AState := (List.range σ.length).map fun id => if T.contains id then obj σ id else .dead
theorem maskH_length (T : List Nat) (σ : AState) : (maskH T σ).length = σ.length := by simp [maskH]
theorem maskH_obj (T : List Nat) (σ : AState) {id : Nat} (h : id < σ.length) : obj (maskH T σ) id = if T.contains id then obj σ id else .dead := by
  refine obj_of ?_
  unfold maskH
  rw [List.getElem?_map, List.getElem?_range h]; rfl
/-- a heap, some of its places written over -/
noncomputable def overH (A : Nat → Prop) (σ' S : AState) : AState := by
  classical exact (List.range S.length).map fun id => if A id then obj σ' id else obj S id
theorem overH_length (A : Nat → Prop) (σ' S : AState) : (overH A σ' S).length = S.length := by simp [overH]
theorem overH_in {A : Nat → Prop} {σ' S : AState} {id : Nat} (h : id < S.length) (ha : A id) : obj (overH A σ' S) id = obj σ' id := by
  refine obj_of ?_
  unfold overH
  rw [List.getElem?_map, List.getElem?_range h]
  simp [ha]
theorem overH_out {A : Nat → Prop} {σ' S : AState} {id : Nat} (ha : ¬ A id) : obj (overH A σ' S) id = obj S id := by
  rcases Nat.lt_or_ge id S.length with h | h
  · refine obj_of ?_
    unfold overH
    rw [List.getElem?_map, List.getElem?_range h]
    simp [ha]
  · rw [obj_none h, obj_none (by rw [overH_length]; exact h)]

section
variable {P : Program} {ops : Array Oper} {sg : Nat → AState} {cur rgs : Nat → Regs} {vs : Nat → AVal} {Ts Ws : Nat → List Nat}
  {F0 : Nat → Prop} {w0 : World} {ρ0 : RMap}

/-- One operation that may come up now. -/
theorem Inv.step {listed : Array Bool} {a : Act} {w : World} {ρ : RMap} {F : Nat → Prop} {S : AState} (g0 : GOk F0 w0) (r0 : Rel ρ0 F0 (sg 0) w0) (h0s : (inScopeL (sg 0).length (cur 0) && (sg 0).all (inScopeO (sg 0).length)) = true)
    (I : Inv ops sg cur vs ρ0 F0 w0 listed a w ρ F S) (hc : Chain P ops sg cur rgs vs Ts Ws) (hok : okOrd ops = true) {i : Nat} {o : Oper} (ho : ops[i]? = some o) (hun : listed.getD i false = false)
    (hall : ∀ e ∈ o.after, Region.binds .any e = true → listed.getD e.on false = true) (K : Act → World → Prop) (Q : Exit → Act → World → Prop)
    (hK : ∀ a' w' ρ' F' S', Inv ops sg cur vs ρ0 F0 w0 (listed.setIfInBounds i true) a' w' ρ' F' S' → K a' w') :
    if Region.wanted o (yielded ops a.tmps) = true then o.wp P a w K Q else K (a.put o.dst undef) w := by
  simp only [Bool.and_eq_true] at h0s
  have hi : i < ops.size := (Array.getElem?_eq_some_iff.1 ho).1
  have his : i < listed.size := by rw [I.lsz]; exact hi
  have hf := hc i o ho
  have hlook := I.look hc hok ho hun hall
  have hdown := Inv.downSet I.lsz I.down ho hall
  have hanc : ∀ j, ((ancs ops.toList []).getD i 0).testBit j = true → listed.getD j false = true := fun j h => anc_listed I.down i o j ho hall h I.lsz
  have hdesc : ∀ j oj, ops[j]? = some oj → listed.getD j false = true → ((ancs ops.toList []).getD j 0).testBit i = false := fun j oj hj hl => by
    cases h : ((ancs ops.toList []).getD j 0).testBit i with
    | false => rfl
    | true =>
      have := anc_listed I.down j oj i hj (I.down j oj hj hl) h I.lsz
      rw [hun] at this; cases this
  have hanc' : ∀ j, listed.getD j false = false → ((ancs ops.toList []).getD i 0).testBit j = false := fun j hl => by
    cases h : ((ancs ops.toList []).getD i 0).testBit j with
    | false => rfl
    | true => rw [hanc j h] at hl; cases hl
  have lset : ∀ j, (listed.setIfInBounds i true).getD j false = if i = j then true else listed.getD j false := fun j => listed_set his
  have hscope := hc.scopes ho
  have hscopeI : (sg i).all (inScopeO (sg i).length) = true := hc.scopeAt h0s.2 i (by omega)
  have h0i : (sg 0).length ≤ (sg i).length := hc.le (Nat.zero_le _) (by omega)
  have hin : (sg i).length ≤ S.length := by rw [I.len]; exact hc.le (by omega) (Nat.le_refl _)
  have hin1 : (sg (i + 1)).length ≤ S.length := by rw [I.len]; exact hc.le (by omega) (Nat.le_refl _)
  have hget : ∀ j, j < ops.size → ops[j]? = some (ops[j]!) := fun j hj => by rw [getElem!_pos ops j hj]; exact Array.getElem?_eq_getElem hj
  -- the places that it looks at
  have htouch : ∀ id ∈ Ts i, id < (sg i).length → obj S id = obj (sg i) id := by
    intro id hid hlt
    obtain ⟨k, k1, k2, k3, k4⟩ := I.lev id
    rw [k2]
    rcases Nat.le_total k i with hki | hki
    · refine lev_eq' hki fun j hj1 hj2 hch => ?_
      have hjs : j < ops.size := by omega
      cases hl : listed.getD j false with
      | true => have := k3 j hjs hl hch; omega
      | false =>
        obtain ⟨p1, p2, p3⟩ := hf.pairs j hj2 (hanc' j hl)
        rcases hc.chg (hget j hjs) hch with ⟨c1, c2, _⟩ | ⟨c1, c2⟩
        · rcases hch with h | h
          · exact h (p1 id c2 hid)
          · omega
        · have := p3 id hid; omega
    · refine (lev_eq' hki fun j hj1 hj2 hch => ?_).symm
      have hjs : j < ops.size := by omega
      cases hl : listed.getD j false with
      | false => have := k4 j hjs hl hch; omega
      | true =>
        have hne : i < j := by
          rcases Nat.lt_or_ge i j with h | h
          · exact h
          · obtain rfl : i = j := by omega
            rw [hun] at hl; cases hl
        have hfj := hc j _ (hget j hjs)
        obtain ⟨p1, p2, p3⟩ := hfj.pairs i hne (hdesc j _ (hget j hjs) hl)
        have hle : (sg i).length ≤ (sg j).length := hc.le (by omega) (by omega)
        rcases hc.chg (hget j hjs) hch with ⟨c1, c2, _⟩ | ⟨c1, c2⟩
        · rcases hch with h | h
          · exact h (p2 id c2 hid)
          · omega
        · omega
  -- values under the names below
  have hcut : ∀ t ∈ o.looksAt ops, VRel F w (cut (sg i).length ρ) ((cur i).getD t .any) (a.tmps.getD t undef) := fun t ht => by
    rcases hlook t ht with ⟨j, o', h1, h2, h3, h4, h5⟩ | ⟨h1, h2⟩
    · rw [h4]
      exact (h5.scope (hc.scopes h2).1).weak (cut_le (hc.le (by omega) (by omega)))
    · rw [h1]
      refine (h2.scope (k := (sg 0).length) ?_).weak (cut_le h0i)
      cases hg : (cur 0)[t]? with
      | none => rw [List.getD_eq_getElem?_getD, hg]; rfl
      | some v => rw [List.getD_eq_getElem?_getD, hg]; exact scopeL h0s.1 t v hg
  have hlk : LookOk F w (cut (sg i).length ρ) (rgs i) a (o.looksAt ops) := LookOk.imp ⟨g0.tr r0 I.tr, fun t ht => hcut t ht⟩ hf.ch.req.1
  -- the small heap
  obtain ⟨σ2', hop, hmv⟩ := hf.loc.2 (maskH (Ts i) (sg i)) ⟨maskH_length _ _, fun id hid => by
    rcases Nat.lt_or_ge id (sg i).length with h | h
    · rw [maskH_obj _ _ h, if_pos (by simpa using hid)]
    · rw [obj_none h, obj_none (by rw [maskH_length]; exact h)]⟩
  have hmget : ∀ id o', (maskH (Ts i) (sg i))[id]? = some o' → o' = .dead ∨ (id ∈ Ts i ∧ id < (sg i).length ∧ S[id]? = some o' ∧ (sg i)[id]? = some o') := fun id o' h => by
    have hlt : id < (sg i).length := by have := (List.getElem?_eq_some_iff.1 h).1; rwa [maskH_length] at this
    have he := obj_of h
    rw [maskH_obj _ _ hlt] at he
    split at he
    · rename_i hct
      have hid : id ∈ Ts i := by simpa using hct
      exact .inr ⟨hid, hlt, by rw [obj_get (by omega), htouch id hid hlt, he], by rw [obj_get hlt, he]⟩
    · exact .inl he.symm
  have rlow : Rel (cut (sg i).length ρ) F (maskH (Ts i) (sg i)) w := by
    refine ⟨fun id o' b h1 h2 => ?_, fun id id' o1 o2 b h1 h2 h3 h4 h5 h6 => ?_, fun b hb => ⟨(I.rel.fr b hb).1, fun ⟨id, o', h1, h2, h3⟩ => ?_⟩, fun id b h => I.rel.lt id b (cut_some h).2, fun id h => ?_⟩
    · rcases hmget id o' h1 with rfl | ⟨g1, g2, g3, g4⟩
      · trivial
      · exact (I.rel.obj id o' b g3 (cut_some h2).2).scope (List.all_eq_true.1 hscopeI o' (List.mem_of_getElem? g4))
    · rcases hmget id o1 h1 with rfl | ⟨_, _, g3, _⟩
      · cases h3
      · rcases hmget id' o2 h2 with rfl | ⟨_, _, k3, _⟩
        · cases h4
        · exact I.rel.inj id id' o1 o2 b g3 k3 h3 h4 (cut_some h5).2 (cut_some h6).2
    · rcases hmget id o' h1 with rfl | ⟨_, _, g3, _⟩
      · cases h2
      · exact (I.rel.fr b hb).2 ⟨id, o', g3, h2, (cut_some h3).2⟩
    · rw [maskH_length] at h
      unfold cut
      rw [if_neg (by omega)]
  refine hop F w (cut (sg i).length ρ) a rlow hlk K Q fun F' w' ρs' cv t r' hv => ?_
  have hl2 : σ2'.length = (sg (i + 1)).length := hmv.len
  have hgap : ∀ id, (sg i).length ≤ id → id < σ2'.length → ρ id = none := fun id h1 h2 => I.unl i hi hun id h1 (by omega)
  let A : Nat → Prop := fun id => id < (sg (i + 1)).length ∧ (id ∈ Ts i ∨ (sg i).length ≤ id)
  have hAsame : ∀ id, A id → obj σ2' id = obj (sg (i + 1)) id := fun id ha => by
    rcases ha.2 with h | h
    · exact hmv.at_ id h
    · exact hmv.new id h
  obtain ⟨L1, L2, L3, L4, L5⟩ := lift_mask (S' := overH A (sg (i + 1)) S) (A := A) r0 I.tr I.rel h0i hin (maskH_length _ _) (by rw [hl2]; exact hf.len) (by rw [hl2]; exact hin1) (overH_length _ _ _)
    (fun id hid => by
      by_cases ht : id ∈ Ts i
      · exact .inl ⟨⟨by have := hf.len; omega, .inl ht⟩, by rw [maskH_obj _ _ hid, if_pos (by simpa using ht), htouch id ht hid]⟩
      · exact .inr ⟨fun ha => by rcases ha.2 with h | h; exact ht h; omega, by rw [maskH_obj _ _ hid, if_neg (by simpa using ht)]⟩)
    (fun id ha => ⟨by rw [hl2]; exact ha.1, by rw [overH_in (by have := ha.1; omega) ha, hAsame id ha]⟩)
    (fun id h1 h2 => ⟨by omega, .inr h1⟩) (fun id ha => overH_out ha) t r' hgap
  obtain ⟨v1, v2, v3, v4⟩ := I.vals hok ho L5 (hv.weak L4)
  refine hK _ w' _ F' _ ⟨by simpa using I.lsz, hdown, by rw [overH_length]; exact I.len, fun id => ?_, L1, L2, ?_, v1, v2, v3, v4⟩
  · by_cases hch : Chg sg i id
    · -- changed by this one
      have hA : A id := by
        rcases hc.chg ho hch with ⟨c1, c2, c3⟩ | ⟨c1, c2⟩
        · exact ⟨by have := hf.len; omega, .inl c3⟩
        · exact ⟨c2, .inr c1⟩
      refine ⟨i + 1, by omega, overH_in (by have := hA.1; omega) hA, fun j hj hl hcj => ?_, fun j hj hl hcj => ?_⟩
      · rw [lset] at hl
        split at hl
        · omega
        · rename_i hne
          refine Classical.byContradiction fun hnot => ?_
          have hlt : i < j := by omega
          have hfj := hc j _ (hget j hj)
          obtain ⟨p1, p2, p3⟩ := hfj.pairs i hlt (hdesc j _ (hget j hj) hl)
          have hle : (sg (i + 1)).length ≤ (sg j).length := hc.le (by omega) (by omega)
          rcases hc.chg (hget j hj) hcj with ⟨c1, c2, c3⟩ | ⟨c1, c2⟩
          · rcases hc.chg ho hch with ⟨d1, d2, d3⟩ | ⟨d1, d2⟩
            · rcases hcj with h | h
              · exact h (p2 id c2 d3)
              · omega
            · have := p3 id c3; omega
          · have := hA.1; omega
      · rw [lset] at hl
        split at hl
        · cases hl
        · rename_i hne
          refine Classical.byContradiction fun hnot => ?_
          have hlt : j < i := by omega
          obtain ⟨p1, p2, p3⟩ := hf.pairs j hlt (hanc' j hl)
          have hle : (sg (j + 1)).length ≤ (sg i).length := hc.le (by omega) (by omega)
          rcases hc.chg ho hch with ⟨d1, d2, d3⟩ | ⟨d1, d2⟩
          · rcases hc.chg (hget j hj) hcj with ⟨c1, c2, c3⟩ | ⟨c1, c2⟩
            · rcases hcj with h | h
              · exact h (p1 id c2 d3)
              · omega
            · have := p3 id d3; omega
          · rcases hc.chg (hget j hj) hcj with ⟨c1, c2, c3⟩ | ⟨c1, c2⟩
            · have : (sg j).length ≤ (sg i).length := hc.le (by omega) (by omega)
              omega
            · omega
    · obtain ⟨k, k1, k2, k3, k4⟩ := I.lev id
      refine ⟨k, k1, ?_, fun j hj hl hcj => ?_, fun j hj hl hcj => ?_⟩
      · by_cases hA : A id
        · have hlt : id < (sg i).length := by
            refine Classical.byContradiction fun hn => hch (.inr ⟨Nat.not_lt.1 hn, hA.1⟩)
          have hT : id ∈ Ts i := by rcases hA.2 with h | h; exact h; omega
          rw [overH_in (by omega) hA]
          have : obj (sg (i + 1)) id = obj (sg i) id := Classical.byContradiction fun hn => hch (.inl hn)
          rw [this, ← htouch id hT hlt, k2]
        · rw [overH_out hA, k2]
      · rw [lset] at hl
        split at hl
        · rename_i e; subst e; exact absurd hcj hch
        · exact k3 j hj hl hcj
      · rw [lset] at hl
        split at hl
        · cases hl
        · exact k4 j hj hl hcj
  · intro j hj hl id h1 h2
    rw [lset] at hl
    split at hl
    · cases hl
    · rename_i hne
      try dsimp only
      rw [if_neg ?_]
      · exact I.unl j hj hl id h1 h2
      · rintro ⟨g1, g2⟩
        rcases Nat.lt_or_ge i j with h | h
        · have : (sg (i + 1)).length ≤ (sg j).length := hc.le (by omega) (by omega)
          omega
        · have : (sg (j + 1)).length ≤ (sg i).length := hc.le (by omega) (by omega)
          omega

theorem count_set {listed : Array Bool} {i : Nat} (hi : i < listed.size) (h : listed.getD i false = false) : (listed.setIfInBounds i true).toList.count false + 1 = listed.toList.count false := by
  have hl : listed.toList[i]? = some false := by
    rw [Array.getElem?_toList, Array.getElem?_eq_getElem hi]
    rw [Array.getD_eq_getD_getElem?, Array.getElem?_eq_getElem hi] at h
    simpa using h
  rw [Array.toList_setIfInBounds]
  generalize listed.toList = l at hl
  clear h hi
  induction l generalizing i with
  | nil => simp at hl
  | cons x xs ih =>
    match i with
    | 0 => simp at hl; subst hl; simp
    | i + 1 =>
      have := ih (i := i) (by simpa using hl)
      simp only [List.set_cons_succ, List.count_cons]
      omega

theorem any_ok (g0 : GOk F0 w0) (r0 : Rel ρ0 F0 (sg 0) w0) (h0s : (inScopeL (sg 0).length (cur 0) && (sg 0).all (inScopeO (sg 0).length)) = true) (hc : Chain P ops sg cur rgs vs Ts Ws) (hok : okOrd ops = true) {Q : Exit → Act → World → Prop}
    (hQ : ∀ ρ' F' w' a', Tr (sg 0) (sg ops.size) ρ0 ρ' F0 F' w0 w' → Rel ρ' F' (sg ops.size) w' → ARel F' w' ρ' (cur ops.size) a' → Q .normal a' w') :
    ∀ (fuel : Nat) (listed : Array Bool) (a : Act) (w : World) (ρ : RMap) (F : Nat → Prop) (S : AState), listed.toList.count false = fuel → Inv ops sg cur vs ρ0 F0 w0 listed a w ρ F S → wpAny P .any ops Q fuel listed a w := by
  have fin : ∀ (listed : Array Bool) (a : Act) (w : World) (ρ : RMap) (F : Nat → Prop) (S : AState), Inv ops sg cur vs ρ0 F0 w0 listed a w ρ F S → (∀ j, j < ops.size → listed.getD j false = true) → Q .normal a w := by
    intro listed a w ρ F S I hall
    have hS : S = sg ops.size := by
      refine List.ext_getElem? fun id => ?_
      rcases Nat.lt_or_ge id S.length with hlt | hge
      · rw [obj_get hlt, obj_get (by rw [← I.len]; exact hlt)]
        obtain ⟨k, k1, k2, k3, _⟩ := I.lev id
        rw [k2, lev_eq' k1 fun j h1 h2 hch => by have := k3 j h2 (hall j h2) hch; omega]
      · rw [List.getElem?_eq_none hge, List.getElem?_eq_none (by rw [← I.len]; exact hge)]
    subst hS
    have hl := cur_len hc ops.size (Nat.le_refl _)
    refine hQ ρ F w a I.tr I.rel ⟨by rw [hl, I.asz], fun t v u h1 h2 => ?_, I.dfr, g0.tr r0 I.tr⟩
    have ht : t < (cur 0).length := by rw [← I.asz]; exact (Array.getElem?_eq_some_iff.1 h2).1
    have hu : a.tmps.getD t undef = u := by rw [Array.getD_eq_getD_getElem?, h2]; rfl
    have hv : (cur ops.size).getD t .any = v := by rw [List.getD_eq_getElem?_getD, h1]; rfl
    rw [← hu, ← hv]
    rcases cur_at hc t ht ops.size (Nat.le_refl _) with ⟨j, o', h1, h2, h3, h4⟩ | ⟨h1, h2⟩
    · rw [h4]; exact I.val t j o' h2 h3 (hall j h1) (by rw [I.asz]; exact ht)
    · rw [h1]; exact I.old t (by rw [I.asz]; exact ht) fun j o' hj hd => absurd hd (h2 j o' (Array.getElem?_eq_some_iff.1 hj).1 hj)
  have none_ready : ∀ (listed : Array Bool), listed.size = ops.size → Region.ready .any ops listed = [] → ∀ j, j < ops.size → listed.getD j false = true := by
    intro listed hsz hr j
    induction j using Nat.strongRecOn with
    | _ j ih =>
      intro hj
      cases hl : listed.getD j false with
      | true => rfl
      | false =>
        have : j ∈ Region.ready .any ops listed := mem_ready.2 ⟨by
          rw [Array.getD_eq_getD_getElem?, Array.getElem?_eq_getElem (by rw [hsz]; exact hj)] at hl ⊢
          simpa using hl, ops[j], Array.getElem?_eq_getElem hj, fun e he hb => by
            have := okOrd_edges hok (Array.getElem?_eq_getElem hj) e he hb
            exact ih e.on this (by omega)⟩
        rw [hr] at this; cases this
  intro fuel
  induction fuel with
  | zero =>
    intro listed a w ρ F S hcnt I
    have hall : ∀ j, j < ops.size → listed.getD j false = true := fun j hj => by
      have hj' : j < listed.size := by rw [I.lsz]; exact hj
      have := List.count_eq_zero.1 hcnt
      rw [Array.getD_eq_getD_getElem?, Array.getElem?_eq_getElem hj']
      have hm : listed[j] ∈ listed.toList := by simp
      cases hv : listed[j] with
      | true => rfl
      | false => rw [hv] at hm; exact absurd hm this
    refine ⟨?_, fin listed a w ρ F S I hall⟩
    cases hr : Region.ready .any ops listed with
    | nil => rfl
    | cons x xs =>
      have hx : x ∈ Region.ready .any ops listed := by rw [hr]; simp
      obtain ⟨h1, o, ho, _⟩ := mem_ready.1 hx
      have := hall x (Array.getElem?_eq_some_iff.1 ho).1
      have hx' : x < listed.size := by rw [I.lsz]; exact (Array.getElem?_eq_some_iff.1 ho).1
      rw [Array.getD_eq_getD_getElem?, Array.getElem?_eq_getElem hx'] at h1 this
      simp at h1 this
      rw [h1] at this; cases this
  | succ fuel ih =>
    intro listed a w ρ F S hcnt I
    refine ⟨fun hr => fin listed a w ρ F S I (none_ready listed I.lsz hr), fun i hi => ?_⟩
    obtain ⟨h1, o, ho, hall⟩ := mem_ready.1 hi
    have hlt : i < listed.size := by rw [I.lsz]; exact (Array.getElem?_eq_some_iff.1 ho).1
    have hun : listed.getD i false = false := by
      rw [Array.getD_eq_getD_getElem?, Array.getElem?_eq_getElem hlt] at h1 ⊢
      simpa using h1
    have hs := I.step g0 r0 h0s hc hok ho hun hall (wpAny P .any ops Q fuel (listed.setIfInBounds i true)) Q fun a' w' ρ' F' S' I' => ih _ a' w' ρ' F' S' (by have := count_set hlt hun; omega) I'
    unfold wpOp
    rw [ho]
    dsimp only
    split
    · rename_i hw; rw [if_pos hw] at hs; exact .inl hs
    · rename_i hw; rw [if_neg hw] at hs; exact hs

end
end Go.Abs
