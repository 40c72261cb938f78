import Derived.Test.YtchomggcjicokaaAbsAny2
set_option linter.unusedVariables false
set_option linter.unusedSimpArgs false
namespace Go.Abs

section
variable {P : Program} {ops : Array Oper} {sg : Nat → AState} {cur rgs : Nat → Regs} {vs : Nat → AVal}
  {F0 : Nat → Prop} {w0 : World} {ρ0 : RMap}

theorem cut_all {k : Nat} {ρ : RMap} (h : ∀ id, k ≤ id → ρ id = none) : ∀ id b, ρ id = some b → cut k ρ id = some b := by
  intro id b hb
  rcases Nat.lt_or_ge id k with h' | h'
  · exact cut_of h' hb
  · rw [h id h'] at hb; cases hb

theorem bar_none {listed : Array Bool} {i q : Nat} {o : Oper} (hd : Down ops listed) (hsz : listed.size = ops.size) (ho : ops[i]? = some o) (hp : isPure o.op = false) (hun : listed.getD i false = false) (hq : clsAt ops q = .bar) (hlt : i < q) : listed.getD q false = false := by
  obtain ⟨⟨oq, hoq, _⟩, hb⟩ := cls_bar hq
  cases h : listed.getD q false with
  | false => rfl
  | true =>
    have := anc_listed hd q oq i hoq (hd q oq hoq h) ((hb i o ho hp (by omega)).1 hlt) hsz
    rw [hun] at this; cases this

/-- One operation that may come up now. -/
theorem Inv.step {listed : Array Bool} {a : Act} {w : World} {ρ : RMap} {F : Nat → Prop} {q : Nat} (r0 : Rel ρ0 F0 (sg 0) w0) (h0s : (inScopeL (sg 0).length (cur 0) && (sg 0).all (inScopeO (sg 0).length)) = true)
    (I : Inv ops sg cur vs ρ0 F0 w0 listed a w ρ F q) (hc : Chain P ops sg cur rgs vs) (hok : okOrd ops = true) {i : Nat} {o : Oper} (ho : ops[i]? = some o) (hun : listed.getD i false = false)
    (hall : ∀ e ∈ o.after, Region.binds .any e = true → listed.getD e.on false = true) (K : Act → World → Prop) (Q : Exit → Act → World → Prop)
    (hK : ∀ a' w' ρ' F' q', Inv ops sg cur vs ρ0 F0 w0 (listed.setIfInBounds i true) a' w' ρ' F' q' → K a' w') :
    if Region.wanted o (yielded ops a.tmps) = true then o.wp P a w K Q else K (a.put o.dst undef) w := by
  simp only [Bool.and_eq_true] at h0s
  have hi : i < ops.size := (Array.getElem?_eq_some_iff.1 ho).1
  have his : i < listed.size := by rw [I.lsz]; exact hi
  have hch := hc i o ho
  have hlook := I.look hc hok ho hun hall
  have hdown := Inv.downSet I.lsz I.down ho hall
  have hanc : ∀ j, ((ancs ops.toList []).getD i 0).testBit j = true → listed.getD j false = true := fun j h => anc_listed I.down i o j ho hall h I.lsz
  have lset : ∀ j, (listed.setIfInBounds i true).getD j false = if i = j then true else listed.getD j false := fun j => listed_set his
  have hscope := hc.scopes ho
  -- what the temporaries hold, under fewer names
  have hvs : ∀ t ∈ o.looksAt ops, VRel F w ρ ((cur i).getD t .any) (a.tmps.getD t undef) := fun t ht => by
    rcases hlook t ht with ⟨j, o', h1, h2, h3, h4, h5⟩ | ⟨h1, h2⟩
    · rw [h4]; exact h5
    · rw [h1]; exact h2
  cases hp : isPure o.op with
  | true =>
    have hS := (hch.pur hp).2 (sg q)
    refine hS F w ρ a I.rel (LookOk.imp (fun t ht => hvs t ht) hch.req.1) K Q fun F' w' ρ' cv t r' hv => ?_
    obtain ⟨v1, v2, v3, v4⟩ := I.vals hok ho (fun v c h => h.tr I.rel t) hv
    refine hK _ w' ρ' F' q ⟨by simpa using I.lsz, hdown, I.qn, fun hq => ⟨(I.qb hq).1, ?_⟩, fun b hb hcl => ?_, r', Tr.trans r0 I.tr t, ?_, v1, v2, v3, v4⟩
    · rw [lset]
      rw [if_neg]
      · exact (I.qb hq).2
      · rintro rfl; have := (I.qb hq).1; rw [cls_pure ho hp] at this; cases this
    · rw [lset]; split
      · rfl
      · exact I.bef b hb hcl
    · intro j o' hj hpj hl id h1 h2
      rw [lset] at hl
      split at hl
      · cases hl
      · have hn := I.unl j o' hj hpj hl id h1 h2
        cases hr : ρ' id with
        | none => rfl
        | some b =>
          rcases t.newρ id b hr with h | ⟨h, _⟩
          · rw [hn] at h; cases h
          · rw [r'.dom id h] at hr; cases hr
  | false =>
    -- it stands ahead of the next bar
    have hiq : i ≤ q := by
      rcases Nat.lt_or_ge q i with h | h
      · have hqs : q < ops.size := by omega
        obtain ⟨hq1, hq2⟩ := I.qb hqs
        obtain ⟨⟨oq, hoq, _⟩, hb⟩ := cls_bar hq1
        have := hanc q ((hb i o ho hp (by omega)).2 h)
        rw [hq2] at this; cases this
      · exact h
    have hnob : ∀ b, i < b → b < q → clsAt ops b ≠ .bar := fun b h1 h2 hb => by
      have := bar_none I.down I.lsz ho hp hun hb h1
      rw [I.bef b h2 hb] at this; cases this
    have hscopeI : (sg i).all (inScopeO (sg i).length) = true := hc.scopeAt h0s.2 i (by omega)
    have h0i : (sg 0).length ≤ (sg i).length := hc.le (Nat.zero_le _) (by omega)
    -- values under the names below
    have hcut : ∀ t ∈ o.looksAt ops, VRel F w (cut (sg i).length ρ) ((cur i).getD t .any) (a.tmps.getD t undef) := fun t ht => by
      rcases hlook t ht with ⟨j, o', h1, h2, h3, h4, h5⟩ | ⟨h1, h2⟩
      · rw [h4]
        exact (h5.scope (hc.scopes h2).1).weak (cut_le (hc.le (by omega) (by omega)))
      · rw [h1]
        refine (h2.scope (k := (sg 0).length) ?_).weak (cut_le h0i)
        cases hg : (cur 0)[t]? with
        | none => rw [List.getD_eq_getElem?_getD, hg]; rfl
        | some v => rw [List.getD_eq_getElem?_getD, hg]; exact scopeL h0s.1 t v hg
    have hlk : LookOk F w (cut (sg i).length ρ) (rgs i) a (o.looksAt ops) := LookOk.imp (fun t ht => hcut t ht) hch.req.1
    have hlen := hc.len ho
    -- the lower part of the heap
    have hlow : ∀ S : AState, S = sg q → (S.take (sg i).length = sg i) → Rel (cut (sg i).length ρ) F (sg i) w := fun S hS hpre => by
      subst hS
      have := I.rel.low (k := (sg i).length) (hc.le hiq I.qn) (fun id o' hlt hid => by
        have : (sg i)[id]? = some o' := by rw [← hpre, List.getElem?_take_of_lt hlt]; exact hid
        exact List.all_eq_true.1 hscopeI _ (List.mem_of_getElem? this))
      rwa [hpre] at this
    have hpre : (sg q).take (sg i).length = sg i := by
      by_cases e : i = q
      · subst e; simp
      · by_cases hbi : clsAt ops i = .bar
        · have := I.bef i (by omega) hbi
          rw [hun] at this; cases this
        · exact hc.pre' hiq I.qn fun b h1 h2 => by
            by_cases e : b = i
            · subst e; exact hbi
            · exact hnob b (by omega) h2
    have rlow := hlow _ rfl hpre
    refine hch.op F w (cut (sg i).length ρ) a rlow hlk K Q fun F' w' ρs' cv t r' hv => ?_
    have hgap : ∀ id, (sg i).length ≤ id → id < (sg (i + 1)).length → ρ id = none := I.unl i o ho hp hun
    have tl : Tr ((sg q).take (sg i).length) (sg (i + 1)) (cut (sg i).length ρ) ρs' F F' w w' := by rw [hpre]; exact t
    rcases cls_np ho hp with hcl | ⟨hcl, _⟩
    · -- a bar
      have hqi : i = q := by
        rcases Nat.lt_or_ge i q with h | h
        · have := I.bef i h hcl; rw [hun] at this; cases this
        · omega
      subst hqi
      obtain ⟨q', g1, g2, g3, g4⟩ := nextBar ops (ops.size - (i + 1)) (i + 1) (by omega)
      have hpre' : (sg q').take (sg (i + 1)).length = sg (i + 1) := hc.pre' g1 g2 g4
      obtain ⟨L1, L2, L3, L4, L5⟩ := lift_step (S' := sg q') r0 I.tr I.rel h0i (Nat.le_refl _) tl r' hpre'
        (fun id b h1 h2 => by have := I.rel.dom id (by omega); rw [this] at h2; cases h2) hgap
      obtain ⟨v1, v2, v3, v4⟩ := I.vals hok ho L5 (hv.weak L4)
      have hafter : ∀ j o', ops[j]? = some o' → isPure o'.op = false → i < j → listed.getD j false = false := fun j o' hj hpj hlt => by
        cases hl : listed.getD j false with
        | false => rfl
        | true =>
          have := anc_listed I.down j o' i hj (I.down j o' hj hl) (((cls_bar hcl).2 j o' hj hpj (by omega)).2 hlt) I.lsz
          rw [hun] at this; cases this
      refine hK _ w' _ F' q' ⟨by simpa using I.lsz, hdown, g2, fun hq => ⟨g3 hq, ?_⟩, fun b hb hclb => ?_, L1, L2, ?_, v1, v2, v3, v4⟩
      · obtain ⟨⟨oq, hoq, hpq⟩, _⟩ := cls_bar (g3 hq)
        rw [lset, if_neg (by omega)]
        exact hafter q' oq hoq hpq (by omega)
      · rw [lset]
        split
        · rfl
        · rename_i hne
          rcases Nat.lt_or_ge b i with h | h
          · exact I.bef b h hclb
          · exact absurd hclb (g4 b (by omega) hb)
      · intro j o' hj hpj hl id h1 h2
        rw [lset] at hl
        split at hl
        · cases hl
        · rename_i hne
          have hji : i < j := by
            rcases Nat.lt_or_ge j i with h | h
            · have := hanc j (((cls_bar hcl).2 j o' hj hpj (by omega)).1 h)
              rw [hl] at this; cases this
            · omega
          have hle : (sg (i + 1)).length ≤ (sg j).length := hc.le (by omega) (Nat.le_of_lt (Array.getElem?_eq_some_iff.1 hj).1)
          try dsimp only
          rw [if_neg (by omega)]
          exact I.rel.dom id (by omega)
    · -- it only adds
      have hne : i ≠ q := by
        rintro rfl
        exact hcl (I.qb hi).1
      have hpre' : (sg q).take (sg (i + 1)).length = sg (i + 1) := hc.pre' (by omega) I.qn fun b h1 h2 => hnob b (by omega) h2
      obtain ⟨L1, L2, L3, L4, L5⟩ := lift_step (S' := sg q) r0 I.tr I.rel h0i (hc.le hiq I.qn) tl r' hpre' (fun id b h1 h2 => rfl) hgap
      obtain ⟨v1, v2, v3, v4⟩ := I.vals hok ho L5 (hv.weak L4)
      refine hK _ w' _ F' q ⟨by simpa using I.lsz, hdown, I.qn, fun hq => ⟨(I.qb hq).1, ?_⟩, fun b hb hclb => ?_, L1, L2, ?_, v1, v2, v3, v4⟩
      · rw [lset, if_neg hne]; exact (I.qb hq).2
      · rw [lset]
        split
        · rfl
        · exact I.bef b hb hclb
      · intro j o' hj hpj hl id h1 h2
        rw [lset] at hl
        split at hl
        · cases hl
        · rename_i hne'
          have hn := I.unl j o' hj hpj hl id h1 h2
          have hjs : j < ops.size := (Array.getElem?_eq_some_iff.1 hj).1
          try dsimp only
          split
          · rename_i hlt
            -- names of another operation
            rcases Nat.lt_or_ge j i with h | h
            · have : (sg (j + 1)).length ≤ (sg i).length := hc.le (by omega) (by omega)
              cases hr : ρs' id with
              | none => rfl
              | some b =>
                rcases t.newρ id b hr with h5 | ⟨h5, _⟩
                · rw [(cut_some h5).2] at hn; cases hn
                · omega
            · have : (sg (i + 1)).length ≤ (sg j).length := hc.le (by omega) (by omega)
              omega
          · exact hn

theorem count_set {listed : Array Bool} {i : Nat} (hi : i < listed.size) (h : listed.getD i false = false) : (listed.setIfInBounds i true).toList.count false + 1 = listed.toList.count false := by
  have hl : listed.toList[i]? = some false := by
    rw [Array.getElem?_toList, Array.getElem?_eq_getElem hi]
    rw [Array.getD_eq_getD_getElem?, Array.getElem?_eq_getElem hi] at h
    simpa using h
  rw [Array.toList_setIfInBounds]
  generalize listed.toList = l at hl
  clear h hi
  induction l generalizing i with
  | nil => simp at hl
  | cons x xs ih =>
    match i with
    | 0 => simp at hl; subst hl; simp
    | i + 1 =>
      have := ih (i := i) (by simpa using hl)
      simp only [List.set_cons_succ, List.count_cons]
      omega

theorem any_ok (r0 : Rel ρ0 F0 (sg 0) w0) (h0s : (inScopeL (sg 0).length (cur 0) && (sg 0).all (inScopeO (sg 0).length)) = true) (hc : Chain P ops sg cur rgs vs) (hok : okOrd ops = true) {Q : Exit → Act → World → Prop}
    (hQ : ∀ ρ' F' w' a', Tr (sg 0) (sg ops.size) ρ0 ρ' F0 F' w0 w' → Rel ρ' F' (sg ops.size) w' → ARel F' w' ρ' (cur ops.size) a' → Q .normal a' w') :
    ∀ (fuel : Nat) (listed : Array Bool) (a : Act) (w : World) (ρ : RMap) (F : Nat → Prop) (q : Nat), listed.toList.count false = fuel → Inv ops sg cur vs ρ0 F0 w0 listed a w ρ F q → wpAny P .any ops Q fuel listed a w := by
  have fin : ∀ (listed : Array Bool) (a : Act) (w : World) (ρ : RMap) (F : Nat → Prop) (q : Nat), Inv ops sg cur vs ρ0 F0 w0 listed a w ρ F q → (∀ j, j < ops.size → listed.getD j false = true) → Q .normal a w := by
    intro listed a w ρ F q I hall
    have hq : q = ops.size := by
      rcases Nat.lt_or_ge q ops.size with h | h
      · have := (I.qb h).2; rw [hall q h] at this; cases this
      · have := I.qn; omega
    subst hq
    have hl := cur_len hc ops.size (Nat.le_refl _)
    refine hQ ρ F w a I.tr I.rel ⟨by rw [hl, I.asz], fun t v u h1 h2 => ?_, I.dfr⟩
    have ht : t < (cur 0).length := by rw [← I.asz]; exact (Array.getElem?_eq_some_iff.1 h2).1
    have hu : a.tmps.getD t undef = u := by rw [Array.getD_eq_getD_getElem?, h2]; rfl
    have hv : (cur ops.size).getD t .any = v := by rw [List.getD_eq_getElem?_getD, h1]; rfl
    rw [← hu, ← hv]
    rcases cur_at hc t ht ops.size (Nat.le_refl _) with ⟨j, o', h1, h2, h3, h4⟩ | ⟨h1, h2⟩
    · rw [h4]; exact I.val t j o' h2 h3 (hall j h1) (by rw [I.asz]; exact ht)
    · rw [h1]; exact I.old t (by rw [I.asz]; exact ht) fun j o' hj hd => absurd hd (h2 j o' (Array.getElem?_eq_some_iff.1 hj).1 hj)
  have none_ready : ∀ (listed : Array Bool), listed.size = ops.size → Region.ready .any ops listed = [] → ∀ j, j < ops.size → listed.getD j false = true := by
    intro listed hsz hr j
    induction j using Nat.strongRecOn with
    | _ j ih =>
      intro hj
      cases hl : listed.getD j false with
      | true => rfl
      | false =>
        have : j ∈ Region.ready .any ops listed := mem_ready.2 ⟨by
          rw [Array.getD_eq_getD_getElem?, Array.getElem?_eq_getElem (by rw [hsz]; exact hj)] at hl ⊢
          simpa using hl, ops[j], Array.getElem?_eq_getElem hj, fun e he hb => by
            have := okOrd_edges hok (Array.getElem?_eq_getElem hj) e he hb
            exact ih e.on this (by omega)⟩
        rw [hr] at this; cases this
  intro fuel
  induction fuel with
  | zero =>
    intro listed a w ρ F q hcnt I
    have hall : ∀ j, j < ops.size → listed.getD j false = true := fun j hj => by
      have hj' : j < listed.size := by rw [I.lsz]; exact hj
      have := List.count_eq_zero.1 hcnt
      rw [Array.getD_eq_getD_getElem?, Array.getElem?_eq_getElem hj']
      have hm : listed[j] ∈ listed.toList := by simp
      cases hv : listed[j] with
      | true => rfl
      | false => rw [hv] at hm; exact absurd hm this
    refine ⟨?_, fin listed a w ρ F q I hall⟩
    cases hr : Region.ready .any ops listed with
    | nil => rfl
    | cons x xs =>
      have hx : x ∈ Region.ready .any ops listed := by rw [hr]; simp
      obtain ⟨h1, o, ho, _⟩ := mem_ready.1 hx
      have := hall x (Array.getElem?_eq_some_iff.1 ho).1
      have hx' : x < listed.size := by rw [I.lsz]; exact (Array.getElem?_eq_some_iff.1 ho).1
      rw [Array.getD_eq_getD_getElem?, Array.getElem?_eq_getElem hx'] at h1 this
      simp at h1 this
      rw [h1] at this; cases this
  | succ fuel ih =>
    intro listed a w ρ F q hcnt I
    refine ⟨fun hr => fin listed a w ρ F q I (none_ready listed I.lsz hr), fun i hi => ?_⟩
    obtain ⟨h1, o, ho, hall⟩ := mem_ready.1 hi
    have hlt : i < listed.size := by rw [I.lsz]; exact (Array.getElem?_eq_some_iff.1 ho).1
    have hun : listed.getD i false = false := by
      rw [Array.getD_eq_getD_getElem?, Array.getElem?_eq_getElem hlt] at h1 ⊢
      simpa using h1
    have hs := I.step r0 h0s hc hok ho hun hall (wpAny P .any ops Q fuel (listed.setIfInBounds i true)) Q fun a' w' ρ' F' q' I' => ih _ a' w' ρ' F' q' (by have := count_set hlt hun; omega) I'
    unfold wpOp
    rw [ho]
    dsimp only
    split
    · rename_i hw; rw [if_pos hw] at hs; exact .inl hs
    · rename_i hw; rw [if_neg hw] at hs; exact hs

end
end Go.Abs
