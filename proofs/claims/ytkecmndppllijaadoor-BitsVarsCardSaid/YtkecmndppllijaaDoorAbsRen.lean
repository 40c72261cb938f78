import Derived.Test.YtkecmndppllijaaDoorAbsFrame
set_option linter.unusedVariables false
set_option linter.unusedSimpArgs false
namespace Go.Abs

section
variable {P : Program} {F : Nat → Prop} {w : World}

theorem renL_get {e : Nat → Nat} : ∀ (l : List AVal) (i : Nat), (renL e l)[i]? = (l[i]?).map (ren e)
  | [], i => by simp [renL]
  | v :: vs, 0 => by simp [renL]
  | v :: vs, i + 1 => by simp [renL, renL_get vs i]
theorem renL_length {e : Nat → Nat} : ∀ (l : List AVal), (renL e l).length = l.length
  | [] => rfl
  | v :: vs => by simp [renL, renL_length vs]

/-- From few names to many. -/
theorem VRel.ren {ρ ρ' : RMap} {e : Nat → Nat} {v : AVal} {c : Value} (h : VRel F w ρ v c) : (∀ id b, ρ id = some b → ρ' (e id) = some b) → VRel F w ρ' (Abs.ren e v) c := by
  induction h with
  | any => intro _; exact .any _ _
  | tt => intro _; exact .tt _ _
  | bool => intro _; exact .bool _ _
  | int => intro _; exact .int _ _ _
  | str => intro _; exact .str _ _
  | nilp => intro _; exact .nilp _
  | ptr ρ id es i j b h => intro he; exact .ptr _ _ _ _ _ _ (he _ _ h)
  | slc ρ id es off len cap c b h hl hc hs => intro he; exact .slc _ _ _ _ _ _ _ _ (he _ _ h) hl hc hs
  | slcE ρ n id es off cap base hb hc => intro _; exact .slcE _ _ _ _ _ _ _ hb hc
  | fnil ρ es cap hc => intro _; exact .fnil _ _ _ hc
  | femp ρ es a c cap hc => intro _; exact .femp _ _ _ _ _ hc
  | fsl ρ es rows b o c cap f hFb hl hc hw hg hv ih => intro _; exact .fsl _ _ _ _ _ _ _ f hFb hl hc hw hg hv
  | fptr ρ es rows i0 j0 b o f hFb hw hg hv ih => intro _; exact .fptr _ _ _ _ _ _ _ f hFb hw hg hv
  | nilm => intro _; exact .nilm _
  | map ρ id b h => intro he; exact .map _ _ _ (he _ _ h)
  | func ρ f cap cv hl h ih =>
    intro he
    refine .func _ _ _ _ (by rw [renL_length]; exact hl) fun i v u h1 h2 => ?_
    rw [renL_get, Option.map_eq_some_iff] at h1
    obtain ⟨x, hx, rfl⟩ := h1
    exact ih i x u hx h2 he
  | nilf => intro _; exact .nilf _
  | agg ρ cs cv hl h ih =>
    intro he
    refine .agg _ _ _ (by rw [renL_length]; exact hl) fun i v u h1 h2 => ?_
    rw [renL_get, Option.map_eq_some_iff] at h1
    obtain ⟨x, hx, rfl⟩ := h1
    exact ih i x u hx h2 he
  | pagg ρ cs cv hl h ih => intro _; exact .pagg _ _ _ hl h
  | tuple ρ cs cv hl h ih =>
    intro he
    refine .tuple _ _ _ (by rw [renL_length]; exact hl) fun i v u h1 h2 => ?_
    rw [renL_get, Option.map_eq_some_iff] at h1
    obtain ⟨x, hx, rfl⟩ := h1
    exact ih i x u hx h2 he
  | nili => intro _; exact .nili _
  | iface ρ t v u h ih => intro he; exact .iface _ _ _ _ (ih he)

/-- From many names to few. -/
theorem VRel.unren {ρ ρ' : RMap} {e : Nat → Nat} {k : Nat} {c : Value} {v0 : AVal} (h : VRel F w ρ v0 c) : (∀ id b, id < k → ρ (e id) = some b → ρ' id = some b) → ∀ v, v0 = Abs.ren e v → inScope k v = true → VRel F w ρ' v c := by
  induction h with
  | any => intro _ v hv hs; cases v <;> simp [Abs.ren] at hv; exact .any _ _
  | tt => intro _ v hv hs; cases v <;> simp [Abs.ren] at hv; subst hv; exact .tt _ _
  | bool => intro _ v hv hs; cases v <;> simp [Abs.ren] at hv; subst hv; exact .bool _ _
  | int => intro _ v hv hs; cases v <;> simp [Abs.ren] at hv; obtain ⟨rfl, rfl⟩ := hv; exact .int _ _ _
  | str => intro _ v hv hs; cases v <;> simp [Abs.ren] at hv; subst hv; exact .str _ _
  | nilp => intro _ v hv hs; cases v <;> simp [Abs.ren] at hv; exact .nilp _
  | ptr ρ id es i j b h =>
    intro he v hv hs
    cases v <;> simp [Abs.ren] at hv
    obtain ⟨rfl, rfl, rfl, rfl⟩ := hv
    exact .ptr _ _ _ _ _ _ (he _ _ (by simpa [inScope] using hs) h)
  | slc ρ id es off len cap c b h hl hc hss =>
    intro he v hv hs
    cases v <;> simp [Abs.ren] at hv
    obtain ⟨rfl, rfl, rfl, rfl, rfl, rfl⟩ := hv
    exact .slc _ _ _ _ _ _ _ _ (he _ _ (by simpa [inScope] using hs) h) hl hc hss
  | slcE ρ n id es off cap base hb hc =>
    intro he v hv hs
    cases v <;> simp [Abs.ren] at hv
    obtain ⟨rfl, rfl, rfl, rfl, rfl, rfl⟩ := hv
    exact .slcE _ _ _ _ _ _ _ hb hc
  | fnil ρ es cap hc =>
    intro he v hv hs
    cases v <;> simp [Abs.ren] at hv
    obtain ⟨rfl, rfl, rfl, rfl⟩ := hv
    exact .fnil _ _ _ hc
  | femp ρ es a c cap hc =>
    intro he v hv hs
    cases v <;> simp [Abs.ren] at hv
    obtain ⟨rfl, rfl, rfl, rfl⟩ := hv
    exact .femp _ _ _ _ _ hc
  | fsl ρ es rows b o c cap f hFb hl hc hw hg hv0 ih =>
    intro he v hv hs
    cases v <;> simp [Abs.ren] at hv
    obtain ⟨rfl, rfl, rfl, rfl⟩ := hv
    exact .fsl _ _ _ _ _ _ _ f hFb hl hc hw hg hv0
  | fptr ρ es rows i0 j0 b o f hFb hw hg hv0 ih =>
    intro he v hv hs
    cases v <;> simp [Abs.ren] at hv
    obtain ⟨rfl, rfl, rfl, rfl⟩ := hv
    exact .fptr _ _ _ _ _ _ _ f hFb hw hg hv0
  | nilm => intro _ v hv hs; cases v <;> simp [Abs.ren] at hv; exact .nilm _
  | map ρ id b h =>
    intro he v hv hs
    cases v <;> simp [Abs.ren] at hv
    subst hv
    exact .map _ _ _ (he _ _ (by simpa [inScope] using hs) h)
  | func ρ f cap cv hl h ih =>
    intro he v hv hs
    cases v <;> simp [Abs.ren] at hv
    obtain ⟨rfl, rfl⟩ := hv
    simp only [inScope] at hs
    refine .func _ _ _ _ (by rw [renL_length] at hl; exact hl) fun i v u h1 h2 => ?_
    exact ih i (Abs.ren e v) u (by rw [renL_get, h1]; rfl) h2 he v rfl (scopeL hs i v h1)
  | nilf => intro _ v hv hs; cases v <;> simp [Abs.ren] at hv; exact .nilf _
  | agg ρ cs cv hl h ih =>
    intro he v hv hs
    cases v <;> simp [Abs.ren] at hv
    subst hv
    simp only [inScope] at hs
    refine .agg _ _ _ (by rw [renL_length] at hl; exact hl) fun i v u h1 h2 => ?_
    exact ih i (Abs.ren e v) u (by rw [renL_get, h1]; rfl) h2 he v rfl (scopeL hs i v h1)
  | pagg ρ cs cv hl h ih => intro _ v hv hs; cases v <;> simp [Abs.ren] at hv; subst hv; exact .pagg _ _ _ hl h
  | tuple ρ cs cv hl h ih =>
    intro he v hv hs
    cases v <;> simp [Abs.ren] at hv
    subst hv
    simp only [inScope] at hs
    refine .tuple _ _ _ (by rw [renL_length] at hl; exact hl) fun i v u h1 h2 => ?_
    exact ih i (Abs.ren e v) u (by rw [renL_get, h1]; rfl) h2 he v rfl (scopeL hs i v h1)
  | nili => intro _ v hv hs; cases v <;> simp [Abs.ren] at hv; exact .nili _
  | iface ρ t v u h ih =>
    intro he v hv hs
    cases v <;> simp [Abs.ren] at hv
    obtain ⟨rfl, rfl⟩ := hv
    exact .iface _ _ _ _ (ih he _ rfl (by simpa [inScope] using hs))

theorem ORel.ren {ρ ρ' : RMap} {e : Nat → Nat} {b : Nat} {o : AObj} (h : ORel F w ρ b o) (he : ∀ id b, ρ id = some b → ρ' (e id) = some b) : ORel F w ρ' b (renO e o) := by
  cases o with
  | dead => trivial
  | rows p es rs =>
    cases p with
    | true => exact h
    | false =>
      obtain ⟨cs, T, fr, h1, h2, h3, h4, h5⟩ := h
      refine ⟨cs, T, fr, h1, h2, by simpa using h3, fun i row hr => ?_, fun i j row v hr hv => ?_⟩
      · rw [List.getElem?_map, Option.map_eq_some_iff] at hr
        obtain ⟨r0, hr0, rfl⟩ := hr
        rw [renL_length]; exact h4 i r0 hr0
      · rw [List.getElem?_map, Option.map_eq_some_iff] at hr
        obtain ⟨r0, hr0, rfl⟩ := hr
        rw [renL_get, Option.map_eq_some_iff] at hv
        obtain ⟨v0, hv0, rfl⟩ := hv
        obtain ⟨cv, g1, g2⟩ := h5 i j r0 v0 hr0 hv0
        exact ⟨cv, g1, VRel.ren (ρ := ρ) g2 he⟩
  | trows T0 p es rs =>
    cases p with
    | true => exact h
    | false =>
      obtain ⟨cs, fr, h1, h2, h3, h4, h5⟩ := h
      refine ⟨cs, fr, h1, h2, by simpa using h3, fun i row hr => ?_, fun i j row v hr hv => ?_⟩
      · rw [List.getElem?_map, Option.map_eq_some_iff] at hr
        obtain ⟨r0, hr0, rfl⟩ := hr
        rw [renL_length]; exact h4 i r0 hr0
      · rw [List.getElem?_map, Option.map_eq_some_iff] at hr
        obtain ⟨r0, hr0, rfl⟩ := hr
        rw [renL_get, Option.map_eq_some_iff] at hv
        obtain ⟨v0, hv0, rfl⟩ := hv
        obtain ⟨cv, g1, g2⟩ := h5 i j r0 v0 hr0 hv0
        exact ⟨cv, g1, VRel.ren (ρ := ρ) g2 he⟩
  | mp p ents =>
    cases p with
    | true => exact h
    | false =>
      obtain ⟨es, clock, h1, h2, h3⟩ := h
      refine ⟨es, clock, h1, by simpa using h2, fun i k v hr => ?_⟩
      rw [List.getElem?_map, Option.map_eq_some_iff] at hr
      obtain ⟨⟨k0, v0⟩, hr0, he0⟩ := hr
      simp only [Prod.mk.injEq] at he0
      obtain ⟨rfl, rfl⟩ := he0
      obtain ⟨x, g1, g2, g3⟩ := h3 i k0 v0 hr0
      exact ⟨x, g1, VRel.ren (ρ := ρ) g2 he, VRel.ren (ρ := ρ) g3 he⟩

theorem ORel.unren {ρ ρ' : RMap} {e : Nat → Nat} {b k : Nat} {o : AObj} (h : ORel F w ρ b (renO e o)) (he : ∀ id b, id < k → ρ (e id) = some b → ρ' id = some b) (hs : inScopeO k o = true) : ORel F w ρ' b o := by
  cases o with
  | dead => trivial
  | rows p es rs =>
    cases p with
    | true => exact h
    | false =>
      obtain ⟨cs, T, fr, h1, h2, h3, h4, h5⟩ := h
      simp only [inScopeO, Bool.false_or] at hs
      refine ⟨cs, T, fr, h1, h2, by simpa using h3, fun i row hr => ?_, fun i j row v hr hv => ?_⟩
      · have := h4 i (renL e row) (by rw [List.getElem?_map, hr]; rfl)
        rw [renL_length] at this; exact this
      · obtain ⟨cv, g1, g2⟩ := h5 i j (renL e row) (Abs.ren e v) (by rw [List.getElem?_map, hr]; rfl) (by rw [renL_get, hv]; rfl)
        exact ⟨cv, g1, VRel.unren (ρ := ρ) g2 he v rfl (scopeL (List.all_eq_true.1 hs row (List.mem_of_getElem? hr)) j v hv)⟩
  | trows T0 p es rs =>
    cases p with
    | true => exact h
    | false =>
      obtain ⟨cs, fr, h1, h2, h3, h4, h5⟩ := h
      simp only [inScopeO, Bool.false_or] at hs
      refine ⟨cs, fr, h1, h2, by simpa using h3, fun i row hr => ?_, fun i j row v hr hv => ?_⟩
      · have := h4 i (renL e row) (by rw [List.getElem?_map, hr]; rfl)
        rw [renL_length] at this; exact this
      · obtain ⟨cv, g1, g2⟩ := h5 i j (renL e row) (Abs.ren e v) (by rw [List.getElem?_map, hr]; rfl) (by rw [renL_get, hv]; rfl)
        exact ⟨cv, g1, VRel.unren (ρ := ρ) g2 he v rfl (scopeL (List.all_eq_true.1 hs row (List.mem_of_getElem? hr)) j v hv)⟩
  | mp p ents =>
    cases p with
    | true => exact h
    | false =>
      obtain ⟨es, clock, h1, h2, h3⟩ := h
      simp only [inScopeO, Bool.false_or] at hs
      refine ⟨es, clock, h1, by simpa using h2, fun i k v hr => ?_⟩
      obtain ⟨x, g1, g2, g3⟩ := h3 i (Abs.ren e k) (Abs.ren e v) (by rw [List.getElem?_map, hr]; rfl)
      have := List.all_eq_true.1 hs _ (List.mem_of_getElem? hr)
      simp only [Bool.and_eq_true] at this
      exact ⟨x, g1, VRel.unren (ρ := ρ) g2 he k rfl this.1, VRel.unren (ρ := ρ) g3 he v rfl this.2⟩

theorem renO_live {e : Nat → Nat} {o : AObj} : (renO e o).live = o.live := by
  cases o with
  | dead => rfl
  | rows p es rs => cases p <;> rfl
  | trows T0 p es rs => cases p <;> rfl
  | mp p ents => cases p <;> rfl

theorem old_inv {π : List Nat} {id : Nat} (h : π.contains id = true) : old π (invId π id) = id := by
  unfold old invId
  have hm : id ∈ π := by simpa using h
  rw [List.getD_eq_getElem?_getD, List.getElem?_eq_getElem (List.idxOf_lt_length_of_mem hm)]
  simp
mutual
theorem ren_back {π : List Nat} : ∀ (v : AVal), idsIn π v = true → Abs.ren (old π) (Abs.ren (invId π) v) = v
  | .any, _ | .tt _, _ | .bool _, _ | .int _ _, _ | .str _, _ | .nilp, _ | .fsl _ _ _ _, _ | .fptr _ _ _ _, _ | .nilm, _ | .nilf, _ | .pagg _, _ | .nili, _ => rfl
  | .ptr id _ _ _, h => by simp only [idsIn] at h; simp only [Abs.ren]; rw [old_inv h]
  | .slc _ id _ _ _ _, h => by simp only [idsIn] at h; simp only [Abs.ren]; rw [old_inv h]
  | .map id, h => by simp only [idsIn] at h; simp only [Abs.ren]; rw [old_inv h]
  | .func _ cap, h => by simp only [idsIn] at h; simp only [Abs.ren]; rw [renL_back cap h]
  | .agg cs, h => by simp only [idsIn] at h; simp only [Abs.ren]; rw [renL_back cs h]
  | .tuple cs, h => by simp only [idsIn] at h; simp only [Abs.ren]; rw [renL_back cs h]
  | .iface _ v, h => by simp only [idsIn] at h; simp only [Abs.ren]; rw [ren_back v h]
theorem renL_back {π : List Nat} : ∀ (vs : List AVal), idsInL π vs = true → Abs.renL (old π) (Abs.renL (invId π) vs) = vs
  | [], _ => rfl
  | v :: vs, h => by
    simp only [idsInL, Bool.and_eq_true] at h
    simp only [Abs.renL]
    rw [ren_back v h.1, renL_back vs h.2]
end
theorem renO_back {π : List Nat} {o : AObj} (h : idsInO π o = true) : renO (old π) (renO (invId π) o) = o := by
  cases o with
  | dead => rfl
  | rows p es rs =>
    cases p with
    | true => rfl
    | false =>
      simp only [idsInO, Bool.false_or] at h
      simp only [renO, List.map_map]
      congr 1
      conv => rhs; rw [← List.map_id rs]
      refine List.map_congr_left fun r hr => renL_back r (List.all_eq_true.1 h r hr)
  | trows T0 p es rs =>
    cases p with
    | true => rfl
    | false =>
      simp only [idsInO, Bool.false_or] at h
      simp only [renO, List.map_map]
      congr 1
      conv => rhs; rw [← List.map_id rs]
      refine List.map_congr_left fun r hr => renL_back r (List.all_eq_true.1 h r hr)
  | mp p ents =>
    cases p with
    | true => rfl
    | false =>
      simp only [idsInO, Bool.false_or] at h
      simp only [renO, List.map_map]
      congr 1
      conv => rhs; rw [← List.map_id ents]
      refine List.map_congr_left fun r hr => ?_
      have := List.all_eq_true.1 h r hr
      simp only [Bool.and_eq_true] at this
      show (Abs.ren (old π) (Abs.ren (invId π) r.1), Abs.ren (old π) (Abs.ren (invId π) r.2)) = r
      rw [ren_back _ this.1, ren_back _ this.2]

end
end Go.Abs
