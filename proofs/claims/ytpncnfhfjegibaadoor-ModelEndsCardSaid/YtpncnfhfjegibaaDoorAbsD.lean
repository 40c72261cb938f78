import Derived.BigCall
import Derived.Orders
import Derived.Test.YtpncnfhfjegibaaDoorAbsC
section
set_option linter.unusedVariables false
set_option linter.unusedSectionVars false
set_option linter.unusedSimpArgs false
namespace Go.Abs
variable [Glob]

section
variable {P : Program} {F : FS} {w : World} {ρ : RMap} {σ : AState}

def Step1 (P : Program) (F : FS) (w : World) (ρ : RMap) (σ : AState) (out : Out) (s : Sem Next) : Prop :=
  ∃ ρ' F' w' cv n, s.run P w = .ok n w' ∧ (n = .value cv ∨ (n = .skip ∧ cv = undef)) ∧ Tr σ out.σ ρ ρ' F F' w w' ∧ Rel ρ' F' out.σ w' ∧ VRel F' w' ρ' out.v cv

theorem Fine.step {out : Out} {s : Sem Value} (h : Fine P F w ρ σ out s) : Step1 P F w ρ σ out (do pure (.value (← s))) := by
  obtain ⟨ρ', F', w', cv, h1, h2, h3, h4⟩ := h
  exact ⟨ρ', F', w', cv, .value cv, by simp [h1], .inl rfl, h2, h3, h4⟩
theorem FineU.step {out : Out} {s : Sem Unit} (h : FineU P F w ρ σ out s) : Step1 P F w ρ σ out (do s; pure .skip) := by
  obtain ⟨ρ', F', w', h1, h2, h3, h4⟩ := h
  exact ⟨ρ', F', w', undef, .skip, by simp [h1], .inr ⟨rfl, rfl⟩, h2, h3, by rw [h4]; exact .tuple _ _ _ rfl fun i v u h _ => by simp at h⟩
theorem Step1.same {out : Out} {s : Sem Next} {cv : Value} (r : Rel ρ F σ w) (h : s.run P w = .ok (.value cv) w) (hσ : out.σ = σ) (hv : VRel F w ρ out.v cv) : Step1 P F w ρ σ out s := by
  unfold Step1
  rw [hσ]; exact ⟨ρ, F, w, cv, _, h, .inl rfl, Tr.refl _ _ _ _, r, hv⟩

theorem anilCheck_ok {x : AVal} {cx : Value} {out : Out} {a : Act} {xo : Operand} {o : Oper} (r : Rel ρ F σ w) (he : a.eval xo = cx) (ho : o.op = .nilCheck xo) (hx : VRel F w ρ x cx) (h : anilCheck x σ = some out) : Step1 P F w ρ σ out (execOp a.eval o) := by
  unfold anilCheck at h
  split at h
  · cases h
    obtain ⟨b, hb, rfl⟩ := hx.ptr_inv
    exact Step1.same r (by simp [execOp, ho, he]) rfl hx
  · cases h
    obtain ⟨b, o, f, _, _, _, _, rfl⟩ := hx.fptr_inv
    exact Step1.same r (by simp [execOp, ho, he]) rfl hx
  · cases h
    obtain ⟨cv, rfl, _⟩ := hx.func_inv
    exact Step1.same r (by simp [execOp, ho, he]) rfl hx
  · cases h

theorem list_nil {α : Type} {x : Array α} (h : x.toList = []) : x = #[] := by
  cases x; simp at h; subst h; rfl
theorem list_one {α β : Type} {x : Array α} {f : α → β} {y : β} (h : x.toList.map f = [y]) : ∃ u, x = #[u] ∧ f u = y := by
  obtain ⟨l⟩ := x
  match l, h with
  | [u], h => exact ⟨u, rfl, by simpa using h⟩
theorem list_two {α β : Type} {x : Array α} {f : α → β} {y z : β} (h : x.toList.map f = [y, z]) : ∃ u v, x = #[u, v] ∧ f u = y ∧ f v = z := by
  obtain ⟨l⟩ := x
  match l, h with
  | [u, v], h => simp at h; exact ⟨u, v, rfl, h.1, h.2⟩

theorem execOp_builtin (ρ : Operand → Value) (dst : Option Tmp) (b : Builtin) (xs : Array Operand) (ts : Array TypeId) (ty : TypeId) (pos : String) (after : Array Edge) (guard : Option (Nat × Bool)) :
    ∃ consts, execOp ρ { dst, op := .call { callee := .builtin b, args := xs, argTypes := ts }, type := ty, pos, after, guard } = builtin b ts ty consts (xs.map ρ) := ⟨_, rfl⟩

theorem abuiltin_ok {o : Oper} {c : Call} {rg : Regs} {a : Act} {out : Out} (ho : o.op = .call c) (r : Rel ρ F σ w) (ha : ∀ x, VRel F w ρ (aev rg x) (a.eval x)) (h : abuiltin P c.callee c.argTypes.toList (c.args.toList.map (aev rg)) σ = some out) (hcs : allP out.cs) :
    Step1 P F w ρ σ out (execOp a.eval o) := by
  obtain ⟨dst, op, ty, pos, af, g⟩ := o
  obtain ⟨callee, args, ats⟩ := c
  dsimp only at ho h
  subst ho
  have ev := ha
  unfold abuiltin at h
  split at h
  · split at h
    · rename_i b ts vs t u d x h1 h2
      obtain ⟨y, z, rfl, rfl, rfl⟩ := list_two h2
      have h1 : ats = #[t, u] := by cases ats; simp at h1; subst h1; rfl
      subst h1
      obtain ⟨consts, e⟩ := execOp_builtin a.eval dst .append #[y, z] #[t, u] ty pos af g
      rw [e]
      have e2 : #[y, z].map a.eval = #[a.eval y, a.eval z] := by simp
      rw [e2]
      exact (aappend_ok (ty := ty) r (ev y) (ev z) h hcs).step
    · rename_i b ts vs t x h1 h2
      obtain ⟨y, rfl, rfl⟩ := list_one h2
      have h1 : ats = #[t] := by cases ats; simp at h1; subst h1; rfl
      subst h1
      obtain ⟨consts, e⟩ := execOp_builtin a.eval dst .len #[y] #[t] ty pos af g
      rw [e]
      have e2 : #[y].map a.eval = #[a.eval y] := by simp
      rw [e2]
      exact (alen_ok (ty := ty) r (ev y) h).step
    · rename_i b ts vs t u d x h1 h2
      obtain ⟨y, z, rfl, rfl, rfl⟩ := list_two h2
      have h1 : ats = #[t, u] := by cases ats; simp at h1; subst h1; rfl
      subst h1
      obtain ⟨consts, e⟩ := execOp_builtin a.eval dst .delete #[y, z] #[t, u] ty pos af g
      rw [e]
      have e2 : #[y, z].map a.eval = #[a.eval y, a.eval z] := by simp
      rw [e2]
      exact (adelete_ok (ty := ty) r (ev y) (ev z) h hcs).step
    · rename_i b ts vs t u k x k' y h1 h2
      obtain ⟨xo, yo, rfl, e1, e2⟩ := list_two h2
      have h1 : ats = #[t, u] := by cases ats; simp at h1; subst h1; rfl
      subst h1
      split at h
      · rename_i hk
        obtain rfl := eq_of_beq hk
        cases h
        obtain ⟨consts, e⟩ := execOp_builtin a.eval dst .min #[xo, yo] #[t, u] ty pos af g
        rw [e]
        have v1 := ev xo
        have v2 := ev yo
        rw [e1] at v1
        rw [e2] at v2
        have w1 := v1.int_inv
        have w2 := v2.int_inv
        have e3 : #[xo, yo].map a.eval = #[.int k x, .int k y] := by simp [w1, w2]
        rw [e3]
        exact Step1.same r (cv := .int k (imin x y)) (by simp [builtin, Builtin.min_, Builtin.min2, imin]) rfl (.int _ _ _)
      · cases h
    · rename_i b ts vs t x h1 h2
      obtain ⟨y, rfl, rfl⟩ := list_one h2
      have h1 : ats = #[t] := by cases ats; simp at h1; subst h1; rfl
      subst h1
      obtain ⟨consts, e⟩ := execOp_builtin a.eval dst .unsafeSliceData #[y] #[t] ty pos af g
      rw [e]
      have e2 : #[y].map a.eval = #[a.eval y] := by simp
      rw [e2]
      exact (aunsafeSliceData_ok (ty := ty) r (ev y) h hcs).step
    · rename_i b ts vs t u d x h1 h2
      obtain ⟨y, z, rfl, rfl, rfl⟩ := list_two h2
      have h1 : ats = #[t, u] := by cases ats; simp at h1; subst h1; rfl
      subst h1
      obtain ⟨consts, e⟩ := execOp_builtin a.eval dst .unsafeString #[y, z] #[t, u] ty pos af g
      rw [e]
      have e2 : #[y, z].map a.eval = #[a.eval y, a.eval z] := by simp
      rw [e2]
      exact (aunsafeString_ok (ty := ty) r (ev y) (ev z) h hcs).step
    · rename_i b ts vs t u k x k' y h1 h2
      obtain ⟨xo, yo, rfl, e1, e2⟩ := list_two h2
      have h1 : ats = #[t, u] := by cases ats; simp at h1; subst h1; rfl
      subst h1
      split at h
      · rename_i hk
        obtain rfl := eq_of_beq hk
        cases h
        obtain ⟨consts, e⟩ := execOp_builtin a.eval dst .max #[xo, yo] #[t, u] ty pos af g
        rw [e]
        have v1 := ev xo
        have v2 := ev yo
        rw [e1] at v1
        rw [e2] at v2
        have w1 := v1.int_inv
        have w2 := v2.int_inv
        have e3 : #[xo, yo].map a.eval = #[.int k x, .int k y] := by simp [w1, w2]
        rw [e3]
        exact Step1.same r (cv := .int k (imax x y)) (by simp [builtin, Builtin.max_, Builtin.max2, imax]) rfl (.int _ _ _)
      · cases h
    · cases h
  · cases h

theorem parts_ok {rg : Regs} {a : Act} (ha : ∀ x, VRel F w ρ (aev rg x) (a.eval x)) : ∀ (ps : List (Nat × Operand)), PParts F w ρ (ps.map fun p => (p.1, aev rg p.2)) (ps.map fun p => (p.1, a.eval p.2))
  | [] => trivial
  | p :: ps => ⟨rfl, ha _, parts_ok ha ps⟩
theorem opt_ok {rg : Regs} {a : Act} (ha : ∀ x, VRel F w ρ (aev rg x) (a.eval x)) (x : Option Operand) : ORelO F w ρ (x.map (aev rg)) (x.map a.eval) := by
  cases x with
  | none => trivial
  | some x => exact ha x

theorem execOp_build (ρ : Operand → Value) (dst : Option Tmp) (t : TypeId) (ps : Array (Nat × Operand)) (ty : TypeId) (pos : String) (after : Array Edge) (guard : Option (Nat × Bool)) :
    execOp ρ { dst, op := .build t ps, type := ty, pos, after, guard } = (do pure (.value (← Instr.build t (ps.map fun p => (p.1, ρ p.2))))) := rfl
theorem execOp_buildSlice (ρ : Operand → Value) (dst : Option Tmp) (t : TypeId) (n : Nat) (ps : Array (Nat × Operand)) (ty : TypeId) (pos : String) (after : Array Edge) (guard : Option (Nat × Bool)) :
    execOp ρ { dst, op := .buildSlice t n ps, type := ty, pos, after, guard } = (do pure (.value (← Instr.buildSlice t n (ps.map fun p => (p.1, ρ p.2))))) := rfl

theorem execOp_binOp (ρ : Operand → Value) (dst : Option Tmp) (b : BinOp) (t u : TypeId) (x y : Operand) (ty : TypeId) (pos : String) (after : Array Edge) (guard : Option (Nat × Bool)) :
    execOp ρ { dst, op := .binOp b t x y u, type := ty, pos, after, guard } = (do pure (.value (← (do eqGuard b t x y (ρ x) (ρ y); binOp b t (ρ x) (ρ y))))) := rfl

set_option maxHeartbeats 4000000 in
theorem aop_ok {o : Oper} {rg : Regs} {a : Act} {out : Out} (r : Rel ρ F σ w) (ha : ∀ x, VRel F w ρ (aev rg x) (a.eval x)) (h : aop P o.op o.type rg σ = some out) (hcs : allP out.cs) : Step1 P F w ρ σ out (execOp a.eval o) := by
  obtain ⟨dst, op, ty, pos, af, g⟩ := o
  have ev := ha
  unfold aop at h
  dsimp only at h
  split at h
  · rename_i x; cases h; exact Step1.same r (cv := a.eval x) rfl rfl (ev x)
  · rename_i x; cases h; exact Step1.same r (cv := a.eval x) rfl rfl (ev x)
  · exact (aalloc_ok r h).step
  · exact (abox_ok r (ev _) h).step
  · rename_i t ps
    rw [execOp_build]
    exact (abuild_ok (cparts := ps.map fun p => (p.1, a.eval p.2)) r (by simpa using parts_ok ha ps.toList) h).step
  · rename_i t n ps
    rw [execOp_buildSlice]
    exact (abuildSlice_ok (cparts := ps.map fun p => (p.1, a.eval p.2)) r (by simpa using parts_ok ha ps.toList) h).step
  · exact (aload_ok r (ev _) h hcs).step
  · exact (astore_ok r (ev _) (ev _) h hcs).step
  · rename_i x
    exact anilCheck_ok (xo := x) (cx := a.eval x) r rfl rfl (ev x) h
  · rw [execOp_binOp]
    exact (abinOp_ok r (ev _) (ev _) h hcs).step
  · exact (aunOp_ok r (ev _) h).step
  · exact (aconvert_ok2 r (ev _) h hcs).step
  · rename_i fn first cap
    unfold amakeFunc at h
    split at h
    · rename_i f h0
      cases h
      obtain rfl := list_nil h0
      refine Step1.same r (cv := .func (.func f) #[] (cap.map a.eval)) (by simp [execOp, Instr.makeFunc]) rfl (.func _ _ _ _ (by simp) fun i v u h1 h2 => ?_)
      simp only [List.getElem?_map, Array.getElem?_toList, Option.map_eq_some_iff] at h1
      obtain ⟨x, hx, rfl⟩ := h1
      simp only [Array.getElem?_map, hx, Option.map_some, Option.some.injEq] at h2
      subst h2; exact ev x
    · cases h
  · rename_i t rr
    cases rr with
    | none => exact (amakeMap_ok r h).step
    | some x => unfold amakeMap at h; simp at h
  · exact (amakeSlice_ok r (ev _) (ev _) h hcs).step
  · exact (aslice_ok r (ev _) (opt_ok ha _) (opt_ok ha _) (opt_ok ha _) h hcs).step
  · exact (afieldAddr_ok r (ev _) h).step
  · exact (afield_ok r (ev _) h).step
  · exact (aindexAddr_ok r (ev _) (ev _) h hcs).step
  · exact (aindex_ok r (ev _) (ev _) h hcs).step
  · exact (alookup_ok r (ev _) (ev _) h hcs).step
  · exact (amapUpdate_ok r (ev _) (ev _) (ev _) h hcs).step
  · exact (arange_ok r (ev _) h).step
  · exact (anext_ok r (ev _) h hcs).step
  · exact (aentry_ok r (ev _) h hcs).step
  · exact (amapUpdate_ok r (ev _) (ev _) (ev _) h hcs).step
  · exact (amakeIface_ok r (ev _) h).step
  · exact (atypeAssert_ok r (ev _) h).step
  · exact (aextract_ok r (ev _) h).step
  · exact abuiltin_ok rfl r ha h hcs
  · cases h

end
end Go.Abs
end

section
set_option linter.unusedVariables false
set_option linter.unusedSectionVars false
set_option linter.unusedSimpArgs false
namespace Go.Abs
variable [Glob]

section
variable {P : Program} {σ : AState}

theorem aop_congr {op : Op} {ty : TypeId} {rg rg' : Regs} (h : ∀ x ∈ op.operands, aev rg x = aev rg' x) : aop P op ty rg σ = aop P op ty rg' σ := by
  have pairs : ∀ ps : Array (Nat × Operand), (∀ x ∈ ps.map (·.2), aev rg x = aev rg' x) → (ps.toList.map fun p => (p.1, aev rg p.2)) = (ps.toList.map fun p => (p.1, aev rg' p.2)) := fun ps hp =>
    List.map_congr_left fun p hm => by rw [hp p.2 (Array.mem_map.2 ⟨p, by simpa using hm, rfl⟩)]
  cases op <;> simp only [Op.operands] at h <;> simp only [aop]
  case build t ps => rw [pairs ps fun x hx => h x (by simpa using hx)]
  case buildSlice t n ps => rw [pairs ps fun x hx => h x (by simpa using hx)]
  case makeFunc fn first cap =>
    have : cap.toList.map (aev rg) = cap.toList.map (aev rg') := List.map_congr_left fun x hx => h x (Array.mem_append.2 (.inr (by simpa using hx)))
    rw [this]
  case call c =>
    have : c.args.toList.map (aev rg) = c.args.toList.map (aev rg') := List.map_congr_left fun x hx => h x (Array.mem_append.2 (.inr (by simpa using hx)))
    rw [this]
  case makeMap t r => cases r <;> simp_all
  case slice t x lo hi mx => cases lo <;> cases hi <;> cases mx <;> simp_all
  all_goals (first | rfl | (simp_all; done))

end
end Go.Abs
end

section
set_option linter.unusedVariables false
set_option linter.unusedSectionVars false
set_option linter.unusedSimpArgs false
namespace Go.Abs

section
variable {P : Program}

def Same (T : List Nat) (σ σ2 : AState) : Prop := σ2.length = σ.length ∧ ∀ id ∈ T, obj σ2 id = obj σ id
structure Moved (T W : List Nat) (σ σ' σ2 σ2' : AState) : Prop where
  len : σ2'.length = σ'.length
  at_ : ∀ id ∈ T, obj σ2' id = obj σ' id
  new : ∀ id, σ.length ≤ id → obj σ2' id = obj σ' id
  rest : ∀ id, id < σ.length → id ∉ W → obj σ2' id = obj σ2 id ∧ obj σ' id = obj σ id

theorem obj_none {σ : AState} {id : Nat} (h : σ.length ≤ id) : obj σ id = .dead := by
  unfold obj; rw [List.getD_eq_getElem?_getD, List.getElem?_eq_none h]; rfl
theorem obj_get {σ : AState} {id : Nat} (h : id < σ.length) : σ[id]? = some (obj σ id) := by
  unfold obj; rw [List.getD_eq_getElem?_getD, List.getElem?_eq_getElem h]; rfl
theorem obj_of {σ : AState} {id : Nat} {o : AObj} (h : σ[id]? = some o) : obj σ id = o := by
  unfold obj; rw [List.getD_eq_getElem?_getD, h]; rfl
theorem obj_set (σ : AState) (i j : Nat) (o : AObj) : obj (σ.set i o) j = if i = j ∧ i < σ.length then o else obj σ j := by
  unfold obj
  simp only [List.getD_eq_getElem?_getD, List.getElem?_set]
  by_cases h : i = j
  · subst h
    by_cases h2 : i < σ.length
    · simp [h2]
    · simp [h2, List.getElem?_eq_none (Nat.not_lt.1 h2)]
  · simp [h]
theorem obj_push (σ : AState) (j : Nat) (o : AObj) : obj (σ ++ [o]) j = if j < σ.length then obj σ j else if j = σ.length then o else .dead := by
  by_cases h : j < σ.length
  · unfold obj; rw [if_pos h, List.getD_eq_getElem?_getD, List.getD_eq_getElem?_getD, List.getElem?_append_left h]
  · rw [if_neg h]
    by_cases h2 : j = σ.length
    · subst h2; rw [if_pos rfl]; exact obj_of (by simp)
    · rw [if_neg h2]; exact obj_none (by simp; omega)

theorem objP_congr {σ σ2 : AState} {id : Nat} (h : obj σ2 id = obj σ id) : objP σ2 id = objP σ id := by unfold objP; rw [h]
theorem pureO_plain {σ : AState} {id es : Nat} {rs : List (List AVal)} (h : objP σ id = .rows true es rs) : isPureO (obj σ id) = true := by
  unfold objP at h
  cases ho : obj σ id <;> rw [ho] at h <;> simp [AObj.plain] at h
  · simp [isPureO, h]
  · simp [isPureO, h]
theorem Moved.refl {T : List Nat} (W : List Nat) {σ σ2 : AState} (h : Same T σ σ2) : Moved T W σ σ σ2 σ2 :=
  ⟨h.1, h.2, fun id hi => by rw [obj_none hi, obj_none (by rw [h.1]; exact hi)], fun id _ _ => ⟨rfl, rfl⟩⟩
theorem Moved.push {T W : List Nat} {σ σ' σ2 σ2' : AState} (m : Moved T W σ σ' σ2 σ2') (hl : σ'.length = σ.length) (o : AObj) (hT : ∀ id ∈ T, id < σ.length ∨ obj σ id = obj σ id) : Moved T W σ (σ' ++ [o]) σ2 (σ2' ++ [o]) := by
  refine ⟨by simp [m.len], fun id hi => ?_, fun id hi => ?_, fun id hi hw => ?_⟩
  · rw [obj_push, obj_push, m.len, m.at_ id hi]
  · rw [obj_push, obj_push, m.len, m.new id hi]
  · obtain ⟨h1, h2⟩ := m.rest id hi hw
    rw [obj_push, obj_push, m.len, hl, if_pos hi, if_pos hi]
    exact ⟨h1, h2⟩
theorem Moved.set {T W : List Nat} {σ σ' σ2 σ2' : AState} (m : Moved T W σ σ' σ2 σ2') {id : Nat} (hw : id ∈ W) (o : AObj) : Moved T W σ (σ'.set id o) σ2 (σ2'.set id o) := by
  refine ⟨by simp [m.len], fun j hj => ?_, fun j hj => ?_, fun j hj hjw => ?_⟩
  · rw [obj_set, obj_set, m.len, m.at_ j hj]
  · rw [obj_set, obj_set, m.len, m.new j hj]
  · have hne : id ≠ j := fun e => hjw (e ▸ hw)
    rw [obj_set, obj_set, if_neg (fun h => hne h.1), if_neg (fun h => hne h.1)]
    exact m.rest j hj hjw
theorem Moved.same {T W : List Nat} {σ σ' σ2 σ2' : AState} (m : Moved T W σ σ' σ2 σ2') : Same T σ' σ2' := ⟨m.len, m.at_⟩

theorem freezeV_loc {T W : List Nat} {σ σ1 σ2 σ3 : AState} {v : AVal} {x : Frz} (m : Moved T W σ σ1 σ2 σ3) (hl : σ1.length = σ.length) (hT : ∀ id ∈ idOf v, id ∈ T ∧ id ∈ W) (h : freezeV σ1 v = some x) :
    ∃ σ4, freezeV σ3 v = some ⟨x.v, σ4, x.cs⟩ ∧ Moved T W σ x.σ σ2 σ4 ∧ x.σ.length = σ.length := by
  unfold freezeV at h ⊢
  split at h
  · rename_i isnil id es off len cap
    obtain ⟨h1, h2⟩ := hT id (by simp [idOf])
    rw [objP_congr (m.at_ id h1)]
    split at h
    · rename_i ho
      split at h
      · rename_i hc
        cases h
        exact ⟨_, by first | (simp only [hc, if_true]; done) | (rw [ho]; simp only [hc, if_true]), m.set h2 _, by simpa using hl⟩
      · cases h
    · cases h
  · split at h
    · rename_i hc
      cases h
      exact ⟨_, by simp only [hc, if_true], m, hl⟩
    · cases h

theorem freezeL_loc {T W : List Nat} {σ σ2 : AState} : ∀ {σ1 σ3 : AState} (vs : List AVal) {x : Frz}, Moved T W σ σ1 σ2 σ3 → σ1.length = σ.length → (∀ id ∈ vs.flatMap idOf, id ∈ T ∧ id ∈ W) → freezeL σ1 vs = some x →
    ∃ σ4, freezeL σ3 vs = some ⟨x.v, σ4, x.cs⟩ ∧ Moved T W σ x.σ σ2 σ4 ∧ x.σ.length = σ.length
  | σ1, σ3, [], x, m, hl, _, h => by cases h; exact ⟨σ3, rfl, m, hl⟩
  | σ1, σ3, v :: vs, x, m, hl, hT, h => by
    simp only [freezeL, Option.bind_eq_some_iff, Option.map_eq_some_iff] at h
    obtain ⟨y, hy, z, hz, rfl⟩ := h
    obtain ⟨σ4, e1, m1, l1⟩ := freezeV_loc m hl (fun id hi => hT id (by simp [hi])) hy
    obtain ⟨σ5, e2, m2, l2⟩ := freezeL_loc vs m1 l1 (fun id hi => hT id (by simp only [List.flatMap_cons, List.mem_append]; exact .inr hi)) hz
    exact ⟨σ5, by simp [freezeL, e1, e2], m2, l2⟩

theorem freezeA_loc {T W : List Nat} {σ σ1 σ2 σ3 : AState} {v : AVal} {x : AVal × Frz} (m : Moved T W σ σ1 σ2 σ3) (hl : σ1.length = σ.length) (hT : ∀ id ∈ v.cells.flatMap idOf, id ∈ T ∧ id ∈ W) (h : freezeA σ1 v = some x) :
    ∃ σ4, freezeA σ3 v = some (x.1, ⟨x.2.v, σ4, x.2.cs⟩) ∧ Moved T W σ x.2.σ σ2 σ4 ∧ x.2.σ.length = σ.length := by
  unfold freezeA at h ⊢
  split at h
  · rename_i cs
    rw [Option.map_eq_some_iff] at h
    obtain ⟨y, hy, rfl⟩ := h
    obtain ⟨σ4, e, m', l⟩ := freezeL_loc cs m hl hT hy
    exact ⟨σ4, by simp [e], m', l⟩
  · rename_i hne
    rw [Option.map_eq_some_iff] at h
    obtain ⟨y, hy, rfl⟩ := h
    have hc : v.cells = [v] := by cases v <;> first | rfl | exact absurd rfl (hne _)
    obtain ⟨σ4, e, m', l⟩ := freezeV_loc m hl (by rw [hc] at hT; simpa using hT) hy
    exact ⟨σ4, by simp [e], m', l⟩

theorem loc_new {T : List Nat} {σ σ2 : AState} {o : AObj} (hs : Same T σ σ2) : Moved T [] σ (σ ++ [o]) σ2 (σ2 ++ [o]) :=
  (Moved.refl [] hs).push rfl o fun id _ => .inr rfl

theorem aload_loc {t : TypeId} {a : AVal} {σ σ2 : AState} {out : Out} (hs : Same (idOf a) σ σ2) (h : aload P t a σ = some out) : out.σ = σ ∧ aload P t a σ2 = some ⟨out.v, σ2, out.cs⟩ := by
  unfold aload at h ⊢
  dsimp only at h ⊢
  split at h
  · cases h
  · rename_i hu
    rw [if_neg hu]
    split at h
    · rename_i id es i j
      rw [objP_congr (hs.2 id (by simp [idOf]))]
      split at h
      · rename_i ho; (try rw [ho]); (try dsimp only)
        repeat' (first | (cases h; done) | split at h)
        all_goals (cases h; first | (simp [*]; done) | (simp_all; done))
      · rename_i ho; (try rw [ho]); (try dsimp only)
        repeat' (first | (cases h; done) | split at h)
        all_goals (cases h; first | (simp [*]; done) | (simp_all; done))
      · cases h
    · repeat' (first | (cases h; done) | split at h)
      all_goals (cases h; first | (simp [*]; done) | (simp_all; done))
    · cases h

theorem objM_congr {σ σ2 : AState} {id : Nat} (h : obj σ2 id = obj σ id) : objM σ2 id = objM σ id := by unfold objM; rw [h]
theorem alookup_loc {t : TypeId} {x k : AVal} {ok : Bool} {σ σ2 : AState} {out : Out} (hs : Same (idOf x) σ σ2) (h : alookup P t x k ok σ = some out) : out.σ = σ ∧ alookup P t x k ok σ2 = some ⟨out.v, σ2, out.cs⟩ := by
  unfold alookup at h ⊢
  split at h
  · split at h
    · rename_i hk
      split at h
      · rename_i hz
        split at h
        · cases h; simp [*]
        · rename_i id
          rw [if_pos hk]
          try rw [hz]
          try dsimp only
          rw [objM_congr (hs.2 id (by simp [idOf]))]
          split at h
          · rename_i ho; (try rw [ho]); cases h; simp
          · rename_i ho; (try rw [ho]); cases h; simp
          · cases h
        · cases h
      · cases h
    · cases h
  · cases h

theorem rowsOf_loc {es : Nat} {x : AVal} {σ σ2 : AState} (h : ∀ id ∈ idOf x, obj σ2 id = obj σ id) : rowsOf es σ2 x = rowsOf es σ x := by
  unfold rowsOf
  cases x <;> try rfl
  rename_i isnil id es1 off len cap
  dsimp only
  rw [objP_congr (h id (by simp [idOf]))]

theorem srcA_loc {u : TypeId} {es : Nat} {x : AVal} {σ σ2 : AState} (h : ∀ id ∈ idOf x, obj σ2 id = obj σ id) : srcA P u es σ2 x = srcA P u es σ x := by
  unfold srcA
  rw [rowsOf_loc h]
theorem abox_loc {T : List Nat} {v : AVal} {σ σ2 : AState} {out : Out} (hs : Same T σ σ2) (h : abox v σ = some out) : ∃ σ2', abox v σ2 = some ⟨out.v, σ2', out.cs⟩ ∧ Moved T [] σ out.σ σ2 σ2' := by
  unfold abox at h ⊢
  dsimp only at h ⊢
  split at h
  · rename_i hc
    cases h
    refine ⟨σ2 ++ [_], ?_, loc_new hs⟩
    simp only [hc, if_true, new, hs.1]
  · cases h

theorem amapUpdate_loc {t : TypeId} {mv k v : AVal} {σ σ2 : AState} {out : Out} (hs : Same (putIds mv v σ) σ σ2) (h : amapUpdate P t mv k v σ = some out) :
    ∃ σ2', amapUpdate P t mv k v σ2 = some ⟨out.v, σ2', out.cs⟩ ∧ Moved (putIds mv v σ) (putIds mv v σ) σ out.σ σ2 σ2' := by
  unfold amapUpdate at h ⊢
  split at h
  · rename_i kt e id hu
    have hid : id ∈ putIds (.map id) v σ := by simp [putIds]
    have m0 := Moved.refl (putIds (.map id) v σ) hs
    split at h
    · rename_i hk
      rw [if_pos hk, hs.2 id hid]
      split at h
      · rename_i ents ho
        (try rw [ho]); cases h
        exact ⟨_, rfl, m0.set hid _⟩
      · rename_i pre post ho
        (try rw [ho]); cases h
        exact ⟨_, rfl, m0.set hid _⟩
      · rename_i ents ho
        rw [Option.bind_eq_some_iff] at h
        obtain ⟨x, hx, h⟩ := h
        split at h
        · rename_i hlive
          cases h
          obtain ⟨σ4, e1, m1, l1⟩ := freezeA_loc m0 rfl (fun i hi => by
            have : i ∈ putIds (.map id) v σ := by
              unfold putIds; dsimp only; rw [ho]; simp only [isPureO, if_true, List.mem_cons]; exact .inr hi
            exact ⟨this, this⟩) hx
          (try rw [ho]); (try dsimp only)
          refine ⟨_, ?_, m1.set hid _⟩
          rw [e1, Option.bind_some]
          dsimp only
          rw [m1.at_ id hid, if_pos hlive]
        · cases h
      · cases h
    · cases h
  · cases h

theorem astore_loc {t : TypeId} {a v : AVal} {σ σ2 : AState} {out : Out} (hs : Same (putIds a v σ) σ σ2) (h : astore P t a v σ = some out) :
    ∃ σ2', astore P t a v σ2 = some ⟨out.v, σ2', out.cs⟩ ∧ Moved (putIds a v σ) (putIds a v σ) σ out.σ σ2 σ2' := by
  unfold astore at h ⊢
  dsimp only at h ⊢
  split at h
  · rename_i id es i j
    have hid : id ∈ putIds (.ptr id es i j) v σ := by simp [putIds]
    have m0 := Moved.refl (putIds (.ptr id es i j) v σ) hs
    split at h
    · rename_i hk
      rw [if_pos hk, objP_congr (hs.2 id hid)]
      split at h
      · rename_i es' rs ho
        (try rw [ho]); (try dsimp only)
        split at h
        · rename_i he
          cases h
          rw [if_pos he]
          exact ⟨_, rfl, m0.set hid _⟩
        · cases h
      · rename_i es' rs ho
        split at h
        · rename_i he
          rw [Option.bind_eq_some_iff] at h
          obtain ⟨x, hx, h⟩ := h
          split at h
          · rename_i hlive
            cases h
            obtain ⟨σ4, e1, m1, l1⟩ := freezeL_loc v.cells m0 rfl (fun q hq => by
              have : q ∈ putIds (.ptr id es i j) v σ := by
                unfold putIds; dsimp only; rw [pureO_plain ho]; simp only [if_true, List.mem_cons]; exact .inr hq
              exact ⟨this, this⟩) hx
            (try rw [ho]); (try dsimp only)
            rw [if_pos he]
            refine ⟨_, ?_, m1.set hid _⟩
            rw [e1, Option.bind_some]
            dsimp only
            rw [m1.at_ id hid, if_pos hlive]
          · cases h
        · cases h
      · cases h
    · cases h
  · cases h

theorem aappend_loc {t u : TypeId} {d x : AVal} {σ σ2 : AState} {out : Out} (hs : Same (idOf d ++ idOf x) σ σ2) (h : aappend P t u d x σ = some out) :
    ∃ σ2', aappend P t u d x σ2 = some ⟨out.v, σ2', out.cs⟩ ∧ Moved (idOf d ++ idOf x) (idOf d) σ out.σ σ2 σ2' := by
  unfold aappend at h ⊢
  dsimp only at h ⊢
  split at h
  · rename_i e h1
    rw [srcA_loc (u := u) (es := P.cellsOf e) (x := x) fun id hi => hs.2 id (by simp [hi])]
    rw [Option.bind_eq_some_iff] at h
    obtain ⟨s, hsrc, h⟩ := h
    rw [hsrc, Option.bind_some]
    try dsimp only
    split at h
    · rename_i hc
      rw [if_pos hc]
      split at h
      · rename_i b id es' off len cap
        try dsimp only
        have hid : id ∈ idOf (.slc b id es' off len cap) := by simp [idOf]
        rw [objP_congr (hs.2 id (by simp [idOf])), hs.2 id (by simp [idOf])]
        split at h
        · rename_i p es'' rs ho
          (try rw [ho]); (try dsimp only)
          split at h
          · rename_i hq
            cases h
            rw [if_pos hq]
            refine ⟨_, by rw [hs.1], ?_⟩
            exact ((Moved.refl _ hs).set hid _).push (by simp) _ fun _ _ => .inr rfl
          · cases h
        · cases h
      · cases h
        refine ⟨_, by rw [hs.1], ?_⟩
        exact ((Moved.refl _ hs)).push rfl _ fun _ _ => .inr rfl
      · cases h
    · cases h
  · cases h

theorem alen_loc {t : TypeId} {x : AVal} {σ σ2 : AState} {out : Out} (hs : Same (idOf x) σ σ2) (h : alen P t x σ = some out) : out.σ = σ ∧ alen P t x σ2 = some ⟨out.v, σ2, out.cs⟩ := by
  unfold alen at h ⊢
  split at h
  · cases h; simp [*]
  · cases h; simp [*]
  · cases h; simp [*]
  · cases h; simp [*]
  · cases h; simp [*]
  · rename_i id hu
    rw [objM_congr (hs.2 id (by simp [idOf]))]
    split at h
    · rename_i ho; (try rw [ho]); cases h; exact ⟨rfl, rfl⟩
    · cases h
  · cases h

theorem adelete_loc {t : TypeId} {m k : AVal} {σ σ2 : AState} {out : Out} (hs : Same (idOf m ++ idOf k) σ σ2) (h : adelete P t m k σ = some out) :
    ∃ σ2', adelete P t m k σ2 = some ⟨out.v, σ2', out.cs⟩ ∧ Moved (idOf m ++ idOf k) (idOf m) σ out.σ σ2 σ2' := by
  unfold adelete at h ⊢
  split at h
  · rename_i kt e id hu
    split at h
    · rename_i hk
      have e1 := hs.2 id (by simp [idOf])
      rw [e1]
      simp only [hu, hk, if_true]
      split at h
      · rename_i p ents ho
        cases h
        refine ⟨_, rfl, (Moved.refl _ hs).set (by simp [idOf]) _⟩
      · rename_i p ents bs c ho
        cases h
        refine ⟨_, rfl, (Moved.refl _ hs).set (by simp [idOf]) _⟩
      · rename_i pre e0 post ho
        cases h
        refine ⟨_, rfl, (Moved.refl _ hs).set (by simp [idOf]) _⟩
      · cases h
    · cases h
  · cases h
theorem arange_loc {t : TypeId} {x : AVal} {σ σ2 : AState} {out : Out} (hs : Same (idOf x) σ σ2) (h : arange P t x σ = some out) :
    ∃ σ2', arange P t x σ2 = some ⟨out.v, σ2', out.cs⟩ ∧ Moved (idOf x) [] σ out.σ σ2 σ2' := by
  unfold arange at h ⊢
  split at h
  · rename_i s hu
    cases h
    exact ⟨σ2 ++ [_], by simp only [hu, new, hs.1], loc_new hs⟩
  · rename_i k e hu
    cases h
    exact ⟨σ2 ++ [_], by simp only [hu, new, hs.1], loc_new hs⟩
  · rename_i k e id hu
    rw [hs.2 id (by simp [idOf])]
    split at h
    · rename_i p ents bs c ho
      cases h
      exact ⟨σ2 ++ [_], by simp only [hu, ho, new, hs.1], loc_new hs⟩
    · cases h
  · cases h
theorem anext_loc {it : AVal} {b : Bool} {σ σ2 : AState} {out : Out} (hs : Same (itIds it σ) σ σ2) (h : anext it b σ = some out) :
    ∃ σ2', anext it b σ2 = some ⟨out.v, σ2', out.cs⟩ ∧ Moved (itIds it σ) (idOf it) σ out.σ σ2 σ2' := by
  unfold anext at h ⊢
  split at h
  · rename_i r es0
    have e1 : obj σ2 r = obj σ r := hs.2 r (by simp [itIds, idOf])
    rw [e1]
    split at h
    · rename_i rest ho
      split at h
      · rename_i hb
        split at h
        · cases h
          exact ⟨_, by simp only [ho, hb, if_true], (Moved.refl _ hs).set (by simp [idOf]) _⟩
        · cases h
          exact ⟨σ2, by simp only [ho, hb, if_true], Moved.refl _ hs⟩
      · cases h
    · rename_i ho
      split at h
      · cases h
      · rename_i hb
        cases h
        exact ⟨σ2, by simp only [ho, hb, if_false, Bool.false_eq_true], Moved.refl _ hs⟩
    · rename_i id since seen last ho
      have e2 : obj σ2 id = obj σ id := hs.2 id (by simp [itIds, idOf, ho])
      split at h
      · cases h
      · rename_i hb
        split at h
        · rename_i p ents bs c hom
          unfold anextM at h
          split at h
          · rename_i hc
            split at h
            · rename_i h0
              cases h
              exact ⟨σ2, by simp only [ho, hb, if_false, Bool.false_eq_true, e2, hom, anextM, hc, if_true, h0], Moved.refl _ hs⟩
            · rename_i i k v h0
              cases h
              exact ⟨_, by simp only [ho, hb, if_false, Bool.false_eq_true, e2, hom, anextM, hc, if_true, h0], (Moved.refl _ hs).set (by simp [idOf]) _⟩
            · cases h
          · cases h
        · cases h
    · cases h
  · cases h
theorem aentry_loc {it : AVal} {σ σ2 : AState} {out : Out} (hs : Same (itIds it σ) σ σ2) (h : aentry it σ = some out) : out.σ = σ ∧ aentry it σ2 = some ⟨out.v, σ2, out.cs⟩ := by
  unfold aentry at h ⊢
  split at h
  · rename_i r es0
    have e1 : obj σ2 r = obj σ r := hs.2 r (by simp [itIds, idOf])
    rw [e1]
    split at h
    · rename_i id since seen last ho
      have e2 : obj σ2 id = obj σ id := hs.2 id (by simp [itIds, idOf, ho])
      split at h
      · rename_i p ents bs c hom
        cases h
        exact ⟨rfl, by simp only [ho, e2, hom]⟩
      · cases h
    · cases h
  · cases h

theorem abuiltin_loc {c : Callee} {ts : List TypeId} {vs : List AVal} {σ σ2 : AState} {out : Out} (h : abuiltin P c ts vs σ = some out) (hs : Same (touchB vs).1 σ σ2) :
    ∃ σ2', abuiltin P c ts vs σ2 = some ⟨out.v, σ2', out.cs⟩ ∧ Moved (touchB vs).1 (touchB vs).2 σ out.σ σ2 σ2' := by
  unfold abuiltin at h ⊢
  split at h
  · split at h
    · exact aappend_loc hs h
    · obtain ⟨e1, e2⟩ := alen_loc hs h
      exact ⟨σ2, e2, by rw [e1]; exact Moved.refl _ hs⟩
    · exact adelete_loc hs h
    · split at h
      · rename_i hc; cases h; exact ⟨σ2, by first | rfl | (rw [if_pos hc]), Moved.refl _ hs⟩
      · cases h
    · unfold aunsafeSliceData at h ⊢
      split at h
      · cases h; exact ⟨σ2, rfl, Moved.refl _ hs⟩
      · cases h
    · unfold aunsafeString at h ⊢
      split at h
      · rename_i e id m hu
        have e1 := hs.2 id (by simp [touchB, idOf])
        try rw [hu]
        try dsimp only
        rw [e1]
        cases ho : obj σ id <;> rw [ho] at h <;> (try dsimp only at h ⊢)
        case trows T p es rs =>
          split at h
          · split at h
            · rename_i hc
              cases h
              refine ⟨_, by simp only [hc, if_true], (Moved.refl _ hs).set (by simp [touchB, idOf]) _⟩
            · cases h
          · cases h
        all_goals cases h
      · cases h
    · split at h
      · rename_i hc; cases h; exact ⟨σ2, by first | rfl | (rw [if_pos hc]), Moved.refl _ hs⟩
      · cases h
    · cases h
  · cases h

theorem aextern_loc {f : FuncId} {as : List AVal} {σ σ2 : AState} {out : Out} (h : aextern P f as σ = some out) (hs : Same (touchB as).1 σ σ2) :
    ∃ σ2', aextern P f as σ2 = some ⟨out.v, σ2', out.cs⟩ ∧ Moved (touchB as).1 [] σ out.σ σ2 σ2' := by
  unfold aextern at h ⊢
  split at h
  · rename_i t id
    have e := objM_congr (hs.2 id (by simp [touchB, idOf]))
    simp only [e]
    split at h
    · rename_i p ents ho
      obtain rfl := Option.some.inj h
      exact ⟨_, by rw [hs.1], loc_new hs⟩
    · cases h
  · obtain rfl := Option.some.inj h
    refine ⟨σ2, ?_, Moved.refl _ hs⟩
    first | rfl | (split <;> simp_all)
  · cases h

variable [Glob]
theorem aop_loc {op : Op} {ty : TypeId} {rg : Regs} {σ σ2 : AState} {out : Out} (h : aop P op ty rg σ = some out) (hs : Same (touch op rg σ).1 σ σ2) :
    ∃ σ2', aop P op ty rg σ2 = some ⟨out.v, σ2', out.cs⟩ ∧ Moved (touch op rg σ).1 (touch op rg σ).2 σ out.σ σ2 σ2' := by
  have fin : ∀ {W : List Nat}, out.σ = σ → aop P op ty rg σ2 = some ⟨out.v, σ2, out.cs⟩ → ∃ σ2', aop P op ty rg σ2 = some ⟨out.v, σ2', out.cs⟩ ∧ Moved (touch op rg σ).1 W σ out.σ σ2 σ2' := fun e1 e2 => ⟨σ2, e2, by rw [e1]; exact Moved.refl _ hs⟩
  cases op <;> simp only [aop] at h fin ⊢
  case move x => cases h; exact fin rfl rfl
  case assign x => cases h; exact fin rfl rfl
  case alloc t =>
    unfold aalloc at h ⊢
    rw [Option.bind_eq_some_iff] at h
    obtain ⟨z, hz, h⟩ := h
    rw [hz, Option.bind_some]
    split at h
    · rename_i hk
      rw [if_pos hk]
      split at h
      · rename_i hq
        cases h
        rw [if_pos hq]
        refine ⟨σ2 ++ [_], ?_, loc_new hs⟩
        simp only [new, hs.1]
      · cases h
    · rename_i hk
      rw [if_neg hk]
      exact abox_loc hs h
  case box t x => exact abox_loc hs h
  case build t ps =>
    unfold abuild at h fin ⊢
    rw [Option.map_eq_some_iff] at h
    obtain ⟨c, hc, rfl⟩ := h
    exact fin rfl (by rw [hc]; rfl)
  case buildSlice t n ps =>
    unfold abuildSlice at h ⊢
    dsimp only at h ⊢
    split at h
    · split at h
      · split at h
        · rename_i hz
          split at h
          · rename_i hc
            rw [Option.bind_eq_some_iff] at h
            obtain ⟨cs, hcs, h⟩ := h
            split at h
            · rename_i hq
              cases h
              refine ⟨σ2 ++ [_], ?_, loc_new hs⟩
              have := hs.1
              first | (simp [*, new]; done) | (simp_all [new]; done)
            · cases h
          · cases h
        · cases h
      · cases h
    · cases h
  case load t a => obtain ⟨e1, e2⟩ := aload_loc hs h; exact fin e1 e2
  case store t a v => exact astore_loc hs h
  case nilCheck x =>
    have e : out.σ = σ ∧ anilCheck (aev rg x) σ2 = some ⟨out.v, σ2, out.cs⟩ := by
      revert h
      generalize aev rg x = v0
      intro h
      unfold anilCheck at h ⊢
      repeat' (first | (cases h; done) | split at h)
      all_goals (cases h; exact ⟨rfl, rfl⟩)
    exact fin e.1 e.2
  case unOp op t x =>
    have e : out.σ = σ ∧ aunOp op (aev rg x) σ2 = some ⟨out.v, σ2, out.cs⟩ := by
      revert h
      generalize aev rg x = v0
      intro h
      unfold aunOp at h ⊢
      split at h <;> first | (cases h; done) | (cases h; exact ⟨rfl, rfl⟩)
    exact fin e.1 e.2
  case binOp op t x y p =>
    have e : out.σ = σ ∧ abinOp P op t (aev rg x) (aev rg y) σ2 = some ⟨out.v, σ2, out.cs⟩ := by
      unfold abinOp at h ⊢
      split at h
      · cases op <;> dsimp only at h ⊢ <;> first
          | (cases h; done)
          | (rw [Option.map_eq_some_iff] at h
             obtain ⟨b, h1, rfl⟩ := h
             exact ⟨rfl, by simp [h1]⟩)
      · cases op <;> dsimp only at h ⊢ <;> first
          | (cases h; exact ⟨rfl, rfl⟩)
          | (split at h <;> cases h; rename_i hc; exact ⟨rfl, by rw [if_pos hc]⟩)
      · cases op <;> dsimp only at h ⊢ <;> first
          | (cases h; done)
          | (cases h; exact ⟨rfl, rfl⟩)
      · cases op <;> dsimp only at h ⊢ <;> first
          | (cases h; done)
          | (rw [Option.map_eq_some_iff] at h
             obtain ⟨b, h1, rfl⟩ := h
             exact ⟨rfl, by simp [h1]⟩)
    exact fin e.1 e.2
  case convert s d x =>
    have e : out.σ = σ ∧ aconvert P s d (aev rg x) σ2 = some ⟨out.v, σ2, out.cs⟩ := by
      have hr2 := rowsOf_loc (es := 1) (x := aev rg x) (σ := σ) (σ2 := σ2) fun id hi => hs.2 id hi
      have hid : ∀ id ∈ idOf (aev rg x), obj σ2 id = obj σ id := fun id hi => hs.2 id hi
      revert h hr2 hid
      generalize aev rg x = v0
      intro h hr2 hid
      unfold aconvert at h ⊢
      split at h
      · cases h; exact ⟨rfl, by simp [*]⟩
      · cases h; exact ⟨rfl, by simp [*]⟩
      · rename_i x' h1 h2
        split at h
        · rename_i he
          rw [Option.map_eq_some_iff] at h
          obtain ⟨r, hr, rfl⟩ := h
          refine ⟨rfl, ?_⟩
          rw [← hr2] at hr
          try rw [h1, h2]
          try dsimp only
          try rw [he]
          try dsimp only
          rw [hr]; rfl
        · cases h
      · rename_i t id es h1 h2
        rw [hid id (by simp [idOf])]
        cases ho : obj σ id <;> rw [ho] at h <;> dsimp only at h ⊢
        case trows T p es' rs =>
          split at h
          · rename_i hc; cases h; exact ⟨rfl, by simp only [hc, if_true]⟩
          · cases h
        all_goals cases h
      · rename_i u id es h1 h2
        rw [hid id (by simp [idOf])]
        cases ho : obj σ id <;> rw [ho] at h <;> dsimp only at h ⊢
        case trows T p es' rs =>
          split at h
          · rename_i hc; cases h; exact ⟨rfl, by simp only [hc, if_true]⟩
          · cases h
        all_goals cases h
      · cases h
    exact fin e.1 e.2
  case makeFunc fn first cap =>
    have e : out.σ = σ ∧ amakeFunc fn first.toList (cap.toList.map (aev rg)) σ2 = some ⟨out.v, σ2, out.cs⟩ := by
      unfold amakeFunc at h ⊢
      split at h <;> cases h
      exact ⟨rfl, by simp [*]⟩
    exact fin e.1 e.2
  case makeMap t r =>
    unfold amakeMap at h ⊢
    split at h
    · rename_i hu hr
      cases h
      refine ⟨σ2 ++ [_], ?_, loc_new hs⟩
      simp only [hu, hr, new, hs.1]
    · cases h
  case makeSlice t l c =>
    unfold amakeSlice at h ⊢
    split at h
    · rename_i e n m hu hl hc
      rw [Option.bind_eq_some_iff] at h
      obtain ⟨z, hz, h⟩ := h
      dsimp only at h ⊢
      split at h
      · rename_i hq
        cases h
        refine ⟨σ2 ++ [_], ?_, loc_new hs⟩
        try rw [hu, hl, hc]
        try dsimp only
        rw [hz, Option.bind_some, if_pos hq, hs.1]
      · cases h
    · cases h
  case slice t x lo hi mx =>
    have e : out.σ = σ ∧ aslice P t (aev rg x) (lo.map (aev rg)) (hi.map (aev rg)) (mx.map (aev rg)) σ2 = some ⟨out.v, σ2, out.cs⟩ := by
      unfold aslice at h ⊢
      repeat' (first | (cases h; done) | split at h)
      all_goals (cases h; refine ⟨rfl, ?_⟩; first | (simp [*]; done) | (simp_all; done))
    exact fin e.1 e.2
  case fieldAddr t x i =>
    have e : out.σ = σ ∧ afieldAddr P t (aev rg x) i σ2 = some ⟨out.v, σ2, out.cs⟩ := by
      revert h
      generalize (aev rg x) = v0
      intro h
      unfold afieldAddr at h ⊢
      repeat' (first | (cases h; done) | split at h)
      all_goals (cases h; refine ⟨rfl, ?_⟩; first | (simp [*]; done) | (simp_all; done))
    exact fin e.1 e.2
  case field t x i =>
    have e : out.σ = σ ∧ afield P t (aev rg x) i σ2 = some ⟨out.v, σ2, out.cs⟩ := by
      revert h
      generalize (aev rg x) = v0
      intro h
      unfold afield at h ⊢
      repeat' (first | (cases h; done) | split at h)
      all_goals (cases h; refine ⟨rfl, ?_⟩; first | (simp [*]; done) | (simp_all; done))
    exact fin e.1 e.2
  case indexAddr t x i =>
    have e : out.σ = σ ∧ aindexAddr P t (aev rg x) (aev rg i) σ2 = some ⟨out.v, σ2, out.cs⟩ := by
      revert h
      generalize (aev rg x) = v0
      generalize (aev rg i) = v1
      intro h
      unfold aindexAddr at h ⊢
      repeat' (first | (cases h; done) | split at h)
      all_goals (cases h; refine ⟨rfl, ?_⟩; first | (simp [*]; done) | (simp_all; done))
    exact fin e.1 e.2
  case index t x i =>
    have e : out.σ = σ ∧ aindex P t (aev rg x) (aev rg i) σ2 = some ⟨out.v, σ2, out.cs⟩ := by
      revert h
      generalize (aev rg x) = v0
      generalize (aev rg i) = v1
      intro h
      unfold aindex at h ⊢
      repeat' (first | (cases h; done) | split at h)
      all_goals (cases h; refine ⟨rfl, ?_⟩; first | (simp [*]; done) | (simp_all; done))
    exact fin e.1 e.2
  case lookup t x k ok =>
    obtain ⟨e1, e2⟩ := alookup_loc hs h
    exact fin e1 e2
  case mapUpdate t m k v => exact amapUpdate_loc hs h
  case range t x => exact arange_loc hs h
  case next x b => exact anext_loc hs h
  case entry x => obtain ⟨e1, e2⟩ := aentry_loc hs h; exact fin e1 e2
  case insert t m k v => exact amapUpdate_loc hs h
  case makeInterface t x =>
    have e : out.σ = σ ∧ amakeIface P t (aev rg x) σ2 = some ⟨out.v, σ2, out.cs⟩ := by
      revert h
      generalize (aev rg x) = v0
      intro h
      unfold amakeIface at h ⊢
      repeat' (first | (cases h; done) | split at h)
      all_goals (cases h; refine ⟨rfl, ?_⟩; first | (simp [*]; done) | (simp_all; done))
    exact fin e.1 e.2
  case typeAssert x xt t ok =>
    have e : out.σ = σ ∧ atypeAssert P t ok (aev rg x) σ2 = some ⟨out.v, σ2, out.cs⟩ := by
      revert h
      generalize aev rg x = v0
      intro h
      unfold atypeAssert at h ⊢
      split at h
      · cases h
      · split at h
        · split at h
          · cases h; exact ⟨rfl, by simp [*]⟩
          · split at h
            · rw [Option.map_eq_some_iff] at h
              obtain ⟨z, hz, rfl⟩ := h
              exact ⟨rfl, by simp [*]⟩
            · cases h
        · split at h
          · rw [Option.map_eq_some_iff] at h
            obtain ⟨z, hz, rfl⟩ := h
            exact ⟨rfl, by simp [*]⟩
          · cases h
        · cases h
      · cases h
    exact fin e.1 e.2
  case extract x i =>
    have e : out.σ = σ ∧ aextract (aev rg x) i σ2 = some ⟨out.v, σ2, out.cs⟩ := by
      revert h
      show aextract (aev rg x) i σ = _ → _
      generalize aev rg x = v0
      intro h
      unfold aextract at h ⊢
      split at h
      · rw [Option.map_eq_some_iff] at h
        obtain ⟨v, h1, rfl⟩ := h
        exact ⟨rfl, by rw [h1]; rfl⟩
      · cases h
    exact fin e.1 e.2
  case call c => exact abuiltin_loc h hs
  all_goals (cases h; done)

end
end Go.Abs
end

section
set_option linter.unusedVariables false
set_option linter.unusedSimpArgs false
namespace Go.Abs

section
variable {P : Program} {F : FS} {w : World} {ρ : RMap} {σ : AState}

theorem scopeL {k : Nat} {vs : List AVal} (h : inScopeL k vs = true) : ∀ (i : Nat) (v : AVal), vs[i]? = some v → inScope k v = true := by
  induction vs with
  | nil => intro i v h; simp at h
  | cons x xs ih =>
    simp only [inScopeL, Bool.and_eq_true] at h
    intro i v hv
    match i with
    | 0 => simp at hv; subst hv; exact h.1
    | i + 1 => exact ih h.2 i v (by simpa using hv)

def cut (k : Nat) (ρ : RMap) : RMap := fun id => if id < k then ρ id else none
theorem cut_some {k id b : Nat} (h : cut k ρ id = some b) : id < k ∧ ρ id = some b := by
  unfold cut at h
  split at h
  · exact ⟨by assumption, h⟩
  · cases h
theorem cut_of {k id b : Nat} (hk : id < k) (h : ρ id = some b) : cut k ρ id = some b := by unfold cut; rw [if_pos hk, h]
theorem cut_le {j k : Nat} (h : j ≤ k) : ∀ id b, cut j ρ id = some b → cut k ρ id = some b := fun id b e => let ⟨a, c⟩ := cut_some e; cut_of (Nat.lt_of_lt_of_le a h) c

theorem ORel.weak {ρ' : RMap} {b : Nat} {o : AObj} (h : ORel F w ρ b o) (hρ : ∀ id b, ρ id = some b → ρ' id = some b) : ORel F w ρ' b o :=
  h.move rfl (fun _ h => ⟨h, rfl⟩) (fun _ cs _ _ h => ⟨cs, _, h, rfl⟩) hρ fun _ => ⟨fun _ => Iff.rfl, fun _ _ => rfl, Nat.le_refl _⟩

theorem VRel.scope {k : Nat} {v : AVal} {c : Value} (h : VRel F w ρ v c) : inScope k v = true → VRel F w (cut k ρ) v c := by
  induction h with
  | any => intro _; exact .any _ _
  | tt => intro _; exact .tt _ _
  | bool => intro _; exact .bool _ _
  | int => intro _; exact .int _ _ _
  | str => intro _; exact .str _ _
  | nilp => intro _; exact .nilp _
  | ptr ρ id es i j b h => intro hs; exact .ptr _ _ _ _ _ _ (cut_of (by simpa [inScope] using hs) h)
  | blk => intro _; exact .blk _ _ _ _ _
  | slc ρ id es off len cap c b h hl hc hs => intro hk; exact .slc _ _ _ _ _ _ _ _ (cut_of (by simpa [inScope] using hk) h) hl hc hs
  | slcE ρ n id es off cap base hb hc => intro _; exact .slcE _ _ _ _ _ _ _ hb hc
  | fnil ρ es cap hc => intro _; exact .fnil _ _ _ hc
  | femp ρ es a c cap hc => intro _; exact .femp _ _ _ _ _ hc
  | fsl ρ es rows b o c cap f hFb hl hc hw hg hv ih => intro _; exact .fsl _ _ _ _ _ _ _ f hFb hl hc hw hg hv
  | fptr ρ es rows i0 j0 b o f hFb hw hg hv ih => intro _; exact .fptr _ _ _ _ _ _ _ f hFb hw hg hv
  | nilm => intro _; exact .nilm _
  | map ρ id b h => intro hs; exact .map _ _ _ (cut_of (by simpa [inScope] using hs) h)
  | func ρ f cap cv hl h ih => intro hs; exact .func _ _ _ _ hl fun i v u h1 h2 => ih i v u h1 h2 (scopeL (by simpa [inScope] using hs) i v h1)
  | nilf => intro _; exact .nilf _
  | agg ρ cs cv hl h ih => intro hs; exact .agg _ _ _ hl fun i v u h1 h2 => ih i v u h1 h2 (scopeL (by simpa [inScope] using hs) i v h1)
  | pagg ρ cs cv hl h ih => intro hs; exact .pagg _ _ _ hl h
  | tuple ρ cs cv hl h ih => intro hs; exact .tuple _ _ _ hl fun i v u h1 h2 => ih i v u h1 h2 (scopeL (by simpa [inScope] using hs) i v h1)
  | nili => intro _; exact .nili _
  | iface ρ t v u h ih => intro hs; exact .iface _ _ _ _ (ih (by simpa [inScope] using hs))

mutual
theorem scope_closed {k : Nat} : ∀ (v : AVal), idsIn [] v = true → inScope k v = true
  | .any, _ | .tt _, _ | .bool _, _ | .int _ _, _ | .str _, _ | .nilp, _ | .fsl _ _ _ _, _ | .fptr _ _ _ _, _ | .nilm, _ | .nilf, _ | .pagg _, _ | .nili, _ | .pan _, _ | .blk _ _ _ _, _ => rfl
  | .ptr id _ _ _, h => by simp [idsIn] at h
  | .slc _ id _ _ _ _, h => by simp [idsIn] at h
  | .map id, h => by simp [idsIn] at h
  | .func _ cap, h => by simp only [idsIn] at h; simp only [inScope]; exact scopeL_closed cap h
  | .agg cs, h => by simp only [idsIn] at h; simp only [inScope]; exact scopeL_closed cs h
  | .tuple cs, h => by simp only [idsIn] at h; simp only [inScope]; exact scopeL_closed cs h
  | .iface _ v, h => by simp only [idsIn] at h; simp only [inScope]; exact scope_closed v h
theorem scopeL_closed {k : Nat} : ∀ (vs : List AVal), idsInL [] vs = true → inScopeL k vs = true
  | [], _ => rfl
  | v :: vs, h => by
    simp only [idsInL, Bool.and_eq_true] at h
    simp only [inScopeL, Bool.and_eq_true]
    exact ⟨scope_closed v h.1, scopeL_closed vs h.2⟩
end
mutual
theorem ren_closed {e : Nat → Nat} : ∀ (v : AVal), idsIn [] v = true → ren e v = v
  | .any, _ | .tt _, _ | .bool _, _ | .int _ _, _ | .str _, _ | .nilp, _ | .fsl _ _ _ _, _ | .fptr _ _ _ _, _ | .nilm, _ | .nilf, _ | .pagg _, _ | .nili, _ | .pan _, _ | .blk _ _ _ _, _ => rfl
  | .ptr id _ _ _, h => by simp [idsIn] at h
  | .slc _ id _ _ _ _, h => by simp [idsIn] at h
  | .map id, h => by simp [idsIn] at h
  | .func _ cap, h => by simp only [idsIn] at h; simp only [Abs.ren]; rw [renL_closed cap h]
  | .agg cs, h => by simp only [idsIn] at h; simp only [Abs.ren]; rw [renL_closed cs h]
  | .tuple cs, h => by simp only [idsIn] at h; simp only [Abs.ren]; rw [renL_closed cs h]
  | .iface _ v, h => by simp only [idsIn] at h; simp only [Abs.ren]; rw [ren_closed v h]
theorem renL_closed {e : Nat → Nat} : ∀ (vs : List AVal), idsInL [] vs = true → Abs.renL e vs = vs
  | [], _ => rfl
  | v :: vs, h => by
    simp only [idsInL, Bool.and_eq_true] at h
    simp only [Abs.renL]
    rw [ren_closed v h.1, renL_closed vs h.2]
end
theorem map_closed {e : Nat → Nat} : ∀ (l : List (AVal × AVal)), (∀ x ∈ l, idsIn [] x.1 = true ∧ idsIn [] x.2 = true) → l.map (fun p => (Abs.ren e p.1, Abs.ren e p.2)) = l
  | [], _ => rfl
  | x :: l, h => by
    have h1 := h x (by simp)
    rw [List.map_cons, map_closed l (fun y hy => h y (by simp [hy])), ren_closed _ h1.1, ren_closed _ h1.2]
theorem ORel.scope {k b : Nat} {o : AObj} (h : ORel F w ρ b o) (hs : inScopeO k o = true) : ORel F w (cut k ρ) b o := by
  have hno : ∀ id, cut k noId id = none := fun id => by unfold cut; split <;> rfl
  cases o with
  | dead => trivial
  | rows p es rs =>
    obtain ⟨cs, T, fr, h1, h2, h3, h4, h5⟩ := h
    refine ⟨cs, T, fr, h1, h2, h3, h4, fun i j row v e1 e2 => ?_⟩
    obtain ⟨cv, g1, g2⟩ := h5 i j row v e1 e2
    refine ⟨cv, g1, ?_⟩
    cases p with
    | true => exact g2
    | false =>
      simp only [inScopeO, Bool.false_or] at hs
      exact VRel.scope (ρ := ρ) g2 (scopeL (List.all_eq_true.1 hs row (List.mem_of_getElem? e1)) j v e2)
  | trows T0 p es rs =>
    obtain ⟨cs, fr, h1, h2, h3, h4, h5⟩ := h
    refine ⟨cs, fr, h1, h2, h3, h4, fun i j row v e1 e2 => ?_⟩
    obtain ⟨cv, g1, g2⟩ := h5 i j row v e1 e2
    refine ⟨cv, g1, ?_⟩
    cases p with
    | true => exact g2
    | false =>
      simp only [inScopeO, Bool.false_or] at hs
      exact VRel.scope (ρ := ρ) g2 (scopeL (List.all_eq_true.1 hs row (List.mem_of_getElem? e1)) j v e2)
  | mp p ents =>
    obtain ⟨es, clock, h1, h2, h0, h3⟩ := h
    refine ⟨es, clock, h1, h2, h0, fun i kk v e1 => ?_⟩
    obtain ⟨e, g1, g2, g3⟩ := h3 i kk v e1
    refine ⟨e, g1, ?_⟩
    cases p with
    | true => exact ⟨g2, g3⟩
    | false =>
      simp only [inScopeO, Bool.false_or] at hs
      have := List.all_eq_true.1 hs _ (List.mem_of_getElem? e1)
      simp only [Bool.and_eq_true] at this
      exact ⟨VRel.scope (ρ := ρ) g2 this.1, VRel.scope (ρ := ρ) g3 this.2⟩
  | mpn p ents bs c =>
    obtain ⟨es, h1, h2, h0, h3⟩ := h
    refine ⟨es, h1, h2, h0, fun i kk v e1 => ?_⟩
    obtain ⟨e, g1, g2, g3⟩ := h3 i kk v e1
    refine ⟨e, g1, ?_⟩
    cases p with
    | true => exact ⟨g2, g3⟩
    | false =>
      simp only [inScopeO, Bool.false_or] at hs
      have := List.all_eq_true.1 hs _ (List.mem_of_getElem? e1)
      simp only [Bool.and_eq_true] at this
      exact ⟨VRel.scope (ρ := ρ) g2 this.1, VRel.scope (ρ := ρ) g3 this.2⟩
  | bag es rs => exact h
  | gh T => exact h
  | mq pre own post =>
    obtain ⟨hp, es, clock, h1, h2, h0, h3⟩ := h
    refine ⟨hp, es, clock, h1, h2, h0, fun i kk v e1 => ?_⟩
    obtain ⟨e, g1, g2, g3⟩ := h3 i kk v e1
    have hsc : inScope k kk = true ∧ inScope k v = true := by
      have hm := List.mem_of_getElem? e1
      simp only [List.mem_append] at hm
      rcases hm with (hm | hm) | hm
      · have := hp _ (List.mem_append.2 (.inl hm)); exact ⟨scope_closed _ this.1, scope_closed _ this.2⟩
      · simp only [inScopeO] at hs
        have := List.all_eq_true.1 hs _ hm
        simpa only [Bool.and_eq_true] using this
      · have := hp _ (List.mem_append.2 (.inr hm)); exact ⟨scope_closed _ this.1, scope_closed _ this.2⟩
    exact ⟨e, g1, VRel.scope (ρ := ρ) g2 hsc.1, VRel.scope (ρ := ρ) g3 hsc.2⟩
  | siter rest => exact h
  | miter m since seen last =>
    cases m with
    | none => exact h
    | some id =>
      obtain ⟨x, h1, h2⟩ := h
      have hi : id < k := by simpa [inScopeO] using hs
      exact ⟨x, by unfold cut; rw [if_pos hi]; exact h1, h2⟩

end
end Go.Abs
end

section
set_option linter.unusedVariables false
set_option linter.unusedSimpArgs false
namespace Go.Abs

section
variable {P : Program} {F : FS} {w : World}

theorem renL_get {e : Nat → Nat} : ∀ (l : List AVal) (i : Nat), (renL e l)[i]? = (l[i]?).map (ren e)
  | [], i => by simp [renL]
  | v :: vs, 0 => by simp [renL]
  | v :: vs, i + 1 => by simp [renL, renL_get vs i]
theorem renL_length {e : Nat → Nat} : ∀ (l : List AVal), (renL e l).length = l.length
  | [] => rfl
  | v :: vs => by simp [renL, renL_length vs]

theorem VRel.ren {ρ ρ' : RMap} {e : Nat → Nat} {v : AVal} {c : Value} (h : VRel F w ρ v c) : (∀ id b, ρ id = some b → ρ' (e id) = some b) → VRel F w ρ' (Abs.ren e v) c := by
  induction h with
  | any => intro _; exact .any _ _
  | tt => intro _; exact .tt _ _
  | bool => intro _; exact .bool _ _
  | int => intro _; exact .int _ _ _
  | str => intro _; exact .str _ _
  | nilp => intro _; exact .nilp _
  | blk => intro _; exact .blk _ _ _ _ _
  | ptr ρ id es i j b h => intro he; exact .ptr _ _ _ _ _ _ (he _ _ h)
  | slc ρ id es off len cap c b h hl hc hs => intro he; exact .slc _ _ _ _ _ _ _ _ (he _ _ h) hl hc hs
  | slcE ρ n id es off cap base hb hc => intro _; exact .slcE _ _ _ _ _ _ _ hb hc
  | fnil ρ es cap hc => intro _; exact .fnil _ _ _ hc
  | femp ρ es a c cap hc => intro _; exact .femp _ _ _ _ _ hc
  | fsl ρ es rows b o c cap f hFb hl hc hw hg hv ih => intro _; exact .fsl _ _ _ _ _ _ _ f hFb hl hc hw hg hv
  | fptr ρ es rows i0 j0 b o f hFb hw hg hv ih => intro _; exact .fptr _ _ _ _ _ _ _ f hFb hw hg hv
  | nilm => intro _; exact .nilm _
  | map ρ id b h => intro he; exact .map _ _ _ (he _ _ h)
  | func ρ f cap cv hl h ih =>
    intro he
    refine .func _ _ _ _ (by rw [renL_length]; exact hl) fun i v u h1 h2 => ?_
    rw [renL_get, Option.map_eq_some_iff] at h1
    obtain ⟨x, hx, rfl⟩ := h1
    exact ih i x u hx h2 he
  | nilf => intro _; exact .nilf _
  | agg ρ cs cv hl h ih =>
    intro he
    refine .agg _ _ _ (by rw [renL_length]; exact hl) fun i v u h1 h2 => ?_
    rw [renL_get, Option.map_eq_some_iff] at h1
    obtain ⟨x, hx, rfl⟩ := h1
    exact ih i x u hx h2 he
  | pagg ρ cs cv hl h ih => intro _; exact .pagg _ _ _ hl h
  | tuple ρ cs cv hl h ih =>
    intro he
    refine .tuple _ _ _ (by rw [renL_length]; exact hl) fun i v u h1 h2 => ?_
    rw [renL_get, Option.map_eq_some_iff] at h1
    obtain ⟨x, hx, rfl⟩ := h1
    exact ih i x u hx h2 he
  | nili => intro _; exact .nili _
  | iface ρ t v u h ih => intro he; exact .iface _ _ _ _ (ih he)

theorem VRel.unren {ρ ρ' : RMap} {e : Nat → Nat} {k : Nat} {c : Value} {v0 : AVal} (h : VRel F w ρ v0 c) : (∀ id b, id < k → ρ (e id) = some b → ρ' id = some b) → ∀ v, v0 = Abs.ren e v → inScope k v = true → VRel F w ρ' v c := by
  induction h with
  | any => intro _ v hv hs; cases v <;> simp [Abs.ren] at hv; exact .any _ _
  | tt => intro _ v hv hs; cases v <;> simp [Abs.ren] at hv; subst hv; exact .tt _ _
  | bool => intro _ v hv hs; cases v <;> simp [Abs.ren] at hv; subst hv; exact .bool _ _
  | int => intro _ v hv hs; cases v <;> simp [Abs.ren] at hv; obtain ⟨rfl, rfl⟩ := hv; exact .int _ _ _
  | str => intro _ v hv hs; cases v <;> simp [Abs.ren] at hv; subst hv; exact .str _ _
  | nilp => intro _ v hv hs; cases v <;> simp [Abs.ren] at hv; exact .nilp _
  | blk => intro _ v hv hs; cases v <;> simp [Abs.ren] at hv; obtain ⟨rfl, rfl, rfl, rfl⟩ := hv; exact .blk _ _ _ _ _
  | ptr ρ id es i j b h =>
    intro he v hv hs
    cases v <;> simp [Abs.ren] at hv
    obtain ⟨rfl, rfl, rfl, rfl⟩ := hv
    exact .ptr _ _ _ _ _ _ (he _ _ (by simpa [inScope] using hs) h)
  | slc ρ id es off len cap c b h hl hc hss =>
    intro he v hv hs
    cases v <;> simp [Abs.ren] at hv
    obtain ⟨rfl, rfl, rfl, rfl, rfl, rfl⟩ := hv
    exact .slc _ _ _ _ _ _ _ _ (he _ _ (by simpa [inScope] using hs) h) hl hc hss
  | slcE ρ n id es off cap base hb hc =>
    intro he v hv hs
    cases v <;> simp [Abs.ren] at hv
    obtain ⟨rfl, rfl, rfl, rfl, rfl, rfl⟩ := hv
    exact .slcE _ _ _ _ _ _ _ hb hc
  | fnil ρ es cap hc =>
    intro he v hv hs
    cases v <;> simp [Abs.ren] at hv
    obtain ⟨rfl, rfl, rfl, rfl⟩ := hv
    exact .fnil _ _ _ hc
  | femp ρ es a c cap hc =>
    intro he v hv hs
    cases v <;> simp [Abs.ren] at hv
    obtain ⟨rfl, rfl, rfl, rfl⟩ := hv
    exact .femp _ _ _ _ _ hc
  | fsl ρ es rows b o c cap f hFb hl hc hw hg hv0 ih =>
    intro he v hv hs
    cases v <;> simp [Abs.ren] at hv
    obtain ⟨rfl, rfl, rfl, rfl⟩ := hv
    exact .fsl _ _ _ _ _ _ _ f hFb hl hc hw hg hv0
  | fptr ρ es rows i0 j0 b o f hFb hw hg hv0 ih =>
    intro he v hv hs
    cases v <;> simp [Abs.ren] at hv
    obtain ⟨rfl, rfl, rfl, rfl⟩ := hv
    exact .fptr _ _ _ _ _ _ _ f hFb hw hg hv0
  | nilm => intro _ v hv hs; cases v <;> simp [Abs.ren] at hv; exact .nilm _
  | map ρ id b h =>
    intro he v hv hs
    cases v <;> simp [Abs.ren] at hv
    subst hv
    exact .map _ _ _ (he _ _ (by simpa [inScope] using hs) h)
  | func ρ f cap cv hl h ih =>
    intro he v hv hs
    cases v <;> simp [Abs.ren] at hv
    obtain ⟨rfl, rfl⟩ := hv
    simp only [inScope] at hs
    refine .func _ _ _ _ (by rw [renL_length] at hl; exact hl) fun i v u h1 h2 => ?_
    exact ih i (Abs.ren e v) u (by rw [renL_get, h1]; rfl) h2 he v rfl (scopeL hs i v h1)
  | nilf => intro _ v hv hs; cases v <;> simp [Abs.ren] at hv; exact .nilf _
  | agg ρ cs cv hl h ih =>
    intro he v hv hs
    cases v <;> simp [Abs.ren] at hv
    subst hv
    simp only [inScope] at hs
    refine .agg _ _ _ (by rw [renL_length] at hl; exact hl) fun i v u h1 h2 => ?_
    exact ih i (Abs.ren e v) u (by rw [renL_get, h1]; rfl) h2 he v rfl (scopeL hs i v h1)
  | pagg ρ cs cv hl h ih => intro _ v hv hs; cases v <;> simp [Abs.ren] at hv; subst hv; exact .pagg _ _ _ hl h
  | tuple ρ cs cv hl h ih =>
    intro he v hv hs
    cases v <;> simp [Abs.ren] at hv
    subst hv
    simp only [inScope] at hs
    refine .tuple _ _ _ (by rw [renL_length] at hl; exact hl) fun i v u h1 h2 => ?_
    exact ih i (Abs.ren e v) u (by rw [renL_get, h1]; rfl) h2 he v rfl (scopeL hs i v h1)
  | nili => intro _ v hv hs; cases v <;> simp [Abs.ren] at hv; exact .nili _
  | iface ρ t v u h ih =>
    intro he v hv hs
    cases v <;> simp [Abs.ren] at hv
    obtain ⟨rfl, rfl⟩ := hv
    exact .iface _ _ _ _ (ih he _ rfl (by simpa [inScope] using hs))

theorem ORel.ren {ρ ρ' : RMap} {e : Nat → Nat} {b : Nat} {o : AObj} (h : ORel F w ρ b o) (he : ∀ id b, ρ id = some b → ρ' (e id) = some b) : ORel F w ρ' b (renO e o) := by
  cases o with
  | dead => trivial
  | rows p es rs =>
    cases p with
    | true => exact h
    | false =>
      obtain ⟨cs, T, fr, h1, h2, h3, h4, h5⟩ := h
      refine ⟨cs, T, fr, h1, h2, by simpa using h3, fun i row hr => ?_, fun i j row v hr hv => ?_⟩
      · rw [List.getElem?_map, Option.map_eq_some_iff] at hr
        obtain ⟨r0, hr0, rfl⟩ := hr
        rw [renL_length]; exact h4 i r0 hr0
      · rw [List.getElem?_map, Option.map_eq_some_iff] at hr
        obtain ⟨r0, hr0, rfl⟩ := hr
        rw [renL_get, Option.map_eq_some_iff] at hv
        obtain ⟨v0, hv0, rfl⟩ := hv
        obtain ⟨cv, g1, g2⟩ := h5 i j r0 v0 hr0 hv0
        exact ⟨cv, g1, VRel.ren (ρ := ρ) g2 he⟩
  | trows T0 p es rs =>
    cases p with
    | true => exact h
    | false =>
      obtain ⟨cs, fr, h1, h2, h3, h4, h5⟩ := h
      refine ⟨cs, fr, h1, h2, by simpa using h3, fun i row hr => ?_, fun i j row v hr hv => ?_⟩
      · rw [List.getElem?_map, Option.map_eq_some_iff] at hr
        obtain ⟨r0, hr0, rfl⟩ := hr
        rw [renL_length]; exact h4 i r0 hr0
      · rw [List.getElem?_map, Option.map_eq_some_iff] at hr
        obtain ⟨r0, hr0, rfl⟩ := hr
        rw [renL_get, Option.map_eq_some_iff] at hv
        obtain ⟨v0, hv0, rfl⟩ := hv
        obtain ⟨cv, g1, g2⟩ := h5 i j r0 v0 hr0 hv0
        exact ⟨cv, g1, VRel.ren (ρ := ρ) g2 he⟩
  | mp p ents =>
    cases p with
    | true => exact h
    | false =>
      obtain ⟨es, clock, h1, h2, h0, h3⟩ := h
      refine ⟨es, clock, h1, by simpa using h2, h0, fun i k v hr => ?_⟩
      rw [List.getElem?_map, Option.map_eq_some_iff] at hr
      obtain ⟨⟨k0, v0⟩, hr0, he0⟩ := hr
      simp only [Prod.mk.injEq] at he0
      obtain ⟨rfl, rfl⟩ := he0
      obtain ⟨x, g1, g2, g3⟩ := h3 i k0 v0 hr0
      exact ⟨x, g1, VRel.ren (ρ := ρ) g2 he, VRel.ren (ρ := ρ) g3 he⟩
  | mpn p ents bs c =>
    cases p with
    | true => exact h
    | false =>
      obtain ⟨es, h1, h2, h0, h3⟩ := h
      refine ⟨es, h1, by simpa using h2, h0, fun i k v hr => ?_⟩
      rw [List.getElem?_map, Option.map_eq_some_iff] at hr
      obtain ⟨⟨k0, v0⟩, hr0, he0⟩ := hr
      simp only [Prod.mk.injEq] at he0
      obtain ⟨rfl, rfl⟩ := he0
      obtain ⟨x, g1, g2, g3⟩ := h3 i k0 v0 hr0
      exact ⟨x, g1, VRel.ren (ρ := ρ) g2 he, VRel.ren (ρ := ρ) g3 he⟩
  | bag es rs => exact h
  | siter rest => exact h
  | miter m since seen last =>
    cases m with
    | none => exact h
    | some id =>
      obtain ⟨x, h1, h2⟩ := h
      exact ⟨x, he _ _ h1, h2⟩
  | gh T => exact h
  | mq pre own post =>
    obtain ⟨hp, h⟩ := h
    have hq : pre ++ own.map (fun p => (Abs.ren e p.1, Abs.ren e p.2)) ++ post = (pre ++ own ++ post).map fun p => (Abs.ren e p.1, Abs.ren e p.2) := by
      rw [List.map_append, List.map_append, map_closed pre (fun x hx => hp x (List.mem_append.2 (.inl hx))), map_closed post (fun x hx => hp x (List.mem_append.2 (.inr hx)))]
    refine ⟨hp, ?_⟩
    rw [hq]
    obtain ⟨es, clock, h1, h2, h0, h3⟩ := h
    refine ⟨es, clock, h1, by simpa using h2, h0, fun i k v hr => ?_⟩
    rw [List.getElem?_map, Option.map_eq_some_iff] at hr
    obtain ⟨⟨k0, v0⟩, hr0, he0⟩ := hr
    simp only [Prod.mk.injEq] at he0
    obtain ⟨rfl, rfl⟩ := he0
    obtain ⟨x, g1, g2, g3⟩ := h3 i k0 v0 hr0
    exact ⟨x, g1, VRel.ren (ρ := ρ) g2 he, VRel.ren (ρ := ρ) g3 he⟩

theorem ORel.unren {ρ ρ' : RMap} {e : Nat → Nat} {b k : Nat} {o : AObj} (h : ORel F w ρ b (renO e o)) (he : ∀ id b, id < k → ρ (e id) = some b → ρ' id = some b) (hs : inScopeO k o = true) : ORel F w ρ' b o := by
  cases o with
  | dead => trivial
  | rows p es rs =>
    cases p with
    | true => exact h
    | false =>
      obtain ⟨cs, T, fr, h1, h2, h3, h4, h5⟩ := h
      simp only [inScopeO, Bool.false_or] at hs
      refine ⟨cs, T, fr, h1, h2, by simpa using h3, fun i row hr => ?_, fun i j row v hr hv => ?_⟩
      · have := h4 i (renL e row) (by rw [List.getElem?_map, hr]; rfl)
        rw [renL_length] at this; exact this
      · obtain ⟨cv, g1, g2⟩ := h5 i j (renL e row) (Abs.ren e v) (by rw [List.getElem?_map, hr]; rfl) (by rw [renL_get, hv]; rfl)
        exact ⟨cv, g1, VRel.unren (ρ := ρ) g2 he v rfl (scopeL (List.all_eq_true.1 hs row (List.mem_of_getElem? hr)) j v hv)⟩
  | trows T0 p es rs =>
    cases p with
    | true => exact h
    | false =>
      obtain ⟨cs, fr, h1, h2, h3, h4, h5⟩ := h
      simp only [inScopeO, Bool.false_or] at hs
      refine ⟨cs, fr, h1, h2, by simpa using h3, fun i row hr => ?_, fun i j row v hr hv => ?_⟩
      · have := h4 i (renL e row) (by rw [List.getElem?_map, hr]; rfl)
        rw [renL_length] at this; exact this
      · obtain ⟨cv, g1, g2⟩ := h5 i j (renL e row) (Abs.ren e v) (by rw [List.getElem?_map, hr]; rfl) (by rw [renL_get, hv]; rfl)
        exact ⟨cv, g1, VRel.unren (ρ := ρ) g2 he v rfl (scopeL (List.all_eq_true.1 hs row (List.mem_of_getElem? hr)) j v hv)⟩
  | mp p ents =>
    cases p with
    | true => exact h
    | false =>
      obtain ⟨es, clock, h1, h2, h0, h3⟩ := h
      simp only [inScopeO, Bool.false_or] at hs
      refine ⟨es, clock, h1, by simpa using h2, h0, fun i k v hr => ?_⟩
      obtain ⟨x, g1, g2, g3⟩ := h3 i (Abs.ren e k) (Abs.ren e v) (by rw [List.getElem?_map, hr]; rfl)
      have := List.all_eq_true.1 hs _ (List.mem_of_getElem? hr)
      simp only [Bool.and_eq_true] at this
      exact ⟨x, g1, VRel.unren (ρ := ρ) g2 he k rfl this.1, VRel.unren (ρ := ρ) g3 he v rfl this.2⟩
  | mpn p ents bs c =>
    cases p with
    | true => exact h
    | false =>
      obtain ⟨es, h1, h2, h0, h3⟩ := h
      simp only [inScopeO, Bool.false_or] at hs
      refine ⟨es, h1, by simpa using h2, h0, fun i k v hr => ?_⟩
      obtain ⟨x, g1, g2, g3⟩ := h3 i (Abs.ren e k) (Abs.ren e v) (by rw [List.getElem?_map, hr]; rfl)
      have := List.all_eq_true.1 hs _ (List.mem_of_getElem? hr)
      simp only [Bool.and_eq_true] at this
      exact ⟨x, g1, VRel.unren (ρ := ρ) g2 he k rfl this.1, VRel.unren (ρ := ρ) g3 he v rfl this.2⟩
  | bag es rs => exact h
  | siter rest => exact h
  | miter m since seen last =>
    cases m with
    | none => exact h
    | some id =>
      obtain ⟨x, h1, h2⟩ := h
      exact ⟨x, he _ _ (by simpa [inScopeO] using hs) h1, h2⟩
  | gh T => exact h
  | mq pre own post =>
    obtain ⟨hp, h⟩ := h
    have hq : pre ++ own.map (fun p => (Abs.ren e p.1, Abs.ren e p.2)) ++ post = (pre ++ own ++ post).map fun p => (Abs.ren e p.1, Abs.ren e p.2) := by
      rw [List.map_append, List.map_append, map_closed pre (fun x hx => hp x (List.mem_append.2 (.inl hx))), map_closed post (fun x hx => hp x (List.mem_append.2 (.inr hx)))]
    refine ⟨hp, ?_⟩
    rw [hq] at h
    have hsc : ((pre ++ own ++ post).all fun x => inScope k x.1 && inScope k x.2) = true := by
      rw [List.all_append, List.all_append, Bool.and_eq_true, Bool.and_eq_true]
      refine ⟨⟨List.all_eq_true.2 fun x hx => ?_, hs⟩, List.all_eq_true.2 fun x hx => ?_⟩
      · have := hp x (List.mem_append.2 (.inl hx)); rw [scope_closed _ this.1, scope_closed _ this.2]; rfl
      · have := hp x (List.mem_append.2 (.inr hx)); rw [scope_closed _ this.1, scope_closed _ this.2]; rfl
    obtain ⟨es, clock, h1, h2, h0, h3⟩ := h
    refine ⟨es, clock, h1, by simpa using h2, h0, fun i kk v hr => ?_⟩
    obtain ⟨x, g1, g2, g3⟩ := h3 i (Abs.ren e kk) (Abs.ren e v) (by rw [List.getElem?_map, hr]; rfl)
    have := List.all_eq_true.1 hsc _ (List.mem_of_getElem? hr)
    simp only [Bool.and_eq_true] at this
    exact ⟨x, g1, VRel.unren (ρ := ρ) g2 he kk rfl this.1, VRel.unren (ρ := ρ) g3 he v rfl this.2⟩

theorem renO_live {e : Nat → Nat} {o : AObj} : (renO e o).live = o.live := by
  cases o with
  | dead => rfl
  | rows p es rs => cases p <;> rfl
  | trows T0 p es rs => cases p <;> rfl
  | mp p ents => cases p <;> rfl
  | mpn p _ _ _ => cases p <;> rfl
  | bag _ _ => rfl
  | siter _ => rfl
  | miter _ _ _ _ => rfl
  | gh _ => rfl
  | mq _ _ _ => rfl
theorem renO_gh {e : Nat → Nat} {o : AObj} (h : (renO e o).isGh = true) : renO e o = o := by
  cases o with
  | gh _ => rfl
  | dead => rfl
  | rows p es rs => cases p <;> cases h
  | trows T0 p es rs => cases p <;> cases h
  | mp p ents => cases p <;> cases h
  | mpn p _ _ _ => cases p <;> cases h
  | bag _ _ => cases h
  | siter _ => cases h
  | miter _ _ _ _ => cases h
  | mq _ _ _ => cases h
theorem renO_isGh {e : Nat → Nat} {o : AObj} : (renO e o).isGh = o.isGh := by
  cases o with
  | gh _ => rfl
  | mq _ _ _ => rfl
  | dead => rfl
  | rows p es rs => cases p <;> rfl
  | trows T0 p es rs => cases p <;> rfl
  | mp p ents => cases p <;> rfl
  | mpn p _ _ _ => cases p <;> rfl
  | bag _ _ => rfl
  | siter _ => rfl
  | miter _ _ _ _ => rfl

theorem renO_gh0 {e : Nat → Nat} {o : AObj} (h : o.isGh = true) : renO e o = o := renO_gh (by rw [renO_isGh]; exact h)
theorem old_inv {π : List Nat} {id : Nat} (h : π.contains id = true) : old π (invId π id) = id := by
  unfold old invId
  have hm : id ∈ π := by simpa using h
  rw [List.getD_eq_getElem?_getD, List.getElem?_eq_getElem (List.idxOf_lt_length_of_mem hm)]
  simp
mutual
theorem ren_back {π : List Nat} : ∀ (v : AVal), idsIn π v = true → Abs.ren (old π) (Abs.ren (invId π) v) = v
  | .any, _ | .tt _, _ | .bool _, _ | .int _ _, _ | .str _, _ | .nilp, _ | .fsl _ _ _ _, _ | .fptr _ _ _ _, _ | .nilm, _ | .nilf, _ | .pagg _, _ | .nili, _ | .pan _, _ | .blk _ _ _ _, _ => rfl
  | .ptr id _ _ _, h => by simp only [idsIn] at h; simp only [Abs.ren]; rw [old_inv h]
  | .slc _ id _ _ _ _, h => by simp only [idsIn] at h; simp only [Abs.ren]; rw [old_inv h]
  | .map id, h => by simp only [idsIn] at h; simp only [Abs.ren]; rw [old_inv h]
  | .func _ cap, h => by simp only [idsIn] at h; simp only [Abs.ren]; rw [renL_back cap h]
  | .agg cs, h => by simp only [idsIn] at h; simp only [Abs.ren]; rw [renL_back cs h]
  | .tuple cs, h => by simp only [idsIn] at h; simp only [Abs.ren]; rw [renL_back cs h]
  | .iface _ v, h => by simp only [idsIn] at h; simp only [Abs.ren]; rw [ren_back v h]
theorem renL_back {π : List Nat} : ∀ (vs : List AVal), idsInL π vs = true → Abs.renL (old π) (Abs.renL (invId π) vs) = vs
  | [], _ => rfl
  | v :: vs, h => by
    simp only [idsInL, Bool.and_eq_true] at h
    simp only [Abs.renL]
    rw [ren_back v h.1, renL_back vs h.2]
end
theorem renO_back {π : List Nat} {o : AObj} (h : idsInO π o = true) : renO (old π) (renO (invId π) o) = o := by
  cases o with
  | dead => rfl
  | rows p es rs =>
    cases p with
    | true => rfl
    | false =>
      simp only [idsInO, Bool.false_or] at h
      simp only [renO, List.map_map]
      congr 1
      conv => rhs; rw [← List.map_id rs]
      refine List.map_congr_left fun r hr => renL_back r (List.all_eq_true.1 h r hr)
  | trows T0 p es rs =>
    cases p with
    | true => rfl
    | false =>
      simp only [idsInO, Bool.false_or] at h
      simp only [renO, List.map_map]
      congr 1
      conv => rhs; rw [← List.map_id rs]
      refine List.map_congr_left fun r hr => renL_back r (List.all_eq_true.1 h r hr)
  | mp p ents =>
    cases p with
    | true => rfl
    | false =>
      simp only [idsInO, Bool.false_or] at h
      simp only [renO, List.map_map]
      congr 1
      conv => rhs; rw [← List.map_id ents]
      refine List.map_congr_left fun r hr => ?_
      have := List.all_eq_true.1 h r hr
      simp only [Bool.and_eq_true] at this
      show (Abs.ren (old π) (Abs.ren (invId π) r.1), Abs.ren (old π) (Abs.ren (invId π) r.2)) = r
      rw [ren_back _ this.1, ren_back _ this.2]
  | mpn p ents bs c =>
    cases p with
    | true => rfl
    | false =>
      simp only [idsInO, Bool.false_or] at h
      simp only [renO, List.map_map]
      congr 1
      conv => rhs; rw [← List.map_id ents]
      refine List.map_congr_left fun r hr => ?_
      have := List.all_eq_true.1 h r hr
      simp only [Bool.and_eq_true] at this
      show (Abs.ren (old π) (Abs.ren (invId π) r.1), Abs.ren (old π) (Abs.ren (invId π) r.2)) = r
      rw [ren_back _ this.1, ren_back _ this.2]
  | bag es rs => rfl
  | gh T => rfl
  | mq pre own post =>
    simp only [idsInO] at h
    simp only [renO, List.map_map]
    congr 1
    conv => rhs; rw [← List.map_id own]
    refine List.map_congr_left fun r hr => ?_
    have := List.all_eq_true.1 h r hr
    simp only [Bool.and_eq_true] at this
    show (Abs.ren (old π) (Abs.ren (invId π) r.1), Abs.ren (old π) (Abs.ren (invId π) r.2)) = r
    rw [ren_back _ this.1, ren_back _ this.2]
  | siter rest => rfl
  | miter m since seen last =>
    cases m with
    | none => rfl
    | some id =>
      simp only [idsInO, Option.all_some] at h
      simp only [renO, Option.map_some]
      rw [old_inv h]

end
end Go.Abs
end

section
set_option linter.unusedVariables false
set_option linter.unusedSectionVars false
set_option linter.unusedSimpArgs false
namespace Go.Abs
variable [Glob]

def EndOk (F : FS) (w : World) (ρ : RMap) (r : AVal) (e : Ending) : Prop :=
  (∃ v, e = .returned v ∧ VRel F w ρ r v) ∨ ∃ t, r = .pan t ∧ e = .panicked (panChain t)
omit [Glob] in
theorem EndOk.mono {F F' : FS} {w w' : World} {ρ ρ' : RMap} {r r' : AVal} {e : Ending} (h : EndOk F w ρ r e) (hv : ∀ v, VRel F w ρ r v → VRel F' w' ρ' r' v) (hp : ∀ t, r = .pan t → r' = .pan t) : EndOk F' w' ρ' r' e := by
  rcases h with ⟨v, h1, h2⟩ | ⟨t, h1, h2⟩
  · exact .inl ⟨v, h1, hv v h2⟩
  · exact .inr ⟨t, hp t h1, h2⟩
omit [Glob] in
theorem EndOk.value {F : FS} {w : World} {ρ : RMap} {r : AVal} {e : Ending} (h : EndOk F w ρ r e) (hp : r.isPan = false) : ∃ v, e = .returned v ∧ VRel F w ρ r v := by
  rcases h with h | ⟨t, rfl, _⟩
  · exact h
  · cases hp

def FOk (P : Program) (f : FuncId) (as : List AVal) (σ : AState) (r : AVal) (σ' : AState) : Prop :=
  (∃ fn c, P.funcs[f]? = some fn ∧ (fn.name == "runtime.NumGoroutine") = false ∧ fn.body = some c) ∧
  ∀ (F : FS) (w : World) (ρ : RMap) (args : Array Value), Rel ρ F σ w → (GOk F w ∧ PW F w ρ as args.toList) →
    Calls P f args w fun e w' => ∃ ρ' F', EndOk F' w' ρ' r e ∧ Tr σ σ' ρ ρ' F F' w w' ∧ Rel ρ' F' σ' w'

def okEmb (es : List Nat) (n : Nat) (as0 : List AVal) (σ0 σ' : AState) : Bool :=
  nodupB es && es.all (fun j => decide (j < n)) && inScopeL σ0.length as0 && σ0.all (inScopeO σ0.length) && decide (σ0.length ≤ σ'.length)

structure UseOk (P : Program) (f : FuncId) (es : List Nat) (as : List AVal) (S : AState) (as0 : List AVal) (σ0 : AState) (r : AVal) (σ' : AState) : Prop where
  fok : FOk P f as0 σ0 r σ'
  args : as = renL (emb es S.length) as0
  heap : es.map (fun j => S[j]?) = σ0.map fun o => some (renO (emb es S.length) o)
  ok : okEmb es S.length as0 σ0 σ' = true

theorem nodupB_inj : ∀ {es : List Nat}, nodupB es = true → ∀ i j, i < es.length → j < es.length → es.getD i 0 = es.getD j 0 → i = j
  | [], _, i, j, hi, _, _ => by simp at hi
  | x :: xs, h, i, j, hi, hj, he => by
    simp only [nodupB, Bool.and_eq_true, Bool.not_eq_true'] at h
    have hx : ∀ k, k < xs.length → xs.getD k 0 ≠ x := fun k hk e => by
      have : x ∈ xs := by
        rw [← e, List.getD_eq_getElem?_getD, List.getElem?_eq_getElem hk]
        simp
      rw [List.contains_eq_mem] at h
      simp [this] at h
    match i, j with
    | 0, 0 => rfl
    | 0, j + 1 => exact absurd (by simpa using he.symm) (hx j (by simpa using hj))
    | i + 1, 0 => exact absurd (by simpa using he) (hx i (by simpa using hi))
    | i + 1, j + 1 => rw [nodupB_inj h.2 i j (by simpa using hi) (by simpa using hj) (by simpa using he)]

theorem plugGo_ok {S : AState} {es : List Nat} : ∀ (js : List Nat) (os T : List AObj), js.length ≤ os.length → nodupB js = true → (∀ j ∈ js, j < T.length) →
    (plugGo S es T js os).length = T.length ∧ (∀ (i j : Nat) (o : AObj), js[i]? = some j → os[i]? = some o → (plugGo S es T js os)[j]? = some (renO (emb es S.length) o)) ∧ ∀ (j : Nat), j ∉ js → (plugGo S es T js os)[j]? = T[j]?
  | [], os, T, _, _, _ => ⟨by cases os <;> rfl, fun i j o h => by simp at h, fun j _ => by cases os <;> rfl⟩
  | j :: js, [], T, h, _, _ => by simp at h
  | j :: js, o :: os, T, h, hn, hl => by
    simp only [nodupB, Bool.and_eq_true, Bool.not_eq_true'] at hn
    have hnj : j ∉ js := by
      have := hn.1
      rw [List.contains_eq_mem] at this
      simpa using this
    obtain ⟨h1, h2, h3⟩ := plugGo_ok js os (T.set j (renO (emb es S.length) o)) (by simpa using h) hn.2 (fun k hk => by simpa using hl k (by simp [hk]))
    refine ⟨by simpa [plugGo] using h1, fun i k o' hk ho => ?_, fun k hk => ?_⟩
    · match i with
      | 0 =>
        simp only [List.getElem?_cons_zero, Option.some.injEq] at hk ho
        subst hk; subst ho
        simp only [plugGo]
        rw [h3 j hnj, List.getElem?_set_self (hl j (by simp))]
      | i + 1 =>
        simp only [plugGo]
        exact h2 i k o' (by simpa using hk) (by simpa using ho)
    · simp only [List.mem_cons, not_or] at hk
      simp only [plugGo]
      rw [h3 k hk.2, List.getElem?_set_ne (Ne.symm hk.1)]

theorem UseOk.fok' {P : Program} {f : FuncId} {es : List Nat} {as : List AVal} {S : AState} {as0 : List AVal} {σ0 : AState} {r : AVal} {σ' : AState} (u : UseOk P f es as S as0 σ0 r σ') :
    FOk P f as S (ren (emb es S.length) r) (plug S es σ') := by
  obtain ⟨⟨hfn, hC⟩, hargs, hheap, hok⟩ := u
  unfold okEmb at hok
  simp only [Bool.and_eq_true, decide_eq_true_eq] at hok
  obtain ⟨⟨⟨⟨hnd, hlt⟩, hsa⟩, hsO⟩, hlen⟩ := hok
  have hm : es.length = σ0.length := by have := congrArg List.length hheap; simpa using this
  have hltj : ∀ j ∈ es, j < S.length := fun j hj => by have := List.all_eq_true.1 hlt j hj; simpa using this
  have hEget : ∀ i, i < es.length → es[i]? = some (emb es S.length i) := fun i hi => by
    unfold emb; rw [if_pos hi, List.getD_eq_getElem?_getD, List.getElem?_eq_getElem hi]; rfl
  have hElt : ∀ i, i < es.length → emb es S.length i < S.length := fun i hi => hltj _ (List.mem_of_getElem? (hEget i hi))
  have hEinj : ∀ i j, i < es.length → j < es.length → emb es S.length i = emb es S.length j → i = j := fun i j hi hj he => by
    unfold emb at he; rw [if_pos hi, if_pos hj] at he
    exact nodupB_inj hnd i j hi hj he
  have hEhi : ∀ i, es.length ≤ i → emb es S.length i = S.length + (i - es.length) := fun i hi => by unfold emb; rw [if_neg (by omega)]
  have hES : ∀ i o, σ0[i]? = some o → S[emb es S.length i]? = some (renO (emb es S.length) o) := fun i o ho => by
    have hi : i < es.length := by rw [hm]; exact (List.getElem?_eq_some_iff.1 ho).1
    have := congrArg (·[i]?) hheap
    simp only [List.getElem?_map, hEget i hi, ho, Option.map_some, Option.some.injEq] at this
    exact this
  generalize hE : emb es S.length = E at *
  -- the heap behind it
  obtain ⟨p1, p2, p3⟩ := plugGo_ok (S := S) (es := es) es σ' S (by omega) hnd hltj
  rw [hE] at p2
  have hSlen : (plug S es σ').length = S.length + (σ'.length - es.length) := by simp [plug, p1]
  have hS1 : ∀ i o, σ'[i]? = some o → (plug S es σ')[E i]? = some (renO E o) := fun i o ho => by
    unfold plug
    rcases Nat.lt_or_ge i es.length with hi | hi
    · rw [List.getElem?_append_left (by rw [p1]; exact hElt i hi)]
      exact p2 i _ o (hEget i hi) ho
    · rw [hEhi i hi, List.getElem?_append_right (by omega), p1, hE, List.getElem?_map, List.getElem?_drop]
      have : es.length + (S.length + (i - es.length) - S.length) = i := by omega
      rw [this, ho]; rfl
  have hS2 : ∀ j, j < S.length → (∀ i, i < es.length → E i ≠ j) → (plug S es σ')[j]? = S[j]? := fun j hj hno => by
    unfold plug
    rw [List.getElem?_append_left (by rw [p1]; exact hj)]
    refine p3 j fun hmem => ?_
    obtain ⟨i, hi, he⟩ := List.getElem_of_mem hmem
    have := hEget i hi
    rw [List.getElem?_eq_getElem hi] at this
    exact hno i hi (by simpa [he] using this.symm)
  refine ⟨hfn, fun F w ρ args R hp => ?_⟩
  -- the small heap
  let ρs : RMap := fun i => if i < es.length then ρ (E i) else none
  have ρs_some : ∀ {i b}, ρs i = some b → i < es.length ∧ ρ (E i) = some b := fun {i b} h => by
    dsimp only [ρs] at h; split at h
    · exact ⟨by assumption, h⟩
    · cases h
  have ρs_of : ∀ {i b}, i < es.length → ρ (E i) = some b → ρs i = some b := fun {i b} hi h => by dsimp only [ρs]; rw [if_pos hi]; exact h
  have hun : ∀ id b, id < σ0.length → ρ (E id) = some b → ρs id = some b := fun id b hi h => ρs_of (by omega) h
  have hOs : ∀ i o b, σ0[i]? = some o → Own F ρs i o b → i < es.length ∧ S[E i]? = some (renO E o) ∧ Own F ρ (E i) (renO E o) b := fun i o b h1 h2 => by
    have h4 : i < es.length := by
      rcases h2 with h3 | ⟨_, y, h3, _⟩ <;> exact (ρs_some h3).1
    refine ⟨h4, hES i o h1, ?_⟩
    rcases h2 with h3 | ⟨hg, y, h3, h5⟩
    · exact .inl (ρs_some h3).2
    · exact .inr ⟨by rw [renO_isGh]; exact hg, y, (ρs_some h3).2, h5⟩
  have hLive : ∀ b, Live F ρs σ0 b → ∃ i o, i < es.length ∧ S[E i]? = some o ∧ o.live = true ∧ Own F ρ (E i) o b := fun b ⟨i, o, h1, h2, h3⟩ => by
    obtain ⟨h4, h5, h6⟩ := hOs i o b h1 h3
    exact ⟨i, _, h4, h5, by rw [renO_live]; exact h2, h6⟩
  have hLive' : ∀ b, Live F ρs σ0 b → Live F ρ S b := fun b h => let ⟨i, o, _, h2, h3, h4⟩ := hLive b h; ⟨E i, o, h2, h3, h4⟩
  have rs : Rel ρs F σ0 w := by
    refine ⟨fun i o b h1 h2 => ?_, fun i i' o o' b h1 h2 h3 h4 h5 h6 => ?_, fun b hb => ⟨(R.fr b hb).1, fun hl => (R.fr b hb).2 (hLive' b hl)⟩, fun i b h => R.lt _ b (ρs_some h).2, fun i hi => ?_⟩
    · exact ORel.unren (k := σ0.length) (R.obj _ _ b (hES i o h1) (ρs_some h2).2) hun (List.all_eq_true.1 hsO o (List.mem_of_getElem? h1))
    · obtain ⟨g1, g2, g3⟩ := hOs i o b h1 h5
      obtain ⟨k1, k2, k3⟩ := hOs i' o' b h2 h6
      exact hEinj i i' g1 k1 (R.injO _ _ _ _ b g2 k2 (by rw [renO_live]; exact h3) (by rw [renO_live]; exact h4) g3 k3)
    · dsimp only [ρs]; rw [if_neg (by omega)]
  have ps : PW F w ρs as0 args.toList := by
    subst hargs
    refine ⟨by have := hp.2.1; rw [renL_length] at this; exact this, fun i x y h1 h2 => ?_⟩
    exact VRel.unren (hp.2.2 i (ren E x) y (by rw [renL_get, h1]; rfl) h2) hun x rfl (scopeL hsa i x h1)
  refine (hC F w ρs args rs ⟨hp.1, ps⟩).mono fun e w' ⟨ρs', F', he, t, r'⟩ => ?_
  let ρ2 : RMap := fun j => if j < S.length then ρ j else ρs' (es.length + (j - S.length))
  have hup : ∀ i b, ρs' i = some b → i < σ'.length := fun i b h => by
    rcases Nat.lt_or_ge i σ'.length with h' | h'
    · exact h'
    · rw [r'.dom _ h'] at h; cases h
  have hback : ∀ i b, i < es.length → ρs' i = some b → ρ (E i) = some b := fun i b hi h => by
    rcases t.newρ i b h with h1 | ⟨h1, _⟩
    · exact (ρs_some h1).2
    · omega
  have hE2 : ∀ i b, ρs' i = some b → ρ2 (E i) = some b := fun i b h => by
    dsimp only [ρ2]
    rcases Nat.lt_or_ge i es.length with hi | hi
    · rw [if_pos (hElt i hi)]; exact hback i b hi h
    · rw [hEhi i hi, if_neg (by omega)]
      have : es.length + (S.length + (i - es.length) - S.length) = i := by omega
      rw [this]; exact h
  have hmap : ∀ j b, ρ j = some b → ρ2 j = some b := fun j b h => by
    dsimp only [ρ2]
    rw [if_pos]
    · exact h
    · rcases Nat.lt_or_ge j S.length with h' | h'
      · exact h'
      · rw [R.dom _ h'] at h; cases h
  have hFr : ∀ x, F x → F' x ∧ w'.heap[x]? = w.heap[x]? := fun x hx => ⟨t.frz x hx, t.keep x (R.fr x hx).1 (fun hl => (R.fr x hx).2 (hLive' x hl))⟩
  have hnl : ∀ j o x, (∀ i, i < es.length → E i ≠ j) → S[j]? = some o → o.live = true → Own F ρ j o x → ¬ Live F ρs σ0 x := fun j o x h1 h2 h3 h4 hl => by
    obtain ⟨i, o2, k1, k2, k3, k4⟩ := hLive x hl
    exact h1 i k1 (R.injO _ _ _ _ x k2 h2 k3 h3 k4 h4)
  -- each place of the large heap: of the small one, or not
  have split : ∀ j o b, (plug S es σ')[j]? = some o → ρ2 j = some b → (∃ i os, j = E i ∧ ρs' i = some b ∧ σ'[i]? = some os ∧ o = renO E os) ∨ (j < S.length ∧ (∀ i, i < es.length → E i ≠ j) ∧ S[j]? = some o ∧ ρ j = some b) := by
    intro j o b h1 h2
    dsimp only [ρ2] at h2
    split at h2
    · rename_i hj
      by_cases hex : ∃ i, i < es.length ∧ E i = j
      · obtain ⟨i, hi, rfl⟩ := hex
        have hi' : i < σ'.length := by omega
        have ho : σ'[i]? = some σ'[i] := List.getElem?_eq_getElem hi'
        have := hS1 i _ ho
        rw [h1] at this; cases this
        exact .inl ⟨i, _, rfl, t.map i b (ρs_of hi h2), ho, rfl⟩
      · have hno : ∀ i, i < es.length → E i ≠ j := fun i hi he => hex ⟨i, hi, he⟩
        rw [hS2 j hj hno] at h1
        exact .inr ⟨hj, hno, h1, h2⟩
    · rename_i hj
      have hi' := hup _ b h2
      have ho : σ'[es.length + (j - S.length)]? = some σ'[es.length + (j - S.length)] := List.getElem?_eq_getElem hi'
      have hj' : E (es.length + (j - S.length)) = j := by rw [hEhi _ (by omega)]; omega
      have := hS1 _ _ ho
      rw [hj', h1] at this; cases this
      exact .inl ⟨_, _, hj'.symm, h2, ho, rfl⟩
  have splitO : ∀ j o x, (plug S es σ')[j]? = some o → o.live = true → Own F' ρ2 j o x → (∃ i os, j = E i ∧ σ'[i]? = some os ∧ os.live = true ∧ Own F' ρs' i os x) ∨ (j < S.length ∧ (∀ i, i < es.length → E i ≠ j) ∧ S[j]? = some o ∧ Own F ρ j o x) := by
    intro j o x h1 h2 h3
    obtain ⟨y, hy⟩ : ∃ y, ρ2 j = some y := by
      rcases h3 with h | ⟨_, y, h, _⟩ <;> exact ⟨_, h⟩
    rcases split j o y h1 hy with ⟨i, os, g1, g2, g3, rfl⟩ | ⟨g1, g2, g3, g4⟩
    · rw [renO_live] at h2
      refine .inl ⟨i, os, g1, g3, h2, ?_⟩
      rcases h3 with h | ⟨hg, z, h, hz⟩
      · rw [hy] at h; cases h; exact .inl g2
      · rw [hy] at h; cases h; exact .inr ⟨by rw [renO_isGh] at hg; exact hg, y, g2, hz⟩
    · refine .inr ⟨g1, g2, g3, ?_⟩
      rcases h3 with h | ⟨hg, z, h, hz⟩
      · rw [hy] at h; cases h; exact .inl g4
      · rw [hy] at h; cases h
        exact .inr ⟨hg, y, g4, (t.gho.keepO y (R.lt _ _ g4) (hnl j o y g2 g3 h2 (.inl g4)) x).1 hz⟩
  have hL' : ∀ x, Live F' ρs' σ' x → (∃ i o, i < es.length ∧ S[E i]? = some o ∧ o.live = true ∧ Own F ρ (E i) o x) ∨ w.heap.size ≤ x := fun x hx => (t.live' rs hx).imp_left (hLive x)
  have mixed : ∀ i os b j o, σ'[i]? = some os → os.live = true → Own F' ρs' i os b → (∀ i, i < es.length → E i ≠ j) → S[j]? = some o → o.live = true → Own F ρ j o b → False := by
    intro i os b j o h1 h2 h3 h4 h5 h6 h7
    rcases hL' b ⟨i, os, h1, h2, h3⟩ with ⟨i2, o2, k1, k2, k3, k4⟩ | h
    · exact h4 i2 k1 (R.injO _ _ _ _ b k2 h5 k3 h6 k4 h7)
    · exact absurd (R.ownB h5 h7) (Nat.not_lt.2 h)
  refine ⟨ρ2, F', he.mono (fun v hv => VRel.ren hv hE2) (fun t h => by rw [h]; rfl), ⟨hmap, t.frz, t.os, t.tape, t.output, t.size, t.row, fun b h1 h2 => t.keep b h1 (fun hl => h2 (hLive' b hl)), fun b hb => ?_, fun j b hj => ?_, by rw [hSlen]; omega, fun j o' h1 h2 h3 => ?_, ⟨fun b h1 h2 x => t.gho.keepO b h1 (fun hl => h2 (hLive' b hl)) x, fun j o' b x h1 h2 h3 h4 => ?_⟩⟩,
    ⟨fun j o b h1 h2 => ?_, fun j j' o o' b h1 h2 h3 h4 h5 h6 => ?_, fun b hb => ?_, fun j b h => ?_, fun j hj => ?_⟩⟩
  · rcases t.newF b hb with h | h | h
    · exact .inl h
    · exact .inr (.inl h)
    · exact .inr (.inr (hLive' b h))
  · dsimp only [ρ2] at hj
    split at hj
    · exact .inl hj
    · rename_i hge
      rcases t.newρ _ b hj with h | ⟨h, h'⟩
      · have := (ρs_some h).1; omega
      · refine .inr ⟨by omega, ?_⟩
        rcases h' with h' | h'
        · exact .inl h'
        · exact .inr (hLive' b h')
  · by_cases hex : ∃ i, i < es.length ∧ E i = j
    · obtain ⟨i, hi, rfl⟩ := hex
      have ho : σ'[i]? = some σ'[i] := List.getElem?_eq_getElem (by omega)
      have := hS1 i _ ho
      rw [h1] at this; cases this
      rw [renO_live] at h2
      obtain ⟨o0, g1, g2⟩ := t.live i _ ho h2 (by omega)
      exact ⟨_, hES i o0 g1, by rw [renO_live]; exact g2⟩
    · rw [hS2 j h3 (fun i hi he => hex ⟨i, hi, he⟩)] at h1
      exact ⟨o', h1, h2⟩
  · rcases splitO j o' x h1 (AObj.isGh_live h2) (.inr ⟨h2, b, h3, h4⟩) with ⟨i, os, rfl, g1, g2, g3⟩ | ⟨g1, g2, g3, g4⟩
    · rcases hL' x ⟨i, os, g1, g2, g3⟩ with ⟨i2, o2, k1, k2, k3, k4⟩ | h
      · exact .inl ⟨_, _, k2, k3, k4⟩
      · exact .inr h
    · exact .inl ⟨j, o', g3, AObj.isGh_live h2, g4⟩
  · rcases split j o b h1 h2 with ⟨i, os, rfl, g1, g2, rfl⟩ | ⟨g1, g2, g3, g4⟩
    · exact (r'.obj i os b g2 g1).ren hE2
    · cases hol : o.live with
      | false => cases o <;> simp [AObj.live] at hol; trivial
      | true => exact (R.obj j o b g3 g4).move (t.keep b (R.lt _ _ g4) (hnl j o b g2 g3 hol (.inl g4))) hFr t.row hmap fun hg => ⟨t.gho.keepO b (R.lt _ _ g4) (hnl j o b g2 g3 hol (.inl g4)), fun x hx => t.keep x (R.ownLt g3 hg g4 x hx) (hnl j o x g2 g3 hol (.inr ⟨hg, b, g4, hx⟩)), t.size⟩
  · rcases splitO j o b h1 h3 h5 with ⟨i, os, rfl, g1, g2, g3⟩ | ⟨g1, g2, g3, g4⟩ <;> rcases splitO j' o' b h2 h4 h6 with ⟨i', os', rfl, k1, k2, k3⟩ | ⟨k1, k2, k3, k4⟩
    · rw [r'.injO i i' os os' b g1 k1 g2 k2 g3 k3]
    · exact (mixed i os b j' o' g1 g2 g3 k2 k3 h4 k4).elim
    · exact (mixed i' os' b j o k1 k2 k3 g2 g3 h3 g4).elim
    · exact R.injO j j' o o' b g3 k3 h3 h4 g4 k4
  · refine ⟨(r'.fr b hb).1, fun ⟨j, o, h1, h2, h3⟩ => ?_⟩
    rcases splitO j o b h1 h2 h3 with ⟨i, os, rfl, g1, g2, g3⟩ | ⟨g1, g2, g3, g4⟩
    · exact (r'.fr b hb).2 ⟨i, os, g1, g2, g3⟩
    · rcases t.newF b hb with h | h | h
      · exact (R.fr b h).2 ⟨j, o, g3, h2, g4⟩
      · exact absurd (R.ownB g3 g4) (Nat.not_lt.2 h)
      · exact hnl j o b g2 g3 h2 g4 h
  · dsimp only [ρ2] at h
    split at h
    · exact Nat.lt_of_lt_of_le (R.lt j b h) t.size
    · exact r'.lt _ b h
  · dsimp only [ρ2]
    rw [hSlen] at hj
    rw [if_neg (by omega)]
    exact r'.dom _ (by omega)

end Go.Abs
end

section
set_option linter.unusedVariables false
set_option linter.unusedSectionVars false
set_option linter.unusedSimpArgs false
namespace Go.Abs
variable [Glob]

def AExit.real : AExit → Exit
  | .normal => .normal
  | .exit id => .exit id
  | .ret => .ret
  | .pan t => .panic (panChain t)

def Trip (P : Program) (c : Code) (rg : Regs) (σ : AState) (e : AExit) (rg' : Regs) (σ' : AState) : Prop :=
  ∀ (F : FS) (w : World) (ρ : RMap) (a : Act) (Q : Exit → Act → World → Prop), Rel ρ F σ w → ARel F w ρ rg a →
    (∀ ρ' F' w' a', Tr σ σ' ρ ρ' F F' w w' → Rel ρ' F' σ' w' → ARel F' w' ρ' rg' a' → Q e.real a' w') → c.wp P Q a w

structure TrN (n : Nat) (σ σ' : AState) (ρ ρ' : RMap) (F F' : FS) (w w' : World) : Prop where
  map : ∀ id b, id < n → ρ id = some b → ρ' id = some b
  frz : ∀ b, F b → F' b
  os : w'.os = w.os
  tape : w'.tape = w.tape
  output : w'.output = w.output
  size : w.heap.size ≤ w'.heap.size
  row : ∀ (b : Nat) (cs : Array Value) (T : TypeId) (fr : Nat × Nat), w.heap[b]? = some (.cells cs T fr) → ∃ cs' fr', w'.heap[b]? = some (.cells cs' T fr') ∧ cs'.size = cs.size
  keep : ∀ b, b < w.heap.size → ¬ Live F ρ σ b → w'.heap[b]? = w.heap[b]?
  newF : ∀ b, F' b → F b ∨ w.heap.size ≤ b ∨ Live F ρ σ b
  back : ∀ id b, id < n → ρ' id = some b → ρ id = some b
  newρ : ∀ id o' b, n ≤ id → σ'[id]? = some o' → o'.live = true → ρ' id = some b → w.heap.size ≤ b ∨ Live F ρ σ b
  len : n ≤ σ'.length
  live : ∀ id o', σ'[id]? = some o' → o'.live = true → id < n → ∃ o, σ[id]? = some o ∧ o.live = true
  gho : GTr σ σ' ρ ρ' F F' w

theorem Tr.toN {n : Nat} {σ σ' : AState} {ρ ρ' : RMap} {F F' : FS} {w w' : World} (t : Tr σ σ' ρ ρ' F F' w w') (r : Rel ρ F σ w) (hn : n ≤ σ.length) : TrN n σ σ' ρ ρ' F F' w w' := by
  refine ⟨fun id b _ => t.map id b, t.frz, t.os, t.tape, t.output, t.size, t.row, t.keep, t.newF, fun id b h1 h2 => ?_, fun id o' b h1 h2 h3 h4 => ?_, Nat.le_trans hn t.len, fun id o' h1 h2 h3 => t.live id o' h1 h2 (by omega), t.gho⟩
  · rcases t.newρ id b h2 with h | ⟨h, _⟩
    · exact h
    · omega
  · rcases t.newρ id b h4 with h | ⟨_, h⟩
    · rcases Nat.lt_or_ge id σ.length with hl | hl
      · obtain ⟨o, g1, g2⟩ := t.live id o' h2 h3 hl
        exact .inr ⟨id, o, g1, g2, .inl h⟩
      · rw [r.dom id hl] at h; cases h
    · exact h

theorem TrN.live' {n : Nat} {σ σ' : AState} {ρ ρ' : RMap} {F F' : FS} {w w' : World} (t : TrN n σ σ' ρ ρ' F F' w w') {b : Nat} (h : Live F' ρ' σ' b) : Live F ρ σ b ∨ w.heap.size ≤ b := by
  obtain ⟨id, o, h1, h2, h3⟩ := h
  rcases h3 with h3 | ⟨hg, y, h3, h3'⟩
  case inr => exact t.gho.newO _ _ _ _ h1 hg h3 h3'
  rcases Nat.lt_or_ge id n with hn | hn
  · obtain ⟨o', h6, h7⟩ := t.live _ _ h1 h2 hn
    exact .inl ⟨id, o', h6, h7, .inl (t.back _ _ hn h3)⟩
  · exact (t.newρ id o b hn h1 h2 h3).symm

theorem TrN.trans {n : Nat} {σ σ1 σ2 : AState} {ρ ρ1 ρ2 : RMap} {F F1 F2 : FS} {w w1 w2 : World} (a : TrN n σ σ1 ρ ρ1 F F1 w w1) (b : TrN n σ1 σ2 ρ1 ρ2 F1 F2 w1 w2) :
    TrN n σ σ2 ρ ρ2 F F2 w w2 := by
  refine ⟨fun id x hn h => b.map _ _ hn (a.map _ _ hn h), fun x h => b.frz _ (a.frz _ h), b.os.trans a.os, b.tape.trans a.tape, b.output.trans a.output, Nat.le_trans a.size b.size, ?_, ?_, ?_, fun id x hn h => a.back _ _ hn (b.back _ _ hn h), ?_, b.len, ?_, ?_, ?_⟩
  · intro x cs T fr h
    obtain ⟨cs1, fr1, h1, h2⟩ := a.row _ _ _ _ h
    obtain ⟨cs2, fr2, h3, h4⟩ := b.row _ _ _ _ h1
    exact ⟨cs2, fr2, h3, h4.trans h2⟩
  · intro x hx hn
    rw [b.keep x (Nat.lt_of_lt_of_le hx a.size) (fun hl => (a.live' hl).elim hn (fun h => absurd hx (Nat.not_lt.2 h))), a.keep x hx hn]
  · intro x hx
    rcases b.newF x hx with h | h | h
    · exact a.newF x h
    · exact .inr (.inl (Nat.le_trans a.size h))
    · exact (a.live' h).elim (fun h => .inr (.inr h)) (fun h => .inr (.inl h))
  · intro id o' x h1 h2 h3 h4
    rcases b.newρ id o' x h1 h2 h3 h4 with h | h
    · exact .inl (Nat.le_trans a.size h)
    · exact (a.live' h).elim .inr .inl
  · intro id o' h1 h2 h3
    obtain ⟨o, h4, h5⟩ := b.live id o' h1 h2 h3
    exact a.live id o h4 h5 h3
  · intro x h1 h2 y
    rw [b.gho.keepO x (Nat.lt_of_lt_of_le h1 a.size) (fun hl => (a.live' hl).elim h2 (fun h => absurd h1 (Nat.not_lt.2 h))) y, a.gho.keepO x h1 h2 y]
  · intro id o' y x h1 h2 h3 h4
    rcases b.gho.newO id o' y x h1 h2 h3 h4 with h | h
    · exact a.live' h
    · exact .inr (Nat.le_trans a.size h)

def TripN (P : Program) (n : Nat) (c : Code) (rg : Regs) (σ : AState) (e : AExit) (rg' : Regs) (σ' : AState) : Prop :=
  n ≤ σ.length → ∀ (F : FS) (w : World) (ρ : RMap) (a : Act) (Q : Exit → Act → World → Prop), Rel ρ F σ w → ARel F w ρ rg a →
    (∀ ρ' F' w' a', TrN n σ σ' ρ ρ' F F' w w' → Rel ρ' F' σ' w' → ARel F' w' ρ' rg' a' → Q e.real a' w') → c.wp P Q a w

def owed (P : Program) (n : Nat) : Owed := ⟨FOk P, UseOk P, fun c rg σ e rg' σ' => TripN P n (.loop c) rg σ e rg' σ', n⟩

def Imp (v v' : AVal) : Prop := ∀ (F : FS) (w : World) (ρ : RMap) (c : Value), VRel F w ρ v c → VRel F w ρ v' c
def RImp (rg rg' : Regs) : Prop := rg.length = rg'.length ∧ ∀ t, Imp (rg.getD t .any) (rg'.getD t .any)

theorem Imp.refl (v : AVal) : Imp v v := fun _ _ _ _ h => h
theorem RImp.refl (rg : Regs) : RImp rg rg := ⟨rfl, fun _ => Imp.refl _⟩
theorem RImp.trans {a b c : Regs} (h : RImp a b) (h' : RImp b c) : RImp a c := ⟨h.1.trans h'.1, fun t F w ρ x hx => h'.2 t _ _ _ _ (h.2 t _ _ _ _ hx)⟩
theorem rput_length (rg : Regs) (d : Option Tmp) (v : AVal) : (rput rg d v).length = rg.length := by cases d <;> simp [rput]
theorem rput_getD (rg : Regs) (d t : Tmp) (v : AVal) : (rput rg (some d) v).getD t .any = if d = t ∧ d < rg.length then v else rg.getD t .any := by
  simp only [rput, List.getD_eq_getElem?_getD, List.getElem?_set]
  split
  · rename_i e
    subst e
    split
    · rename_i h; simp [h]
    · rename_i h; simp [h, List.getElem?_eq_none (Nat.not_lt.1 h)]
  · rename_i e; simp [e]
theorem RImp.put {rg rg' : Regs} (h : RImp rg rg') (d : Option Tmp) (v : AVal) : RImp (rput rg d v) (rput rg' d v) := by
  cases d with
  | none => exact h
  | some d =>
    refine ⟨by rw [rput_length, rput_length]; exact h.1, fun t => ?_⟩
    rw [rput_getD, rput_getD, h.1]
    split
    · exact Imp.refl _
    · exact h.2 t
theorem RImp.set {rg : Regs} {x : Tmp} {v : AVal} (h : Imp (rg.getD x .any) v) : RImp rg (rput rg (some x) v) := by
  refine ⟨(rput_length _ _ _).symm, fun t => ?_⟩
  rw [rput_getD]
  split
  · rename_i e; rw [← e.1]; exact h
  · exact Imp.refl _

theorem ARel.imp {F : FS} {w : World} {ρ : RMap} {rg rg' : Regs} {a : Act} (h : ARel F w ρ rg a) (hi : RImp rg rg') : ARel F w ρ rg' a := by
  refine ⟨hi.1.symm.trans h.size, fun i v u h1 h2 => ?_, h.defers, h.glob⟩
  have hlt : i < rg.length := by rw [hi.1]; exact (List.getElem?_eq_some_iff.1 h1).1
  have := hi.2 i F w ρ u
  rw [List.getD_eq_getElem?_getD, List.getD_eq_getElem?_getD, h1, List.getElem?_eq_getElem hlt] at this
  exact this (h.val i _ u (List.getElem?_eq_getElem hlt) h2)

def LookOk (F : FS) (w : World) (ρ : RMap) (rg : Regs) (a : Act) (L : List Tmp) : Prop := GOk F w ∧ ∀ t ∈ L, VRel F w ρ (rg.getD t .any) (a.tmps.getD t undef)

theorem ARel.look {F : FS} {w : World} {ρ : RMap} {rg : Regs} {a : Act} (h : ARel F w ρ rg a) (L : List Tmp) : LookOk F w ρ rg a L := ⟨h.glob, fun t _ => by
  have := aev_ok h (.tmp t)
  simpa [aev, Act.eval] using this⟩

def OpS (P : Program) (ops : Array Oper) (o : Oper) (rg : Regs) (σ : AState) (v : AVal) (σ' : AState) : Prop :=
  ∀ (F : FS) (w : World) (ρ : RMap) (a : Act), Rel ρ F σ w → LookOk F w ρ rg a (o.looksAt ops) → ∀ (K : Act → World → Prop) (Q : Exit → Act → World → Prop),
    (∀ F' w' ρ' cv, Tr σ σ' ρ ρ' F F' w w' → Rel ρ' F' σ' w' → VRel F' w' ρ' v cv → K (a.put o.dst cv) w') →
    (∀ F' w' ρ' t, v = .pan t → Tr σ σ' ρ ρ' F F' w w' → Rel ρ' F' σ' w' → Q (.panic (panChain t)) a w') →
    if Region.wanted o (yielded ops a.tmps) = true then o.wp P a w K Q else K (a.put o.dst undef) w

theorem LookOk.imp {F : FS} {w : World} {ρ : RMap} {rg rg' : Regs} {a : Act} {L : List Tmp} (h : LookOk F w ρ rg a L) (hi : RImp rg rg') : LookOk F w ρ rg' a L :=
  ⟨h.1, fun t ht => hi.2 t _ _ _ _ (h.2 t ht)⟩

def mask (L : List Tmp) (rg : Regs) : Regs := rg.mapIdx fun t v => if L.contains t then v else .any
theorem mask_getD {L : List Tmp} {rg : Regs} {t : Tmp} (h : t ∈ L) : (mask L rg).getD t .any = rg.getD t .any := by
  have hc : L.contains t = true := by simpa using h
  rw [List.getD_eq_getElem?_getD, List.getD_eq_getElem?_getD, mask, List.getElem?_mapIdx]
  cases hr : rg[t]? with
  | none => rfl
  | some v => simp [h]

end Go.Abs
end

section
set_option linter.unusedVariables false
set_option linter.unusedSectionVars false
set_option linter.unusedSimpArgs false
namespace Go.Abs
variable [Glob]

section
variable {N : Nat} {P : Program} {F : FS} {w : World} {ρ : RMap} {σ : AState}

theorem Res.then_ok {α β : Type} {r : Res α} {f : α → Res β} {y : β} (h : r.then f = .ok y) : ∃ x, r = .ok x ∧ f x = .ok y := by
  cases r with
  | ok a => exact ⟨a, rfl, h⟩
  | no n => cases h

def REq (a b : Regs) : Prop := RImp a b ∧ RImp b a
theorem REq.refl (a : Regs) : REq a a := ⟨RImp.refl _, RImp.refl _⟩
theorem REq.trans {a b c : Regs} (h : REq a b) (h' : REq b c) : REq a c := ⟨h.1.trans h'.1, h'.2.trans h.2⟩
theorem RImp.unset {rg : Regs} {x : Tmp} {v : AVal} (h : Imp v (rg.getD x .any)) : RImp (rput rg (some x) v) rg := by
  refine ⟨rput_length _ _ _, fun t => ?_⟩
  rw [rput_getD]
  split
  · rename_i e; rw [← e.1]; exact h
  · exact Imp.refl _

theorem ask_ok {v : AVal} {x : Option Tmp} {st st' : St} {b : Bool} (h : ask v x st = .ok (b, st')) (hx : ∀ t, x = some t → st.rg.getD t .any = v) (hcs : allP st'.cs) :
    REq st.rg st'.rg ∧ st'.σ = st.σ ∧ Imp v (.tt b) ∧ ∃ new, st'.cs = new ++ st.cs := by
  unfold ask at h
  split at h
  · cases h; exact ⟨REq.refl _, rfl, Imp.refl _, [], rfl⟩
  · rename_i b0
    split at h
    · rename_i d s hs
      cases h
      have hd : b0 = b := hcs.cons.1
      subst hd
      have hi : Imp (.bool b0) (.tt b0) := fun F w ρ c hc => by obtain rfl := hc.bool_inv; exact .tt _ _
      refine ⟨?_, rfl, hi, [_], rfl⟩
      cases x with
      | none => exact REq.refl _
      | some t => exact ⟨RImp.set (by rw [hx t rfl]; exact hi), RImp.unset (by rw [hx t rfl]; exact fun F w ρ c hc => by obtain rfl := hc.tt_inv; exact .bool _ _)⟩
    · cases h
  · cases h

theorem looks_op {ops : Array Oper} {o : Oper} {t : Tmp} (h : Operand.tmp t ∈ o.op.operands) : t ∈ o.looksAt ops :=
  List.mem_append_left _ (List.mem_filterMap.2 ⟨.tmp t, by simpa using h, rfl⟩)

theorem ev_mask {rg : Regs} {a : Act} {L : List Tmp} (h : LookOk F w ρ rg a L) (x : Operand) : VRel F w ρ (aev (mask L rg) x) (a.eval x) := by
  cases x with
  | tmp t =>
    simp only [aev, Act.eval]
    by_cases ht : t ∈ L
    · rw [mask_getD ht]; exact h.2 t ht
    · have : (mask L rg).getD t .any = .any := by
        rw [List.getD_eq_getElem?_getD, mask, List.getElem?_mapIdx]
        cases rg[t]? <;> simp [ht]
      rw [this]; exact .any _ _
  | const v => exact abs0_ok _ _ _ _
  | global g =>
    simp only [aev, Act.eval]
    cases hg : Glob.val g with
    | none => exact .any _ _
    | some v => exact (h.1 g v hg).pure
  | func f => exact .func _ _ _ _ rfl fun i v u h _ => by simp at h

theorem aev_mask {rg : Regs} {L : List Tmp} {x : Operand} (h : ∀ t, x = .tmp t → t ∈ L) : aev (mask L rg) x = aev rg x := by
  cases x with
  | tmp t => simp only [aev]; exact mask_getD (h t rfl)
  | _ => rfl

theorem aev_looks {rg : Regs} {ops : Array Oper} {o : Oper} (x : Operand) (hx : x ∈ o.op.operands) : aev rg x = aev (mask (o.looksAt ops) rg) x :=
  (aev_mask fun t e => looks_op (by rw [← e]; exact hx)).symm

theorem ev_look {rg : Regs} {a : Act} {ops : Array Oper} {o : Oper} (h : LookOk F w ρ rg a (o.looksAt ops)) (x : Operand) (hx : x ∈ o.op.operands) : VRel F w ρ (aev rg x) (a.eval x) := by
  rw [aev_looks (ops := ops) x hx]; exact ev_mask h x

theorem Step1.wp {o : Oper} {a : Act} {out : Out} (h : Step1 P F w ρ σ out (execOp a.eval o)) {K : Act → World → Prop} {Q : Exit → Act → World → Prop}
    (hK : ∀ F' w' ρ' cv, Tr σ out.σ ρ ρ' F F' w w' → Rel ρ' F' out.σ w' → VRel F' w' ρ' out.v cv → K (a.put o.dst cv) w') : o.wp P a w K Q := by
  obtain ⟨ρ', F', w', cv, n, h1, h2, h3, h4, h5⟩ := h
  unfold Oper.wp
  rw [h1]
  rcases h2 with rfl | ⟨rfl, rfl⟩
  · rw [Oper.upon_value]; exact hK _ _ _ _ h3 h4 h5
  · rw [Oper.upon_skip]; exact hK _ _ _ _ h3 h4 h5

theorem plug_obj {S σ' : AState} {es : List Nat} (hnd : nodupB es = true) (hlt : ∀ j ∈ es, j < S.length) (hl : es.length ≤ σ'.length) :
    (plug S es σ').length = S.length + (σ'.length - es.length) ∧ (∀ i j, es[i]? = some j → obj (plug S es σ') j = renO (emb es S.length) (obj σ' i)) ∧
      (∀ k, obj (plug S es σ') (S.length + k) = renO (emb es S.length) (obj σ' (es.length + k))) ∧ ∀ j, j < S.length → j ∉ es → obj (plug S es σ') j = obj S j := by
  obtain ⟨p1, p2, p3⟩ := plugGo_ok (S := S) (es := es) es σ' S hl hnd hlt
  refine ⟨by simp [plug, p1], fun i j hj => ?_, fun k => ?_, fun j hj hn => ?_⟩
  · have hi : i < σ'.length := Nat.lt_of_lt_of_le (List.getElem?_eq_some_iff.1 hj).1 hl
    have hjS := hlt j (List.mem_of_getElem? hj)
    refine obj_of ?_
    unfold plug
    rw [List.getElem?_append_left (by rw [p1]; exact hjS)]
    exact p2 i j _ hj (obj_get hi)
  · by_cases hk : es.length + k < σ'.length
    · refine obj_of ?_
      unfold plug
      rw [List.getElem?_append_right (by omega), p1, List.getElem?_map, List.getElem?_drop]
      rw [show es.length + (S.length + k - S.length) = es.length + k by omega, obj_get hk]; rfl
    · rw [obj_none (by simp [plug, p1]; omega), obj_none (Nat.not_lt.1 hk)]; rfl
  · refine obj_of ?_
    unfold plug
    rw [List.getElem?_append_left (by rw [p1]; exact hj), p3 j hn, obj_get hj]

theorem UseOk.at {f : FuncId} {es : List Nat} {as as0 : List AVal} {S S2 σ0 σ' : AState} {r : AVal} (u : UseOk P f es as S as0 σ0 r σ') (hs : Same es S S2) :
    UseOk P f es as S2 as0 σ0 r σ' ∧ Moved es es S (plug S es σ') S2 (plug S2 es σ') := by
  obtain ⟨h1, h2, h3, h4⟩ := u
  have h4' := h4
  unfold okEmb at h4'
  simp only [Bool.and_eq_true, decide_eq_true_eq] at h4'
  obtain ⟨⟨⟨⟨hnd, hlt⟩, _⟩, _⟩, hlen⟩ := h4'
  have hm : es.length = σ0.length := by have := congrArg List.length h3; simpa using this
  have hltS : ∀ j ∈ es, j < S.length := fun j hj => by have := List.all_eq_true.1 hlt j hj; simpa using this
  have hltS2 : ∀ j ∈ es, j < S2.length := fun j hj => by rw [hs.1]; exact hltS j hj
  have hget : es.map (fun j => S2[j]?) = es.map (fun j => S[j]?) := List.map_congr_left fun j hj => by rw [obj_get (hltS2 j hj), obj_get (hltS j hj), hs.2 j hj]
  refine ⟨⟨h1, by rw [hs.1]; exact h2, by rw [hs.1, hget]; exact h3, by rw [hs.1]; exact h4⟩, ?_⟩
  obtain ⟨a1, a2, a3, a4⟩ := plug_obj (S := S) hnd hltS (by omega : es.length ≤ σ'.length)
  obtain ⟨b1, b2, b3, b4⟩ := plug_obj (S := S2) hnd hltS2 (by omega : es.length ≤ σ'.length)
  refine ⟨by rw [a1, b1, hs.1], fun id hi => ?_, fun id hi => ?_, fun id hi hw => ?_⟩
  · obtain ⟨i, hlt, rfl⟩ := List.getElem_of_mem hi
    have := List.getElem?_eq_getElem hlt
    rw [a2 i _ this, b2 i _ this, hs.1]
  · obtain ⟨k, rfl⟩ := Nat.exists_eq_add_of_le hi
    rw [a3 k]
    have := b3 k
    rw [hs.1] at this
    exact this
  · exact ⟨b4 id (by rw [hs.1]; exact hi) hw, a4 id hi hw⟩

def OpW (P : Program) (ops : Array Oper) (o : Oper) (rg : Regs) (σ : AState) (v : AVal) (σ' : AState) : Prop :=
  ∀ (F : FS) (w : World) (ρ : RMap) (a : Act), Rel ρ F σ w → LookOk F w ρ rg a (o.looksAt ops) → ∀ (K : Act → World → Prop) (Q : Exit → Act → World → Prop),
    (∀ F' w' ρ' cv, Tr σ σ' ρ ρ' F F' w w' → Rel ρ' F' σ' w' → VRel F' w' ρ' v cv → K (a.put o.dst cv) w') →
    (∀ F' w' ρ' t, v = .pan t → Tr σ σ' ρ ρ' F F' w w' → Rel ρ' F' σ' w' → Q (.panic (panChain t)) a w') → o.wp P a w K Q

theorem aop_W {ops : Array Oper} {o : Oper} {rg : Regs} {out : Out} (h : aop P o.op o.type rg σ = some out) (hcs : allP out.cs) : OpW P ops o rg σ out.v out.σ := by
  intro F w ρ a r hl K Q hK hP
  rw [aop_congr (fun x hx => aev_looks (ops := ops) x hx)] at h
  exact (aop_ok r (ev_mask hl) h hcs).wp hK

theorem execOp_call_value (ρ : Operand → Value) {o : Oper} {f : Operand} {xs : Array Operand} {ts : Array TypeId} (ho : o.op = .call ⟨.value f, xs, ts⟩) {g : FuncId} {cv : Array Value} (hf : ρ f = .func (.func g) #[] cv) :
    execOp ρ o = callFunc g ((#[] ++ xs.map ρ) ++ cv) := by
  obtain ⟨dst, op, ty, pos, af, gd⟩ := o
  dsimp only at ho
  subst ho
  simp only [execOp, resolve, hf, Deferred.ofValue]
  rfl

theorem call_W {ops : Array Oper} {o : Oper} {rg : Regs} {f : FuncId} {as : List AVal} {r : AVal} {σ' : AState} (h : acallee o.op rg = some (f, as)) (hF : FOk P f as σ r σ') : OpW P ops o rg σ r σ' := by
  intro F w ρ a rr hl K Q hK hP
  have hev := ev_look hl
  unfold acallee at h
  split at h
  · rename_i fo xs ts ho
    split at h
    · rename_i g cap hg
      cases h
      have hf := hev fo (by rw [ho]; simp [Op.operands, Call.operands])
      rw [hg] at hf
      obtain ⟨cv, hfe, hp⟩ := hf.func_inv
      obtain ⟨⟨fn, c, h1, h2, h3⟩, hC⟩ := hF
      have hname : fn.name ≠ "runtime.NumGoroutine" := by simpa using h2
      have hrun : (execOp a.eval o).run P w = .ok (.enter f ((#[] ++ xs.map a.eval) ++ cv)) w := by
        rw [execOp_call_value a.eval ho hfe]
        simp [callFunc, h1, hname, h3]
      unfold Oper.wp
      rw [hrun, Oper.upon_enter]
      refine (hC F w ρ _ rr ⟨hl.1, ?_⟩).mono fun e w' he => ?_
      · refine ⟨by simp [hp.1], fun i x y e1 e2 => ?_⟩
        simp only [Array.toList_append, List.append_assoc, Array.toList_map, List.nil_append] at e2
        rw [List.getElem?_append] at e1 e2
        simp only [List.length_map, Array.length_toList] at e1 e2
        split at e1
        · rename_i hlt
          rw [if_pos hlt] at e2
          simp only [List.getElem?_map, Option.map_eq_some_iff] at e1 e2
          obtain ⟨u, hu, rfl⟩ := e1
          obtain ⟨u', hu', rfl⟩ := e2
          rw [hu] at hu'; cases hu'
          exact hev u (by rw [ho]; have : u ∈ xs := by have := List.mem_of_getElem? hu; simpa using this
                          simp [Op.operands, Call.operands, this])
        · rename_i hlt
          rw [if_neg hlt] at e2
          exact hp.2 _ _ _ e1 e2
      · obtain ⟨ρ', F', he, h4, h5⟩ := he
        rcases he with ⟨v, rfl, h6⟩ | ⟨t, rfl, rfl⟩
        · exact hK _ _ _ _ h4 h5 h6
        · exact hP _ _ _ t rfl h4 h5
    · cases h
  · cases h

theorem callee_args {ops : Array Oper} {o : Oper} {rg : Regs} {f : FuncId} {as : List AVal} {a : Act} (h : acallee o.op rg = some (f, as)) (hl : LookOk F w ρ rg a (o.looksAt ops)) :
    ∃ args, execOp a.eval o = callFunc f args ∧ PW F w ρ as args.toList := by
  have hev := ev_look hl
  unfold acallee at h
  split at h
  · rename_i fo xs ts ho
    split at h
    · rename_i g cap hg
      cases h
      have hf := hev fo (by rw [ho]; simp [Op.operands, Call.operands])
      rw [hg] at hf
      obtain ⟨cv, hfe, hp⟩ := hf.func_inv
      refine ⟨_, execOp_call_value a.eval ho hfe, by simp [hp.1], fun i x y e1 e2 => ?_⟩
      simp only [Array.toList_append, List.append_assoc, Array.toList_map, List.nil_append] at e2
      rw [List.getElem?_append] at e1 e2
      simp only [List.length_map, Array.length_toList] at e1 e2
      split at e1
      · rename_i hlt
        rw [if_pos hlt] at e2
        simp only [List.getElem?_map, Option.map_eq_some_iff] at e1 e2
        obtain ⟨u, hu, rfl⟩ := e1
        obtain ⟨u', hu', rfl⟩ := e2
        rw [hu] at hu'; cases hu'
        exact hev u (by rw [ho]; have : u ∈ xs := by have := List.mem_of_getElem? hu; simpa using this
                        simp [Op.operands, Call.operands, this])
      · rename_i hlt
        rw [if_neg hlt] at e2
        exact hp.2 _ _ _ e1 e2
    · cases h
  · cases h
theorem extern_W {ops : Array Oper} {o : Oper} {rg : Regs} {f : FuncId} {as : List AVal} {out : Out} (h : acallee o.op rg = some (f, as)) (hr : aextern P f as σ = some out) (hcs : allP out.cs) : OpW P ops o rg σ out.v out.σ := by
  intro F w ρ a rr hl K Q hK hP
  obtain ⟨args, he, hp⟩ := callee_args h hl
  obtain ⟨ρ', F', w', cv, h1, h2, h3, h4⟩ := aextern_ok rr hp hr hcs
  unfold Oper.wp
  rw [he, h1, Oper.upon_value]
  exact hK _ _ _ _ h2 h3 h4

theorem pick_W {ops : Array Oper} {o : Oper} {rg : Regs} {c x y : Operand} {b : Bool} (ho : o.op = .pick c x y) (hb : Imp (aev rg c) (.tt b)) (σ : AState) : OpW P ops o rg σ (aev rg (if b then x else y)) σ := by
  intro F w ρ a r hl K Q hK hP
  have hev := ev_look hl
  have hc := hb _ _ _ _ (hev c (by rw [ho]; simp [Op.operands]))
  have hce := hc.tt_inv
  have hv : VRel F w ρ (aev rg (if b then x else y)) (a.eval (if b then x else y)) := hev _ (by rw [ho]; cases b <;> simp [Op.operands])
  unfold Oper.wp
  have hrun : (execOp a.eval o).run P w = .ok (.value (a.eval (if b then x else y))) w := by
    simp only [execOp, ho, hce]
    cases b <;> simp [asBool]
  rw [hrun, Oper.upon_value]
  exact hK _ _ _ _ (Tr.refl _ _ _ _) r hv

theorem panic_W {ops : Array Oper} {o : Oper} {rg : Regs} {x : Operand} {t : TypeId} (ho : o.op = .panic x) (hv : aev rg x = .iface t (.agg [])) (σ : AState) : OpW P ops o rg σ (.pan t) σ := by
  intro F w ρ a r hl K Q hK hP
  have h := ev_look hl x (by rw [ho]; simp [Op.operands])
  rw [hv] at h
  obtain ⟨u, hx, hu⟩ := h.iface_inv
  obtain ⟨cs, rfl, hp⟩ := PW.of_agg hu
  have hc : cs = #[] := Array.eq_empty_of_size_eq_zero (by have := hp.1; simpa using this.symm)
  subst hc
  unfold Oper.wp
  have hrun : (execOp a.eval o).run P w = .halt (.panic (.iface t (.agg #[]))) w := by
    simp only [execOp, ho, hx]
    rfl
  rw [hrun, Oper.upon_panic]
  exact hP _ _ _ t rfl (Tr.refl _ _ _ _) r

theorem FOk.argsN {f : FuncId} {as : List AVal} {σ σ' : AState} {r : AVal} (ts : List TypeId) (h : FOk P f (normTs P ts as) σ r σ') : FOk P f as σ r σ' :=
  ⟨h.1, fun F w ρ args rr hp => h.2 F w ρ args rr ⟨hp.1, normTs_ok ts _ _ hp.2⟩⟩

abbrev LocW (P : Program) (ops : Array Oper) (o : Oper) (rg : Regs) (T W : List Nat) (σ : AState) (v : AVal) (σ' : AState) : Prop :=
  (∀ id ∈ W, id ∈ T) ∧ ∀ σ2, Same T σ σ2 → ∃ σ2', OpW P ops o rg σ2 v σ2' ∧ Moved T W σ σ' σ2 σ2'
abbrev LocS (P : Program) (ops : Array Oper) (o : Oper) (rg : Regs) (T W : List Nat) (σ : AState) (v : AVal) (σ' : AState) : Prop :=
  (∀ id ∈ W, id ∈ T) ∧ ∀ σ2, Same T σ σ2 → ∃ σ2', OpS P ops o rg σ2 v σ2' ∧ Moved T W σ σ' σ2 σ2'

theorem touch_sub (op : Op) (rg : Regs) (σ : AState) : ∀ id ∈ (touch op rg σ).2, id ∈ (touch op rg σ).1 := by
  intro id h
  cases op <;> simp only [touch] at h ⊢ <;> try exact h
  all_goals first
    | (simp at h; done)
    | exact List.mem_append_left _ h
    | (unfold touchB at h ⊢
       split at h
       · exact List.mem_append_left _ h
       · simp at h
       · simp at h)

theorem same_eq {σ σ2 : AState} (h : Same (List.range σ.length) σ σ2) : σ2 = σ := by
  refine List.ext_getElem? fun i => ?_
  rcases Nat.lt_or_ge i σ.length with hi | hi
  · rw [obj_get hi, obj_get (by rw [h.1]; exact hi), h.2 i (List.mem_range.2 hi)]
  · rw [List.getElem?_eq_none hi, List.getElem?_eq_none (by rw [h.1]; exact hi)]
theorem Moved.id (T : List Nat) (σ σ' : AState) (hT : ∀ id, id < σ.length → id ∈ T) : Moved T T σ σ' σ σ' :=
  ⟨rfl, fun _ _ => rfl, fun _ _ => rfl, fun id h1 h2 => absurd (hT id h1) h2⟩

theorem evalOp_ok {ops : Array Oper} {o : Oper} {st : St} {d : Done} (h : evalOp P (owed P N) o st = .ok d) (hcs : allP d.st.cs) :
    REq st.rg d.st.rg ∧ d.st.σ = st.σ ∧ OpW P ops o d.st.rg st.σ d.v d.σ ∧ LocW P ops o d.st.rg d.T d.W st.σ d.v d.σ ∧ ∃ new, d.st.cs = new ++ st.cs := by
  unfold evalOp at h
  split at h
  · rename_i c x y ho
    obtain ⟨⟨b, st'⟩, h1, h2⟩ := Res.then_ok h
    cases h2
    obtain ⟨g1, g2, g3, g4⟩ := ask_ok h1 (by intro t ht; cases c <;> simp [tmpOf] at ht; subst ht; rfl) hcs
    have hb : Imp (aev st'.rg c) (.tt b) := by
      unfold ask at h1
      split at h1
      · rename_i e0; cases h1; rw [e0]; exact Imp.refl _
      · rename_i b0 e0
        split at h1
        · cases h1
          have hd : b0 = b := hcs.cons.1
          subst hd
          cases c with
          | tmp t =>
            simp only [tmpOf, aev]
            rw [rput_getD]
            split
            · exact Imp.refl _
            · have : aev st.rg (.tmp t) = .bool b0 := e0
              simp only [aev] at this
              rw [this]; rw [e0] at g3; exact g3
          | const v => simp only [tmpOf, rput]; rw [e0] at g3 ⊢; exact g3
          | global g => simp only [tmpOf, rput]; rw [e0] at g3 ⊢; exact g3
          | func f => cases e0
        · cases h1
      · cases h1
    dsimp only
    rw [g2]
    exact ⟨g1, rfl, pick_W ho hb _, ⟨fun _ h => h, fun σ2 hs => ⟨σ2, pick_W ho hb σ2, Moved.refl _ hs⟩⟩, g4⟩
  · rename_i x ho
    split at h
    · rename_i t e0
      cases h
      exact ⟨REq.refl _, rfl, panic_W ho e0 _, ⟨fun _ h => h, fun σ2 hs => ⟨σ2, panic_W ho e0 σ2, Moved.refl _ hs⟩⟩, [], rfl⟩
    · cases h
  · rename_i hnp hnq
    split at h
    · rename_i f as hc
      split at h
      · split at h
        · rename_i r hr
          cases h
          obtain ⟨hc1, hc2⟩ := hcs.append
          exact ⟨REq.refl _, rfl, extern_W hc hr hc1, ⟨fun _ h => by simp at h, fun σ2 hs => by
            obtain ⟨σ2', e1, e2⟩ := aextern_loc hr hs
            exact ⟨σ2', extern_W (out := ⟨r.v, σ2', r.cs⟩) hc e1 hc1, e2⟩⟩, r.cs, rfl⟩
        · cases h
      split at h
      · rename_i r σ' s hs
        cases h
        have hF : FOk P f as st.σ r σ' := hcs.cons.1
        exact ⟨REq.refl _, rfl, call_W hc hF, ⟨fun _ h => h, fun σ2 hs => by
          have := same_eq hs
          subst this
          exact ⟨σ', call_W hc hF, Moved.id _ _ _ fun id h => List.mem_range.2 h⟩⟩, [_], rfl⟩
      · rename_i es as0 σ0 r σ' s hs
        cases h
        have hF : UseOk P f es (normTs P (paramsOf P f) as) st.σ as0 σ0 r σ' := hcs.cons.1
        refine ⟨REq.refl _, rfl, call_W hc (hF.fok'.argsN _), ⟨fun _ h => h, fun σ2 hs => ?_⟩, [_], rfl⟩
        obtain ⟨u2, m⟩ := hF.at hs
        refine ⟨_, ?_, m⟩
        have := call_W hc (ops := ops) (u2.fok'.argsN _)
        rw [hs.1] at this
        exact this
      · cases h
    · split at h
      · rename_i r hr
        have loc : allP r.cs → LocW P ops o st.rg (touch o.op st.rg st.σ).1 (touch o.op st.rg st.σ).2 st.σ r.v r.σ := fun hc => ⟨touch_sub _ _ _, fun σ2 hs => by
          obtain ⟨σ2', e, m⟩ := aop_loc hr hs
          exact ⟨σ2', aop_W (out := ⟨r.v, σ2', r.cs⟩) e hc, m⟩⟩
        split at h
        · rename_i hlk
          split at h
          · rename_i v s hs
            cases h
            obtain ⟨hv, hcs2⟩ := hcs.cons
            obtain ⟨hc1, hc2⟩ := hcs2.append
            subst hv
            exact ⟨REq.refl _, rfl, aop_W hr hc1, loc hc1, _ :: r.cs, rfl⟩
          · cases h
            obtain ⟨hc1, hc2⟩ := hcs.append
            exact ⟨REq.refl _, rfl, aop_W hr hc1, loc hc1, r.cs, rfl⟩
          · cases h
        split at h
        · split at h
          · rename_i v s hs
            cases h
            obtain ⟨hv, hcs2⟩ := hcs.cons
            obtain ⟨hc1, hc2⟩ := hcs2.append
            subst hv
            exact ⟨REq.refl _, rfl, aop_W hr hc1, loc hc1, _ :: r.cs, rfl⟩
          · cases h
            obtain ⟨hc1, hc2⟩ := hcs.append
            exact ⟨REq.refl _, rfl, aop_W hr hc1, loc hc1, r.cs, rfl⟩
        · cases h
          obtain ⟨hc1, hc2⟩ := hcs.append
          exact ⟨REq.refl _, rfl, aop_W hr hc1, loc hc1, r.cs, rfl⟩
      · cases h

theorem OpW.S {ops : Array Oper} {o : Oper} {rg : Regs} {v : AVal} {σ σ' : AState} (h : OpW P ops o rg σ v σ') (hw : ∀ (F : FS) (w : World) (ρ : RMap) (a : Act), LookOk F w ρ rg a (o.looksAt ops) → Region.wanted o (yielded ops a.tmps) = true) : OpS P ops o rg σ v σ' := by
  intro F w ρ a r hl K Q hK hP
  rw [if_pos (hw F w ρ a hl)]
  exact h F w ρ a r hl K Q hK hP
theorem OpS.no {ops : Array Oper} {o : Oper} {rg : Regs} (σ : AState) (hw : ∀ (F : FS) (w : World) (ρ : RMap) (a : Act), LookOk F w ρ rg a (o.looksAt ops) → Region.wanted o (yielded ops a.tmps) = false) : OpS P ops o rg σ aundef σ := by
  intro F w ρ a r hl K Q hK hP
  rw [if_neg (by rw [hw F w ρ a hl]; simp)]
  exact hK _ _ _ _ (Tr.refl _ _ _ _) r (.tuple _ _ _ rfl fun i v u h _ => by simp at h)

theorem RImp.look {rg rg' : Regs} (h : RImp rg rg') {F : FS} {w : World} {ρ : RMap} {a : Act} {L : List Tmp} (hl : LookOk F w ρ rg a L) : LookOk F w ρ rg' a L := hl.imp h

theorem yielded_bool {ops : Array Oper} {tm : Array Value} {j : Nat} {d : Tmp} {b : Bool} (hd : (ops[j]?).bind (·.dst) = some d) (h : tm.getD d undef = .bool b) : yielded ops tm j = some b := by
  unfold yielded
  rw [hd]
  simp only [Option.bind_some]
  have : tm[d]? = some (.bool b) := by
    rw [Array.getD_eq_getD_getElem?] at h
    cases ht : tm[d]? with
    | none => rw [ht] at h; simp [undef] at h
    | some v => rw [ht] at h; simp at h; rw [h]
  rw [this]
theorem yielded_undef {ops : Array Oper} {tm : Array Value} {j : Nat} {d : Tmp} (hd : (ops[j]?).bind (·.dst) = some d) (h : tm.getD d undef = .tuple #[]) : yielded ops tm j = none := by
  unfold yielded
  rw [hd]
  simp only [Option.bind_some]
  rw [Array.getD_eq_getD_getElem?] at h
  cases ht : tm[d]? with
  | none => rfl
  | some v => rw [ht] at h; simp at h; rw [h]

theorem awant_ok {ops : Array Oper} {o : Oper} {st st' : St} {b : Bool} (h : awant ops o st = .ok (b, st')) (hcs : allP st'.cs) :
    REq st.rg st'.rg ∧ st'.σ = st.σ ∧ (∀ (F : FS) (w : World) (ρ : RMap) (a : Act), LookOk F w ρ st'.rg a (o.looksAt ops) → Region.wanted o (yielded ops a.tmps) = b) ∧ ∃ new, st'.cs = new ++ st.cs := by
  unfold awant at h
  split at h
  · rename_i hg
    cases h
    exact ⟨REq.refl _, rfl, fun F w ρ a _ => by simp [Region.wanted, hg], [], rfl⟩
  · rename_i j want hg
    split at h
    · cases h
    · rename_i d hd
      have hin : d ∈ o.looksAt ops := List.mem_append_right _ (by rw [hg]; simp only [hd]; simp)
      split at h
      · rename_i e0
        cases h
        refine ⟨REq.refl _, rfl, fun F w ρ a hl => ?_, [], rfl⟩
        have := hl.2 d hin
        rw [e0] at this
        obtain ⟨cv, hc, hp⟩ := this.tuple_inv
        have : cv = #[] := by have := hp.1; simp at this; exact Array.eq_empty_of_size_eq_zero this.symm
        subst this
        simp [Region.wanted, hg, yielded_undef hd hc]
      · obtain ⟨⟨b0, st0⟩, h1, h2⟩ := Res.then_ok h
        cases h2
        obtain ⟨g1, g2, g3, g4⟩ := ask_ok h1 (by intro t ht; cases ht; rfl) hcs
        refine ⟨g1, g2, fun F w ρ a hl => ?_, g4⟩
        have hv : Imp (st0.rg.getD d .any) (.tt b0) := by
          unfold ask at h1
          split at h1
          · rename_i e0; cases h1; rw [e0]; exact Imp.refl _
          · rename_i b1 e0
            split at h1
            · cases h1
              have hd : b1 = b0 := hcs.cons.1
              subst hd
              rw [rput_getD]
              split
              · exact Imp.refl _
              · exact g3
            · cases h1
          · cases h1
        have := (hv _ _ _ _ (hl.2 d hin)).tt_inv
        simp only [Region.wanted, hg, yielded_bool hd this]
        cases b0 <;> cases want <;> rfl

theorem evalOne_ok {ops : Array Oper} {o : Oper} {st : St} {d : Done} (h : evalOne P (owed P N) ops o st = .ok d) (hcs : allP d.st.cs) :
    REq st.rg d.st.rg ∧ d.st.σ = st.σ ∧ OpS P ops o d.st.rg st.σ d.v d.σ ∧ LocS P ops o d.st.rg d.T d.W st.σ d.v d.σ ∧ ∃ new, d.st.cs = new ++ st.cs := by
  unfold evalOne at h
  obtain ⟨⟨b, st1⟩, h1, h2⟩ := Res.then_ok h
  dsimp only at h2
  split at h2
  · rename_i hb
    subst hb
    obtain ⟨g1, g2, g3, g4, new, hn⟩ := evalOp_ok (ops := ops) h2 hcs
    have hcs1 : allP st1.cs := fun p hp => hcs p (by rw [hn]; exact List.mem_append_right _ hp)
    obtain ⟨k1, k2, k3, new', hn'⟩ := awant_ok h1 hcs1
    have hw : ∀ (F : FS) (w : World) (ρ : RMap) (a : Act), LookOk F w ρ d.st.rg a (o.looksAt ops) → Region.wanted o (yielded ops a.tmps) = true := fun F w ρ a hl => k3 F w ρ a (hl.imp g1.2)
    rw [k2] at g2 g3 g4
    exact ⟨k1.trans g1, g2, g3.S hw, ⟨g4.1, fun σ2 hs => let ⟨σ2', e, m⟩ := g4.2 σ2 hs; ⟨σ2', e.S hw, m⟩⟩, new ++ new', by rw [hn, hn', List.append_assoc]⟩
  · rename_i hb
    cases h2
    have hb : b = false := by simpa using hb
    subst hb
    obtain ⟨k1, k2, k3, new', hn'⟩ := awant_ok h1 hcs
    dsimp only
    rw [k2]
    exact ⟨k1, rfl, OpS.no _ k3, ⟨fun _ h => h, fun σ2 hs => ⟨σ2, OpS.no _ k3, Moved.refl _ hs⟩⟩, new', hn'⟩

end
end Go.Abs
end

section
set_option linter.unusedVariables false
set_option linter.unusedSectionVars false
set_option linter.unusedSimpArgs false
namespace Go.Abs
variable [Glob]

structure ChainAt (P : Program) (ops : Array Oper) (x : Oper) (cur rgs cur' : Regs) (σ σ' : AState) (v : AVal) : Prop where
  req : REq cur rgs
  op : OpS P ops x rgs σ v σ'
  nxt : cur' = rput cur x.dst v

def shift {α : Type} (a : α) (f : Nat → α) : Nat → α
  | 0 => a
  | i + 1 => f i

theorem REq.put {a b : Regs} (h : REq a b) (d : Option Tmp) (v : AVal) : REq (rput a d v) (rput b d v) := ⟨h.1.put d v, h.2.put d v⟩

section
variable {N : Nat} {P : Program} {ops : Array Oper}

def EndsAt (e : AExit) (l : Nat) (rg' : Regs) (cur : Nat → Regs) (vs : Nat → AVal) (n : Nat) : Prop :=
  (e = .normal ∧ n = l ∧ REq (cur n) rg' ∧ ∀ i, i < n → (vs i).isPan = false) ∨ ∃ t m, e = .pan t ∧ n = m + 1 ∧ n ≤ l ∧ vs m = .pan t ∧ REq (cur m) rg' ∧ ∀ i, i < m → (vs i).isPan = false
theorem EndsAt.shift {e : AExit} {l : Nat} {rg' rg0 : Regs} {v : AVal} {cur : Nat → Regs} {vs : Nat → AVal} {n : Nat} (hv : v.isPan = false) (h : EndsAt e l rg' cur vs n) : EndsAt e (l + 1) rg' (shift rg0 cur) (Abs.shift v vs) (n + 1) := by
  rcases h with ⟨h1, h2, h3, h4⟩ | ⟨t, m, h1, h2, h3, h4, h5, h6⟩
  · exact .inl ⟨h1, by rw [h2], h3, fun i hi => by cases i with | zero => exact hv | succ i => exact h4 i (by omega)⟩
  · exact .inr ⟨t, m + 1, h1, by rw [h2], by omega, h4, h5, fun i hi => by cases i with | zero => exact hv | succ i => exact h6 i (by omega)⟩

theorem evalOps_ok : ∀ (l : List Oper) (st st' : St) (e : AExit) (rg0 : Regs), evalOps P (owed P N) ops l st = .ok (e, st') → allP st'.cs → REq rg0 st.rg →
    (∃ new, st'.cs = new ++ st.cs) ∧ ∃ (n : Nat) (vs : Nat → AVal) (rgs : Nat → Regs) (sg : Nat → AState) (cur : Nat → Regs), sg 0 = st.σ ∧ sg n = st'.σ ∧ cur 0 = rg0 ∧ EndsAt e l.length st'.rg cur vs n ∧
      ∀ i x, i < n → l[i]? = some x → ChainAt P ops x (cur i) (rgs i) (cur (i + 1)) (sg i) (sg (i + 1)) (vs i)
  | [], st, st', e, rg0, h, hcs, hq => by
    cases h
    exact ⟨⟨[], rfl⟩, 0, fun _ => .any, fun _ => [], fun _ => st.σ, fun _ => rg0, rfl, rfl, rfl, .inl ⟨rfl, rfl, hq, fun i h => by omega⟩, fun i x _ h => by simp at h⟩
  | x :: l, st, st', e, rg0, h, hcs, hq => by
    obtain ⟨d, h1, h2⟩ := Res.then_ok h
    rw [forceV_eq] at h2
    cases hp : d.v.isPan with
    | true =>
      have ⟨t, hv⟩ : ∃ t, d.v = .pan t := by cases hv : d.v <;> first | exact ⟨_, rfl⟩ | (rw [hv] at hp; cases hp)
      rw [hv, orPan_pan] at h2
      cases h2
      obtain ⟨g1, g2, g3, _, new', hn'⟩ := evalOne_ok h1 hcs
      refine ⟨⟨new', hn'⟩, 1, fun _ => d.v, fun _ => d.st.rg, shift st.σ fun _ => d.σ, shift rg0 fun _ => rput rg0 x.dst d.v, rfl, rfl, rfl, .inr ⟨t, 0, rfl, rfl, by simp, hv, hq.trans g1, fun i h => by omega⟩, ?_⟩
      intro i y hi hy
      obtain rfl : i = 0 := by omega
      simp only [List.getElem?_cons_zero, Option.some.injEq] at hy
      subst hy
      exact ⟨hq.trans g1, g3, rfl⟩
    | false =>
      rw [orPan_no hp] at h2
      have hq2 : allP d.st.cs → REq (rput rg0 x.dst d.v) (rput d.st.rg x.dst d.v) := fun hc => (hq.trans (evalOne_ok h1 hc).1).put _ _
      obtain ⟨⟨new, hn⟩, _⟩ := evalOps_ok l _ st' e _ h2 hcs (REq.refl _)
      have hc2 : allP d.st.cs := fun p hp => hcs p (by rw [hn]; exact List.mem_append_right _ hp)
      obtain ⟨g1, g2, g3, _, new', hn'⟩ := evalOne_ok h1 hc2
      obtain ⟨_, n, vs, rgs, sg, cur, k1, k2, k3, k4, k5⟩ := evalOps_ok l _ st' e (rput rg0 x.dst d.v) h2 hcs (hq2 hc2)
      refine ⟨⟨new ++ new', by rw [hn]; show new ++ d.st.cs = _; rw [hn']; simp⟩, n + 1, shift d.v vs, shift d.st.rg rgs, shift st.σ sg, shift rg0 cur, rfl, k2, rfl, k4.shift hp, ?_⟩
      intro i y hi hy
      match i with
      | 0 =>
        simp only [List.getElem?_cons_zero, Option.some.injEq] at hy
        subst hy
        have e1 : sg 0 = d.σ := k1
        simp only [shift]
        rw [e1]
        exact ⟨hq.trans g1, g3, k3⟩
      | i + 1 => exact k5 i y (by omega) (by simpa using hy)

structure FreeAt (P : Program) (ops : Array Oper) (as : List Nat) (j : Nat) (rs : List Rec) (x : Oper) (rg : Regs) (v : AVal) (r : Rec) : Prop where
  loc : LocS P ops x rg r.T r.W r.σ v r.σ'
  scope : okScope r.σ' v = true
  len : r.σ.length ≤ r.σ'.length
  pairs : allP (pairsC (as.getD j 0) r 0 rs)

def EndsLast (as : List Nat) (e : AExit) (j l : Nat) (rg' : Regs) (cur : Nat → Regs) (vs : Nat → AVal) : Prop :=
  (e = .normal ∧ REq (cur l) rg' ∧ ∀ i, i < l → (vs i).isPan = false) ∨ ∃ t m, e = .pan t ∧ l = m + 1 ∧ vs m = .pan t ∧ REq (cur m) rg' ∧ (∀ i, i < m → (vs i).isPan = false) ∧ allAnc (as.getD (j + m) 0) (j + m) = true
theorem EndsLast.shift {as : List Nat} {e : AExit} {j l : Nat} {rg' rg0 : Regs} {v : AVal} {cur : Nat → Regs} {vs : Nat → AVal} (hv : v.isPan = false) (h : EndsLast as e (j + 1) l rg' cur vs) : EndsLast as e j (l + 1) rg' (shift rg0 cur) (Abs.shift v vs) := by
  rcases h with ⟨h1, h3, h4⟩ | ⟨t, m, h1, h2, h4, h5, h6, h7⟩
  · exact .inl ⟨h1, h3, fun i hi => by cases i with | zero => exact hv | succ i => exact h4 i (by omega)⟩
  · exact .inr ⟨t, m + 1, h1, by rw [h2], h4, h5, fun i hi => by cases i with | zero => exact hv | succ i => exact h6 i (by omega), by rw [show j + (m + 1) = j + 1 + m by omega]; exact h7⟩

theorem evalAny_ok (as : List Nat) : ∀ (l : List Oper) (j : Nat) (rs : List Rec) (st st' : St) (e : AExit) (rg0 : Regs), evalAny P (owed P N) ops as j l rs st = .ok (e, st') → allP st'.cs → REq rg0 st.rg →
    (∃ new, st'.cs = new ++ st.cs) ∧ ∃ (vs : Nat → AVal) (rgs : Nat → Regs) (sg : Nat → AState) (cur : Nat → Regs) (Ts Ws : Nat → List Nat), sg 0 = st.σ ∧ sg l.length = st'.σ ∧ cur 0 = rg0 ∧ EndsLast as e j l.length st'.rg cur vs ∧
      ∀ i x, l[i]? = some x → ChainAt P ops x (cur i) (rgs i) (cur (i + 1)) (sg i) (sg (i + 1)) (vs i) ∧
        FreeAt P ops as (j + i) (rs ++ (List.range i).map fun k => ⟨Ts k, Ws k, sg k, sg (k + 1)⟩) x (rgs i) (vs i) ⟨Ts i, Ws i, sg i, sg (i + 1)⟩
  | [], j, rs, st, st', e, rg0, h, hcs, hq => by
    cases h
    exact ⟨⟨[], rfl⟩, fun _ => .any, fun _ => [], fun _ => st.σ, fun _ => rg0, fun _ => [], fun _ => [], rfl, rfl, rfl, .inl ⟨rfl, hq, fun i h => by simp at h⟩, fun i x h => by simp at h⟩
  | x :: l, j, rs, st, st', e, rg0, h, hcs, hq => by
    obtain ⟨d, h1, h2⟩ := Res.then_ok h
    rw [forceV_eq, forceL_eq, forceL_eq] at h2
    cases hp : d.v.isPan with
    | true =>
      have ⟨t, hv⟩ : ∃ t, d.v = .pan t := by cases hv : d.v <;> first | exact ⟨_, rfl⟩ | (rw [hv] at hp; cases hp)
      rw [hv, orPan_pan] at h2
      split at h2
      · rename_i hl
        rw [Bool.and_eq_true] at hl
        have hln : l = [] := by simpa using hl.1
        subst hln
        cases h2
        obtain ⟨hp1, hp2⟩ := hcs.append
        have hc2 : allP d.st.cs := hp2.cons.2.cons.2
        obtain ⟨g1, g2, g3, g4, new', hn'⟩ := evalOne_ok h1 hc2
        rw [← hv] at hp2
        refine ⟨⟨pairsC (as.getD j 0) ⟨d.T, d.W, d.st.σ, d.σ⟩ 0 rs ++ ((okScope d.σ (.pan t) = true) :: (decide (d.st.σ.length ≤ d.σ.length) = true) :: new'), by dsimp only; rw [hn']; simp⟩,
          fun _ => d.v, fun _ => d.st.rg, shift st.σ fun _ => d.σ, shift rg0 fun _ => rput rg0 x.dst d.v, fun _ => d.T, fun _ => d.W, rfl, rfl, rfl, .inr ⟨t, 0, rfl, rfl, hv, hq.trans g1, fun i h => by omega, hl.2⟩, ?_⟩
        intro i y hy
        match i with
        | 0 =>
          simp only [List.getElem?_cons_zero, Option.some.injEq] at hy
          subst hy
          simp only [shift]
          rw [g2] at hp1 hp2
          exact ⟨⟨hq.trans g1, g3, rfl⟩, ⟨g4, hp2.cons.1, of_decide_eq_true hp2.cons.2.cons.1, by simpa using hp1⟩⟩
        | i + 1 => simp at hy
      · cases h2
    | false =>
    rw [orPan_no hp] at h2
    have hq2 : allP d.st.cs → REq (rput rg0 x.dst d.v) (rput d.st.rg x.dst d.v) := fun hc => (hq.trans (evalOne_ok h1 hc).1).put _ _
    obtain ⟨⟨new, hn⟩, _⟩ := evalAny_ok as l _ _ _ st' e _ h2 hcs (REq.refl _)
    dsimp only at hn
    have hall : allP (pairsC (as.getD j 0) ⟨d.T, d.W, d.st.σ, d.σ⟩ 0 rs ++ ((okScope d.σ d.v = true) :: (decide (d.st.σ.length ≤ d.σ.length) = true) :: d.st.cs)) := fun p hp => hcs p (by rw [hn]; exact List.mem_append_right _ hp)
    obtain ⟨hp1, hp2⟩ := hall.append
    have hc2 : allP d.st.cs := hp2.cons.2.cons.2
    obtain ⟨g1, g2, g3, g4, new', hn'⟩ := evalOne_ok h1 hc2
    obtain ⟨_, vs, rgs, sg, cur, Ts, Ws, k1, k2, k3, k4, k5⟩ := evalAny_ok as l _ _ _ st' e (rput rg0 x.dst d.v) h2 hcs (hq2 hc2)
    refine ⟨⟨new ++ (pairsC (as.getD j 0) ⟨d.T, d.W, d.st.σ, d.σ⟩ 0 rs ++ ((okScope d.σ d.v = true) :: (decide (d.st.σ.length ≤ d.σ.length) = true) :: new')), by rw [hn, hn']; simp⟩,
      shift d.v vs, shift d.st.rg rgs, shift st.σ sg, shift rg0 cur, shift d.T Ts, shift d.W Ws, rfl, k2, rfl, k4.shift hp, ?_⟩
    have e1 : sg 0 = d.σ := k1
    intro i y hy
    match i with
    | 0 =>
      simp only [List.getElem?_cons_zero, Option.some.injEq] at hy
      subst hy
      simp only [shift]
      rw [e1]
      rw [g2] at hp1 hp2
      exact ⟨⟨hq.trans g1, g3, k3⟩, ⟨g4, hp2.cons.1, of_decide_eq_true hp2.cons.2.cons.1, by simpa using hp1⟩⟩
    | i + 1 =>
      obtain ⟨a1, a2⟩ := k5 i y (by simpa using hy)
      refine ⟨a1, a2.loc, a2.scope, a2.len, ?_⟩
      have := a2.pairs
      rw [show j + 1 + i = j + (i + 1) by omega] at this
      refine Eq.mp ?_ this
      congr 2
      rw [List.range_succ_eq_map, List.map_cons, List.map_map, List.append_assoc]
      simp only [List.singleton_append]
      rw [g2, ← e1]
      rfl

theorem pairsC_get {anc : Nat} {y : Rec} : ∀ {xs : List Rec} {i : Nat}, allP (pairsC anc y i xs) → ∀ k x, xs[k]? = some x → anc.testBit (i + k) = false → allP (pairC x y)
  | [], i, _, k, x, hk, _ => by simp at hk
  | z :: xs, i, h, k, x, hk, hb => by
    simp only [pairsC] at h
    obtain ⟨h1, h2⟩ := h.append
    match k with
    | 0 =>
      simp only [List.getElem?_cons_zero, Option.some.injEq] at hk
      subst hk
      rw [Nat.add_zero] at hb
      rw [if_neg (by rw [hb]; simp)] at h1
      exact h1
    | k + 1 => exact pairsC_get h2 k x (by simpa using hk) (by rw [show i + 1 + k = i + (k + 1) by omega]; exact hb)

theorem pairC_spec {x y : Rec} (h : allP (pairC x y)) : (∀ id ∈ x.W, id ∈ y.T → obj x.σ' id = obj x.σ id) ∧ (∀ id ∈ y.W, id ∈ x.T → obj y.σ' id = obj y.σ id) ∧ ∀ id ∈ y.T, id < x.σ.length ∨ x.σ'.length ≤ id := by
  unfold pairC at h
  obtain ⟨h, h3⟩ := h.append
  obtain ⟨h1, h2⟩ := h.append
  refine ⟨fun id a b => h1 _ (List.mem_map.2 ⟨id, List.mem_filter.2 ⟨a, by simpa using b⟩, rfl⟩), fun id a b => h2 _ (List.mem_map.2 ⟨id, List.mem_filter.2 ⟨a, by simpa using b⟩, rfl⟩), fun id a => ?_⟩
  rw [if_neg (by rw [List.isEmpty_iff]; rintro e; rw [e] at a; cases a)] at h3
  have := List.all_eq_true.1 h3.cons.1 id a
  simpa using this

theorem seq_ok {sg : Nat → AState} {cur rgs : Nat → Regs} {vs : Nat → AVal} {Q : Exit → Act → World → Prop}
    {e : AExit} {rg' : Regs} {m : Nat} (he : EndsAt e ops.size rg' cur vs m) (hc : ∀ i o, i < m → ops[i]? = some o → ChainAt P ops o (cur i) (rgs i) (cur (i + 1)) (sg i) (sg (i + 1)) (vs i)) :
    ∀ (n i : Nat), i + n = ops.size → i ≤ m → (m ≤ i → e = .normal) → ∀ (F : FS) (w : World) (ρ : RMap) (a : Act), Rel ρ F (sg i) w → ARel F w ρ (cur i) a →
      (∀ ρ' F' w' a', Tr (sg i) (sg m) ρ ρ' F F' w w' → Rel ρ' F' (sg m) w' → ARel F' w' ρ' rg' a' → Q e.real a' w') → wpOps P ops Q (List.range' i n) a w
  | 0, i, hi, him, hmi, F, w, ρ, a, r, ha, hQ => by
    rcases he with ⟨rfl, h2, h3, _⟩ | ⟨t, k, rfl, h2, h3, _⟩
    · obtain rfl : i = m := by omega
      exact hQ _ _ _ _ (Tr.refl _ _ _ _) r (ha.imp h3.1)
    · have := hmi (by omega); cases this
  | n + 1, i, hi, him, hmi, F, w, ρ, a, r, ha, hQ => by
    have hlt : i < ops.size := by omega
    have ho : ops[i]? = some ops[i] := Array.getElem?_eq_getElem hlt
    have hlm : i < m := by
      rcases Nat.lt_or_ge i m with h | h
      · exact h
      · rcases he with ⟨_, h2, _⟩ | ⟨t, k, rfl, h2, h3, _⟩
        · omega
        · have := hmi h; cases this
    have h := hc i _ hlm ho
    rw [List.range'_succ]
    simp only [wpOps, ho]
    have hop := h.op F w ρ a r ((ha.look _).imp h.req.1) (wpOps P ops Q (List.range' (i + 1) n)) Q (fun F' w' ρ' cv t r' hv => by
      refine seq_ok he hc n (i + 1) (by omega) (by omega) (fun hmi => ?_) F' w' ρ' _ r' (by rw [h.nxt]; exact (ha.tr r t).put _ hv) fun ρ2 F2 w2 a2 t2 r2 ha2 => hQ _ _ _ _ (Tr.trans r t t2) r2 ha2
      rcases he with ⟨rfl, _⟩ | ⟨t, k, rfl, h2, h3, h4, _⟩
      · rfl
      · obtain rfl : i = k := by omega
        rw [h4] at hv; cases hv) (fun F' w' ρ' t hv t2 r' => by
      rcases he with ⟨rfl, _, _, h4⟩ | ⟨t', k, rfl, h2, h3, h4, h5, h6⟩
      · have := h4 i hlm; rw [hv] at this; cases this
      · have hik : i = k := by
          rcases Nat.lt_or_ge i k with h | h
          · have := h6 i h; rw [hv] at this; cases this
          · omega
        subst hik; subst h2
        rw [h4] at hv; cases hv
        exact hQ _ _ _ _ t2 r' ((ha.tr r t2).imp h5.1))
    split
    · rename_i hw; rw [if_pos hw] at hop; exact .inl hop
    · rename_i hw; rw [if_neg hw] at hop; exact hop

theorem testBit_fold {acc : List Nat} {i : Nat} : ∀ (es : List Edge) (m : Nat), (es.foldl (fun m e => m ||| (1 <<< e.on) ||| acc.getD e.on 0) m).testBit i = true →
    m.testBit i = true ∨ ∃ e ∈ es, i = e.on ∨ (acc.getD e.on 0).testBit i = true
  | [], m, h => .inl h
  | e :: es, m, h => by
    rcases testBit_fold es _ h with h | ⟨e', h1, h2⟩
    · simp only [Nat.testBit_or, Bool.or_eq_true] at h
      rcases h with (h | h) | h
      · exact .inl h
      · refine .inr ⟨e, by simp, .inl ?_⟩
        rw [Nat.shiftLeft_eq, Nat.one_mul, Nat.testBit_two_pow] at h
        exact (by simpa using h : e.on = i).symm
      · exact .inr ⟨e, by simp, .inr h⟩
    · exact .inr ⟨e', by simp [h1], h2⟩

theorem ancs_spec : ∀ (os : List Oper) (acc : List Nat), ∃ rest, ancs os acc = acc ++ rest ∧ rest.length = os.length ∧
    ∀ j o, os[j]? = some o → ∀ i, ((acc ++ rest).getD (acc.length + j) 0).testBit i = true →
      ∃ e ∈ o.after, Region.binds .any e = true ∧ (i = e.on ∨ (((acc ++ rest).take (acc.length + j)).getD e.on 0).testBit i = true)
  | [], acc => ⟨[], by simp [ancs], rfl, fun j o h => by simp at h⟩
  | o :: os, acc => by
    obtain ⟨rest, h1, h2, h3⟩ := ancs_spec os (acc ++ [(o.after.toList.filter (Region.binds .any)).foldl (fun m e => m ||| (1 <<< e.on) ||| acc.getD e.on 0) 0])
    refine ⟨(o.after.toList.filter (Region.binds .any)).foldl (fun m e => m ||| (1 <<< e.on) ||| acc.getD e.on 0) 0 :: rest, by rw [ancs, h1]; simp, by simp [h2], ?_⟩
    intro j o' hj i hi
    match j with
    | 0 =>
      simp only [List.getElem?_cons_zero, Option.some.injEq] at hj
      subst hj
      have : (acc ++ (o.after.toList.filter (Region.binds .any)).foldl (fun m e => m ||| (1 <<< e.on) ||| acc.getD e.on 0) 0 :: rest).getD (acc.length + 0) 0 = (o.after.toList.filter (Region.binds .any)).foldl (fun m e => m ||| (1 <<< e.on) ||| acc.getD e.on 0) 0 := by
        simp [List.getD_eq_getElem?_getD]
      rw [this] at hi
      rcases testBit_fold _ _ hi with h | ⟨e, he, h⟩
      · simp at h
      · simp only [List.mem_filter, Array.mem_toList_iff] at he
        refine ⟨e, he.1, he.2, h.imp id fun h => ?_⟩
        simpa using h
    | j + 1 =>
      have h3 := h3 j o' (by simpa using hj) i (by simpa [Nat.add_assoc, Nat.add_comm 1 j] using hi)
      simpa [Nat.add_assoc, Nat.add_comm 1 j] using h3

theorem anc_edge {j i : Nat} {o : Oper} (ho : ops[j]? = some o) (h : ((ancs ops.toList []).getD j 0).testBit i = true) : ∃ e ∈ o.after, Region.binds .any e = true ∧ (i = e.on ∨ (e.on < j ∧ ((ancs ops.toList []).getD e.on 0).testBit i = true)) := by
  obtain ⟨rest, h1, h2, h3⟩ := ancs_spec ops.toList []
  simp only [List.nil_append, List.length_nil, Nat.zero_add] at h1 h3
  rw [h1] at h ⊢
  obtain ⟨e, he, hb, h⟩ := h3 j o (by simpa using ho) i h
  refine ⟨e, he, hb, h.imp id fun h => ?_⟩
  rw [List.getD_eq_getElem?_getD, List.getElem?_take] at h
  split at h
  · rename_i hlt; exact ⟨hlt, by rw [List.getD_eq_getElem?_getD]; exact h⟩
  · simp at h

def Down (ops : Array Oper) (listed : Array Bool) : Prop := ∀ j o, ops[j]? = some o → listed.getD j false = true → ∀ e ∈ o.after, Region.binds .any e = true → listed.getD e.on false = true

theorem anc_listed {listed : Array Bool} (hd : Down ops listed) : ∀ (j : Nat) (o : Oper) (i : Nat), ops[j]? = some o → (∀ e ∈ o.after, Region.binds .any e = true → listed.getD e.on false = true) →
    ((ancs ops.toList []).getD j 0).testBit i = true → listed.size = ops.size → listed.getD i false = true := by
  intro j
  induction j using Nat.strongRecOn with
  | _ j ih =>
    intro o i ho hall h hsz
    obtain ⟨e, he, hb, h⟩ := anc_edge ho h
    rcases h with rfl | ⟨hlt, h⟩
    · exact hall e he hb
    · have hl := hall e he hb
      have hs : e.on < ops.size := Nat.lt_trans hlt (Array.getElem?_eq_some_iff.1 ho).1
      exact ih e.on hlt ops[e.on] i (Array.getElem?_eq_getElem hs) (hd e.on _ (Array.getElem?_eq_getElem hs) hl) h hsz

end
end Go.Abs
end
