import Derived.Test.YtkecmndppllijaaDoorAbsOps13
import Derived.BigCall
set_option linter.unusedVariables false
set_option linter.unusedSectionVars false
set_option linter.unusedSimpArgs false
namespace Go.Abs
variable [Glob]

section
variable {P : Program} {F : Nat → Prop} {w : World} {ρ : RMap} {σ : AState}

/-- An operation that is carried out: what it turns. -/
def Step1 (P : Program) (F : Nat → Prop) (w : World) (ρ : RMap) (σ : AState) (out : Out) (s : Sem Next) : Prop :=
  ∃ ρ' F' w' cv n, s.run P w = .ok n w' ∧ (n = .value cv ∨ (n = .skip ∧ cv = undef)) ∧ Tr σ out.σ ρ ρ' F F' w w' ∧ Rel ρ' F' out.σ w' ∧ VRel F' w' ρ' out.v cv

theorem Fine.step {out : Out} {s : Sem Value} (h : Fine P F w ρ σ out s) : Step1 P F w ρ σ out (do pure (.value (← s))) := by
  obtain ⟨ρ', F', w', cv, h1, h2, h3, h4⟩ := h
  exact ⟨ρ', F', w', cv, .value cv, by simp [h1], .inl rfl, h2, h3, h4⟩
theorem FineU.step {out : Out} {s : Sem Unit} (h : FineU P F w ρ σ out s) : Step1 P F w ρ σ out (do s; pure .skip) := by
  obtain ⟨ρ', F', w', h1, h2, h3, h4⟩ := h
  exact ⟨ρ', F', w', undef, .skip, by simp [h1], .inr ⟨rfl, rfl⟩, h2, h3, by rw [h4]; exact .tuple _ _ _ rfl fun i v u h _ => by simp at h⟩
theorem Step1.same {out : Out} {s : Sem Next} {cv : Value} (r : Rel ρ F σ w) (h : s.run P w = .ok (.value cv) w) (hσ : out.σ = σ) (hv : VRel F w ρ out.v cv) : Step1 P F w ρ σ out s := by
  unfold Step1
  rw [hσ]; exact ⟨ρ, F, w, cv, _, h, .inl rfl, Tr.refl _ _ _ _, r, hv⟩

theorem anilCheck_ok {x : AVal} {cx : Value} {out : Out} {a : Act} {xo : Operand} {o : Oper} (r : Rel ρ F σ w) (he : a.eval xo = cx) (ho : o.op = .nilCheck xo) (hx : VRel F w ρ x cx) (h : anilCheck x σ = some out) : Step1 P F w ρ σ out (execOp a.eval o) := by
  unfold anilCheck at h
  split at h
  · cases h
    obtain ⟨b, hb, rfl⟩ := hx.ptr_inv
    exact Step1.same r (by simp [execOp, ho, he]) rfl hx
  · cases h
    obtain ⟨b, o, f, _, _, _, _, rfl⟩ := hx.fptr_inv
    exact Step1.same r (by simp [execOp, ho, he]) rfl hx
  · cases h
    obtain ⟨cv, rfl, _⟩ := hx.func_inv
    exact Step1.same r (by simp [execOp, ho, he]) rfl hx
  · cases h

theorem list_nil {α : Type} {x : Array α} (h : x.toList = []) : x = #[] := by
  cases x; simp at h; subst h; rfl
theorem list_one {α β : Type} {x : Array α} {f : α → β} {y : β} (h : x.toList.map f = [y]) : ∃ u, x = #[u] ∧ f u = y := by
  obtain ⟨l⟩ := x
  match l, h with
  | [u], h => exact ⟨u, rfl, by simpa using h⟩
theorem list_two {α β : Type} {x : Array α} {f : α → β} {y z : β} (h : x.toList.map f = [y, z]) : ∃ u v, x = #[u, v] ∧ f u = y ∧ f v = z := by
  obtain ⟨l⟩ := x
  match l, h with
  | [u, v], h => simp at h; exact ⟨u, v, rfl, h.1, h.2⟩

theorem execOp_builtin (ρ : Operand → Value) (dst : Option Tmp) (b : Builtin) (xs : Array Operand) (ts : Array TypeId) (ty : TypeId) (pos : String) (after : Array Edge) (guard : Option (Nat × Bool)) :
    ∃ consts, execOp ρ { dst, op := .call { callee := .builtin b, args := xs, argTypes := ts }, type := ty, pos, after, guard } = builtin b ts ty consts (xs.map ρ) := ⟨_, rfl⟩

theorem abuiltin_ok {o : Oper} {c : Call} {rg : Regs} {a : Act} {out : Out} (ho : o.op = .call c) (r : Rel ρ F σ w) (ha : ∀ x, VRel F w ρ (aev rg x) (a.eval x)) (h : abuiltin P c.callee c.argTypes.toList (c.args.toList.map (aev rg)) σ = some out) (hcs : allP out.cs) :
    Step1 P F w ρ σ out (execOp a.eval o) := by
  obtain ⟨dst, op, ty, pos, af, g⟩ := o
  obtain ⟨callee, args, ats⟩ := c
  dsimp only at ho h
  subst ho
  have ev := ha
  unfold abuiltin at h
  split at h
  · split at h
    · rename_i b ts vs t u d x h1 h2
      obtain ⟨y, z, rfl, rfl, rfl⟩ := list_two h2
      have h1 : ats = #[t, u] := by cases ats; simp at h1; subst h1; rfl
      subst h1
      obtain ⟨consts, e⟩ := execOp_builtin a.eval dst .append #[y, z] #[t, u] ty pos af g
      rw [e]
      have e2 : #[y, z].map a.eval = #[a.eval y, a.eval z] := by simp
      rw [e2]
      exact (aappend_ok (ty := ty) r (ev y) (ev z) h hcs).step
    · rename_i b ts vs t x h1 h2
      obtain ⟨y, rfl, rfl⟩ := list_one h2
      have h1 : ats = #[t] := by cases ats; simp at h1; subst h1; rfl
      subst h1
      obtain ⟨consts, e⟩ := execOp_builtin a.eval dst .len #[y] #[t] ty pos af g
      rw [e]
      have e2 : #[y].map a.eval = #[a.eval y] := by simp
      rw [e2]
      exact (alen_ok (ty := ty) r (ev y) h).step
    · rename_i b ts vs t u k x k' y h1 h2
      obtain ⟨xo, yo, rfl, e1, e2⟩ := list_two h2
      have h1 : ats = #[t, u] := by cases ats; simp at h1; subst h1; rfl
      subst h1
      split at h
      · rename_i hk
        obtain rfl := eq_of_beq hk
        cases h
        obtain ⟨consts, e⟩ := execOp_builtin a.eval dst .min #[xo, yo] #[t, u] ty pos af g
        rw [e]
        have v1 := ev xo
        have v2 := ev yo
        rw [e1] at v1
        rw [e2] at v2
        have w1 := v1.int_inv
        have w2 := v2.int_inv
        have e3 : #[xo, yo].map a.eval = #[.int k x, .int k y] := by simp [w1, w2]
        rw [e3]
        exact Step1.same r (cv := .int k (imin x y)) (by simp [builtin, Builtin.min_, Builtin.min2, imin]) rfl (.int _ _ _)
      · cases h
    · rename_i b ts vs t x h1 h2
      obtain ⟨y, rfl, rfl⟩ := list_one h2
      have h1 : ats = #[t] := by cases ats; simp at h1; subst h1; rfl
      subst h1
      obtain ⟨consts, e⟩ := execOp_builtin a.eval dst .unsafeSliceData #[y] #[t] ty pos af g
      rw [e]
      have e2 : #[y].map a.eval = #[a.eval y] := by simp
      rw [e2]
      exact (aunsafeSliceData_ok (ty := ty) r (ev y) h hcs).step
    · rename_i b ts vs t u d x h1 h2
      obtain ⟨y, z, rfl, rfl, rfl⟩ := list_two h2
      have h1 : ats = #[t, u] := by cases ats; simp at h1; subst h1; rfl
      subst h1
      obtain ⟨consts, e⟩ := execOp_builtin a.eval dst .unsafeString #[y, z] #[t, u] ty pos af g
      rw [e]
      have e2 : #[y, z].map a.eval = #[a.eval y, a.eval z] := by simp
      rw [e2]
      exact (aunsafeString_ok (ty := ty) r (ev y) (ev z) h hcs).step
    · rename_i b ts vs t u k x k' y h1 h2
      obtain ⟨xo, yo, rfl, e1, e2⟩ := list_two h2
      have h1 : ats = #[t, u] := by cases ats; simp at h1; subst h1; rfl
      subst h1
      split at h
      · rename_i hk
        obtain rfl := eq_of_beq hk
        cases h
        obtain ⟨consts, e⟩ := execOp_builtin a.eval dst .max #[xo, yo] #[t, u] ty pos af g
        rw [e]
        have v1 := ev xo
        have v2 := ev yo
        rw [e1] at v1
        rw [e2] at v2
        have w1 := v1.int_inv
        have w2 := v2.int_inv
        have e3 : #[xo, yo].map a.eval = #[.int k x, .int k y] := by simp [w1, w2]
        rw [e3]
        exact Step1.same r (cv := .int k (imax x y)) (by simp [builtin, Builtin.max_, Builtin.max2, imax]) rfl (.int _ _ _)
      · cases h
    · cases h
  · cases h

theorem parts_ok {rg : Regs} {a : Act} (ha : ∀ x, VRel F w ρ (aev rg x) (a.eval x)) : ∀ (ps : List (Nat × Operand)), PParts F w ρ (ps.map fun p => (p.1, aev rg p.2)) (ps.map fun p => (p.1, a.eval p.2))
  | [] => trivial
  | p :: ps => ⟨rfl, ha _, parts_ok ha ps⟩
theorem opt_ok {rg : Regs} {a : Act} (ha : ∀ x, VRel F w ρ (aev rg x) (a.eval x)) (x : Option Operand) : ORelO F w ρ (x.map (aev rg)) (x.map a.eval) := by
  cases x with
  | none => trivial
  | some x => exact ha x

theorem execOp_build (ρ : Operand → Value) (dst : Option Tmp) (t : TypeId) (ps : Array (Nat × Operand)) (ty : TypeId) (pos : String) (after : Array Edge) (guard : Option (Nat × Bool)) :
    execOp ρ { dst, op := .build t ps, type := ty, pos, after, guard } = (do pure (.value (← Instr.build t (ps.map fun p => (p.1, ρ p.2))))) := rfl
theorem execOp_buildSlice (ρ : Operand → Value) (dst : Option Tmp) (t : TypeId) (n : Nat) (ps : Array (Nat × Operand)) (ty : TypeId) (pos : String) (after : Array Edge) (guard : Option (Nat × Bool)) :
    execOp ρ { dst, op := .buildSlice t n ps, type := ty, pos, after, guard } = (do pure (.value (← Instr.buildSlice t n (ps.map fun p => (p.1, ρ p.2))))) := rfl

theorem execOp_binOp (ρ : Operand → Value) (dst : Option Tmp) (b : BinOp) (t u : TypeId) (x y : Operand) (ty : TypeId) (pos : String) (after : Array Edge) (guard : Option (Nat × Bool)) :
    execOp ρ { dst, op := .binOp b t x y u, type := ty, pos, after, guard } = (do pure (.value (← (do eqGuard b t x y (ρ x) (ρ y); binOp b t (ρ x) (ρ y))))) := rfl

set_option maxHeartbeats 4000000 in
theorem aop_ok {o : Oper} {rg : Regs} {a : Act} {out : Out} (r : Rel ρ F σ w) (ha : ∀ x, VRel F w ρ (aev rg x) (a.eval x)) (h : aop P o.op o.type rg σ = some out) (hcs : allP out.cs) : Step1 P F w ρ σ out (execOp a.eval o) := by
  obtain ⟨dst, op, ty, pos, af, g⟩ := o
  have ev := ha
  unfold aop at h
  dsimp only at h
  split at h
  · rename_i x; cases h; exact Step1.same r (cv := a.eval x) rfl rfl (ev x)
  · rename_i x; cases h; exact Step1.same r (cv := a.eval x) rfl rfl (ev x)
  · exact (aalloc_ok r h).step
  · exact (abox_ok r (ev _) h).step
  · rename_i t ps
    rw [execOp_build]
    exact (abuild_ok (cparts := ps.map fun p => (p.1, a.eval p.2)) r (by simpa using parts_ok ha ps.toList) h).step
  · rename_i t n ps
    rw [execOp_buildSlice]
    exact (abuildSlice_ok (cparts := ps.map fun p => (p.1, a.eval p.2)) r (by simpa using parts_ok ha ps.toList) h).step
  · exact (aload_ok r (ev _) h hcs).step
  · exact (astore_ok r (ev _) (ev _) h hcs).step
  · rename_i x
    exact anilCheck_ok (xo := x) (cx := a.eval x) r rfl rfl (ev x) h
  · rw [execOp_binOp]
    exact (abinOp_ok r (ev _) (ev _) h hcs).step
  · exact (aunOp_ok r (ev _) h).step
  · exact (aconvert_ok2 r (ev _) h hcs).step
  · rename_i fn first cap
    unfold amakeFunc at h
    split at h
    · rename_i f h0
      cases h
      obtain rfl := list_nil h0
      refine Step1.same r (cv := .func (.func f) #[] (cap.map a.eval)) (by simp [execOp, Instr.makeFunc]) rfl (.func _ _ _ _ (by simp) fun i v u h1 h2 => ?_)
      simp only [List.getElem?_map, Array.getElem?_toList, Option.map_eq_some_iff] at h1
      obtain ⟨x, hx, rfl⟩ := h1
      simp only [Array.getElem?_map, hx, Option.map_some, Option.some.injEq] at h2
      subst h2; exact ev x
    · cases h
  · rename_i t rr
    cases rr with
    | none => exact (amakeMap_ok r h).step
    | some x => unfold amakeMap at h; simp at h
  · exact (amakeSlice_ok r (ev _) (ev _) h hcs).step
  · exact (aslice_ok r (ev _) (opt_ok ha _) (opt_ok ha _) (opt_ok ha _) h hcs).step
  · exact (afieldAddr_ok r (ev _) h).step
  · exact (afield_ok r (ev _) h).step
  · exact (aindexAddr_ok r (ev _) (ev _) h hcs).step
  · exact (aindex_ok r (ev _) (ev _) h hcs).step
  · exact (alookup_ok r (ev _) (ev _) h hcs).step
  · exact (amapUpdate_ok r (ev _) (ev _) (ev _) h hcs).step
  · exact (amapUpdate_ok r (ev _) (ev _) (ev _) h hcs).step
  · exact (amakeIface_ok r (ev _) h).step
  · exact (atypeAssert_ok r (ev _) h).step
  · exact (aextract_ok r (ev _) h).step
  · exact abuiltin_ok rfl r ha h hcs
  · cases h

end
end Go.Abs
