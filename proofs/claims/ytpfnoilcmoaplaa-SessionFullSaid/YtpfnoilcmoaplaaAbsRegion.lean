import Derived.Test.YtpfnoilcmoaplaaAbsUse
import Derived.Orders
set_option linter.unusedVariables false
set_option linter.unusedSimpArgs false
namespace Go.Abs

def AExit.real : AExit → Exit
  | .normal => .normal
  | .exit id => .exit id
  | .ret => .ret

/-- What a piece of code does. -/
def Trip (P : Program) (c : Code) (rg : Regs) (σ : AState) (e : AExit) (rg' : Regs) (σ' : AState) : Prop :=
  ∀ (F : Nat → Prop) (w : World) (ρ : RMap) (a : Act) (Q : Exit → Act → World → Prop), Rel ρ F σ w → ARel F w ρ rg a →
    (∀ ρ' F' w' a', Tr σ σ' ρ ρ' F F' w w' → Rel ρ' F' σ' w' → ARel F' w' ρ' rg' a' → Q e.real a' w') → c.wp P Q a w

def owed (P : Program) : Owed := ⟨FOk P, UseOk P, fun c rg σ e rg' σ' => Trip P (.loop c) rg σ e rg' σ'⟩

def Imp (v v' : AVal) : Prop := ∀ (F : Nat → Prop) (w : World) (ρ : RMap) (c : Value), VRel F w ρ v c → VRel F w ρ v' c
def RImp (rg rg' : Regs) : Prop := rg.length = rg'.length ∧ ∀ t, Imp (rg.getD t .any) (rg'.getD t .any)

theorem Imp.refl (v : AVal) : Imp v v := fun _ _ _ _ h => h
theorem RImp.refl (rg : Regs) : RImp rg rg := ⟨rfl, fun _ => Imp.refl _⟩
theorem RImp.trans {a b c : Regs} (h : RImp a b) (h' : RImp b c) : RImp a c := ⟨h.1.trans h'.1, fun t F w ρ x hx => h'.2 t _ _ _ _ (h.2 t _ _ _ _ hx)⟩
theorem rput_length (rg : Regs) (d : Option Tmp) (v : AVal) : (rput rg d v).length = rg.length := by cases d <;> simp [rput]
theorem rput_getD (rg : Regs) (d t : Tmp) (v : AVal) : (rput rg (some d) v).getD t .any = if d = t ∧ d < rg.length then v else rg.getD t .any := by
  simp only [rput, List.getD_eq_getElem?_getD, List.getElem?_set]
  split
  · rename_i e
    subst e
    split
    · rename_i h; simp [h]
    · rename_i h; simp [h, List.getElem?_eq_none (Nat.not_lt.1 h)]
  · rename_i e; simp [e]
theorem RImp.put {rg rg' : Regs} (h : RImp rg rg') (d : Option Tmp) (v : AVal) : RImp (rput rg d v) (rput rg' d v) := by
  cases d with
  | none => exact h
  | some d =>
    refine ⟨by rw [rput_length, rput_length]; exact h.1, fun t => ?_⟩
    rw [rput_getD, rput_getD, h.1]
    split
    · exact Imp.refl _
    · exact h.2 t
theorem RImp.set {rg : Regs} {x : Tmp} {v : AVal} (h : Imp (rg.getD x .any) v) : RImp rg (rput rg (some x) v) := by
  refine ⟨(rput_length _ _ _).symm, fun t => ?_⟩
  rw [rput_getD]
  split
  · rename_i e; rw [← e.1]; exact h
  · exact Imp.refl _

theorem ARel.imp {F : Nat → Prop} {w : World} {ρ : RMap} {rg rg' : Regs} {a : Act} (h : ARel F w ρ rg a) (hi : RImp rg rg') : ARel F w ρ rg' a := by
  refine ⟨hi.1.symm.trans h.size, fun i v u h1 h2 => ?_, h.defers⟩
  have hlt : i < rg.length := by rw [hi.1]; exact (List.getElem?_eq_some_iff.1 h1).1
  have := hi.2 i F w ρ u
  rw [List.getD_eq_getElem?_getD, List.getD_eq_getElem?_getD, h1, List.getElem?_eq_getElem hlt] at this
  exact this (h.val i _ u (List.getElem?_eq_getElem hlt) h2)

def LookOk (F : Nat → Prop) (w : World) (ρ : RMap) (rg : Regs) (a : Act) (L : List Tmp) : Prop := ∀ t ∈ L, VRel F w ρ (rg.getD t .any) (a.tmps.getD t undef)

theorem ARel.look {F : Nat → Prop} {w : World} {ρ : RMap} {rg : Regs} {a : Act} (h : ARel F w ρ rg a) (L : List Tmp) : LookOk F w ρ rg a L := fun t _ => by
  have := aev_ok h (.tmp t)
  simpa [aev, Act.eval] using this

/-- One operation, whatever else is in the frame. -/
def OpS (P : Program) (ops : Array Oper) (o : Oper) (rg : Regs) (σ : AState) (v : AVal) (σ' : AState) : Prop :=
  ∀ (F : Nat → Prop) (w : World) (ρ : RMap) (a : Act), Rel ρ F σ w → LookOk F w ρ rg a (o.looksAt ops) → ∀ (K : Act → World → Prop) (Q : Exit → Act → World → Prop),
    (∀ F' w' ρ' cv, Tr σ σ' ρ ρ' F F' w w' → Rel ρ' F' σ' w' → VRel F' w' ρ' v cv → K (a.put o.dst cv) w') →
    if Region.wanted o (yielded ops a.tmps) = true then o.wp P a w K Q else K (a.put o.dst undef) w

theorem LookOk.imp {F : Nat → Prop} {w : World} {ρ : RMap} {rg rg' : Regs} {a : Act} {L : List Tmp} (h : LookOk F w ρ rg a L) (hi : RImp rg rg') : LookOk F w ρ rg' a L :=
  fun t ht => hi.2 t _ _ _ _ (h t ht)

/-- the other temporaries, forgotten -/
def mask (L : List Tmp) (rg : Regs) : Regs := rg.mapIdx fun t v => if L.contains t then v else .any
theorem mask_getD {L : List Tmp} {rg : Regs} {t : Tmp} (h : t ∈ L) : (mask L rg).getD t .any = rg.getD t .any := by
  have hc : L.contains t = true := by simpa using h
  rw [List.getD_eq_getElem?_getD, List.getD_eq_getElem?_getD, mask, List.getElem?_mapIdx]
  cases hr : rg[t]? with
  | none => rfl
  | some v => simp [h]

end Go.Abs
