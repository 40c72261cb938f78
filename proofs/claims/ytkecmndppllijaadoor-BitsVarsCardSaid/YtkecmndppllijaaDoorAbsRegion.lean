import Derived.Test.YtkecmndppllijaaDoorAbsUse
import Derived.Orders
set_option linter.unusedVariables false
set_option linter.unusedSectionVars false
set_option linter.unusedSimpArgs false
namespace Go.Abs
variable [Glob]

def AExit.real : AExit → Exit
  | .normal => .normal
  | .exit id => .exit id
  | .ret => .ret

/-- What a piece of code does. -/
def Trip (P : Program) (c : Code) (rg : Regs) (σ : AState) (e : AExit) (rg' : Regs) (σ' : AState) : Prop :=
  ∀ (F : Nat → Prop) (w : World) (ρ : RMap) (a : Act) (Q : Exit → Act → World → Prop), Rel ρ F σ w → ARel F w ρ rg a →
    (∀ ρ' F' w' a', Tr σ σ' ρ ρ' F F' w w' → Rel ρ' F' σ' w' → ARel F' w' ρ' rg' a' → Q e.real a' w') → c.wp P Q a w

/-- What a piece of work inside a function has turned: the first so many places stand where they stood; the others may have got other names. -/
structure TrN (n : Nat) (σ σ' : AState) (ρ ρ' : RMap) (F F' : Nat → Prop) (w w' : World) : Prop where
  map : ∀ id b, id < n → ρ id = some b → ρ' id = some b
  frz : ∀ b, F b → F' b
  os : w'.os = w.os
  tape : w'.tape = w.tape
  output : w'.output = w.output
  size : w.heap.size ≤ w'.heap.size
  row : ∀ (b : Nat) (cs : Array Value) (T : TypeId) (fr : Nat × Nat), w.heap[b]? = some (.cells cs T fr) → ∃ cs' fr', w'.heap[b]? = some (.cells cs' T fr') ∧ cs'.size = cs.size
  keep : ∀ b, b < w.heap.size → ¬ Live ρ σ b → w'.heap[b]? = w.heap[b]?
  newF : ∀ b, F' b → F b ∨ w.heap.size ≤ b ∨ Live ρ σ b
  back : ∀ id b, id < n → ρ' id = some b → ρ id = some b
  newρ : ∀ id o' b, n ≤ id → σ'[id]? = some o' → o'.live = true → ρ' id = some b → w.heap.size ≤ b ∨ Live ρ σ b
  len : n ≤ σ'.length
  live : ∀ id o', σ'[id]? = some o' → o'.live = true → id < n → ∃ o, σ[id]? = some o ∧ o.live = true

theorem Tr.toN {n : Nat} {σ σ' : AState} {ρ ρ' : RMap} {F F' : Nat → Prop} {w w' : World} (t : Tr σ σ' ρ ρ' F F' w w') (r : Rel ρ F σ w) (hn : n ≤ σ.length) : TrN n σ σ' ρ ρ' F F' w w' := by
  refine ⟨fun id b _ => t.map id b, t.frz, t.os, t.tape, t.output, t.size, t.row, t.keep, t.newF, fun id b h1 h2 => ?_, fun id o' b h1 h2 h3 h4 => ?_, Nat.le_trans hn t.len, fun id o' h1 h2 h3 => t.live id o' h1 h2 (by omega)⟩
  · rcases t.newρ id b h2 with h | ⟨h, _⟩
    · exact h
    · omega
  · rcases t.newρ id b h4 with h | ⟨_, h⟩
    · rcases Nat.lt_or_ge id σ.length with hl | hl
      · obtain ⟨o, g1, g2⟩ := t.live id o' h2 h3 hl
        exact .inr ⟨id, o, g1, g2, h⟩
      · rw [r.dom id hl] at h; cases h
    · exact h

theorem TrN.live' {n : Nat} {σ σ' : AState} {ρ ρ' : RMap} {F F' : Nat → Prop} {w w' : World} (t : TrN n σ σ' ρ ρ' F F' w w') {b : Nat} (h : Live ρ' σ' b) : Live ρ σ b ∨ w.heap.size ≤ b := by
  obtain ⟨id, o, h1, h2, h3⟩ := h
  rcases Nat.lt_or_ge id n with hn | hn
  · obtain ⟨o', h6, h7⟩ := t.live _ _ h1 h2 hn
    exact .inl ⟨id, o', h6, h7, t.back _ _ hn h3⟩
  · exact (t.newρ id o b hn h1 h2 h3).symm

theorem TrN.trans {n : Nat} {σ σ1 σ2 : AState} {ρ ρ1 ρ2 : RMap} {F F1 F2 : Nat → Prop} {w w1 w2 : World} (a : TrN n σ σ1 ρ ρ1 F F1 w w1) (b : TrN n σ1 σ2 ρ1 ρ2 F1 F2 w1 w2) :
    TrN n σ σ2 ρ ρ2 F F2 w w2 := by
  refine ⟨fun id x hn h => b.map _ _ hn (a.map _ _ hn h), fun x h => b.frz _ (a.frz _ h), b.os.trans a.os, b.tape.trans a.tape, b.output.trans a.output, Nat.le_trans a.size b.size, ?_, ?_, ?_, fun id x hn h => a.back _ _ hn (b.back _ _ hn h), ?_, b.len, ?_⟩
  · intro x cs T fr h
    obtain ⟨cs1, fr1, h1, h2⟩ := a.row _ _ _ _ h
    obtain ⟨cs2, fr2, h3, h4⟩ := b.row _ _ _ _ h1
    exact ⟨cs2, fr2, h3, h4.trans h2⟩
  · intro x hx hn
    rw [b.keep x (Nat.lt_of_lt_of_le hx a.size) (fun hl => (a.live' hl).elim hn (fun h => absurd hx (Nat.not_lt.2 h))), a.keep x hx hn]
  · intro x hx
    rcases b.newF x hx with h | h | h
    · exact a.newF x h
    · exact .inr (.inl (Nat.le_trans a.size h))
    · exact (a.live' h).elim (fun h => .inr (.inr h)) (fun h => .inr (.inl h))
  · intro id o' x h1 h2 h3 h4
    rcases b.newρ id o' x h1 h2 h3 h4 with h | h
    · exact .inl (Nat.le_trans a.size h)
    · exact (a.live' h).elim .inr .inl
  · intro id o' h1 h2 h3
    obtain ⟨o, h4, h5⟩ := b.live id o' h1 h2 h3
    exact a.live id o h4 h5 h3

/-- What a piece of code does inside a function. -/
def TripN (P : Program) (n : Nat) (c : Code) (rg : Regs) (σ : AState) (e : AExit) (rg' : Regs) (σ' : AState) : Prop :=
  n ≤ σ.length → ∀ (F : Nat → Prop) (w : World) (ρ : RMap) (a : Act) (Q : Exit → Act → World → Prop), Rel ρ F σ w → ARel F w ρ rg a →
    (∀ ρ' F' w' a', TrN n σ σ' ρ ρ' F F' w w' → Rel ρ' F' σ' w' → ARel F' w' ρ' rg' a' → Q e.real a' w') → c.wp P Q a w

def owed (P : Program) (n : Nat) : Owed := ⟨FOk P, UseOk P, fun c rg σ e rg' σ' => TripN P n (.loop c) rg σ e rg' σ', n⟩

def Imp (v v' : AVal) : Prop := ∀ (F : Nat → Prop) (w : World) (ρ : RMap) (c : Value), VRel F w ρ v c → VRel F w ρ v' c
def RImp (rg rg' : Regs) : Prop := rg.length = rg'.length ∧ ∀ t, Imp (rg.getD t .any) (rg'.getD t .any)

theorem Imp.refl (v : AVal) : Imp v v := fun _ _ _ _ h => h
theorem RImp.refl (rg : Regs) : RImp rg rg := ⟨rfl, fun _ => Imp.refl _⟩
theorem RImp.trans {a b c : Regs} (h : RImp a b) (h' : RImp b c) : RImp a c := ⟨h.1.trans h'.1, fun t F w ρ x hx => h'.2 t _ _ _ _ (h.2 t _ _ _ _ hx)⟩
theorem rput_length (rg : Regs) (d : Option Tmp) (v : AVal) : (rput rg d v).length = rg.length := by cases d <;> simp [rput]
theorem rput_getD (rg : Regs) (d t : Tmp) (v : AVal) : (rput rg (some d) v).getD t .any = if d = t ∧ d < rg.length then v else rg.getD t .any := by
  simp only [rput, List.getD_eq_getElem?_getD, List.getElem?_set]
  split
  · rename_i e
    subst e
    split
    · rename_i h; simp [h]
    · rename_i h; simp [h, List.getElem?_eq_none (Nat.not_lt.1 h)]
  · rename_i e; simp [e]
theorem RImp.put {rg rg' : Regs} (h : RImp rg rg') (d : Option Tmp) (v : AVal) : RImp (rput rg d v) (rput rg' d v) := by
  cases d with
  | none => exact h
  | some d =>
    refine ⟨by rw [rput_length, rput_length]; exact h.1, fun t => ?_⟩
    rw [rput_getD, rput_getD, h.1]
    split
    · exact Imp.refl _
    · exact h.2 t
theorem RImp.set {rg : Regs} {x : Tmp} {v : AVal} (h : Imp (rg.getD x .any) v) : RImp rg (rput rg (some x) v) := by
  refine ⟨(rput_length _ _ _).symm, fun t => ?_⟩
  rw [rput_getD]
  split
  · rename_i e; rw [← e.1]; exact h
  · exact Imp.refl _

theorem ARel.imp {F : Nat → Prop} {w : World} {ρ : RMap} {rg rg' : Regs} {a : Act} (h : ARel F w ρ rg a) (hi : RImp rg rg') : ARel F w ρ rg' a := by
  refine ⟨hi.1.symm.trans h.size, fun i v u h1 h2 => ?_, h.defers, h.glob⟩
  have hlt : i < rg.length := by rw [hi.1]; exact (List.getElem?_eq_some_iff.1 h1).1
  have := hi.2 i F w ρ u
  rw [List.getD_eq_getElem?_getD, List.getD_eq_getElem?_getD, h1, List.getElem?_eq_getElem hlt] at this
  exact this (h.val i _ u (List.getElem?_eq_getElem hlt) h2)

def LookOk (F : Nat → Prop) (w : World) (ρ : RMap) (rg : Regs) (a : Act) (L : List Tmp) : Prop := GOk F w ∧ ∀ t ∈ L, VRel F w ρ (rg.getD t .any) (a.tmps.getD t undef)

theorem ARel.look {F : Nat → Prop} {w : World} {ρ : RMap} {rg : Regs} {a : Act} (h : ARel F w ρ rg a) (L : List Tmp) : LookOk F w ρ rg a L := ⟨h.glob, fun t _ => by
  have := aev_ok h (.tmp t)
  simpa [aev, Act.eval] using this⟩

/-- One operation, whatever else is in the frame. -/
def OpS (P : Program) (ops : Array Oper) (o : Oper) (rg : Regs) (σ : AState) (v : AVal) (σ' : AState) : Prop :=
  ∀ (F : Nat → Prop) (w : World) (ρ : RMap) (a : Act), Rel ρ F σ w → LookOk F w ρ rg a (o.looksAt ops) → ∀ (K : Act → World → Prop) (Q : Exit → Act → World → Prop),
    (∀ F' w' ρ' cv, Tr σ σ' ρ ρ' F F' w w' → Rel ρ' F' σ' w' → VRel F' w' ρ' v cv → K (a.put o.dst cv) w') →
    if Region.wanted o (yielded ops a.tmps) = true then o.wp P a w K Q else K (a.put o.dst undef) w

theorem LookOk.imp {F : Nat → Prop} {w : World} {ρ : RMap} {rg rg' : Regs} {a : Act} {L : List Tmp} (h : LookOk F w ρ rg a L) (hi : RImp rg rg') : LookOk F w ρ rg' a L :=
  ⟨h.1, fun t ht => hi.2 t _ _ _ _ (h.2 t ht)⟩

/-- the other temporaries, forgotten -/
def mask (L : List Tmp) (rg : Regs) : Regs := rg.mapIdx fun t v => if L.contains t then v else .any
theorem mask_getD {L : List Tmp} {rg : Regs} {t : Tmp} (h : t ∈ L) : (mask L rg).getD t .any = rg.getD t .any := by
  have hc : L.contains t = true := by simpa using h
  rw [List.getD_eq_getElem?_getD, List.getD_eq_getElem?_getD, mask, List.getElem?_mapIdx]
  cases hr : rg[t]? with
  | none => rfl
  | some v => simp [h]

end Go.Abs
