import Derived.Test.YtkecmndppllijaaDoorAbsLoop
set_option linter.unusedVariables false
set_option linter.unusedSectionVars false
set_option linter.unusedSimpArgs false
open Go.RowKit
namespace Go.Abs
variable [Glob]

/-- Nothing is known of them. -/
@[reducible] def noGlob : Glob := ⟨fun _ => none⟩
theorem GOk.none (F : Nat → Prop) (w : World) : @GOk noGlob F w := fun g v h => by cases h
/-- A law that is shown at an empty heap, its arguments frozen: what its row asks. -/
theorem FOk.law {P : Program} {f : FuncId} {as : List AVal} {σ' : AState} {v : AVal} (h : FOk P f as [] v σ') (hv : Imp v (.tt true)) (w : World) (args : Array Value) (hg : GOk (fun b => b < w.heap.size) w) (hp : PW (fun b => b < w.heap.size) w noId as args.toList) :
    Calls P f args w fun e w' => e = .returned (.bool true) ∧ Below w.heap.size w w' := by
  have r : Rel noId (fun b => b < w.heap.size) [] w := ⟨fun id o b h => by simp at h, fun id id' o o' b h => by simp at h, fun b hb => ⟨hb, fun ⟨id, o, h1, _⟩ => by simp at h1⟩, fun id b h => by simp [noId] at h, fun id _ => rfl⟩
  refine (h.2 _ w noId args r ⟨hg, hp⟩).mono fun e w' ⟨x, ρ', F', he, t, r', hx⟩ => ?_
  have hx := (hv _ _ _ _ hx).tt_inv
  subst hx
  refine ⟨he, ?_⟩
  have hk : ∀ b, b < w.heap.size → w'.heap[b]? = w.heap[b]? := fun b hb => t.keep b hb (fun ⟨id, o, h1, _⟩ => by simp at h1)
  exact ⟨t.os, t.tape, t.output, t.size, hk⟩

/-- conditions, one behind the other -/
def allC : List Prop → Prop
  | [] => True
  | p :: ps => p ∧ allC ps
theorem allP_of : ∀ {cs : List Prop}, allC cs → allP cs
  | [], _, p, hp => by simp at hp
  | q :: qs, h, p, hp => by
    rcases List.mem_cons.1 hp with rfl | hp
    · exact h.1
    · exact allP_of h.2 p hp

/-- trivial ones, so many -/
def tr (n : Nat) : List Prop := List.replicate n (true = true)
theorem trC (n : Nat) {l : List Prop} (h : allC l) : allC (tr n ++ l) := by
  induction n with
  | zero => exact h
  | succ n ih => exact ⟨rfl, ih⟩
theorem brE {b : Bool} {X : Prop} (h1 : b = true → X) (h2 : b = false → X) : X := by cases b; exact h2 rfl; exact h1 rfl
theorem FOk.wp {P : Program} {f : FuncId} {as : List AVal} {σ σ' : AState} {v : AVal} (h : ∃ r σ2, FOk P f as σ r σ2 ∧ (r = v ∧ σ2 = σ')) : FOk P f as σ v σ' := by
  obtain ⟨r, σ2, h1, rfl, rfl⟩ := h; exact h1
theorem TripN.wp {P : Program} {N : Nat} {c : Code} {rg rg' : Regs} {σ σ' : AState} {e : AExit} (h : ∃ e2 rg2 σ2, TripN P N c rg σ e2 rg2 σ2 ∧ (e2 = e ∧ rg2 = rg' ∧ σ2 = σ')) : TripN P N c rg σ e rg' σ' := by
  obtain ⟨e2, rg2, σ2, h1, rfl, rfl, rfl⟩ := h; exact h1

theorem FOk.imp {P : Program} {f : FuncId} {as : List AVal} {σ σ' : AState} {v v' : AVal} (h : FOk P f as σ v σ') (hi : Imp v v') : FOk P f as σ v' σ' :=
  ⟨h.1, fun F w ρ args r hp => (h.2 F w ρ args r hp).mono fun e w' ⟨x, ρ', F', he, t, r', hx⟩ => ⟨x, ρ', F', he, t, r', hi _ _ _ _ hx⟩⟩
theorem Imp.ttb {a b : Bool} (h : b = a) : Imp (.tt a) (.bool b) := fun F w ρ c hc => by subst h; obtain rfl := hc.tt_inv; exact .bool _ _
theorem Imp.any (v : AVal) : Imp v .any := fun F w ρ c hc => .any _ _

/-- What is handed back is nobody's any more. -/
theorem FOk.freeze {P : Program} {f : FuncId} {as : List AVal} {σ σ' : AState} {v : AVal} (h : FOk P f as σ v σ') {x : AVal × Frz} (hx : freezeA σ' v = some x) (hcs : allP x.2.cs) : FOk P f as σ x.1 x.2.σ :=
  ⟨h.1, fun F w ρ args r hp => (h.2 F w ρ args r hp).mono fun e w' ⟨y, ρ', F', he, t, r', hy⟩ => by
    obtain ⟨F2, r2, t2, hv⟩ := freezeA_ok r' hy hx hcs
    exact ⟨y, ρ', F2, he, Tr.trans r t t2, r2, hv.pure⟩⟩

/-- Other words for the arguments. -/
def Imps : List AVal → List AVal → Prop
  | [], [] => True
  | x :: xs, y :: ys => Imp x y ∧ Imps xs ys
  | _, _ => False
theorem Imps.pw {F : Nat → Prop} {w : World} {ρ : RMap} : ∀ {xs ys : List AVal} {cs : List Value}, Imps xs ys → PW F w ρ xs cs → PW F w ρ ys cs
  | [], [], cs, _, h => h
  | x :: xs, y :: ys, [], h, hp => by have := hp.1; simp at this
  | x :: xs, y :: ys, c :: cs, h, hp => by
    have ih : PW F w ρ ys cs := Imps.pw h.2 ⟨by have := hp.1; simpa using this, fun i a b h1 h2 => hp.2 (i + 1) a b (by simpa using h1) (by simpa using h2)⟩
    refine ⟨by simpa using ih.1, fun i a b h1 h2 => ?_⟩
    match i with
    | 0 =>
      simp only [List.getElem?_cons_zero, Option.some.injEq] at h1 h2
      subst h1; subst h2
      exact h.1 _ _ _ _ (hp.2 0 x c rfl rfl)
    | i + 1 => exact ih.2 i a b (by simpa using h1) (by simpa using h2)
  | [], _ :: _, _, h, _ => h.elim
  | _ :: _, [], _, h, _ => h.elim
theorem FOk.args {P : Program} {f : FuncId} {as as' : List AVal} {σ σ' : AState} {v : AVal} (h : FOk P f as σ v σ') (hi : Imps as' as) : FOk P f as' σ v σ' :=
  ⟨h.1, fun F w ρ args r hp => h.2 F w ρ args r ⟨hp.1, hi.pw hp.2⟩⟩
theorem Imp.agg {xs ys : List AVal} (h : Imps xs ys) : Imp (.agg xs) (.agg ys) := fun F w ρ c hc => by
  obtain ⟨cs, rfl, hp⟩ := PW.of_agg hc
  have := (h.pw hp).agg
  simpa using this
theorem Imp.nilSl (es es' : Nat) : Imp (.fsl true es [] (some 0)) (.fsl true es' [] none) := fun F w ρ c hc => by
  cases hc with
  | fnil _ _ _ _ => exact .fnil _ _ _ (by simp)

/-! ## Loops of a text -/
def loopsOf : Code → List Code
  | .loop c => c :: loopsOf c
  | .seq a b => loopsOf a ++ loopsOf b
  | .cond _ a b => loopsOf a ++ loopsOf b
  | .block _ c => loopsOf c
  | _ => []
def loopNo (f : Func) (k : Nat) : Code := (f.body.map fun c => (loopsOf c).getD k .skip).getD .skip

/-- registers, by their numbers, which rise -/
def mkRgo : List (Nat × AVal) → Nat → Nat → Regs
  | _, _, 0 => []
  | [], i, n + 1 => .any :: mkRgo [] (i + 1) n
  | p :: l, i, n + 1 => if p.1 == i then p.2 :: mkRgo l (i + 1) n else .any :: mkRgo (p :: l) (i + 1) n
def mkR (n : Nat) (l : List (Nat × AVal)) : Regs := mkRgo l 0 n
/-- those that are kept -/
def keepMgo : List Nat → Nat → Nat → List Bool
  | _, _, 0 => []
  | [], i, n + 1 => false :: keepMgo [] (i + 1) n
  | k :: l, i, n + 1 => if k == i then true :: keepMgo l (i + 1) n else false :: keepMgo (k :: l) (i + 1) n
def keepM (n : Nat) (l : List Nat) : List Bool := keepMgo l 0 n

theorem evalT {P : Program} {N : Nat} {c : Code} {st st' : St} {e : AExit} (hm : P.follows .mixedOrders = true) (h : evalC P (owed P N) c st = .ok (e, st')) (hcs : allP st'.cs) (k : List Bool) (π : List Nat) {rg2 : Regs} {σ2 : AState}
    (hr : keepR k st'.rg = renL (old π) rg2) (hh : π.map (fun j => st'.σ[j]?) = σ2.map fun o => some (renO (old π) o)) (ok : okMove N π st'.σ.length rg2 σ2 = true) :
    TripN P N c st.rg st.σ e rg2 σ2 :=
  ((evalC_ok hm c _ _ _ h hcs).2).move k π hr hh ok

end Go.Abs
