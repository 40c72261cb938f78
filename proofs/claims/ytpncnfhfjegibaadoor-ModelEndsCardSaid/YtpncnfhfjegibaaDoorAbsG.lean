import Derived.Recover
import Derived.Test.YtpncnfhfjegibaaDoorAbsF
section
set_option linter.unusedVariables false
set_option linter.unusedSimpArgs false
namespace Go.Abs

theorem or_add {a c k : Nat} (ha : a < 2 ^ k) : a ||| (c * 2 ^ k) = a + c * 2 ^ k := by
  rw [Nat.or_comm, Nat.add_comm, Nat.mul_comm]
  exact (Nat.two_pow_add_eq_or_of_lt ha c).symm
abbrev lB (s : ByteArray) : List UInt8 := s.data.toList
def bS (l : List UInt8) : ByteArray := ⟨l.toArray⟩
theorem bS_lB (s : ByteArray) : bS (lB s) = s := by cases s; simp [bS]
theorem lB_inj {a b : ByteArray} (h : lB a = lB b) : a = b := by rw [← bS_lB a, ← bS_lB b, h]
theorem lB_length (s : ByteArray) : (lB s).length = s.size := by cases s; simp [ByteArray.size]
theorem lB_extract (s : ByteArray) (a b : Nat) : lB (s.extract a b) = ((lB s).drop a).take (b - a) := by
  simp [lB, ByteArray.data_extract]
theorem toList_lB (s : ByteArray) : s.toList = lB s := by
  simp [lB, ByteArray.toList_eq]
theorem byteAt_lB (s : ByteArray) (n : Int) : byteAt s n = ((((lB s).getD n.toNat 0).toNat : Nat) : Int) := rfl

end Go.Abs
end

section
set_option linter.unusedVariables false
set_option linter.unusedSectionVars false
set_option linter.unusedSimpArgs false
namespace Go.Abs

section
variable [Glob]
theorem TrN.weaken {n m : Nat} {σ σ' : AState} {ρ ρ' : RMap} {F F' : FS} {w w' : World} (t : TrN m σ σ' ρ ρ' F F' w w') (h : n ≤ m) : TrN n σ σ' ρ ρ' F F' w w' := by
  refine ⟨fun id b h1 => t.map id b (by omega), t.frz, t.os, t.tape, t.output, t.size, t.row, t.keep, t.newF, fun id b h1 => t.back id b (by omega), fun id o' b h1 h2 h3 h4 => ?_, by have := t.len; omega, fun id o' h1 h2 h3 => t.live id o' h1 h2 (by omega), t.gho⟩
  rcases Nat.lt_or_ge id m with hl | hl
  · obtain ⟨o, g1, g2⟩ := t.live id o' h2 h3 hl
    exact .inr ⟨id, o, g1, g2, .inl (t.back id b hl h4)⟩
  · exact t.newρ id o' b hl h2 h3 h4
def Pre (P : Program) (n : Nat) (c X : Code) (rg : Regs) (σ : AState) (rg1 : Regs) (σ1 : AState) : Prop :=
  n ≤ σ.length → ∀ (F : FS) (w : World) (ρ : RMap) (a : Act) (Q : Exit → Act → World → Prop), Rel ρ F σ w → ARel F w ρ rg a →
    (∀ ρ' F' w' a', TrN n σ σ1 ρ ρ' F F' w w' → Rel ρ' F' σ1 w' → ARel F' w' ρ' rg1 a' → X.wp P Q a' w') → c.wp P Q a w
theorem Pre.one {P : Program} {n : Nat} {A X : Code} {rg rg1 : Regs} {σ σ1 : AState} (h : TripN P n A rg σ .normal rg1 σ1) : Pre P n (.seq A X) X rg σ rg1 σ1 :=
  fun hn F w ρ a Q r ha hQ => wp_seq (h hn F w ρ a _ r ha fun ρ' F' w' a' t r' ha' => hQ ρ' F' w' a' t r' ha')
theorem Pre.cons {P : Program} {n : Nat} {A B X : Code} {rg rg1 rg2 : Regs} {σ σ1 σ2 : AState} (h : TripN P n A rg σ .normal rg1 σ1) (h2 : Pre P n B X rg1 σ1 rg2 σ2) : Pre P n (.seq A B) X rg σ rg2 σ2 :=
  fun hn F w ρ a Q r ha hQ => wp_seq (h hn F w ρ a _ r ha fun ρ' F' w' a' t r' ha' => h2 t.len F' w' ρ' a' Q r' ha' fun ρ2 F2 w2 a2 t2 r2 ha2 => hQ ρ2 F2 w2 a2 (t.trans t2) r2 ha2)

end
end Go.Abs
end

section
set_option linter.unusedVariables false
set_option linter.unusedSectionVars false
set_option linter.unusedSimpArgs false
namespace Go.Abs
variable [Glob]

omit [Glob] in
theorem Imps.get : ∀ {xs ys : List AVal}, Imps xs ys → xs.length = ys.length ∧ ∀ (i : Nat) (y : AVal), ys[i]? = some y → ∃ x, xs[i]? = some x ∧ Imp x y
  | [], [], _ => ⟨rfl, fun i y h => by simp at h⟩
  | x :: xs, y :: ys, h => by
    obtain ⟨h1, h2⟩ := h.2.get
    refine ⟨by simp [h1], fun i z hz => ?_⟩
    cases i with
    | zero => simp at hz; subst hz; exact ⟨x, rfl, h.1⟩
    | succ i => simpa using h2 i z (by simpa using hz)
  | [], _ :: _, h => h.elim
  | _ :: _, [], h => h.elim
end Go.Abs
end

section
set_option linter.unusedVariables false
set_option linter.unusedSectionVars false
set_option linter.unusedSimpArgs false
namespace Go.Abs
variable [Glob]

theorem TripN.post {P : Program} {N : Nat} {c : Code} {rg rg' rg2 : Regs} {σ σ' σ2 : AState} {e : AExit} (h : TripN P N c rg σ e rg' σ') (m : List Bool) (π : List Nat) (hr : keepR m rg' = renL (old π) rg2)
    (hh : π.map (fun j => σ'[j]?) = σ2.map fun o => some (renO (old π) o)) (ok : okMove N π σ'.length rg2 σ2 = true) : TripN P N c rg σ e rg2 σ2 := by
  intro hn F w ρ a Q r ha hQ
  refine h hn F w ρ a Q r ha fun ρ' F' w' a' t r' ha' => ?_
  obtain ⟨t2, r2⟩ := move_rel t r' hh ok
  have hlen : π.length = σ2.length := by have := congrArg List.length hh; simpa using this
  have ok2 := ok
  unfold okMove at ok
  simp only [Bool.and_eq_true] at ok
  exact hQ _ _ w' a' t2 r2 (ha'.move hr (Nat.le_of_eq hlen.symm) ok.1.2)
end Go.Abs
end
