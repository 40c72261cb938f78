import Derived.Sort.Grow
import Derived.Sort.EncStr
import Derived.Test.YtpncnfhfjegibaaDoorAbsG
section
set_option linter.unusedVariables false
set_option linter.unusedSectionVars false
set_option linter.unusedSimpArgs false
namespace Go.Abs
variable [Glob]

section
variable {N : Nat} {P : Program}

omit [Glob] in
theorem Rel.reobj {ρ : RMap} {F : FS} {σ : AState} {w : World} (r : Rel ρ F σ w) {id : Nat} {o A : AObj} (ho : Abs.obj σ id = o) (hl : o.live = true) (hA : ∀ b, ρ id = some b → ORel F w ρ b A) (hAg : A.isGh = false := by rfl) :
    Rel ρ F (σ.set id A) w ∧ Tr σ (σ.set id A) ρ ρ F F w w := by
  have hid := obj_some ho hl
  cases hρ : ρ id with
  | some b => exact r.upd hid hl hρ rfl rfl rfl rfl (fun _ _ => rfl) (fun cs T fr h => ⟨cs, _, h, rfl⟩) (hA b hρ) hAg
  | none =>
    have hcase : ∀ x o', (σ.set id A)[x]? = some o' → (x = id ∧ o' = A) ∨ (x ≠ id ∧ σ[x]? = some o') := by
      intro x o' h
      rw [List.getElem?_set] at h
      by_cases e : id = x
      · subst e; simp only [if_true] at h; split at h
        · exact .inl ⟨rfl, by simpa using h.symm⟩
        · cases h
      · simp only [e, if_false] at h; exact .inr ⟨fun e' => e e'.symm, h⟩
    have hO : ∀ x o' b, (σ.set id A)[x]? = some o' → Own F ρ x o' b → σ[x]? = some o' := by
      intro x o' b h1 h2
      rcases hcase x o' h1 with ⟨rfl, _⟩ | ⟨_, g⟩
      · rcases h2 with h | ⟨_, y, h, _⟩ <;> (rw [hρ] at h; cases h)
      · exact g
    refine ⟨⟨fun x o' b h1 h2 => ?_, fun x y o1 o2 b h1 h2 h3 h4 h5 h6 => r.injO x y o1 o2 b (hO x o1 b h1 h5) (hO y o2 b h2 h6) h3 h4 h5 h6, fun b hb => ⟨(r.fr b hb).1, fun ⟨x, o', h1, h2, h3⟩ => (r.fr b hb).2 ⟨x, o', hO x o' b h1 h3, h2, h3⟩⟩, r.lt, fun x h => r.dom x (by simpa using h)⟩,
      ⟨fun _ _ h => h, fun _ h => h, rfl, rfl, rfl, Nat.le_refl _, fun _ cs _ _ h => ⟨cs, _, h, rfl⟩, fun _ _ _ => rfl, fun _ h => .inl h, fun _ _ h => .inl h, by simp, fun x o' h1 h2 _ => ?_, .same rfl fun x o' y h1 _ h3 => ⟨x, hO x o' y h1 (.inl h3), h3⟩⟩⟩
    · exact r.obj x o' b (hO x o' b h1 (.inl h2)) h2
    · rcases hcase x o' h1 with ⟨rfl, _⟩ | ⟨_, g1⟩
      · exact ⟨o, hid, hl⟩
      · exact ⟨o', g1, h2⟩

omit [Glob] in
theorem brl_range (n : Nat) : BRL (List.range n) n := ⟨List.pairwise_lt_range, fun b hb => by simpa using hb⟩
omit [Glob] in
theorem Rel.born {ρ : RMap} {F : FS} {σ : AState} {w : World} (r : Rel ρ F σ w) {id : Nat} {p : Bool} {ents : List (AVal × AVal)} (ho : Abs.obj σ id = .mp p ents) :
    ∃ bs c, BRL bs c ∧ bs.length = ents.length ∧ Rel ρ F (σ.set id (.mpn p ents bs c)) w ∧ Tr σ (σ.set id (.mpn p ents bs c)) ρ ρ F F w w := by
  cases hρ : ρ id with
  | none =>
    obtain ⟨r1, t1⟩ := r.reobj (A := .mpn p ents (List.range ents.length) ents.length) ho rfl (fun b h => by rw [hρ] at h; cases h)
    exact ⟨_, _, brl_range _, by simp, r1, t1⟩
  | some b =>
    obtain ⟨es, c, h1, h2, h3, h4⟩ := r.obj _ _ _ (obj_some ho rfl) hρ
    obtain ⟨r1, t1⟩ := r.reobj (A := .mpn p ents (bornL es) c) ho rfl (fun b' h => by rw [hρ] at h; cases h; exact ⟨es, h1, h2, ⟨h3, rfl⟩, h4⟩)
    exact ⟨_, _, h3, by simp [bornL, h2], r1, t1⟩
omit [Glob] in
theorem Rel.unborn {ρ : RMap} {F : FS} {σ : AState} {w : World} (r : Rel ρ F σ w) {id : Nat} {p : Bool} {ents : List (AVal × AVal)} {bs : List Nat} {c : Nat} (ho : Abs.obj σ id = .mpn p ents bs c) :
    Rel ρ F (σ.set id (.mp p ents)) w ∧ Tr σ (σ.set id (.mp p ents)) ρ ρ F F w w :=
  r.reobj ho rfl fun b h => by
    obtain ⟨es, h1, h2, h3, h4⟩ := r.obj _ _ _ (obj_some ho rfl) h
    exact ⟨es, c, h1, h2, h3.1, h4⟩
omit [Glob] in
theorem Rel.bagged {ρ : RMap} {F : FS} {σ : AState} {w : World} (r : Rel ρ F σ w) {id es : Nat} {rs rs' : List (List AVal)} (ho : Abs.obj σ id = .rows true es rs') (hp : rs'.Perm rs) :
    Rel ρ F (σ.set id (.bag es rs)) w ∧ Tr σ (σ.set id (.bag es rs)) ρ ρ F F w w :=
  r.reobj ho rfl fun b h => ⟨rs', hp, r.obj _ _ _ (obj_some ho rfl) h⟩
omit [Glob] in
theorem Rel.unbag {ρ : RMap} {F : FS} {σ : AState} {w : World} (r : Rel ρ F σ w) {id es : Nat} {rs : List (List AVal)} (ho : Abs.obj σ id = .bag es rs) :
    ∃ rs' : List (List AVal), rs'.Perm rs ∧ Rel ρ F (σ.set id (.rows true es rs')) w ∧ Tr σ (σ.set id (.rows true es rs')) ρ ρ F F w w := by
  cases hρ : ρ id with
  | none =>
    obtain ⟨r1, t1⟩ := r.reobj (A := .rows true es rs) ho rfl (fun b h => by rw [hρ] at h; cases h)
    exact ⟨rs, List.Perm.refl _, r1, t1⟩
  | some b =>
    obtain ⟨rs', hp, h⟩ := r.obj _ _ _ (obj_some ho rfl) hρ
    obtain ⟨r1, t1⟩ := r.reobj (A := .rows true es rs') ho rfl (fun b' h' => by rw [hρ] at h'; cases h'; exact h)
    exact ⟨rs', hp, r1, t1⟩

def Weak (n : Nat) (rg : Regs) (σ : AState) (rg' : Regs) (σ' : AState) : Prop :=
  n ≤ σ.length → ∀ (F : FS) (w : World) (ρ : RMap) (a : Act), Rel ρ F σ w → ARel F w ρ rg a → ∃ ρ' F', TrN n σ σ' ρ ρ' F F' w w ∧ Rel ρ' F' σ' w ∧ ARel F' w ρ' rg' a
theorem Weak.refl {rg : Regs} {σ : AState} : Weak N rg σ rg σ := fun hn F w ρ a r ha => ⟨ρ, F, TrN.refl _ _ _ _ _ r hn, r, ha⟩
theorem Weak.trans {rg rg1 rg2 : Regs} {σ σ1 σ2 : AState} (h : Weak N rg σ rg1 σ1) (h2 : Weak N rg1 σ1 rg2 σ2) : Weak N rg σ rg2 σ2 := fun hn F w ρ a r ha => by
  obtain ⟨ρ1, F1, t1, r1, a1⟩ := h hn F w ρ a r ha
  obtain ⟨ρ2, F2, t2, r2, a2⟩ := h2 t1.len F1 w ρ1 a r1 a1
  exact ⟨ρ2, F2, t1.trans t2, r2, a2⟩
theorem Weak.regs {rg rg' : Regs} {σ : AState} (h : RImp rg rg') : Weak N rg σ rg' σ := fun hn F w ρ a r ha => ⟨ρ, F, TrN.refl _ _ _ _ _ r hn, r, ha.imp h⟩
theorem Weak.of {rg : Regs} {σ σ' : AState} (h : ∀ (F : FS) (w : World) (ρ : RMap), Rel ρ F σ w → Rel ρ F σ' w ∧ Tr σ σ' ρ ρ F F w w) : Weak N rg σ rg σ' := fun hn F w ρ a r ha => by
  obtain ⟨r1, t1⟩ := h F w ρ r
  exact ⟨ρ, F, t1.toN r hn, r1, ha⟩
theorem Weak.unborn {rg : Regs} {σ : AState} {id : Nat} {p : Bool} {ents : List (AVal × AVal)} {bs : List Nat} {c : Nat} (ho : Abs.obj σ id = .mpn p ents bs c) : Weak N rg σ rg (σ.set id (.mp p ents)) := .of fun F w ρ r => r.unborn ho
theorem Weak.bagged {rg : Regs} {σ : AState} {id es : Nat} {rs rs' : List (List AVal)} (ho : Abs.obj σ id = .rows true es rs') (hp : rs'.Perm rs) : Weak N rg σ rg (σ.set id (.bag es rs)) := .of fun F w ρ r => r.bagged ho hp
theorem Weak.kill {rg : Regs} {σ : AState} {id : Nat} (hl : (Abs.obj σ id).live = true) : Weak N rg σ rg (σ.set id .dead) := .of fun F w ρ r => r.reobj rfl hl fun _ _ => trivial
theorem Weak.move {rg rg2 : Regs} {σ σ2 : AState} (m : List Bool) (π : List Nat) (hr : keepR m rg = renL (old π) rg2) (hh : π.map (fun j => σ[j]?) = σ2.map fun o => some (renO (old π) o)) (ok : okMove N π σ.length rg2 σ2 = true) : Weak N rg σ rg2 σ2 := fun hn F w ρ a r ha => by
  obtain ⟨t2, r2⟩ := move_rel (TrN.refl N σ ρ F w r hn) r hh ok
  have hlen : π.length = σ2.length := by have := congrArg List.length hh; simpa using this
  unfold okMove at ok
  simp only [Bool.and_eq_true] at ok
  exact ⟨_, F, t2, r2, ha.move hr (Nat.le_of_eq hlen.symm) ok.1.2⟩
theorem Weak.pre {c : Code} {rg rg2 rg' : Regs} {σ σ2 σ' : AState} {e : AExit} (h : Weak N rg σ rg2 σ2) (t : TripN P N c rg2 σ2 e rg' σ') : TripN P N c rg σ e rg' σ' := fun hn F w ρ a Q r ha hQ => by
  obtain ⟨ρ1, F1, t1, r1, a1⟩ := h hn F w ρ a r ha
  exact t t1.len F1 w ρ1 a Q r1 a1 fun ρ' F' w' a' t' r' ha' => hQ ρ' F' w' a' (t1.trans t') r' ha'
theorem TripN.weak {c : Code} {rg rg2 rg' : Regs} {σ σ2 σ' : AState} {e : AExit} (t : TripN P N c rg σ e rg2 σ2) (h : Weak N rg2 σ2 rg' σ') : TripN P N c rg σ e rg' σ' := fun hn F w ρ a Q r ha hQ =>
  t hn F w ρ a Q r ha fun ρ1 F1 w1 a1 t1 r1 ha1 => by
    obtain ⟨ρ2, F2, t2, r2, a2⟩ := h t1.len F1 w1 ρ1 a1 r1 ha1
    exact hQ ρ2 F2 w1 a1 (t1.trans t2) r2 a2

def RunD (P : Program) (n : Nat) (c : Code) (rg : Regs) (σ : AState) (Post : AExit → Regs → AState → Prop) : Prop :=
  n ≤ σ.length → ∀ (F : FS) (w : World) (ρ : RMap) (a : Act) (Q : Exit → Act → World → Prop), Rel ρ F σ w → ARel F w ρ rg a →
    (∀ e rg' σ' ρ' F' w' a', Post e rg' σ' → TrN n σ σ' ρ ρ' F F' w w' → Rel ρ' F' σ' w' → ARel F' w' ρ' rg' a' → Q e.real a' w') → c.wp P Q a w

theorem TripN.runD {c : Code} {rg rg' : Regs} {σ σ' : AState} {e : AExit} {Post : AExit → Regs → AState → Prop} (h : TripN P N c rg σ e rg' σ') (hp : Post e rg' σ') : RunD P N c rg σ Post :=
  fun hn F w ρ a Q r ha hQ => h hn F w ρ a Q r ha fun ρ' F' w' a' t r' ha' => hQ e rg' σ' ρ' F' w' a' hp t r' ha'
theorem RunD.out {c : Code} {rg : Regs} {σ : AState} {Post Post' : AExit → Regs → AState → Prop} (h : RunD P N c rg σ Post) (hm : ∀ e rg1 σ1, Post e rg1 σ1 → ∃ rg2 σ2, Weak N rg1 σ1 rg2 σ2 ∧ Post' e rg2 σ2) : RunD P N c rg σ Post' :=
  fun hn F w ρ a Q r ha hQ => h hn F w ρ a Q r ha fun e rg1 σ1 ρ1 F1 w1 a1 hp t1 r1 ha1 => by
    obtain ⟨rg2, σ2, hw, hp2⟩ := hm e rg1 σ1 hp
    obtain ⟨ρ2, F2, t2, r2, a2⟩ := hw t1.len F1 w1 ρ1 a1 r1 ha1
    exact hQ e rg2 σ2 ρ2 F2 w1 a1 hp2 (t1.trans t2) r2 a2
theorem RunD.mono {c : Code} {rg : Regs} {σ : AState} {Post Post' : AExit → Regs → AState → Prop} (h : RunD P N c rg σ Post) (hm : ∀ e rg1 σ1, Post e rg1 σ1 → Post' e rg1 σ1) : RunD P N c rg σ Post' :=
  h.out fun e rg1 σ1 hp => ⟨rg1, σ1, .refl, hm e rg1 σ1 hp⟩
theorem RunD.pre {c : Code} {rg rg2 : Regs} {σ σ2 : AState} {Post : AExit → Regs → AState → Prop} (h : RunD P N c rg2 σ2 Post) (hw : Weak N rg σ rg2 σ2) : RunD P N c rg σ Post := fun hn F w ρ a Q r ha hQ => by
  obtain ⟨ρ1, F1, t1, r1, a1⟩ := hw hn F w ρ a r ha
  exact h t1.len F1 w ρ1 a Q r1 a1 fun e rg' σ' ρ' F' w' a' hp t' r' ha' => hQ e rg' σ' ρ' F' w' a' hp (t1.trans t') r' ha'
theorem RunD.trip {c : Code} {rg rg' : Regs} {σ σ' : AState} {e0 : AExit} (h : RunD P N c rg σ fun e r s => e = e0 ∧ r = rg' ∧ s = σ') : TripN P N c rg σ e0 rg' σ' :=
  fun hn F w ρ a Q r ha hQ => h hn F w ρ a Q r ha fun e rg1 σ1 ρ1 F1 w1 a1 hp t1 r1 ha1 => by
    obtain ⟨rfl, rfl, rfl⟩ := hp
    exact hQ ρ1 F1 w1 a1 t1 r1 ha1
theorem RunD.seq {x y : Code} {rg : Regs} {σ : AState} {mid Post : AExit → Regs → AState → Prop} (h1 : RunD P N x rg σ mid) (h2 : ∀ rg1 σ1, mid .normal rg1 σ1 → RunD P N y rg1 σ1 Post) (h3 : ∀ e rg1 σ1, mid e rg1 σ1 → e ≠ .normal → Post e rg1 σ1) : RunD P N (.seq x y) rg σ Post :=
  fun hn F w ρ a Q r ha hQ => wp_seq (h1 hn F w ρ a _ r ha fun e rg1 σ1 ρ1 F1 w1 a1 hp t1 r1 ha1 => by
    cases e with
    | normal => exact h2 rg1 σ1 hp t1.len F1 w1 ρ1 a1 Q r1 ha1 fun e2 rg2 σ2 ρ2 F2 w2 a2 hp2 t2 r2 ha2 => hQ e2 rg2 σ2 ρ2 F2 w2 a2 hp2 (t1.trans t2) r2 ha2
    | exit k => exact hQ (.exit k) rg1 σ1 ρ1 F1 w1 a1 (h3 _ _ _ hp (by simp)) t1 r1 ha1
    | pan t => exact hQ (.pan t) rg1 σ1 ρ1 F1 w1 a1 (h3 _ _ _ hp (by simp)) t1 r1 ha1
    | ret => exact hQ .ret rg1 σ1 ρ1 F1 w1 a1 (h3 _ _ _ hp (by simp)) t1 r1 ha1)

inductive LoopD (P : Program) (N : Nat) (c : Code) (Post : AExit → Regs → AState → Prop) : Regs → AState → Prop
  | step {rg σ} (mid : AExit → Regs → AState → Prop) (h : RunD P N c rg σ mid) (hn : ∀ rg' σ', mid .normal rg' σ' → LoopD P N c Post rg' σ') (he : ∀ e rg' σ', e ≠ .normal → mid e rg' σ' → Post e rg' σ') : LoopD P N c Post rg σ

theorem LoopD.run {c : Code} {rg : Regs} {σ : AState} {Post : AExit → Regs → AState → Prop} (h : LoopD P N c Post rg σ) : N ≤ σ.length → ∀ (F : FS) (w : World) (ρ : RMap) (a : Act) (Q : Exit → Act → World → Prop), Rel ρ F σ w → ARel F w ρ rg a →
    (∀ e rg' σ' ρ' F' w' a', Post e rg' σ' → TrN N σ σ' ρ ρ' F F' w w' → Rel ρ' F' σ' w' → ARel F' w' ρ' rg' a' → Q e.real a' w') → ∀ (b : Frame) (k : List Item) (cs : List Frame),
      ∃ e a' w', Q e a' w' ∧ Arrives P (lone (b.at a (.code c :: .inLoop c :: k)) cs w) b k cs e a' w' := by
  induction h with
  | @step rg σ mid h hn he ih =>
    intro hN F w ρ a Q r ha hQ b k cs
    obtain ⟨e1, a1, w1, ⟨e, rg1, σ1, rfl, hm, ρ1, F1, t1, r1, ha1⟩, harr⟩ := h hN F w ρ a (fun e' a' w' => ∃ e rg1 σ1, e' = AExit.real e ∧ mid e rg1 σ1 ∧ ∃ ρ' F', TrN N σ σ1 ρ ρ' F F' w w' ∧ Rel ρ' F' σ1 w' ∧ ARel F' w' ρ' rg1 a') r ha
      (fun e rg' σ' ρ' F' w' a' hp t r' ha' => ⟨e, rg', σ', rfl, hp, ρ', F', t, r', ha'⟩) b (.inLoop c :: k) cs
    by_cases hen : e = .normal
    · subst hen
      obtain ⟨e2, a2, w2, hq2, harr2⟩ := ih rg1 σ1 hm t1.len F1 w1 ρ1 a1 Q r1 ha1 (fun e rg' σ' ρ' F' w' a' hp t r' ha' => hQ e rg' σ' ρ' F' w' a' hp (TrN.trans t1 t) r' ha') b k cs
      exact ⟨e2, a2, w2, hq2, .of_steps (Steps.trans harr (.one step_inLoop)) harr2⟩
    · have hne : e.real ≠ .normal := by cases e <;> simp [AExit.real] at hen ⊢
      exact ⟨e.real, a1, w1, hQ e rg1 σ1 ρ1 F1 w1 a1 (he e rg1 σ1 hen hm) t1 r1 ha1, .pass (x := .inLoop c) rfl (fun _ _ => .inl hne) harr⟩
theorem LoopD.runD {c : Code} {rg : Regs} {σ : AState} {Post : AExit → Regs → AState → Prop} (h : LoopD P N c Post rg σ) : RunD P N (.loop c) rg σ Post :=
  fun hn F w ρ a Q r ha hQ b k cs => let ⟨e, a', w', q, arr⟩ := h.run hn F w ρ a Q r ha hQ b k cs; ⟨e, a', w', q, .of_steps (.one step_loop) arr⟩

theorem execOp_next (ρ : Operand → Value) (dst : Option Tmp) (x : Operand) (s : Bool) (ty : TypeId) (pos : String) (after : Array Edge) (guard : Option (Nat × Bool)) :
    execOp ρ { dst, op := .next x s, type := ty, pos, after, guard } = (do pure (.value (← Instr.next (ρ x) s ty))) := rfl
theorem execOp_extract (ρ : Operand → Value) (dst : Option Tmp) (x : Operand) (i : Nat) (ty : TypeId) (pos : String) (after : Array Edge) (guard : Option (Nat × Bool)) :
    execOp ρ { dst, op := .extract x i, type := ty, pos, after, guard } = (do pure (.value (← Instr.extract (ρ x) i))) := rfl

theorem next_runD {i : Nat} {it t1 t2 : Tmp} {ty1 ty2 : TypeId} {p1 p2 : String} {a1 a2 : Array Edge} {rg : Regs} {σ : AState} {x es m c : Nat} {seen bs : List Nat} {p : Bool} {ents : List (AVal × AVal)}
    (h1 : rg.getD it .any = .ptr x es 0 0) (h2 : Abs.obj σ x = .miter (some m) c seen c) (h3 : Abs.obj σ m = .mpn p ents bs c) (hl1 : t1 < rg.length) :
    RunD P N (.region i #[{ dst := some t1, op := .next (.tmp it) false, type := ty1, pos := p1, after := a1, guard := none }, { dst := some t2, op := .extract (.tmp t1) 0, type := ty2, pos := p2, after := a2, guard := none }] false) rg σ
      fun e rg' σ' => e = .normal ∧ (((∀ b ∈ bs, b ∈ seen) ∧ rg' = (rg.set t1 .any).set t2 (.tt false) ∧ σ' = σ) ∨
        ∃ b ∈ bs, b ∉ seen ∧ rg' = (rg.set t1 .any).set t2 (.tt true) ∧ σ' = σ.set x (.miter (some m) c (seen ++ [b]) c)) := by
  intro hn F w ρ a Q r ha hQ
  refine wp_region ?_
  have hid := obj_some h2 rfl
  have hv := aev_ok ha (.tmp it)
  simp only [aev, h1, Act.eval] at hv
  obtain ⟨b, hb, hval⟩ := hv.ptr_inv
  rw [show 0 * es + 0 = 0 by omega] at hval
  obtain ⟨mb, hm, hw⟩ := r.obj _ _ _ hid hb
  obtain ⟨ea, hwm, hsz, hbr, hpe⟩ := r.obj _ _ _ (obj_some h3 rfl) hm
  obtain ⟨n1, _, n3⟩ := run_nextM (P := P) hw hwm (bornlt hbr.1) rfl rfl ty1
  have hsize : t1 < a.tmps.size := by rw [← ha.size]; exact hl1
  have step : ∀ (w' : World) (cv : Value) (bo : Bool) (rest : List Value), cv = .tuple (.bool bo :: rest).toArray → (Instr.next (.pointer (some ⟨b, 0, none⟩)) false ty1).run P w = .ok cv w' →
      Q .normal ((a.put (some t1) cv).put (some t2) (.bool bo)) w' →
      wpOps P #[{ dst := some t1, op := .next (.tmp it) false, type := ty1, pos := p1, after := a1, guard := none }, { dst := some t2, op := .extract (.tmp t1) 0, type := ty2, pos := p2, after := a2, guard := none }] Q (List.range 2) a w := by
    intro w' cv bo rest hcv hrun hq
    rw [show List.range 2 = [0, 1] from rfl]
    simp only [wpOps, List.getElem?_toArray, List.getElem?_cons_zero, List.getElem?_cons_succ, Region.wanted, if_true]
    refine .inl ?_
    unfold Oper.wp
    rw [execOp_next]
    simp only [Act.eval, hval, Sem.run_bind, hrun, Result.andThen_ok, Sem.run_pure]
    rw [Oper.upon_value]
    refine .inl ?_
    try unfold Oper.wp
    rw [execOp_extract]
    have hev : (a.put (some t1) cv).eval (.tmp t1) = cv := by
      simp only [Act.eval, Act.put, Array.getD_eq_getD_getElem?]
      rw [Array.getElem?_setIfInBounds]
      simp [hsize]
    rw [hev, hcv]
    simp only [Instr.extract, Sem.run_bind, Sem.run_pure, Result.andThen_ok, List.size_toArray, List.getElem?_toArray, List.getElem?_cons_zero]
    rw [Oper.upon_value, ← hcv]
    exact hq
  show wpOps P _ Q (List.range 2) a w
  by_cases hall : ea.toList.filter (fun e => !seen.contains e.born) = []
  · refine step w (.tuple #[.bool false]) false [] rfl (n1 hall) ?_
    refine hQ .normal _ _ ρ F w _ ⟨rfl, .inl ⟨fun y hy => ?_, rfl, rfl⟩⟩ (TrN.refl _ _ _ _ _ r hn) r ((ha.put (some t1) (.any _ _)).put (some t2) (.tt _ _))
    rw [← hbr.2] at hy
    obtain ⟨e, he, rfl⟩ := List.mem_map.1 hy
    have := List.filter_eq_nil_iff.1 hall e he
    simpa using this
  · obtain ⟨e, he, d, hrun⟩ := n3 hall
    refine step _ (.tuple #[.bool true, e.key, e.val]) true [e.key, e.val] rfl hrun ?_
    have hmem := List.mem_filter.1 he
    have hA : ORel F { w with heap := w.heap.setIfInBounds b (.mapIter (some mb) c (seen ++ [e.born]).toArray c), drawn := d } ρ b (.miter (some m) c (seen ++ [e.born]) c) := by
      refine ⟨mb, hm, ?_⟩
      show (w.heap.setIfInBounds b _)[b]? = _
      have hbl := (Array.getElem?_eq_some_iff.1 hw).1
      rw [Array.getElem?_setIfInBounds]; simp [hbl]
    obtain ⟨r2, tt2⟩ := r.upd (A := .miter (some m) c (seen ++ [e.born]) c) (w' := { w with heap := w.heap.setIfInBounds b (.mapIter (some mb) c (seen ++ [e.born]).toArray c), drawn := d }) hid rfl hb (by simp) rfl rfl rfl
      (fun x hx => Array.getElem?_setIfInBounds_ne (fun e => hx e.symm)) (fun cs T fr h => by rw [hw] at h; cases h) hA
    refine hQ .normal _ _ ρ F _ _ ⟨rfl, .inr ⟨e.born, ?_, by simpa using hmem.2, rfl, rfl⟩⟩ (tt2.toN r hn) r2 (((ha.tr r tt2).put (some t1) (.any _ _)).put (some t2) (.tt _ _))
    rw [← hbr.2]
    exact List.mem_map.2 ⟨e, hmem.1, rfl⟩

def restOf : Code → Code
  | .seq _ y => y
  | c => c
theorem RunD.of {c : Code} {rg : Regs} {σ : AState} {Post : AExit → Regs → AState → Prop} (h : ∃ e rg' σ', TripN P N c rg σ e rg' σ' ∧ Post e rg' σ') : RunD P N c rg σ Post := by
  obtain ⟨e, rg', σ', h1, h2⟩ := h
  exact h1.runD h2
theorem mapLoop {c rest : Code} {i : Nat} {it t1 t2 : Tmp} {ty1 ty2 : TypeId} {p1 p2 : String} {a1 a2 : Array Edge} {Post : AExit → Regs → AState → Prop} (hc : c = .seq (.region i #[{ dst := some t1, op := .next (.tmp it) false, type := ty1, pos := p1, after := a1, guard := none }, { dst := some t2, op := .extract (.tmp t1) 0, type := ty2, pos := p2, after := a2, guard := none }] false) rest)
    (bs0 : List Nat) (I : List Nat → Regs → AState → Prop)
    (hI : ∀ seen rg σ, I seen rg σ → ∃ x es m c p ents bs, rg.getD it .any = .ptr x es 0 0 ∧ Abs.obj σ x = .miter (some m) c seen c ∧ Abs.obj σ m = .mpn p ents bs c ∧ t1 < rg.length ∧ (∀ b ∈ bs, b ∈ bs0) ∧
      (∀ b ∈ bs, b ∉ seen → RunD P N rest ((rg.set t1 .any).set t2 (.tt true)) (σ.set x (.miter (some m) c (seen ++ [b]) c)) fun e rg' σ' => (e = .normal ∧ I (seen ++ [b]) rg' σ') ∨ (e ≠ .normal ∧ Post e rg' σ')) ∧
      ((∀ b ∈ bs, b ∈ seen) → RunD P N rest ((rg.set t1 .any).set t2 (.tt false)) σ fun e rg' σ' => e ≠ .normal ∧ Post e rg' σ'))
    (rg : Regs) (σ : AState) (seen : List Nat) (h0 : I seen rg σ) :
    LoopD P N c Post rg σ := by
  subst hc
  generalize hk : (bs0.filter fun b => !seen.contains b).length = k
  induction k using Nat.strongRecOn generalizing seen rg σ with
  | _ k ih =>
    obtain ⟨x, es, m, c, p, ents, bs, g1, g2, g3, g4, g5, g6, g7⟩ := hI seen rg σ h0
    refine .step (fun e rg' σ' => (e = .normal ∧ ∃ b, b ∈ bs0 ∧ b ∉ seen ∧ I (seen ++ [b]) rg' σ') ∨ (e ≠ .normal ∧ Post e rg' σ')) ?_ ?_ ?_
    · refine RunD.seq (next_runD (N := N) (P := P) g1 g2 g3 g4) ?_ ?_
      · rintro rg1 σ1 ⟨_, h | ⟨b, hb, hns, rfl, rfl⟩⟩
        · obtain ⟨hall, rfl, rfl⟩ := h
          exact (g7 hall).mono fun e rg' σ' h => .inr h
        · refine (g6 b hb hns).mono fun e rg' σ' h => ?_
          rcases h with ⟨he, hi⟩ | h
          · exact .inl ⟨he, b, g5 b hb, hns, hi⟩
          · exact .inr h
      · rintro e rg1 σ1 ⟨he, _⟩ hne
        exact absurd he hne
    · rintro rg' σ' (⟨_, b, hb, hns, hi⟩ | ⟨he, _⟩)
      · refine ih _ ?_ rg' σ' (seen ++ [b]) hi rfl
        rw [← hk]
        have : ∀ l : List Nat, b ∈ l → (l.filter fun y => !(seen ++ [b]).contains y).length < (l.filter fun y => !seen.contains y).length := by
          intro l
          have hle : ∀ l : List Nat, (l.filter fun y => !(seen ++ [b]).contains y).length ≤ (l.filter fun y => !seen.contains y).length := by
            intro l
            induction l with
            | nil => simp
            | cons y l ihl =>
              simp only [List.filter_cons]
              by_cases h1 : y ∈ seen
              · simp [h1]; simpa using ihl
              · by_cases h2 : y = b
                · subst h2; simp [h1]; have := ihl; simp at this; omega
                · simp [h1, h2]; simpa using ihl
          induction l with
          | nil => intro h; cases h
          | cons y l ihl =>
            intro h
            simp only [List.filter_cons]
            by_cases h2 : y = b
            · subst h2
              simp [hns]
              have := hle l; simp at this; omega
            · have hl : b ∈ l := by
                rcases List.mem_cons.1 h with h | h
                · exact absurd h.symm h2
                · exact h
              have := ihl hl
              by_cases h1 : y ∈ seen
              · simp [h1]; simpa using this
              · simp [h1, h2]; simpa using this
        exact this bs0 hb
      · exact absurd rfl he
    · rintro e rg' σ' hne (⟨he, _⟩ | ⟨_, hp⟩)
      · exact absurd he hne
      · exact hp

theorem FOk.pre {f : FuncId} {as : List AVal} {σ σ1 σ' : AState} {v : AVal} (h : FOk P f as σ1 v σ') (hw : ∀ (F : FS) (w : World) (ρ : RMap), Rel ρ F σ w → Rel ρ F σ1 w ∧ Tr σ σ1 ρ ρ F F w w) : FOk P f as σ v σ' :=
  ⟨h.1, fun F w ρ args r hp => by
    obtain ⟨r1, t1⟩ := hw F w ρ r
    exact (h.2 F w ρ args r1 hp).mono fun e w' ⟨ρ', F', he, t, r'⟩ => ⟨ρ', F', he, Tr.trans r t1 t, r'⟩⟩
theorem FOk.post {f : FuncId} {as : List AVal} {σ σ1 σ' : AState} {v : AVal} (h : FOk P f as σ v σ1) (hw : ∀ (F : FS) (w : World) (ρ : RMap), Rel ρ F σ1 w → Rel ρ F σ' w ∧ Tr σ1 σ' ρ ρ F F w w) : FOk P f as σ v σ' :=
  ⟨h.1, fun F w ρ args r hp => (h.2 F w ρ args r hp).mono fun e w' ⟨ρ', F', he, t, r'⟩ => by
    obtain ⟨r2, t2⟩ := hw F' w' ρ' r'
    exact ⟨ρ', F', he, Tr.trans r t t2, r2⟩⟩
theorem FOk.unborn {f : FuncId} {as : List AVal} {σ σ' : AState} {v : AVal} {id : Nat} {p : Bool} {ents : List (AVal × AVal)} {bs : List Nat} {c : Nat} (h : FOk P f as σ v σ') (ho : Abs.obj σ' id = .mpn p ents bs c) : FOk P f as σ v (σ'.set id (.mp p ents)) :=
  h.post fun F w ρ r => r.unborn ho
theorem FOk.bagged {f : FuncId} {as : List AVal} {σ σ' : AState} {v : AVal} {id es : Nat} {rs rs' : List (List AVal)} (h : FOk P f as σ v σ') (ho : Abs.obj σ' id = .rows true es rs') (hp : rs'.Perm rs) : FOk P f as σ v (σ'.set id (.bag es rs)) :=
  h.post fun F w ρ r => r.bagged ho hp
theorem FOk.born {f : FuncId} {as : List AVal} {σ σ' : AState} {v : AVal} {id : Nat} {p : Bool} {ents : List (AVal × AVal)} (ho : Abs.obj σ id = .mp p ents) (h : ∀ bs c, BRL bs c → bs.length = ents.length → FOk P f as (σ.set id (.mpn p ents bs c)) v σ') : FOk P f as σ v σ' :=
  ⟨(h (List.range ents.length) ents.length (brl_range _) (by simp)).1, fun F w ρ args r hp => by
    obtain ⟨bs, c, h1, h2, r1, t1⟩ := r.born ho
    exact ((h bs c h1 h2).2 F w ρ args r1 hp).mono fun e w' ⟨ρ', F', he, t, r'⟩ => ⟨ρ', F', he, Tr.trans r t1 t, r'⟩⟩
theorem FOk.unbag {f : FuncId} {as : List AVal} {σ σ' : AState} {v : AVal} {id es : Nat} {rs : List (List AVal)} (ho : Abs.obj σ id = .bag es rs) (h : ∀ rs' : List (List AVal), rs'.Perm rs → FOk P f as (σ.set id (.rows true es rs')) v σ') : FOk P f as σ v σ' :=
  ⟨(h rs (List.Perm.refl _)).1, fun F w ρ args r hp => by
    obtain ⟨rs', h1, r1, t1⟩ := r.unbag ho
    exact ((h rs' h1).2 F w ρ args r1 hp).mono fun e w' ⟨ρ', F', he, t, r'⟩ => ⟨ρ', F', he, Tr.trans r t1 t, r'⟩⟩
theorem TripN.born {c : Code} {rg rg' : Regs} {σ σ' : AState} {e : AExit} {id : Nat} {p : Bool} {ents : List (AVal × AVal)} (ho : Abs.obj σ id = .mp p ents) (h : ∀ bs k, BRL bs k → bs.length = ents.length → TripN P N c rg (σ.set id (.mpn p ents bs k)) e rg' σ') : TripN P N c rg σ e rg' σ' := fun hn F w ρ a Q r ha hQ => by
  obtain ⟨bs, k, h1, h2, r1, t1⟩ := r.born ho
  exact h bs k h1 h2 (by simpa using hn) F w ρ a Q r1 ha fun ρ' F' w' a' t' r' ha' => hQ ρ' F' w' a' ((t1.toN r hn).trans t') r' ha'

end
end Go.Abs
end

section
set_option linter.unusedVariables false
set_option linter.unusedSectionVars false
set_option linter.unusedSimpArgs false
namespace Go.Abs

def pickB {α : Type} (us : List α) (bs : List Nat) (d : α) (b : Nat) : α := us.getD (bs.idxOf b) d

theorem entAt_pick {α : Type} (g : α → AVal × AVal) (d : α) : ∀ (us : List α) (bs : List Nat) (b : Nat), bs.length = us.length → b ∈ bs → entAt b (us.map g) bs = some (.tuple [(g (pickB us bs d b)).1, (g (pickB us bs d b)).2])
  | [], [], b, _, h => by cases h
  | [], _ :: _, b, h, _ => by simp at h
  | _ :: _, [], b, _, h => by cases h
  | u :: us, b' :: bs, b, hl, hb => by
    by_cases e : b' = b
    · subst e; simp [entAt, pickB]
    · have hb2 : b ∈ bs := by
        rcases List.mem_cons.1 hb with h | h
        · exact absurd h.symm e
        · exact h
      have := entAt_pick g d us bs b (by simpa using hl) hb2
      have e2 : (b' == b) = false := by simpa using e
      simp only [List.map_cons, entAt, e2, Bool.false_eq_true, if_false]
      rw [this]
      simp [pickB, List.idxOf_cons, e2]
theorem entV_pick {α : Type} (g : α → AVal × AVal) (d : α) (us : List α) (bs seen : List Nat) (b : Nat) (hl : bs.length = us.length) (hb : b ∈ bs) : entV (us.map g) bs (seen ++ [b]) = some (.tuple [(g (pickB us bs d b)).1, (g (pickB us bs d b)).2]) := by
  unfold entV
  simp [entAt_pick g d us bs b hl hb]

theorem perm_nodup : ∀ (l l' : List Nat), l.Nodup → l'.Nodup → (∀ x, x ∈ l ↔ x ∈ l') → l.Perm l'
  | [], l', _, _, h => by
    cases l' with
    | nil => exact .nil
    | cons x l' => have := (h x).2 (by simp); cases this
  | a :: l, l', h1, h2, h => by
    have ha : a ∈ l' := (h a).1 (by simp)
    have hp := List.perm_cons_erase ha
    rw [List.nodup_cons] at h1
    refine (List.Perm.cons a (perm_nodup l (l'.erase a) h1.2 (h2.erase a) fun x => ?_)).trans hp.symm
    rw [List.Nodup.mem_erase_iff h2]
    constructor
    · intro hx
      exact ⟨fun e => h1.1 (e ▸ hx), (h x).1 (by simp [hx])⟩
    · rintro ⟨hne, hx⟩
      have := (h x).2 hx
      rcases List.mem_cons.1 this with e | hx
      · exact absurd e hne
      · exact hx
theorem BRL.nodup {bs : List Nat} {c : Nat} (h : BRL bs c) : bs.Nodup := h.1.imp fun h => Nat.ne_of_lt h
theorem map_pick {α : Type} (d : α) : ∀ (us : List α) (bs : List Nat), bs.length = us.length → bs.Nodup → bs.map (pickB us bs d) = us
  | [], [], _, _ => rfl
  | [], _ :: _, h, _ => by simp at h
  | _ :: _, [], h, _ => by simp at h
  | u :: us, b :: bs, hl, hn => by
    rw [List.nodup_cons] at hn
    have := map_pick d us bs (by simpa using hl) hn.2
    simp only [List.map_cons]
    congr 1
    · simp [pickB]
    · conv => rhs; rw [← this]
      refine List.map_congr_left fun x hx => ?_
      have e : (b == x) = false := by simpa using fun e : b = x => hn.1 (e ▸ hx)
      simp [pickB, List.idxOf_cons, e]
theorem pick_perm {α : Type} (d : α) {us : List α} {bs seen : List Nat} {c : Nat} (hb : BRL bs c) (hl : bs.length = us.length) (hn : seen.Nodup) (h1 : ∀ b ∈ seen, b ∈ bs) (h2 : ∀ b ∈ bs, b ∈ seen) : (seen.map (pickB us bs d)).Perm us := by
  have := (perm_nodup seen bs hn hb.nodup fun x => ⟨h1 x, h2 x⟩).map (pickB us bs d)
  rwa [map_pick d us bs hl hb.nodup] at this
theorem nodup_le : ∀ {l l' : List Nat}, l.Nodup → (∀ x ∈ l, x ∈ l') → l.length ≤ l'.length
  | [], _, _, _ => Nat.zero_le _
  | a :: l, l', h1, h => by
    rw [List.nodup_cons] at h1
    have ha := h a (by simp)
    have := nodup_le (l := l) (l' := l'.erase a) h1.2 fun x hx => (List.mem_erase_of_ne (fun e => h1.1 (by rw [← e]; exact hx))).2 (h x (by simp [hx]))
    rw [List.length_erase_of_mem ha] at this
    have := List.length_pos_of_mem ha
    simp; omega
theorem nodup_snoc {l : List Nat} {b : Nat} (h : l.Nodup) (hb : b ∉ l) : (l ++ [b]).Nodup := by
  rw [List.nodup_append]
  exact ⟨h, by simp, fun x hx y hy => by simp at hy; subst hy; exact fun e => hb (e ▸ hx)⟩
end Go.Abs
end

section
set_option linter.unusedVariables false
set_option linter.unusedSectionVars false
set_option linter.unusedSimpArgs false
namespace Go.Abs
open Go.Sort
variable [Glob]

omit [Glob] in
theorem Rel.grown {ρ : RMap} {F : FS} {σ : AState} {w w' : World} (r : Rel ρ F σ w) (hh : ∀ b, b < w.heap.size → w'.heap[b]? = w.heap[b]?) (hs : w.heap.size ≤ w'.heap.size) (ho : w'.os = w.os) (ht : w'.tape = w.tape) (hu : w'.output = w.output) :
    Rel ρ F σ w' ∧ Tr σ σ ρ ρ F F w w' := by
  have hF : ∀ b, F b → F b ∧ w'.heap[b]? = w.heap[b]? := fun b hb => ⟨hb, hh b (r.fr b hb).1⟩
  have hR : ∀ (b : Nat) (cs : Array Value) (T : TypeId) (fr : Nat × Nat), w.heap[b]? = some (.cells cs T fr) → ∃ cs' fr', w'.heap[b]? = some (.cells cs' T fr') ∧ cs'.size = cs.size := fun b cs T fr h =>
    ⟨cs, fr, (hh b (Array.getElem?_eq_some_iff.1 h).1).trans h, rfl⟩
  refine ⟨⟨fun id o b h1 h2 => (r.obj id o b h1 h2).move (hh b (r.lt id b h2)) hF hR (fun _ _ h => h) (fun hg => ⟨fun _ => Iff.rfl, fun x hx => hh x (r.ownLt h1 hg h2 x hx), hs⟩), r.injO, fun b hb => ⟨Nat.lt_of_lt_of_le (r.fr b hb).1 hs, (r.fr b hb).2⟩, fun id b h => Nat.lt_of_lt_of_le (r.lt id b h) hs, r.dom⟩,
    ⟨fun _ _ h => h, fun _ h => h, ho, ht, hu, hs, hR, fun b h _ => hh b h, fun _ h => .inl h, fun _ _ h => .inl h, Nat.le_refl _, fun id o h1 h2 _ => ⟨o, h1, h2⟩, .same rfl fun id o' b h1 _ h3 => ⟨id, h1, h3⟩⟩⟩

theorem toArray_get! {α : Type} [Inhabited α] (l : List α) (i : Nat) (h : i < l.length) : l.toArray[i]! = l[i] := by
  rw [getElem!_pos _ i (by simpa using h)]; simp

theorem FOk.inRow {P : Program} {f : FuncId} {α : Type} [Inhabited α] (enc : α → Value) (g : α → AVal) (hg : ∀ (F : FS) (w : World) (ρ : RMap) (x : α) (c : Value), VRel F w ρ (g x) c → c = enc x) (hg2 : ∀ (F : FS) (w : World) (x : α), VRel F w noId (g x) (enc x))
    (hf : ∃ fn c, P.funcs[f]? = some fn ∧ (fn.name == "runtime.NumGoroutine") = false ∧ fn.body = some c) (xs ys : List α) (hl : ys.length = xs.length) (hne : xs ≠ [])
    (hc : ∀ (blk cap : Nat) (w : World), Holds enc w blk 0 xs.toArray → blk < w.heap.size → Calls P f #[.slice (some ⟨blk, 0, none⟩) xs.length cap] w fun e w' => e = .returned (.tuple #[]) ∧ ∃ n os, w' = grow (putRow enc (Sort.ahead w n) blk 0 ys.toArray) os) :
    FOk P f [.slc false 0 1 0 xs.length none] [.rows true 1 (xs.map fun x => [g x])] (.tuple []) [.rows true 1 (ys.map fun x => [g x])] := by
  refine ⟨hf, fun F w ρ args r hp => ?_⟩
  have hpos : 0 < xs.length := List.length_pos_iff.2 hne
  have h1 : args.size = 1 := by have := hp.2.1; simpa using this.symm
  obtain ⟨v, rfl⟩ : ∃ v, args = #[v] := Array.size_eq_one_iff.1 h1
  have hv := hp.2.2 0 _ v rfl (by simp)
  obtain ⟨cc, b, hb, hle, hsz, hv⟩ : ∃ (cc b : Nat), ρ 0 = some b ∧ xs.length ≤ cc ∧ (∃ cs T fr, w.heap[b]? = some (.cells cs T fr) ∧ (0 + cc) * 1 ≤ cs.size) ∧ v = .slice (some ⟨b, 0 * 1, none⟩) xs.length cc := by
    rcases hv.slc_inv with ⟨_, cc, b, hb, hle, _, hsz, hv⟩ | ⟨h0, _⟩
    · exact ⟨cc, b, hb, hle, hsz, hv⟩
    · omega
  rw [Nat.zero_mul] at hv
  subst hv
  obtain ⟨cs, T, fr, g1, g2, g3, g4, g5⟩ := r.obj 0 _ b rfl hb
  have hcell : ∀ j (hj : j < xs.length), cs[j]? = some (enc xs[j]) := fun j hj => by
    obtain ⟨cv, c1, c2⟩ := g5 j 0 [g xs[j]] (g xs[j]) (by simp [hj]) rfl
    rw [hg _ _ _ _ _ c2] at c1
    simpa using c1
  have hlen : xs.length ≤ cs.size := by simpa using g3
  have hH : Holds enc w b 0 xs.toArray := fun j hj => by
    have hj : j < xs.length := by simpa using hj
    refine ⟨?_, g2 _ (by omega)⟩
    rw [toArray_get! xs j hj]
    unfold World.cell?
    simp only [g1, Nat.zero_add]
    simp [hcell j hj]
  have hbl : b < w.heap.size := r.lt 0 b hb
  refine (hc b cc w hH hbl).mono fun e w' ⟨he, n, os, hw'⟩ => ?_
  refine ⟨ρ, F, .inl ⟨_, he, .tuple _ _ _ rfl fun i v u h _ => by simp at h⟩, ?_⟩
  let w1 := putRow enc (Sort.ahead w n) b 0 ys.toArray
  have hw1s : w1.heap.size = w.heap.size := by simp [w1]
  have hother : ∀ x, x ≠ b → w1.heap[x]? = w.heap[x]? := fun x hx => by
    show (w.heap.modify b _)[x]? = _
    rw [Array.getElem?_modify, if_neg (fun e => hx e.symm)]
  have hat : w1.heap[b]? = some (.cells (putCells enc 0 ys.toArray cs) T fr) := by
    show (w.heap.modify b _)[b]? = _
    rw [Array.getElem?_modify, if_pos rfl, g1]
    rfl
  have hpc : (putCells enc 0 ys.toArray cs).size = cs.size := by simp [putCells]
  have hpg : ∀ j (hj : j < ys.length), (putCells enc 0 ys.toArray cs)[j]? = some (enc ys[j]) := fun j hj => by
    have hjc : j < cs.size := by omega
    simp only [putCells, Array.getElem?_mapIdx, Array.getElem?_eq_getElem hjc, Option.map_some]
    simp [hj, toArray_get! ys j hj]
  obtain ⟨r1, t1⟩ := r.upd (A := .rows true 1 (ys.map fun x => [g x])) (w' := w1) (id := 0) (b := b) (o0 := .rows true 1 (xs.map fun x => [g x])) rfl rfl hb hw1s rfl rfl rfl hother
    (fun cs' T' fr' h => by rw [g1] at h; cases h; exact ⟨_, _, hat, hpc⟩)
    (by
      refine ⟨_, T, fr, hat, fun o ho => ?_, by rw [hpc]; simpa [hl] using hlen, fun i row h => ?_, fun i j row v h1 h2 => ?_⟩
      · have := g2 o (by rw [hpc] at ho; exact ho)
        simp only [World.frozen?, g1, hat] at this ⊢
        exact this
      · rw [List.getElem?_map, Option.map_eq_some_iff] at h
        obtain ⟨x, _, rfl⟩ := h; rfl
      · rw [List.getElem?_map, Option.map_eq_some_iff] at h1
        obtain ⟨x, hx, rfl⟩ := h1
        have hi := (List.getElem?_eq_some_iff.1 hx).1
        have hxe : ys[i] = x := (List.getElem?_eq_some_iff.1 hx).2
        cases j with
        | zero =>
          simp at h2; subst h2
          refine ⟨enc x, ?_, hg2 _ _ _⟩
          have := hpg i hi
          rw [hxe] at this
          simpa using this
        | succ j => simp at h2)
  obtain ⟨r2, t2⟩ := r1.grown (w' := w') (fun x hx => by rw [hw']; exact heap_grow_old _ _ hx) (by rw [hw']; simp [w1]) (by rw [hw']; rfl) (by rw [hw']; rfl) (by rw [hw']; rfl)
  exact ⟨Tr.trans r t1 t2, r2⟩

theorem msort_eq {l l' : List (List UInt8)} (hp : l'.Perm l) (hs : l.Pairwise (fun x y => x ≤ y)) : l'.mergeSort (fun x y => decide (x ≤ y)) = l := by
  have h := List.pairwise_mergeSort (le := fun x y : List UInt8 => decide (x ≤ y)) (fun a b c h1 h2 => by simp at *; exact List.le_trans h1 h2) (fun a b => by simp; exact List.le_total a b) l'
  exact List.Perm.eq_of_pairwise (le := fun x y : List UInt8 => x ≤ y) (fun a b _ _ h1 h2 => List.le_antisymm h1 h2) (by simpa using h) hs ((List.mergeSort_perm l' _).trans hp)
def rowStr : List AVal → ByteArray
  | [.str u] => u
  | _ => ⟨#[]⟩
theorem perm_rows {us : List ByteArray} {rs : List (List AVal)} (h : rs.Perm (us.map fun u => [AVal.str u])) : ∃ us' : List ByteArray, rs = us'.map (fun u => [AVal.str u]) ∧ us'.Perm us := by
  refine ⟨rs.map rowStr, ?_, ?_⟩
  · rw [List.map_map]
    conv => lhs; rw [← List.map_id rs]
    refine List.map_congr_left fun r hr => ?_
    obtain ⟨u, _, rfl⟩ := List.mem_map.1 (h.subset hr)
    rfl
  · have := h.map rowStr
    rw [List.map_map] at this
    have e : us.map (rowStr ∘ fun u => [AVal.str u]) = us := by
      conv => rhs; rw [← List.map_id us]
      rfl
    rwa [e] at this
theorem bytes_back (u : ByteArray) : (⟨u.data.toList.toArray⟩ : ByteArray) = u := by cases u; rfl
theorem FOk.sortBag {P : Program} {f : FuncId} (hsort : ∀ ss : List (List UInt8), ss ≠ [] → ss.length < 4611686018427387904 → FOk P f [.slc false 0 1 0 ss.length none] [.rows true 1 (ss.map fun x => [.str ⟨x.toArray⟩])] (.tuple []) [.rows true 1 ((ss.mergeSort fun x y => decide (x ≤ y)).map fun x => [.str ⟨x.toArray⟩])])
    (us vs : List ByteArray) (hp : vs.Perm us) (hs : (vs.map fun u => u.data.toList).Pairwise (fun x y => x ≤ y)) (hne : us ≠ []) (hlen : us.length < 4611686018427387904) :
    FOk P f [.slc false 0 1 0 us.length none] [.bag 1 (us.map fun u => [.str u])] (.tuple []) [.rows true 1 (vs.map fun u => [.str u])] := by
  refine FOk.unbag (id := 0) rfl fun rs' hrs => ?_
  obtain ⟨us', rfl, hp'⟩ := perm_rows hrs
  have hl : us'.length = us.length := hp'.length_eq
  have hne' : us'.map (fun u => u.data.toList) ≠ [] := fun h => hne (List.length_eq_zero_iff.1 (by rw [← hl]; have := congrArg List.length h; simpa using this))
  have h := hsort (us'.map fun u => u.data.toList) hne' (by simp [hl]; exact hlen)
  rw [msort_eq ((hp'.trans hp.symm).map fun u : ByteArray => u.data.toList) hs] at h
  have hb : ∀ l : List ByteArray, (l.map fun u => u.data.toList).map (fun x => [AVal.str ⟨x.toArray⟩]) = l.map fun u => [AVal.str u] := fun l => by
    rw [List.map_map]
    exact List.map_congr_left fun u _ => by show [AVal.str _] = _; rw [bytes_back]
  rw [hb, hb, List.length_map, hl] at h
  exact h
end Go.Abs
end

section
set_option linter.unusedVariables false
set_option linter.unusedSectionVars false
set_option linter.unusedSimpArgs false
namespace Go.Abs
variable [Glob]

section
variable {P : Program} {F : FS} {w : World} {ρ : RMap} {σ : AState}

def noGh (T : AState) : Bool := T.all fun o => !o.isGh
omit [Glob] in
theorem noGh_get {T : AState} (h : noGh T = true) {id : Nat} {o : AObj} (ho : T[id]? = some o) : o.isGh = false := by
  have := List.all_eq_true.1 h o (List.mem_of_getElem? ho)
  simpa using this
omit [Glob] in
theorem Live.to0 {T : AState} (hg : noGh T = true) {x : Nat} (h : Live F ρ T x) : Live0 ρ T x := by
  obtain ⟨id, o, h1, h2, h3⟩ := h
  exact ⟨id, o, h1, h2, h3.root (noGh_get hg h1)⟩
omit [Glob] in
theorem Rel.ungh {T : AState} {b : Nat} (r : Rel ρ F [.gh T] w) (hb : ρ 0 = some b) (hg : noGh T = true) :
    ∃ ρT, Rel ρT F T w ∧ ρT 0 = some b ∧ (∀ x, Live F ρT T x → Live F ρ [.gh T] x) := by
  obtain ⟨ρT, r0, h0, h1, h2, h3⟩ := r.obj 0 (.gh T) b rfl hb
  have hL : ∀ x, Live F ρT T x → Live F ρ [.gh T] x := fun x hx => by
    rcases h1 x (hx.to0 hg) with rfl | h
    · exact ⟨0, _, rfl, rfl, .inl hb⟩
    · exact ⟨0, _, rfl, rfl, .inr ⟨rfl, b, hb, h⟩⟩
  refine ⟨ρT, ⟨fun id o x e1 e2 => ?_, fun id id' o o' x e1 e2 e3 e4 e5 e6 => ?_, fun x hx => ⟨(r.fr x hx).1, fun hl => (r.fr x hx).2 (hL x hl)⟩, r0.lt, r0.dom⟩, h0, hL⟩
  · exact ORelG.move (r0.obj id o x e1 e2) rfl (fun _ h => ⟨h, rfl⟩) (fun _ cs _ _ h => ⟨cs, _, h, rfl⟩) (fun _ _ h => h) fun _ _ h => h.elim
  · exact r0.inj id id' o o' x e1 e2 e3 e4 (e5.root (noGh_get hg e1)) (e6.root (noGh_get hg e2))
def FS.pack (F : FS) (b : Nat) (L : Nat → Prop) : FS := ⟨F.fz, fun y x => (y = b ∧ L x) ∨ (y ≠ b ∧ F.own y x)⟩
def one (b : Nat) : RMap := fun id => if id = 0 then some b else none
omit [Glob] in
theorem Rel.togh {T : AState} {b : Nat} (r : Rel ρ F T w) (hb : ρ 0 = some b) (hg : noGh T = true) (hl : ∃ o, T[0]? = some o ∧ o.live = true) :
    Rel (one b) (F.pack b (Live F ρ T)) [.gh T] w ∧ (∀ x, Live (F.pack b (Live F ρ T)) (one b) [.gh T] x → Live F ρ T x) := by
  have hroot : Live F ρ T b := by obtain ⟨o, h1, h2⟩ := hl; exact ⟨0, o, h1, h2, .inl hb⟩
  have hone : ∀ {id x : Nat}, one b id = some x → id = 0 ∧ x = b := fun {id x} h => by
    unfold one at h; split at h
    · exact ⟨by assumption, by simpa using h.symm⟩
    · cases h
  have hL : ∀ x, Live (F.pack b (Live F ρ T)) (one b) [.gh T] x → Live F ρ T x := fun x ⟨id, o, h1, h2, h3⟩ => by
    rcases h3 with h3 | ⟨_, y, h3, h4⟩
    · obtain ⟨_, rfl⟩ := hone h3; exact hroot
    · obtain ⟨_, rfl⟩ := hone h3
      rcases h4 with ⟨_, h⟩ | ⟨h, _⟩
      · exact h
      · exact absurd rfl h
  refine ⟨⟨fun id o x e1 e2 => ?_, fun id id' o o' x e1 e2 _ _ _ _ => ?_, fun x hx => ⟨(r.fr x hx).1, fun h => (r.fr x hx).2 (hL x h)⟩, fun id x h => ?_, fun id h => ?_⟩, hL⟩
  · obtain ⟨rfl, rfl⟩ := hone e2
    simp at e1; subst e1
    refine ⟨ρ, ⟨fun id o y e1 e2 => ?_, fun id id' o o' y e1 e2 e3 e4 e5 e6 => r.inj id id' o o' y e1 e2 e3 e4 e5 e6, r.lt, r.dom⟩, hb, fun y hy => ?_, fun y hy => ?_, hl⟩
    · exact ORelG.move (F' := F.pack x (Live F ρ T)) (r.obj id o y e1 e2) rfl (fun _ h => ⟨h, rfl⟩) (fun _ cs _ _ h => ⟨cs, _, h, rfl⟩) (fun _ _ h => h) fun T' e h => by
        have := noGh_get hg e1
        rw [e] at this; cases this
    · obtain ⟨id, o, e1, e2, e3⟩ := hy
      exact .inr (.inl ⟨rfl, id, o, e1, e2, .inl e3⟩)
    · rcases hy with ⟨_, id, o, e1, e2, e3⟩ | ⟨h, _⟩
      · exact r.ownB e1 e3
      · exact absurd rfl h
  · have h1 := (List.getElem?_eq_some_iff.1 e1).1
    have h2 := (List.getElem?_eq_some_iff.1 e2).1
    simp at h1 h2; omega
  · obtain ⟨_, rfl⟩ := hone h; exact r.lt 0 _ hb
  · simp at h; unfold one; rw [if_neg (by omega)]

theorem gh_tr {T T' T2 : AState} {ρT ρT' : RMap} {F' : FS} {w' : World} {b : Nat} {π : List Nat} {vs : List AVal} (r : Rel ρ F [.gh T] w) (hb : ρ 0 = some b) (rT : Rel ρT F T w) (hbT : ρT 0 = some b) (hL : ∀ x, Live F ρT T x → Live F ρ [.gh T] x)
    (t : TrN 1 T T' ρT ρT' F F' w w') (r' : Rel ρT' F' T' w') (hT : 1 ≤ T.length) (hh : π.map (fun j => T'[j]?) = T2.map fun o => some (renO (old π) o)) (ok : okMove 1 π T'.length vs T2 = true) (hg2 : noGh T2 = true) (hl : ∃ o, T2[0]? = some o ∧ o.live = true) :
    ∃ ρ' F2, Rel ρ' F2 [.gh T2] w' ∧ Tr [.gh T] [.gh T2] ρ ρ' F F2 w w' ∧ ∀ v c, v ∈ vs → inScope 1 v = true → VRel F' w' ρT' (ren (old π) v) c → VRel F2 w' ρ' v c := by
  obtain ⟨t2, r2⟩ := move_rel t r' hh ok
  have hb2 : moved π ρT' 0 = some b := t2.map 0 b (by omega) hbT
  obtain ⟨r3, hL3⟩ := r2.togh hb2 hg2 hl
  have hlive : ∀ x, Live F' (moved π ρT') T2 x → Live F ρ [.gh T] x ∨ w.heap.size ≤ x := fun x hx => (t2.live' hx).imp_left (hL x)
  have hrt : Live F ρ [.gh T] b := ⟨0, _, rfl, rfl, .inl hb⟩
  refine ⟨_, _, r3, ⟨fun id x h => ?_, t.frz, t.os, t.tape, t.output, t.size, t.row, fun x h1 h2 => t.keep x h1 fun h => h2 (hL x h), fun x hx => ?_, fun id x h => ?_, by simp, fun id o h1 _ _ => ?_, ⟨fun y h1 h2 x => ?_, fun id o y x h1 h2 h3 h4 => ?_⟩⟩, fun v c hv hs h => ?_⟩
  · rcases Nat.lt_or_ge id 1 with hi | hi
    · obtain rfl : id = 0 := by omega
      rw [hb] at h; cases h; rfl
    · rw [r.dom id (by simpa using hi)] at h; cases h
  · rcases t.newF x hx with h | h | h
    · exact .inl h
    · exact .inr (.inl h)
    · exact .inr (.inr (hL x h))
  · unfold one at h; split at h
    · rename_i e; subst e; cases h; exact .inl hb
    · cases h
  · refine ⟨.gh T, ?_, rfl⟩
    have := (List.getElem?_eq_some_iff.1 h1).1
    simp at this; subst this; rfl
  · have hne : y ≠ b := fun e => h2 (e ▸ hrt)
    rw [← t2.gho.keepO y h1 (fun h => h2 (hL y h)) x]
    constructor
    · rintro (⟨e, _⟩ | ⟨_, h⟩)
      · exact absurd e hne
      · exact h
    · exact fun h => .inr ⟨hne, h⟩
  · unfold one at h3; split at h3
    · rename_i e; subst e; cases h3
      rcases h4 with ⟨_, h⟩ | ⟨h, _⟩
      · exact hlive x h
      · exact absurd rfl h
    · cases h3
  · have hsc : inScope T2.length v = true := by
      unfold okMove at ok
      simp only [Bool.and_eq_true] at ok
      have h5 := ok.1.2
      obtain ⟨i, hi⟩ := List.getElem?_of_mem hv
      exact scopeL h5 i v hi
    have hlen : π.length = T2.length := by have := congrArg List.length hh; simpa using this
    have h6 := (move_val h (Nat.le_of_eq hlen.symm) hsc).scope hs
    refine VRel.mono (F := F') (F' := F'.pack b (Live F' (moved π ρT') T2)) (w' := w') (fun x hx => ⟨hx, rfl⟩) (fun _ cs _ _ h => ⟨cs, _, h, rfl⟩) h6 (ρ' := one b) fun id x h => ?_
    obtain ⟨h7, h8⟩ := cut_some h
    obtain rfl : id = 0 := by omega
    rw [hb2] at h8; cases h8; rfl

theorem FOk.gh {f : FuncId} {as : List AVal} {T T' T2 : AState} {v v2 : AVal} {es i j : Nat} {rest : List AVal} (h : FOk P f as T v T') (has : as = .ptr 0 es i j :: rest) (hs : inScopeL 1 as = true) (hg : noGh T = true) (π : List Nat)
    (hv : v = ren (old π) v2) (hh : π.map (fun j => T'[j]?) = T2.map fun o => some (renO (old π) o)) (ok : okMove 1 π T'.length [v2] T2 = true) (hr : inScope 1 v2 = true) (hg2 : noGh T2 = true) (hl : ∃ o, T2[0]? = some o ∧ o.live = true) (hT : 1 ≤ T.length) : FOk P f as [.gh T] v2 [.gh T2] :=
  ⟨h.1, fun F w ρ args r hp => by
    obtain ⟨b, hb⟩ : ∃ b, ρ 0 = some b := by
      subst has
      have hl := hp.2.1
      obtain ⟨c, hc⟩ : ∃ c, args.toList[0]? = some c := by
        cases hq : args.toList with
        | nil => rw [hq] at hl; simp at hl
        | cons c l => exact ⟨c, rfl⟩
      obtain ⟨b, hb, _⟩ := (hp.2.2 0 _ c rfl hc).ptr_inv
      exact ⟨b, hb⟩
    obtain ⟨ρT, rT, hbT, hL⟩ := r.ungh hb hg
    have hp2 : PW F w ρT as args.toList := ⟨hp.2.1, fun k x y h1 h2 => (hp.2.2 k x y h1 h2).scope (scopeL hs k x h1) |>.weak fun id y h => by
      obtain ⟨h7, h8⟩ := cut_some h
      obtain rfl : id = 0 := by omega
      rw [hb] at h8; cases h8; exact hbT⟩
    refine (h.2 F w ρT args rT ⟨hp.1, hp2⟩).mono fun e w' ⟨ρT', F', he, t, r'⟩ => ?_
    obtain ⟨ρ', F2, r2, t2, hval⟩ := gh_tr r hb rT hbT hL (t.toN rT hT) r' hT hh ok hg2 hl
    exact ⟨ρ', F2, he.mono (fun x hx => hval v2 x (by simp) hr (hv ▸ hx)) (fun t ht => by subst ht; cases v2 <;> simp [ren] at hv; exact congrArg _ hv.symm), t2, r2⟩⟩

end
end Go.Abs
end

section
set_option linter.unusedVariables false
set_option linter.unusedSectionVars false
set_option linter.unusedSimpArgs false
namespace Go.Abs
variable [Glob]

theorem use_core {F : FS} {w : World} {ρ : RMap} {S : AState} {es : List Nat} {as0 : List AVal} {σ0 σ' : AState} (hheap : es.map (fun j => S[j]?) = σ0.map fun o => some (renO (emb es S.length) o)) (hok : okEmb es S.length as0 σ0 σ' = true) (R : Rel ρ F S w) :
    ∃ ρs, Rel ρs F σ0 w ∧ (∀ v c, inScope σ0.length v = true → VRel F w ρ (ren (emb es S.length) v) c → VRel F w ρs v c) ∧
      ∀ ρs' F' w', TrN es.length σ0 σ' ρs ρs' F F' w w' → Rel ρs' F' σ' w' → ∃ ρ2, TrN S.length S (plug S es σ') ρ ρ2 F F' w w' ∧ Rel ρ2 F' (plug S es σ') w' ∧ ∀ v c, VRel F' w' ρs' v c → VRel F' w' ρ2 (ren (emb es S.length) v) c := by
  unfold okEmb at hok
  simp only [Bool.and_eq_true, decide_eq_true_eq] at hok
  obtain ⟨⟨⟨⟨hnd, hlt⟩, hsa⟩, hsO⟩, hlen⟩ := hok
  have hm : es.length = σ0.length := by have := congrArg List.length hheap; simpa using this
  have hltj : ∀ j ∈ es, j < S.length := fun j hj => by have := List.all_eq_true.1 hlt j hj; simpa using this
  have hEget : ∀ i, i < es.length → es[i]? = some (emb es S.length i) := fun i hi => by
    unfold emb; rw [if_pos hi, List.getD_eq_getElem?_getD, List.getElem?_eq_getElem hi]; rfl
  have hElt : ∀ i, i < es.length → emb es S.length i < S.length := fun i hi => hltj _ (List.mem_of_getElem? (hEget i hi))
  have hEinj : ∀ i j, i < es.length → j < es.length → emb es S.length i = emb es S.length j → i = j := fun i j hi hj he => by
    unfold emb at he; rw [if_pos hi, if_pos hj] at he
    exact nodupB_inj hnd i j hi hj he
  have hEhi : ∀ i, es.length ≤ i → emb es S.length i = S.length + (i - es.length) := fun i hi => by unfold emb; rw [if_neg (by omega)]
  have hES : ∀ i o, σ0[i]? = some o → S[emb es S.length i]? = some (renO (emb es S.length) o) := fun i o ho => by
    have hi : i < es.length := by rw [hm]; exact (List.getElem?_eq_some_iff.1 ho).1
    have := congrArg (·[i]?) hheap
    simp only [List.getElem?_map, hEget i hi, ho, Option.map_some, Option.some.injEq] at this
    exact this
  generalize hE : emb es S.length = E at *
  -- the heap behind it
  obtain ⟨p1, p2, p3⟩ := plugGo_ok (S := S) (es := es) es σ' S (by omega) hnd hltj
  rw [hE] at p2
  have hSlen : (plug S es σ').length = S.length + (σ'.length - es.length) := by simp [plug, p1]
  have hS1 : ∀ i o, σ'[i]? = some o → (plug S es σ')[E i]? = some (renO E o) := fun i o ho => by
    unfold plug
    rcases Nat.lt_or_ge i es.length with hi | hi
    · rw [List.getElem?_append_left (by rw [p1]; exact hElt i hi)]
      exact p2 i _ o (hEget i hi) ho
    · rw [hEhi i hi, List.getElem?_append_right (by omega), p1, hE, List.getElem?_map, List.getElem?_drop]
      have : es.length + (S.length + (i - es.length) - S.length) = i := by omega
      rw [this, ho]; rfl
  have hS2 : ∀ j, j < S.length → (∀ i, i < es.length → E i ≠ j) → (plug S es σ')[j]? = S[j]? := fun j hj hno => by
    unfold plug
    rw [List.getElem?_append_left (by rw [p1]; exact hj)]
    refine p3 j fun hmem => ?_
    obtain ⟨i, hi, he⟩ := List.getElem_of_mem hmem
    have := hEget i hi
    rw [List.getElem?_eq_getElem hi] at this
    exact hno i hi (by simpa [he] using this.symm)
  -- the small heap
  let ρs : RMap := fun i => if i < es.length then ρ (E i) else none
  have ρs_some : ∀ {i b}, ρs i = some b → i < es.length ∧ ρ (E i) = some b := fun {i b} h => by
    dsimp only [ρs] at h; split at h
    · exact ⟨by assumption, h⟩
    · cases h
  have ρs_of : ∀ {i b}, i < es.length → ρ (E i) = some b → ρs i = some b := fun {i b} hi h => by dsimp only [ρs]; rw [if_pos hi]; exact h
  have hun : ∀ id b, id < σ0.length → ρ (E id) = some b → ρs id = some b := fun id b hi h => ρs_of (by omega) h
  have hOs : ∀ i o b, σ0[i]? = some o → Own F ρs i o b → i < es.length ∧ S[E i]? = some (renO E o) ∧ Own F ρ (E i) (renO E o) b := fun i o b h1 h2 => by
    have h4 : i < es.length := by
      rcases h2 with h3 | ⟨_, y, h3, _⟩ <;> exact (ρs_some h3).1
    refine ⟨h4, hES i o h1, ?_⟩
    rcases h2 with h3 | ⟨hg, y, h3, h5⟩
    · exact .inl (ρs_some h3).2
    · exact .inr ⟨by rw [renO_isGh]; exact hg, y, (ρs_some h3).2, h5⟩
  have hLive : ∀ b, Live F ρs σ0 b → ∃ i o, i < es.length ∧ S[E i]? = some o ∧ o.live = true ∧ Own F ρ (E i) o b := fun b ⟨i, o, h1, h2, h3⟩ => by
    obtain ⟨h4, h5, h6⟩ := hOs i o b h1 h3
    exact ⟨i, _, h4, h5, by rw [renO_live]; exact h2, h6⟩
  have hLive' : ∀ b, Live F ρs σ0 b → Live F ρ S b := fun b h => let ⟨i, o, _, h2, h3, h4⟩ := hLive b h; ⟨E i, o, h2, h3, h4⟩
  have rs : Rel ρs F σ0 w := by
    refine ⟨fun i o b h1 h2 => ?_, fun i i' o o' b h1 h2 h3 h4 h5 h6 => ?_, fun b hb => ⟨(R.fr b hb).1, fun hl => (R.fr b hb).2 (hLive' b hl)⟩, fun i b h => R.lt _ b (ρs_some h).2, fun i hi => ?_⟩
    · exact ORel.unren (k := σ0.length) (R.obj _ _ b (hES i o h1) (ρs_some h2).2) hun (List.all_eq_true.1 hsO o (List.mem_of_getElem? h1))
    · obtain ⟨g1, g2, g3⟩ := hOs i o b h1 h5
      obtain ⟨k1, k2, k3⟩ := hOs i' o' b h2 h6
      exact hEinj i i' g1 k1 (R.injO _ _ _ _ b g2 k2 (by rw [renO_live]; exact h3) (by rw [renO_live]; exact h4) g3 k3)
    · dsimp only [ρs]; rw [if_neg (by omega)]
  refine ⟨ρs, rs, fun v c hs h => VRel.unren h hun v rfl hs, fun ρs' F' w' t r' => ?_⟩
  let ρ2 : RMap := fun j => if j < S.length then ρ j else ρs' (es.length + (j - S.length))
  have hup : ∀ i b, ρs' i = some b → i < σ'.length := fun i b h => by
    rcases Nat.lt_or_ge i σ'.length with h' | h'
    · exact h'
    · rw [r'.dom _ h'] at h; cases h
  have hback : ∀ i b, i < es.length → ρs' i = some b → ρ (E i) = some b := fun i b hi h => by
    exact (ρs_some (t.back i b (by omega) h)).2
  have hE2 : ∀ i b, ρs' i = some b → ρ2 (E i) = some b := fun i b h => by
    dsimp only [ρ2]
    rcases Nat.lt_or_ge i es.length with hi | hi
    · rw [if_pos (hElt i hi)]; exact hback i b hi h
    · rw [hEhi i hi, if_neg (by omega)]
      have : es.length + (S.length + (i - es.length) - S.length) = i := by omega
      rw [this]; exact h
  have hmap : ∀ j b, ρ j = some b → ρ2 j = some b := fun j b h => by
    dsimp only [ρ2]
    rw [if_pos]
    · exact h
    · rcases Nat.lt_or_ge j S.length with h' | h'
      · exact h'
      · rw [R.dom _ h'] at h; cases h
  have hFr : ∀ x, F x → F' x ∧ w'.heap[x]? = w.heap[x]? := fun x hx => ⟨t.frz x hx, t.keep x (R.fr x hx).1 (fun hl => (R.fr x hx).2 (hLive' x hl))⟩
  have hnl : ∀ j o x, (∀ i, i < es.length → E i ≠ j) → S[j]? = some o → o.live = true → Own F ρ j o x → ¬ Live F ρs σ0 x := fun j o x h1 h2 h3 h4 hl => by
    obtain ⟨i, o2, k1, k2, k3, k4⟩ := hLive x hl
    exact h1 i k1 (R.injO _ _ _ _ x k2 h2 k3 h3 k4 h4)
  -- each place of the large heap: of the small one, or not
  have split : ∀ j o b, (plug S es σ')[j]? = some o → ρ2 j = some b → (∃ i os, j = E i ∧ ρs' i = some b ∧ σ'[i]? = some os ∧ o = renO E os) ∨ (j < S.length ∧ (∀ i, i < es.length → E i ≠ j) ∧ S[j]? = some o ∧ ρ j = some b) := by
    intro j o b h1 h2
    dsimp only [ρ2] at h2
    split at h2
    · rename_i hj
      by_cases hex : ∃ i, i < es.length ∧ E i = j
      · obtain ⟨i, hi, rfl⟩ := hex
        have hi' : i < σ'.length := by omega
        have ho : σ'[i]? = some σ'[i] := List.getElem?_eq_getElem hi'
        have := hS1 i _ ho
        rw [h1] at this; cases this
        exact .inl ⟨i, _, rfl, t.map i b (by omega) (ρs_of hi h2), ho, rfl⟩
      · have hno : ∀ i, i < es.length → E i ≠ j := fun i hi he => hex ⟨i, hi, he⟩
        rw [hS2 j hj hno] at h1
        exact .inr ⟨hj, hno, h1, h2⟩
    · rename_i hj
      have hi' := hup _ b h2
      have ho : σ'[es.length + (j - S.length)]? = some σ'[es.length + (j - S.length)] := List.getElem?_eq_getElem hi'
      have hj' : E (es.length + (j - S.length)) = j := by rw [hEhi _ (by omega)]; omega
      have := hS1 _ _ ho
      rw [hj', h1] at this; cases this
      exact .inl ⟨_, _, hj'.symm, h2, ho, rfl⟩
  have splitO : ∀ j o x, (plug S es σ')[j]? = some o → o.live = true → Own F' ρ2 j o x → (∃ i os, j = E i ∧ σ'[i]? = some os ∧ os.live = true ∧ Own F' ρs' i os x) ∨ (j < S.length ∧ (∀ i, i < es.length → E i ≠ j) ∧ S[j]? = some o ∧ Own F ρ j o x) := by
    intro j o x h1 h2 h3
    obtain ⟨y, hy⟩ : ∃ y, ρ2 j = some y := by
      rcases h3 with h | ⟨_, y, h, _⟩ <;> exact ⟨_, h⟩
    rcases split j o y h1 hy with ⟨i, os, g1, g2, g3, rfl⟩ | ⟨g1, g2, g3, g4⟩
    · rw [renO_live] at h2
      refine .inl ⟨i, os, g1, g3, h2, ?_⟩
      rcases h3 with h | ⟨hg, z, h, hz⟩
      · rw [hy] at h; cases h; exact .inl g2
      · rw [hy] at h; cases h; exact .inr ⟨by rw [renO_isGh] at hg; exact hg, y, g2, hz⟩
    · refine .inr ⟨g1, g2, g3, ?_⟩
      rcases h3 with h | ⟨hg, z, h, hz⟩
      · rw [hy] at h; cases h; exact .inl g4
      · rw [hy] at h; cases h
        exact .inr ⟨hg, y, g4, (t.gho.keepO y (R.lt _ _ g4) (hnl j o y g2 g3 h2 (.inl g4)) x).1 hz⟩
  have hL' : ∀ x, Live F' ρs' σ' x → (∃ i o, i < es.length ∧ S[E i]? = some o ∧ o.live = true ∧ Own F ρ (E i) o x) ∨ w.heap.size ≤ x := fun x hx => (t.live' hx).imp_left (hLive x)
  have mixed : ∀ i os b j o, σ'[i]? = some os → os.live = true → Own F' ρs' i os b → (∀ i, i < es.length → E i ≠ j) → S[j]? = some o → o.live = true → Own F ρ j o b → False := by
    intro i os b j o h1 h2 h3 h4 h5 h6 h7
    rcases hL' b ⟨i, os, h1, h2, h3⟩ with ⟨i2, o2, k1, k2, k3, k4⟩ | h
    · exact h4 i2 k1 (R.injO _ _ _ _ b k2 h5 k3 h6 k4 h7)
    · exact absurd (R.ownB h5 h7) (Nat.not_lt.2 h)
  refine ⟨ρ2, ⟨fun id b _ h => hmap id b h, t.frz, t.os, t.tape, t.output, t.size, t.row, fun b h1 h2 => t.keep b h1 (fun hl => h2 (hLive' b hl)), fun b hb => ?_, fun j b hj h2 => (by dsimp only [ρ2] at h2; rwa [if_pos hj] at h2), fun j o' b hj h1 h2 h3 => ?_, by rw [hSlen]; omega, fun j o' h1 h2 h3 => ?_, ⟨fun b h1 h2 x => t.gho.keepO b h1 (fun hl => h2 (hLive' b hl)) x, fun j o' b x h1 h2 h3 h4 => ?_⟩⟩,
    ⟨fun j o b h1 h2 => ?_, fun j j' o o' b h1 h2 h3 h4 h5 h6 => ?_, fun b hb => ?_, fun j b h => ?_, fun j hj => ?_⟩, fun v c hv => VRel.ren hv hE2⟩
  · rcases t.newF b hb with h | h | h
    · exact .inl h
    · exact .inr (.inl h)
    · exact .inr (.inr (hLive' b h))
  · rcases split j o' b h1 h3 with ⟨i, os, rfl, g1, g2, rfl⟩ | ⟨g1, _⟩
    · rw [renO_live] at h2
      have hi : es.length ≤ i := by
        rcases Nat.lt_or_ge i es.length with hi | hi
        · have := hElt i hi; omega
        · exact hi
      rcases t.newρ i os b hi g2 h2 g1 with h | h
      · exact .inl h
      · exact .inr (hLive' b h)
    · omega
  · by_cases hex : ∃ i, i < es.length ∧ E i = j
    · obtain ⟨i, hi, rfl⟩ := hex
      have ho : σ'[i]? = some σ'[i] := List.getElem?_eq_getElem (by omega)
      have := hS1 i _ ho
      rw [h1] at this; cases this
      rw [renO_live] at h2
      obtain ⟨o0, g1, g2⟩ := t.live i _ ho h2 (by omega)
      exact ⟨_, hES i o0 g1, by rw [renO_live]; exact g2⟩
    · rw [hS2 j h3 (fun i hi he => hex ⟨i, hi, he⟩)] at h1
      exact ⟨o', h1, h2⟩
  · rcases splitO j o' x h1 (AObj.isGh_live h2) (.inr ⟨h2, b, h3, h4⟩) with ⟨i, os, rfl, g1, g2, g3⟩ | ⟨g1, g2, g3, g4⟩
    · rcases hL' x ⟨i, os, g1, g2, g3⟩ with ⟨i2, o2, k1, k2, k3, k4⟩ | h
      · exact .inl ⟨_, _, k2, k3, k4⟩
      · exact .inr h
    · exact .inl ⟨j, o', g3, AObj.isGh_live h2, g4⟩
  · rcases split j o b h1 h2 with ⟨i, os, rfl, g1, g2, rfl⟩ | ⟨g1, g2, g3, g4⟩
    · exact (r'.obj i os b g2 g1).ren hE2
    · cases hol : o.live with
      | false => cases o <;> simp [AObj.live] at hol; trivial
      | true => exact (R.obj j o b g3 g4).move (t.keep b (R.lt _ _ g4) (hnl j o b g2 g3 hol (.inl g4))) hFr t.row hmap fun hg => ⟨t.gho.keepO b (R.lt _ _ g4) (hnl j o b g2 g3 hol (.inl g4)), fun x hx => t.keep x (R.ownLt g3 hg g4 x hx) (hnl j o x g2 g3 hol (.inr ⟨hg, b, g4, hx⟩)), t.size⟩
  · rcases splitO j o b h1 h3 h5 with ⟨i, os, rfl, g1, g2, g3⟩ | ⟨g1, g2, g3, g4⟩ <;> rcases splitO j' o' b h2 h4 h6 with ⟨i', os', rfl, k1, k2, k3⟩ | ⟨k1, k2, k3, k4⟩
    · rw [r'.injO i i' os os' b g1 k1 g2 k2 g3 k3]
    · exact (mixed i os b j' o' g1 g2 g3 k2 k3 h4 k4).elim
    · exact (mixed i' os' b j o k1 k2 k3 g2 g3 h3 g4).elim
    · exact R.injO j j' o o' b g3 k3 h3 h4 g4 k4
  · refine ⟨(r'.fr b hb).1, fun ⟨j, o, h1, h2, h3⟩ => ?_⟩
    rcases splitO j o b h1 h2 h3 with ⟨i, os, rfl, g1, g2, g3⟩ | ⟨g1, g2, g3, g4⟩
    · exact (r'.fr b hb).2 ⟨i, os, g1, g2, g3⟩
    · rcases t.newF b hb with h | h | h
      · exact (R.fr b h).2 ⟨j, o, g3, h2, g4⟩
      · exact absurd (R.ownB g3 g4) (Nat.not_lt.2 h)
      · exact hnl j o b g2 g3 h2 g4 h
  · dsimp only [ρ2] at h
    split at h
    · exact Nat.lt_of_lt_of_le (R.lt j b h) t.size
    · exact r'.lt _ b h
  · dsimp only [ρ2]
    rw [hSlen] at hj
    rw [if_neg (by omega)]
    exact r'.dom _ (by omega)


theorem TripN.use {P : Program} {N : Nat} {c : Code} {rg0 rg' : Regs} {S σ0 σ' : AState} {es : List Nat} {e : AExit} (h : TripN P es.length c rg0 σ0 e rg' σ') (hheap : es.map (fun j => S[j]?) = σ0.map fun o => some (renO (emb es S.length) o))
    (hok : okEmb es S.length rg0 σ0 σ' = true) : TripN P N c (renL (emb es S.length) rg0) S e (renL (emb es S.length) rg') (plug S es σ') := by
  intro hn F w ρ a Q r ha hQ
  obtain ⟨ρs, rs, hv, hback⟩ := use_core hheap hok r
  have hm : es.length = σ0.length := by have := congrArg List.length hheap; simpa using this
  have hsc : inScopeL σ0.length rg0 = true := by
    unfold okEmb at hok
    simp only [Bool.and_eq_true] at hok
    exact hok.1.1.2
  refine h (by omega) F w ρs a Q rs ⟨by have := ha.size; rwa [renL_length] at this, fun i v u h1 h2 => ?_, ha.defers, ha.glob⟩ fun ρs' F' w' a' t r' ha' => ?_
  · exact hv v u (scopeL hsc i v h1) (ha.val i (ren (emb es S.length) v) u (by rw [renL_get, h1]; rfl) h2)
  · obtain ⟨ρ2, t2, r2, hv2⟩ := hback ρs' F' w' t r'
    refine hQ ρ2 F' w' a' (t2.weaken hn) r2 ⟨by rw [renL_length]; exact ha'.size, fun i v u h1 h2 => ?_, ha'.defers, ha'.glob⟩
    rw [renL_get, Option.map_eq_some_iff] at h1
    obtain ⟨v0, h3, rfl⟩ := h1
    exact hv2 v0 u (ha'.val i v0 u h3 h2)

theorem plug_len {S : AState} {es : List Nat} {σ' : AState} (hnd : nodupB es = true) (hlt : ∀ j ∈ es, j < S.length) (hl : es.length ≤ σ'.length) : (plug S es σ').length = S.length + (σ'.length - es.length) := by
  obtain ⟨p1, _, _⟩ := plugGo_ok (S := S) (es := es) es σ' S hl hnd hlt
  simp [plug, p1]
theorem plug_in {S : AState} {es : List Nat} {σ' : AState} (hnd : nodupB es = true) (hlt : ∀ j ∈ es, j < S.length) (hl : es.length ≤ σ'.length) {i j : Nat} {o : AObj} (hj : es[i]? = some j) (ho : σ'[i]? = some o) : (plug S es σ')[j]? = some (renO (emb es S.length) o) := by
  obtain ⟨p1, p2, _⟩ := plugGo_ok (S := S) (es := es) es σ' S hl hnd hlt
  unfold plug
  rw [List.getElem?_append_left (by rw [p1]; exact hlt j (List.mem_of_getElem? hj))]
  exact p2 i j o hj ho
theorem plug_out {S : AState} {es : List Nat} {σ' : AState} (hnd : nodupB es = true) (hlt : ∀ j ∈ es, j < S.length) (hl : es.length ≤ σ'.length) {j : Nat} (hj : j < S.length) (hn : j ∉ es) : (plug S es σ')[j]? = S[j]? := by
  obtain ⟨p1, _, p3⟩ := plugGo_ok (S := S) (es := es) es σ' S hl hnd hlt
  unfold plug
  rw [List.getElem?_append_left (by rw [p1]; exact hj)]
  exact p3 j hn
theorem plug_new {S : AState} {es : List Nat} {σ' : AState} (hnd : nodupB es = true) (hlt : ∀ j ∈ es, j < S.length) (hl : es.length ≤ σ'.length) (i : Nat) : (plug S es σ')[S.length + i]? = (σ'[es.length + i]?).map (renO (emb es S.length)) := by
  obtain ⟨p1, _, _⟩ := plugGo_ok (S := S) (es := es) es σ' S hl hnd hlt
  unfold plug
  rw [List.getElem?_append_right (by rw [p1]; omega), p1, List.getElem?_map, List.getElem?_drop]
  rw [show S.length + i - S.length = i by omega]

theorem VRel.blk_inv {F : FS} {w : World} {ρ : RMap} {b es i j : Nat} {c : Value} (h : VRel F w ρ (.blk b es i j) c) : c = .pointer (some ⟨b, i * es + j, none⟩) := by cases h; rfl
end Go.Abs
end

section
set_option linter.unusedVariables false
set_option linter.unusedSectionVars false
set_option linter.unusedSimpArgs false
namespace Go.Abs
variable [Glob]

theorem FOk.gh1 {P : Program} {f : FuncId} {as : List AVal} {T T' : AState} {v : AVal} {es i j : Nat} {rest : List AVal} (h : FOk P f as T v T') (has : as = .ptr 0 es i j :: rest) (hs : inScopeL 1 as = true) (hg : noGh T = true)
    (hr : inScope 1 v = true) (hg2 : noGh T' = true) (hl : ∃ o, T'[0]? = some o ∧ o.live = true) (hT : 1 ≤ T.length) : FOk P f as [.gh T] v [.gh T'] :=
  ⟨h.1, fun F w ρ args r hp => by
    obtain ⟨b, hb⟩ : ∃ b, ρ 0 = some b := by
      subst has
      have hl := hp.2.1
      obtain ⟨c, hc⟩ : ∃ c, args.toList[0]? = some c := by
        cases hq : args.toList with
        | nil => rw [hq] at hl; simp at hl
        | cons c l => exact ⟨c, rfl⟩
      obtain ⟨b, hb, _⟩ := (hp.2.2 0 _ c rfl hc).ptr_inv
      exact ⟨b, hb⟩
    obtain ⟨ρT, rT, hbT, hL⟩ := r.ungh hb hg
    have hp2 : PW F w ρT as args.toList := ⟨hp.2.1, fun k x y h1 h2 => (hp.2.2 k x y h1 h2).scope (scopeL hs k x h1) |>.weak fun id y h => by
      obtain ⟨h7, h8⟩ := cut_some h
      obtain rfl : id = 0 := by omega
      rw [hb] at h8; cases h8; exact hbT⟩
    refine (h.2 F w ρT args rT ⟨hp.1, hp2⟩).mono fun e w' ⟨ρT', F', he, t, r'⟩ => ?_
    have hb2 : ρT' 0 = some b := t.map 0 b hbT
    obtain ⟨r3, hL3⟩ := r'.togh hb2 hg2 hl
    have hrt : Live F ρ [.gh T] b := ⟨0, _, rfl, rfl, .inl hb⟩
    refine ⟨one b, F'.pack b (Live F' ρT' T'), he.mono (fun x hx => ?_) (fun t ht => ht), ⟨fun id x h => ?_, t.frz, t.os, t.tape, t.output, t.size, t.row, fun x h1 h2 => t.keep x h1 fun h => h2 (hL x h), fun x hx => ?_, fun id x h => ?_, by simp, fun id o h1 _ _ => ?_, ⟨fun y h1 h2 x => ?_, fun id o y x h1 h2 h3 h4 => ?_⟩⟩, r3⟩
    · refine VRel.mono (F := F') (F' := F'.pack b (Live F' ρT' T')) (w := w') (w' := w') (fun x hx => ⟨hx, rfl⟩) (fun _ cs _ _ h => ⟨cs, _, h, rfl⟩) (hx.scope hr) (ρ' := one b) fun id x h => ?_
      obtain ⟨h7, h8⟩ := cut_some h
      obtain rfl : id = 0 := by omega
      rw [hb2] at h8; cases h8; rfl
    · rcases Nat.lt_or_ge id 1 with hi | hi
      · obtain rfl : id = 0 := by omega
        rw [hb] at h; cases h; rfl
      · rw [r.dom id (by simpa using hi)] at h; cases h
    · rcases t.newF x hx with h | h | h
      · exact .inl h
      · exact .inr (.inl h)
      · exact .inr (.inr (hL x h))
    · unfold one at h; split at h
      · rename_i e; subst e; cases h; exact .inl hb
      · cases h
    · refine ⟨.gh T, ?_, rfl⟩
      have := (List.getElem?_eq_some_iff.1 h1).1
      simp at this; subst this; rfl
    · have hne : y ≠ b := fun e => h2 (e ▸ hrt)
      rw [← t.gho.keepO y h1 (fun h => h2 (hL y h)) x]
      constructor
      · rintro (⟨e, _⟩ | ⟨_, h⟩)
        · exact absurd e hne
        · exact h
      · exact fun h => .inr ⟨hne, h⟩
    · unfold one at h3; split at h3
      · rename_i e; subst e; cases h3
        rcases h4 with ⟨_, h⟩ | ⟨h, _⟩
        · exact (t.live' rT h).imp_left (hL x)
        · exact absurd rfl h
      · cases h3⟩

def hideV (β : Nat → Nat) : AVal → AVal
  | .ptr id es i j => .blk (β id) es i j
  | v => v
def hideE (β : Nat → Nat) (ents : List (AVal × AVal)) : List (AVal × AVal) := ents.map fun e => (e.1, hideV β e.2)
theorem hideV_ok {F : FS} {w : World} {ρ : RMap} {v : AVal} {c : Value} (h : VRel F w ρ v c) : VRel F w ρ (hideV (fun id => (ρ id).getD 0) v) c := by
  cases v with
  | ptr id es i j =>
    obtain ⟨b, hb, rfl⟩ := h.ptr_inv
    simp only [hideV, hb, Option.getD_some]
    exact .blk _ _ _ _ _
  | _ => exact h
theorem unhideV {F : FS} {w : World} {ρ : RMap} {β : Nat → Nat} {v : AVal} {c : Value} (h : VRel F w ρ (hideV β v) c) (hb : ∀ id es i j, v = .ptr id es i j → ρ id = some (β id)) : VRel F w ρ v c := by
  cases v with
  | ptr id es i j =>
    simp only [hideV] at h
    rw [h.blk_inv]
    exact .ptr _ _ _ _ _ _ (hb id es i j rfl)
  | _ => exact h
def ptrOrNo : AVal → Bool
  | .ptr _ _ _ _ => true
  | v => idsIn [] v
theorem hide_closed {β : Nat → Nat} {v : AVal} (h : ptrOrNo v = true) : idsIn [] (hideV β v) = true := by
  cases v <;> first | rfl | exact h
theorem FOk.unmq {P : Program} {f : FuncId} {as : List AVal} {T T' : AState} {v : AVal} (a : Nat) {pre own post pre' own' post' : List (AVal × AVal)} (hT : T[a]? = some (.mp false (pre ++ own ++ post))) (hT' : T'[a]? = some (.mp false (pre' ++ own' ++ post')))
    (hcl : ∀ e ∈ pre ++ post, idsIn [] e.1 = true ∧ ptrOrNo e.2 = true) (hsub : ∀ e ∈ pre' ++ post', ∃ e0 ∈ pre ++ own ++ post, e0.2 = e.2)
    (h : ∀ β : Nat → Nat, FOk P f as (T.set a (.mq (hideE β pre) own (hideE β post))) v (T'.set a (.mq (hideE β pre') own' (hideE β post')))) : FOk P f as T v T' :=
  ⟨(h fun _ => 0).1, fun F w ρ args r hp => by
    have hal : a < T.length := (List.getElem?_eq_some_iff.1 hT).1
    have hal' : a < T'.length := (List.getElem?_eq_some_iff.1 hT').1
    have hget : ∀ (β : Nat → Nat) (p o q : List (AVal × AVal)) (i : Nat) (k x : AVal), (hideE β p ++ o ++ hideE β q)[i]? = some (k, x) → ∃ y, (p ++ o ++ q)[i]? = some (k, y) ∧ (x = y ∨ x = hideV β y) := by
      intro β p o q i k x hi
      unfold hideE at hi
      rw [List.getElem?_append, List.getElem?_append] at hi ⊢
      simp only [List.length_append, List.length_map] at hi ⊢
      split at hi
      · split at hi
        · rw [List.getElem?_map, Option.map_eq_some_iff] at hi
          obtain ⟨⟨k0, v0⟩, hi, e⟩ := hi
          simp only [Prod.mk.injEq] at e
          obtain ⟨rfl, rfl⟩ := e
          rename_i h1 h2
          rw [if_pos h1, if_pos h2]
          exact ⟨v0, hi, .inr rfl⟩
        · rename_i h1 h2
          rw [if_pos h1, if_neg h2]
          exact ⟨x, hi, .inl rfl⟩
      · rename_i h1
        rw [if_neg h1]
        rw [List.getElem?_map, Option.map_eq_some_iff] at hi
        obtain ⟨⟨k0, v0⟩, hi, e⟩ := hi
        simp only [Prod.mk.injEq] at e
        obtain ⟨rfl, rfl⟩ := e
        exact ⟨v0, hi, .inr rfl⟩
    have hlenE : ∀ (β : Nat → Nat) (p o q : List (AVal × AVal)), (hideE β p ++ o ++ hideE β q).length = (p ++ o ++ q).length := fun β p o q => by simp [hideE]
    obtain ⟨r1, t1⟩ := r.reobj (id := a) (A := .mq (hideE (fun id => (ρ id).getD 0) pre) own (hideE (fun id => (ρ id).getD 0) post)) (obj_of hT) rfl (fun b hb => by
      obtain ⟨es, cl, h1, h2, h3, h4⟩ := r.obj a _ b hT hb
      refine ⟨fun e he => ?_, es, cl, h1, by rw [hlenE]; exact h2, h3, fun i k x hi => ?_⟩
      · unfold hideE at he
        rw [← List.map_append, List.mem_map] at he
        obtain ⟨e0, he0, rfl⟩ := he
        have := hcl e0 he0
        exact ⟨this.1, hide_closed this.2⟩
      · obtain ⟨y, g1, g2⟩ := hget _ _ _ _ i k x hi
        obtain ⟨z, q1, q2, q3⟩ := h4 i k y g1
        refine ⟨z, q1, q2, ?_⟩
        rcases g2 with rfl | rfl
        · exact q3
        · exact hideV_ok q3)
    refine ((h fun id => (ρ id).getD 0).2 F w ρ args r1 hp).mono fun e w' ⟨ρ', F', he, t, r'⟩ => ?_
    have hset : (T'.set a (.mq (hideE (fun id => (ρ id).getD 0) pre') own' (hideE (fun id => (ρ id).getD 0) post'))).set a (.mp false (pre' ++ own' ++ post')) = T' := by
      rw [List.set_set]
      refine List.ext_getElem? fun i => ?_
      rw [List.getElem?_set]
      split
      · rename_i e; subst e; rw [hT']
      · rfl
    have hg : (T'.set a (.mq (hideE (fun id => (ρ id).getD 0) pre') own' (hideE (fun id => (ρ id).getD 0) post')))[a]? = some (.mq (hideE (fun id => (ρ id).getD 0) pre') own' (hideE (fun id => (ρ id).getD 0) post')) := by
      rw [List.getElem?_set, if_pos rfl, if_pos hal']
    obtain ⟨r2, t2⟩ := r'.reobj (id := a) (A := .mp false (pre' ++ own' ++ post')) (obj_of hg) rfl (fun b hb => by
      have hba : ρ a = some b := by
        rcases t.newρ a b hb with h | ⟨h, _⟩
        · exact h
        · simp at h; omega
      obtain ⟨es0, cl0, k1, k2, k3, k4⟩ := r.obj a _ b hT hba
      obtain ⟨_, es, cl, h1, h2, h3, h4⟩ := r'.obj a _ b hg hb
      refine ⟨es, cl, h1, by rw [hlenE] at h2; exact h2, h3, fun i k x hi => ?_⟩
      have hcase : (∃ x', (hideE (fun id => (ρ id).getD 0) pre' ++ own' ++ hideE (fun id => (ρ id).getD 0) post')[i]? = some (k, x') ∧ (x' = x ∨ (x' = hideV (fun id => (ρ id).getD 0) x ∧ (k, x) ∈ pre' ++ post'))) := by
        unfold hideE
        rw [List.getElem?_append, List.getElem?_append] at hi ⊢
        simp only [List.length_append, List.length_map] at hi ⊢
        split at hi
        · split at hi
          · rename_i g1 g2
            rw [if_pos g1, if_pos g2, List.getElem?_map, hi]
            exact ⟨_, rfl, .inr ⟨rfl, List.mem_append.2 (.inl (List.mem_of_getElem? hi))⟩⟩
          · rename_i g1 g2
            rw [if_pos g1, if_neg g2]
            exact ⟨x, hi, .inl rfl⟩
        · rename_i g1
          rw [if_neg g1, List.getElem?_map, hi]
          exact ⟨_, rfl, .inr ⟨rfl, List.mem_append.2 (.inr (List.mem_of_getElem? hi))⟩⟩
      obtain ⟨x', hx', hor⟩ := hcase
      obtain ⟨z, g1, g2, g3⟩ := h4 i k x' hx'
      refine ⟨z, g1, g2, ?_⟩
      rcases hor with rfl | ⟨rfl, hmem⟩
      · exact g3
      · refine unhideV g3 fun id es i j hv => ?_
        obtain ⟨e0, he0, heq⟩ := hsub _ hmem
        obtain ⟨i0, hi0⟩ := List.getElem?_of_mem he0
        obtain ⟨y, _, _, q3⟩ := k4 i0 e0.1 e0.2 hi0
        rw [heq, show (k, x).2 = x from rfl, hv] at q3
        obtain ⟨bx, hbx, _⟩ := q3.ptr_inv
        show ρ' id = some ((ρ id).getD 0)
        have hbx : ρ id = some bx := hbx
        rw [hbx]
        exact t.map id bx hbx)
    rw [hset] at r2 t2
    exact ⟨ρ', F', he, Tr.trans r t1 (Tr.trans r1 t t2), r2⟩⟩

theorem plug_at {S S2 : AState} {es : List Nat} {σ1 σ2 : AState} {i0 a : Nat} {o : AObj} (hnd : nodupB es = true) (hlt : ∀ j ∈ es, j < S.length) (hl : es.length ≤ σ1.length) (hl2 : σ2.length = σ1.length) (hS : S2.length = S.length) (ha : es[i0]? = some a) (ho : σ1[i0]? = some o)
    (h1 : ∀ j, j ≠ a → S[j]? = S2[j]?) (h2 : ∀ i, i ≠ i0 → σ1[i]? = σ2[i]?) : plug S es σ1 = (plug S2 es σ2).set a (renO (emb es S.length) o) := by
  have hlt2 : ∀ j ∈ es, j < S2.length := fun j hj => by rw [hS]; exact hlt j hj
  have hi0 : i0 < es.length := (List.getElem?_eq_some_iff.1 ha).1
  have haS : a < S.length := hlt a (List.mem_of_getElem? ha)
  refine List.ext_getElem? fun j => ?_
  rw [List.getElem?_set]
  by_cases hja : a = j
  · subst hja
    rw [if_pos rfl, if_pos (by rw [plug_len hnd hlt2 (by omega), hS]; omega)]
    exact plug_in hnd hlt hl ha ho
  · rw [if_neg hja]
    rcases Nat.lt_or_ge j S.length with hj | hj
    · by_cases hm : j ∈ es
      · obtain ⟨i, hi⟩ := List.getElem?_of_mem hm
        have hii : i ≠ i0 := fun e => by subst e; rw [ha] at hi; cases hi; exact hja rfl
        have hil : i < σ1.length := by have := (List.getElem?_eq_some_iff.1 hi).1; omega
        have ho1 : σ1[i]? = some σ1[i] := List.getElem?_eq_getElem hil
        rw [plug_in hnd hlt hl hi ho1, plug_in hnd hlt2 (by omega) hi (by rw [← h2 i hii]; exact ho1), hS]
      · rw [plug_out hnd hlt hl hj hm, plug_out hnd hlt2 (by omega) (by omega) hm, h1 j (fun e => hja e.symm)]
    · obtain ⟨d, rfl⟩ : ∃ d, j = S.length + d := ⟨j - S.length, by omega⟩
      rw [plug_new hnd hlt hl d, ← hS, plug_new hnd hlt2 (by omega) d, hS, h2 (es.length + d) (by omega)]
end Go.Abs
end
