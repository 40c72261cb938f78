import Derived.Test.YtkecmndppllijaaDoorAbsRow
set_option linter.unusedVariables false
set_option linter.unusedSectionVars false
set_option linter.unusedSimpArgs false
namespace Go.Abs

/-! ## Small numbers -/
theorem wrapS {n : Int} (h0 : -9223372036854775808 ≤ n) (h1 : n ≤ 9223372036854775807) : IntKind.wrap .i64 n = n := by
  simp only [IntKind.wrap, IntKind.bits, IntKind.signed, Bool.true_and]
  split
  · rename_i h; simp at h; omega
  · rename_i h; simp at h; omega

theorem and_small (m : Int) (k : Nat) (hk : k < 4611686018427387904) : 0 ≤ bits .and .i64 m (k : Int) ∧ bits .and .i64 m (k : Int) ≤ k := by
  have h : ((BitVec.ofInt 64 m) &&& (BitVec.ofInt 64 (k : Int))).toNat ≤ k := by
    rw [BitVec.toNat_and]
    refine Nat.le_trans Nat.and_le_right ?_
    simp
    omega
  have e : bits .and .i64 m (k : Int) = (((BitVec.ofInt 64 m) &&& (BitVec.ofInt 64 (k : Int))).toNat : Int) := by
    show IntKind.wrap .i64 (((BitVec.ofInt 64 m) &&& (BitVec.ofInt 64 (k : Int))).toNat : Int) = _
    exact wrapS (by omega) (by omega)
  rw [e]
  omega

/-! ## Rows of things -/
section
variable {α : Type} {f : α → List AVal}
theorem getD_map (l : List α) (i : Nat) (d : α) (h : i < l.length) : (l.map f).getD i [] = f (l.getD i d) := by
  rw [List.getD_eq_getElem?_getD, List.getD_eq_getElem?_getD, List.getElem?_map, List.getElem?_eq_getElem h]; rfl
theorem set_map (l : List α) (i : Nat) (x : α) : (l.map f).set i (f x) = (l.set i x).map f := by rw [List.map_set]
theorem all_map {p : List AVal → Bool} (l : List α) (h : ∀ x, p (f x) = true) : (l.map f).all p = true := by
  rw [List.all_map, List.all_eq_true]
  intro x _; exact h x

/-- things in one row, one behind the other -/
theorem flat_length {w : Nat} (hw : ∀ x, (f x).length = w) (l : List α) : (l.flatMap f).length = l.length * w := by
  induction l with
  | nil => simp
  | cons x l ih => simp [List.flatMap_cons, hw, ih, Nat.add_mul]; omega
theorem flat_getD {w : Nat} (hw : ∀ x, (f x).length = w) : ∀ (l : List α) (i k : Nat) (d : α), i < l.length → k < w → (l.flatMap f).getD (i * w + k) .any = (f (l.getD i d)).getD k .any
  | [], i, k, d, hi, _ => by simp at hi
  | x :: l, 0, k, d, _, hk => by
    have hx := hw x
    simp only [List.flatMap_cons, List.getD_cons_zero, Nat.zero_mul, Nat.zero_add]
    rw [List.getD_eq_getElem?_getD, List.getD_eq_getElem?_getD, List.getElem?_append_left (by omega)]
  | x :: l, i + 1, k, d, hi, hk => by
    have hx := hw x
    have ih := flat_getD hw l i k d (by simpa using hi) hk
    rw [← hx] at hk ih ⊢
    have e : (i + 1) * (f x).length + k = (f x).length + (i * (f x).length + k) := by rw [Nat.succ_mul]; omega
    rw [e, List.flatMap_cons, List.getD_cons_succ, List.getD_eq_getElem?_getD, List.getElem?_append_right (by omega), Nat.add_sub_cancel_left, ← List.getD_eq_getElem?_getD]
    exact ih
theorem setCells_app (a b : List AVal) (j : Nat) : ∀ (vs : List AVal), setCells (a ++ b) (a.length + j) vs = a ++ setCells b j vs := by
  intro vs
  induction vs generalizing b j with
  | nil => rfl
  | cons v vs ih =>
    simp only [setCells]
    rw [List.set_append_right _ _ (by omega), Nat.add_sub_cancel_left, Nat.add_assoc, ih]
theorem setCells_front : ∀ (vs a b : List AVal) (hw : a.length = vs.length), setCells (a ++ b) 0 vs = vs ++ b := by
  intro vs a b hw
  apply List.ext_getElem?
  intro k
  have key : ∀ (vs row : List AVal) (j k : Nat), j + vs.length ≤ row.length → (setCells row j vs)[k]? = if j ≤ k ∧ k < j + vs.length then vs[k - j]? else row[k]? := by
    intro vs
    induction vs with
    | nil => intro row j k _; rw [setCells, if_neg (by simp)]
    | cons v vs ih =>
      intro row j k h
      simp only [List.length_cons] at h
      rw [setCells, ih _ (j + 1) k (by simp; omega), List.getElem?_set]
      by_cases h1 : j = k
      · subst h1
        rw [if_neg (by omega), if_pos (by simp)]
        simp; omega
      · by_cases h2 : j + 1 ≤ k ∧ k < j + 1 + vs.length
        · rw [if_pos h2, if_pos (by simp; omega)]
          obtain ⟨m, rfl⟩ : ∃ m, k = j + 1 + m := ⟨k - (j + 1), by omega⟩
          rw [show j + 1 + m - (j + 1) = m by omega, show j + 1 + m - j = m + 1 by omega]
          rfl
        · rw [if_neg h2, if_neg h1, if_neg (by simp; omega)]
  rw [key _ _ _ _ (by simp; omega)]
  by_cases hk : k < vs.length
  · rw [if_pos (by omega), List.getElem?_append_left hk]; rfl
  · rw [if_neg (by omega), List.getElem?_append_right (by omega), List.getElem?_append_right (by omega), hw]
theorem flat_set {w : Nat} (hw : ∀ x, (f x).length = w) : ∀ (l : List α) (i : Nat) (x : α), i < l.length → setCells (l.flatMap f) (i * w) (f x) = (l.set i x).flatMap f
  | [], i, x, hi => by simp at hi
  | y :: l, 0, x, _ => by
    simp only [List.flatMap_cons, Nat.zero_mul, List.set_cons_zero]
    exact setCells_front _ _ _ (by rw [hw, hw])
  | y :: l, i + 1, x, hi => by
    have ih := flat_set hw l i x (by simpa using hi)
    have hy := hw y
    rw [List.flatMap_cons, List.set_cons_succ, List.flatMap_cons, Nat.succ_mul, Nat.add_comm, ← hy, setCells_app, hy, ih]
end

variable [Glob]
theorem Imp.bool {a b : Bool} (h : a = b) : Imp (.bool a) (.bool b) := by subst h; exact Imp.refl _
theorem Imp.boolt {a b : Bool} (h : a = b) : Imp (.bool a) (.tt b) := fun F w ρ c hc => by subst h; obtain rfl := hc.bool_inv; exact .tt _ _
theorem isEmpty_snoc {α : Type} (l : List α) (x : α) : (l ++ [x]).isEmpty = false := by cases l <;> rfl
theorem isEmpty_map' {α β : Type} (f : α → β) (l : List α) : (l.map f).isEmpty = l.isEmpty := by cases l <;> rfl
theorem rows_of {α : Type} {f : α → List AVal} : ∀ (rows : List (List AVal)), (∀ row ∈ rows, ∃ x, row = f x) → ∃ xs : List α, rows = xs.map f
  | [], _ => ⟨[], rfl⟩
  | r :: rows, h => by
    obtain ⟨x, rfl⟩ := h r (by simp)
    obtain ⟨xs, rfl⟩ := rows_of rows (fun row hr => h row (by simp [hr]))
    exact ⟨x :: xs, rfl⟩
theorem getD_set {α : Type} (l : List α) (i j : Nat) (x d : α) (h : i < l.length) : (l.set i x).getD j d = if i = j then x else l.getD j d := by
  rw [List.getD_eq_getElem?_getD, List.getElem?_set]
  split
  · first | rfl | (rw [if_pos h]; rfl)
  · rw [List.getD_eq_getElem?_getD]
/-! ## What is handed back -/
theorem FOk.toN {P : Program} {f : FuncId} {as : List AVal} {σ σ' : AState} {v : AVal} (h : FOk P f as σ v σ') : FOkN P f as σ v σ' :=
  ⟨h.1, fun F w ρ args r hp => (h.2 F w ρ args r hp).mono fun e w' ⟨x, ρ', F', he, t, r', hx⟩ => ⟨x, ρ', F', he, t.toN r (Nat.le_refl _), r', hx⟩⟩
theorem FOk.weakCell {P : Program} {f : FuncId} {as : List AVal} {σ σ' : AState} {v v' : AVal} {id es' i j : Nat} {rs : List (List AVal)} (h : FOk P f as σ v σ') (ho : obj σ' id = .rows false es' rs) (hi : Imp ((rs.getD i []).getD j .any) v') :
    FOk P f as σ v (σ'.set id (.rows false es' (rs.set i ((rs.getD i []).set j v')))) :=
  ⟨h.1, fun F w ρ args r hp => (h.2 F w ρ args r hp).mono fun e w' ⟨x, ρ', F', he, t, r', hx⟩ => by
    obtain ⟨r2, t2⟩ := r'.weakCell ho hi
    exact ⟨x, ρ', F', he, Tr.trans r t t2, r2, hx⟩⟩
theorem FOk.ext {P : Program} {f : FuncId} {as : List AVal} {σ σ' S : AState} {v : AVal} (h : FOk P f as σ v σ') (hS : S.take σ'.length = σ') : FOk P f as σ v S :=
  ⟨h.1, fun F w ρ args r hp => (h.2 F w ρ args r hp).mono fun e w' ⟨x, ρ', F', he, t, r', hx⟩ => by
    obtain ⟨r2, t2⟩ := r'.ext hS
    exact ⟨x, ρ', F', he, Tr.trans r t t2, r2, hx⟩⟩
/-- An empty slice in a place of the heap gets a place. -/
theorem FOk.nilCell {P : Program} {f : FuncId} {as : List AVal} {σ σ' : AState} {v : AVal} {id es' i j es k : Nat} {cap : Option Nat} {rs : List (List AVal)} (h : FOk P f as σ v σ') (ho : obj σ' id = .rows false es' rs) (hi : (rs.getD i []).getD j .any = .fsl true k [] cap) (p : Bool) :
    FOk P f as σ v (σ'.set id (.rows false es' (rs.set i ((rs.getD i []).set j (.slc true σ'.length es 0 0 none)))) ++ [.rows p es []]) :=
  (h.weakCell ho (by rw [hi]; exact Imp.nilSlc _ _ _ _ _)).ext (List.take_left' (by simp))
theorem Imp.slcCap (b : Bool) (id es off len : Nat) (cap : Option Nat) : Imp (.slc b id es off len cap) (.slc b id es off len none) := fun F w ρ c hc => by
  cases hc with
  | slc _ _ _ _ _ _ c b h hl hcp hs => exact .slc _ _ _ _ _ _ _ _ h hl (by simp) hs
  | slcE _ _ _ _ _ _ base hb hcp => exact .slcE _ _ _ _ _ _ _ hb (by simp)
/-- A slice of its own that is handed back is nobody's any more. -/
theorem FOk.fsl {P : Program} {f : FuncId} {as : List AVal} {σ σ' σ2 : AState} {b : Bool} {id es : Nat} {rs : List (List AVal)} (h : FOk P f as σ (.slc b id es 0 rs.length none) σ') (hid : σ'.getD id .dead = .rows true es rs)
    (hh : (List.range σ2.length).map (fun j => (σ'.set id .dead)[j]?) = σ2.map fun o => some (renO (old (List.range σ2.length)) o))
    (ok : (okMove σ.length (List.range σ2.length) (σ'.set id .dead).length [.any] σ2 && (σ2.drop σ.length).all AObj.live) = true) :
    FOk P f as σ (.fsl b es rs none) σ2 := by
  have h2 := h.freeze (x := (.fsl b es rs none, ⟨[.fsl b es rs none], σ'.set id .dead, [decide (0 + rs.length ≤ rs.length) = true]⟩)) (by
    unfold freezeA freezeV
    have : objP σ' id = .rows true es rs := by unfold objP obj; rw [hid]; rfl
    simp [this]) (allP_of ⟨by simp, trivial⟩)
  refine h2.toN.move (List.range σ2.length) rfl hh ?_
  rw [Bool.and_eq_true] at ok ⊢
  refine ⟨?_, ok.2⟩
  have h1 := ok.1
  unfold okMove at h1 ⊢
  simp only [Bool.and_eq_true] at h1 ⊢
  exact ⟨⟨h1.1.1, by simp [inScopeL, inScope]⟩, h1.2⟩

/-! ## Rows that nobody reaches any more -/
theorem Rel.takeRows {ρ : RMap} {F : Nat → Prop} {σ : AState} {w : World} (r : Rel ρ F σ w) {id es' : Nat} {p : Bool} {rs : List (List AVal)} (ho : Abs.obj σ id = .rows p es' rs) (k : Nat) :
    Rel ρ F (σ.set id (.rows p es' (rs.take k))) w ∧ Tr σ (σ.set id (.rows p es' (rs.take k))) ρ ρ F F w w := by
  have hid := obj_some ho rfl
  have hlt := (List.getElem?_eq_some_iff.1 hid).1
  have hcase : ∀ x o', (σ.set id (.rows p es' (rs.take k)))[x]? = some o' → (x = id ∧ o' = .rows p es' (rs.take k)) ∨ (x ≠ id ∧ σ[x]? = some o') := by
    intro x o' h
    rw [List.getElem?_set] at h
    by_cases e : id = x
    · subst e; simp only [if_true, hlt] at h; exact .inl ⟨rfl, by simpa using h.symm⟩
    · simp only [e, if_false] at h; exact .inr ⟨fun e' => e e'.symm, h⟩
  have hback : ∀ (x : Nat) (o' : AObj), (σ.set id (.rows p es' (rs.take k)))[x]? = some o' → o'.live = true → ∃ o : AObj, σ[x]? = some o ∧ o.live = true := by
    intro x o' h1 h2
    rcases hcase x o' h1 with ⟨rfl, _⟩ | ⟨_, h⟩
    · exact ⟨_, hid, rfl⟩
    · exact ⟨o', h, h2⟩
  have htk : ∀ (i : Nat) (row : List AVal), (rs.take k)[i]? = some row → rs[i]? = some row := by
    intro i row h
    rw [List.getElem?_take] at h
    split at h
    · exact h
    · cases h
  refine ⟨⟨?_, ?_, ?_, r.lt, fun id h => r.dom id (by simpa using h)⟩, ⟨fun _ _ h => h, fun _ h => h, rfl, rfl, rfl, Nat.le_refl _, fun _ cs _ _ h => ⟨cs, _, h, rfl⟩, fun _ _ _ => rfl, fun _ h => .inl h, fun _ _ h => .inl h, by simp, fun x o' h1 h2 _ => hback x o' h1 h2⟩⟩
  · intro x o' y h1 h2
    rcases hcase x o' h1 with ⟨rfl, rfl⟩ | ⟨hne, h⟩
    · obtain ⟨cs, T, fr, k1, k2, k3, k4, k5⟩ := r.obj _ _ _ hid h2
      refine ⟨cs, T, fr, k1, k2, ?_, fun i row e => k4 i row (htk i row e), fun i j row v e1 e2 => k5 i j row v (htk i row e1) e2⟩
      exact Nat.le_trans (Nat.mul_le_mul_right _ (by rw [List.length_take]; exact Nat.min_le_right _ _)) k3
    · exact r.obj x o' y h h2
  · intro x y o1 o2 z h1 h2 h3 h4 h5 h6
    obtain ⟨p1, e1, e2⟩ := hback x o1 h1 h3
    obtain ⟨p2, e3, e4⟩ := hback y o2 h2 h4
    exact r.inj _ _ _ _ _ e1 e3 e2 e4 h5 h6
  · intro x hx
    refine ⟨(r.fr x hx).1, ?_⟩
    rintro ⟨y, o', h1, h2, h3⟩
    obtain ⟨o, e1, e2⟩ := hback y o' h1 h2
    exact (r.fr x hx).2 ⟨y, o, e1, e2, h3⟩
theorem FOk.takeRows {P : Program} {f : FuncId} {as : List AVal} {σ σ' : AState} {v : AVal} {id es' : Nat} {p : Bool} {rs : List (List AVal)} (h : FOk P f as σ v σ') (ho : obj σ' id = .rows p es' rs) (k : Nat) :
    FOk P f as σ v (σ'.set id (.rows p es' (rs.take k))) :=
  ⟨h.1, fun F w ρ args r hp => (h.2 F w ρ args r hp).mono fun e w' ⟨x, ρ', F', he, t, r', hx⟩ => by
    obtain ⟨r2, t2⟩ := r'.takeRows ho k
    exact ⟨x, ρ', F', he, Tr.trans r t t2, r2, hx⟩⟩
theorem TripN.takeRows {P : Program} {N : Nat} {c : Code} {rg rg' : Regs} {σ σ' : AState} {e : AExit} {id es' : Nat} {p : Bool} {rs : List (List AVal)} (h : TripN P N c rg σ e rg' σ') (ho : obj σ' id = .rows p es' rs) (k : Nat) :
    TripN P N c rg σ e rg' (σ'.set id (.rows p es' (rs.take k))) := by
  intro hn F w ρ a Q r ha hQ
  refine h hn F w ρ a Q r ha fun ρ' F' w' a' t r' ha' => ?_
  obtain ⟨r2, t2⟩ := r'.takeRows ho k
  exact hQ ρ' F' w' a' (t.trans (t2.toN r' t.len)) r2 ha'
/-! ## Tuples that are handed back are nobody's any more -/
def freezeAL : AState → List AVal → Option (List AVal × AState × List Prop)
  | σ, [] => some ([], σ, [])
  | σ, v :: vs => (freezeA σ v).bind fun x => (freezeAL x.2.σ vs).map fun y => (x.1 :: y.1, y.2.1, x.2.cs ++ y.2.2)
theorem freezeAL_ok {ρ : RMap} {w : World} : ∀ {σ : AState} {F : Nat → Prop} (vs : List AVal) (cs : List Value) {x : List AVal × AState × List Prop}, Rel ρ F σ w → PW F w ρ vs cs → freezeAL σ vs = some x → allP x.2.2 →
    ∃ F', Rel ρ F' x.2.1 w ∧ Tr σ x.2.1 ρ ρ F F' w w ∧ PW F' w noId x.1 cs
  | σ, F, [], cs, x, r, h, hx, _ => by
    simp only [freezeAL, Option.some.injEq] at hx
    subst hx
    match cs, h with
    | [], _ => exact ⟨F, r, Tr.refl _ _ _ _, PW.nil⟩
    | _ :: _, h => have := h.1; simp at this
  | σ, F, v :: vs, cs, x, r, h, hx, hcs => by
    match cs, h with
    | [], h => have := h.1; simp at this
    | c :: cs, h =>
      simp only [freezeAL] at hx
      rw [Option.bind_eq_some_iff] at hx
      obtain ⟨y, hy, hx⟩ := hx
      rw [Option.map_eq_some_iff] at hx
      obtain ⟨z, hz, hx⟩ := hx
      subst hx
      obtain ⟨F1, r1, t1, hv⟩ := freezeA_ok r (h.2 0 v c rfl rfl) hy hcs.append.1
      have h' : PW F1 w ρ vs cs := ⟨h.tail.1, fun i a b e1 e2 => (h.tail.2 i a b e1 e2).tr r t1⟩
      obtain ⟨F2, r2, t2, hp⟩ := freezeAL_ok vs cs r1 h' hz hcs.append.2
      exact ⟨F2, r2, Tr.trans r t1 t2, .cons (hv.tr0 r1 t2) hp⟩
theorem FOk.freezeT {P : Program} {f : FuncId} {as : List AVal} {σ σ' : AState} {vs : List AVal} (h : FOk P f as σ (.tuple vs) σ') {x : List AVal × AState × List Prop} (hx : freezeAL σ' vs = some x) (hcs : allP x.2.2) : FOk P f as σ (.tuple x.1) x.2.1 :=
  ⟨h.1, fun F w ρ args r hp => (h.2 F w ρ args r hp).mono fun e w' ⟨y, ρ', F', he, t, r', hy⟩ => by
    cases hy with
    | tuple _ _ cv hl hh =>
      have pw : PW F' w' ρ' vs cv.toList := ⟨by rw [Array.length_toList]; exact hl, fun i v u h1 h2 => hh i v u h1 (by rw [← Array.getElem?_toList]; exact h2)⟩
      obtain ⟨F2, r2, t2, hv⟩ := freezeAL_ok _ _ r' pw hx hcs
      have hv2 : VRel F2 w' ρ' (.tuple x.1) (.tuple cv) := .tuple _ _ _ (by rw [hv.1, Array.length_toList]) fun i v u h1 h2 => (hv.2 i v u h1 (by rw [Array.getElem?_toList]; exact h2)).pure
      exact ⟨_, ρ', F2, he, Tr.trans r t t2, r2, hv2⟩⟩
end Go.Abs
