import Derived.Test.YtkecmndppllijaaDoorAbsCong
set_option linter.unusedVariables false
set_option linter.unusedSectionVars false
set_option linter.unusedSimpArgs false
namespace Go.Abs

section
variable {P : Program}

/-! ## What an operation does at another heap, the same at the places that it looks at -/
def Same (T : List Nat) (σ σ2 : AState) : Prop := σ2.length = σ.length ∧ ∀ id ∈ T, obj σ2 id = obj σ id
structure Moved (T W : List Nat) (σ σ' σ2 σ2' : AState) : Prop where
  len : σ2'.length = σ'.length
  at_ : ∀ id ∈ T, obj σ2' id = obj σ' id
  new : ∀ id, σ.length ≤ id → obj σ2' id = obj σ' id
  rest : ∀ id, id < σ.length → id ∉ W → obj σ2' id = obj σ2 id ∧ obj σ' id = obj σ id

theorem obj_none {σ : AState} {id : Nat} (h : σ.length ≤ id) : obj σ id = .dead := by
  unfold obj; rw [List.getD_eq_getElem?_getD, List.getElem?_eq_none h]; rfl
theorem obj_get {σ : AState} {id : Nat} (h : id < σ.length) : σ[id]? = some (obj σ id) := by
  unfold obj; rw [List.getD_eq_getElem?_getD, List.getElem?_eq_getElem h]; rfl
theorem obj_of {σ : AState} {id : Nat} {o : AObj} (h : σ[id]? = some o) : obj σ id = o := by
  unfold obj; rw [List.getD_eq_getElem?_getD, h]; rfl
theorem obj_set (σ : AState) (i j : Nat) (o : AObj) : obj (σ.set i o) j = if i = j ∧ i < σ.length then o else obj σ j := by
  unfold obj
  simp only [List.getD_eq_getElem?_getD, List.getElem?_set]
  by_cases h : i = j
  · subst h
    by_cases h2 : i < σ.length
    · simp [h2]
    · simp [h2, List.getElem?_eq_none (Nat.not_lt.1 h2)]
  · simp [h]
theorem obj_push (σ : AState) (j : Nat) (o : AObj) : obj (σ ++ [o]) j = if j < σ.length then obj σ j else if j = σ.length then o else .dead := by
  by_cases h : j < σ.length
  · unfold obj; rw [if_pos h, List.getD_eq_getElem?_getD, List.getD_eq_getElem?_getD, List.getElem?_append_left h]
  · rw [if_neg h]
    by_cases h2 : j = σ.length
    · subst h2; rw [if_pos rfl]; exact obj_of (by simp)
    · rw [if_neg h2]; exact obj_none (by simp; omega)

theorem objP_congr {σ σ2 : AState} {id : Nat} (h : obj σ2 id = obj σ id) : objP σ2 id = objP σ id := by unfold objP; rw [h]
theorem pureO_plain {σ : AState} {id es : Nat} {rs : List (List AVal)} (h : objP σ id = .rows true es rs) : isPureO (obj σ id) = true := by
  unfold objP at h
  cases ho : obj σ id <;> rw [ho] at h <;> simp [AObj.plain] at h
  · simp [isPureO, h]
  · simp [isPureO, h]
theorem Moved.refl {T : List Nat} (W : List Nat) {σ σ2 : AState} (h : Same T σ σ2) : Moved T W σ σ σ2 σ2 :=
  ⟨h.1, h.2, fun id hi => by rw [obj_none hi, obj_none (by rw [h.1]; exact hi)], fun id _ _ => ⟨rfl, rfl⟩⟩
theorem Moved.push {T W : List Nat} {σ σ' σ2 σ2' : AState} (m : Moved T W σ σ' σ2 σ2') (hl : σ'.length = σ.length) (o : AObj) (hT : ∀ id ∈ T, id < σ.length ∨ obj σ id = obj σ id) : Moved T W σ (σ' ++ [o]) σ2 (σ2' ++ [o]) := by
  refine ⟨by simp [m.len], fun id hi => ?_, fun id hi => ?_, fun id hi hw => ?_⟩
  · rw [obj_push, obj_push, m.len, m.at_ id hi]
  · rw [obj_push, obj_push, m.len, m.new id hi]
  · obtain ⟨h1, h2⟩ := m.rest id hi hw
    rw [obj_push, obj_push, m.len, hl, if_pos hi, if_pos hi]
    exact ⟨h1, h2⟩
theorem Moved.set {T W : List Nat} {σ σ' σ2 σ2' : AState} (m : Moved T W σ σ' σ2 σ2') {id : Nat} (hw : id ∈ W) (o : AObj) : Moved T W σ (σ'.set id o) σ2 (σ2'.set id o) := by
  refine ⟨by simp [m.len], fun j hj => ?_, fun j hj => ?_, fun j hj hjw => ?_⟩
  · rw [obj_set, obj_set, m.len, m.at_ j hj]
  · rw [obj_set, obj_set, m.len, m.new j hj]
  · have hne : id ≠ j := fun e => hjw (e ▸ hw)
    rw [obj_set, obj_set, if_neg (fun h => hne h.1), if_neg (fun h => hne h.1)]
    exact m.rest j hj hjw
theorem Moved.same {T W : List Nat} {σ σ' σ2 σ2' : AState} (m : Moved T W σ σ' σ2 σ2') : Same T σ' σ2' := ⟨m.len, m.at_⟩

theorem freezeV_loc {T W : List Nat} {σ σ1 σ2 σ3 : AState} {v : AVal} {x : Frz} (m : Moved T W σ σ1 σ2 σ3) (hl : σ1.length = σ.length) (hT : ∀ id ∈ idOf v, id ∈ T ∧ id ∈ W) (h : freezeV σ1 v = some x) :
    ∃ σ4, freezeV σ3 v = some ⟨x.v, σ4, x.cs⟩ ∧ Moved T W σ x.σ σ2 σ4 ∧ x.σ.length = σ.length := by
  unfold freezeV at h ⊢
  split at h
  · rename_i isnil id es off len cap
    obtain ⟨h1, h2⟩ := hT id (by simp [idOf])
    rw [objP_congr (m.at_ id h1)]
    split at h
    · rename_i ho
      split at h
      · rename_i hc
        cases h
        exact ⟨_, by first | (simp only [hc, if_true]; done) | (rw [ho]; simp only [hc, if_true]), m.set h2 _, by simpa using hl⟩
      · cases h
    · cases h
  · split at h
    · rename_i hc
      cases h
      exact ⟨_, by simp only [hc, if_true], m, hl⟩
    · cases h

theorem freezeL_loc {T W : List Nat} {σ σ2 : AState} : ∀ {σ1 σ3 : AState} (vs : List AVal) {x : Frz}, Moved T W σ σ1 σ2 σ3 → σ1.length = σ.length → (∀ id ∈ vs.flatMap idOf, id ∈ T ∧ id ∈ W) → freezeL σ1 vs = some x →
    ∃ σ4, freezeL σ3 vs = some ⟨x.v, σ4, x.cs⟩ ∧ Moved T W σ x.σ σ2 σ4 ∧ x.σ.length = σ.length
  | σ1, σ3, [], x, m, hl, _, h => by cases h; exact ⟨σ3, rfl, m, hl⟩
  | σ1, σ3, v :: vs, x, m, hl, hT, h => by
    simp only [freezeL, Option.bind_eq_some_iff, Option.map_eq_some_iff] at h
    obtain ⟨y, hy, z, hz, rfl⟩ := h
    obtain ⟨σ4, e1, m1, l1⟩ := freezeV_loc m hl (fun id hi => hT id (by simp [hi])) hy
    obtain ⟨σ5, e2, m2, l2⟩ := freezeL_loc vs m1 l1 (fun id hi => hT id (by simp only [List.flatMap_cons, List.mem_append]; exact .inr hi)) hz
    exact ⟨σ5, by simp [freezeL, e1, e2], m2, l2⟩

theorem freezeA_loc {T W : List Nat} {σ σ1 σ2 σ3 : AState} {v : AVal} {x : AVal × Frz} (m : Moved T W σ σ1 σ2 σ3) (hl : σ1.length = σ.length) (hT : ∀ id ∈ v.cells.flatMap idOf, id ∈ T ∧ id ∈ W) (h : freezeA σ1 v = some x) :
    ∃ σ4, freezeA σ3 v = some (x.1, ⟨x.2.v, σ4, x.2.cs⟩) ∧ Moved T W σ x.2.σ σ2 σ4 ∧ x.2.σ.length = σ.length := by
  unfold freezeA at h ⊢
  split at h
  · rename_i cs
    rw [Option.map_eq_some_iff] at h
    obtain ⟨y, hy, rfl⟩ := h
    obtain ⟨σ4, e, m', l⟩ := freezeL_loc cs m hl hT hy
    exact ⟨σ4, by simp [e], m', l⟩
  · rename_i hne
    rw [Option.map_eq_some_iff] at h
    obtain ⟨y, hy, rfl⟩ := h
    have hc : v.cells = [v] := by cases v <;> first | rfl | exact absurd rfl (hne _)
    obtain ⟨σ4, e, m', l⟩ := freezeV_loc m hl (by rw [hc] at hT; simpa using hT) hy
    exact ⟨σ4, by simp [e], m', l⟩

/-- a value that has nothing to do with the heap -/
theorem loc_same {T : List Nat} {σ σ2 : AState} {f : AState → Option Out} {out : Out} (hs : Same T σ σ2) (h : f σ = some out) (hσ : out.σ = σ) (h2 : f σ2 = some ⟨out.v, σ2, out.cs⟩) : ∃ σ2', f σ2 = some ⟨out.v, σ2', out.cs⟩ ∧ Moved T [] σ out.σ σ2 σ2' :=
  ⟨σ2, h2, by rw [hσ]; exact Moved.refl _ hs⟩
theorem loc_new {T : List Nat} {σ σ2 : AState} {o : AObj} (hs : Same T σ σ2) : Moved T [] σ (σ ++ [o]) σ2 (σ2 ++ [o]) :=
  (Moved.refl [] hs).push rfl o fun id _ => .inr rfl

theorem aload_loc {t : TypeId} {a : AVal} {σ σ2 : AState} {out : Out} (hs : Same (idOf a) σ σ2) (h : aload P t a σ = some out) : out.σ = σ ∧ aload P t a σ2 = some ⟨out.v, σ2, out.cs⟩ := by
  unfold aload at h ⊢
  dsimp only at h ⊢
  split at h
  · cases h
  · rename_i hu
    rw [if_neg hu]
    split at h
    · rename_i id es i j
      rw [objP_congr (hs.2 id (by simp [idOf]))]
      split at h
      · rename_i ho; (try rw [ho]); (try dsimp only)
        repeat' (first | (cases h; done) | split at h)
        all_goals (cases h; first | (simp [*]; done) | (simp_all; done))
      · rename_i ho; (try rw [ho]); (try dsimp only)
        repeat' (first | (cases h; done) | split at h)
        all_goals (cases h; first | (simp [*]; done) | (simp_all; done))
      · cases h
    · repeat' (first | (cases h; done) | split at h)
      all_goals (cases h; first | (simp [*]; done) | (simp_all; done))
    · cases h

theorem alookup_loc {t : TypeId} {x k : AVal} {ok : Bool} {σ σ2 : AState} {out : Out} (hs : Same (idOf x) σ σ2) (h : alookup P t x k ok σ = some out) : out.σ = σ ∧ alookup P t x k ok σ2 = some ⟨out.v, σ2, out.cs⟩ := by
  unfold alookup at h ⊢
  split at h
  · split at h
    · rename_i hk
      split at h
      · rename_i hz
        split at h
        · cases h; simp [*]
        · rename_i id
          rw [if_pos hk]
          try rw [hz]
          try dsimp only
          rw [hs.2 id (by simp [idOf])]
          split at h
          · rename_i ho; (try rw [ho]); cases h; simp
          · rename_i ho; (try rw [ho]); cases h; simp
          · cases h
        · cases h
      · cases h
    · cases h
  · cases h

theorem rowsOf_loc {es : Nat} {x : AVal} {σ σ2 : AState} (h : ∀ id ∈ idOf x, obj σ2 id = obj σ id) : rowsOf es σ2 x = rowsOf es σ x := by
  unfold rowsOf
  cases x <;> try rfl
  rename_i isnil id es1 off len cap
  dsimp only
  rw [objP_congr (h id (by simp [idOf]))]

theorem srcA_loc {u : TypeId} {es : Nat} {x : AVal} {σ σ2 : AState} (h : ∀ id ∈ idOf x, obj σ2 id = obj σ id) : srcA P u es σ2 x = srcA P u es σ x := by
  unfold srcA
  rw [rowsOf_loc h]
theorem abox_loc {T : List Nat} {v : AVal} {σ σ2 : AState} {out : Out} (hs : Same T σ σ2) (h : abox v σ = some out) : ∃ σ2', abox v σ2 = some ⟨out.v, σ2', out.cs⟩ ∧ Moved T [] σ out.σ σ2 σ2' := by
  unfold abox at h ⊢
  dsimp only at h ⊢
  split at h
  · rename_i hc
    cases h
    refine ⟨σ2 ++ [_], ?_, loc_new hs⟩
    simp only [hc, if_true, new, hs.1]
  · cases h

theorem Moved.anyW {T W W' : List Nat} {σ σ' σ2 σ2' : AState} (m : Moved T W σ σ' σ2 σ2') (h : ∀ id ∈ W, id ∈ W') : Moved T W' σ σ' σ2 σ2' :=
  ⟨m.len, m.at_, m.new, fun id h1 h2 => m.rest id h1 fun hw => h2 (h id hw)⟩

theorem amapUpdate_loc {t : TypeId} {mv k v : AVal} {σ σ2 : AState} {out : Out} (hs : Same (putIds mv v σ) σ σ2) (h : amapUpdate P t mv k v σ = some out) :
    ∃ σ2', amapUpdate P t mv k v σ2 = some ⟨out.v, σ2', out.cs⟩ ∧ Moved (putIds mv v σ) (putIds mv v σ) σ out.σ σ2 σ2' := by
  unfold amapUpdate at h ⊢
  split at h
  · rename_i kt e id hu
    have hid : id ∈ putIds (.map id) v σ := by simp [putIds]
    have m0 := Moved.refl (putIds (.map id) v σ) hs
    split at h
    · rename_i hk
      rw [if_pos hk, hs.2 id hid]
      split at h
      · rename_i ents ho
        (try rw [ho]); cases h
        exact ⟨_, rfl, m0.set hid _⟩
      · rename_i ents ho
        rw [Option.bind_eq_some_iff] at h
        obtain ⟨x, hx, h⟩ := h
        split at h
        · rename_i hlive
          cases h
          obtain ⟨σ4, e1, m1, l1⟩ := freezeA_loc m0 rfl (fun i hi => by
            have : i ∈ putIds (.map id) v σ := by
              unfold putIds; dsimp only; rw [ho]; simp only [isPureO, if_true, List.mem_cons]; exact .inr hi
            exact ⟨this, this⟩) hx
          (try rw [ho]); (try dsimp only)
          refine ⟨_, ?_, m1.set hid _⟩
          rw [e1, Option.bind_some]
          dsimp only
          rw [m1.at_ id hid, if_pos hlive]
        · cases h
      · cases h
    · cases h
  · cases h

theorem astore_loc {t : TypeId} {a v : AVal} {σ σ2 : AState} {out : Out} (hs : Same (putIds a v σ) σ σ2) (h : astore P t a v σ = some out) :
    ∃ σ2', astore P t a v σ2 = some ⟨out.v, σ2', out.cs⟩ ∧ Moved (putIds a v σ) (putIds a v σ) σ out.σ σ2 σ2' := by
  unfold astore at h ⊢
  dsimp only at h ⊢
  split at h
  · rename_i id es i j
    have hid : id ∈ putIds (.ptr id es i j) v σ := by simp [putIds]
    have m0 := Moved.refl (putIds (.ptr id es i j) v σ) hs
    split at h
    · rename_i hk
      rw [if_pos hk, objP_congr (hs.2 id hid)]
      split at h
      · rename_i es' rs ho
        (try rw [ho]); (try dsimp only)
        split at h
        · rename_i he
          cases h
          rw [if_pos he]
          exact ⟨_, rfl, m0.set hid _⟩
        · cases h
      · rename_i es' rs ho
        split at h
        · rename_i he
          rw [Option.bind_eq_some_iff] at h
          obtain ⟨x, hx, h⟩ := h
          split at h
          · rename_i hlive
            cases h
            obtain ⟨σ4, e1, m1, l1⟩ := freezeL_loc v.cells m0 rfl (fun q hq => by
              have : q ∈ putIds (.ptr id es i j) v σ := by
                unfold putIds; dsimp only; rw [pureO_plain ho]; simp only [if_true, List.mem_cons]; exact .inr hq
              exact ⟨this, this⟩) hx
            (try rw [ho]); (try dsimp only)
            rw [if_pos he]
            refine ⟨_, ?_, m1.set hid _⟩
            rw [e1, Option.bind_some]
            dsimp only
            rw [m1.at_ id hid, if_pos hlive]
          · cases h
        · cases h
      · cases h
    · cases h
  · cases h

theorem aappend_loc {t u : TypeId} {d x : AVal} {σ σ2 : AState} {out : Out} (hs : Same (idOf d ++ idOf x) σ σ2) (h : aappend P t u d x σ = some out) :
    ∃ σ2', aappend P t u d x σ2 = some ⟨out.v, σ2', out.cs⟩ ∧ Moved (idOf d ++ idOf x) (idOf d) σ out.σ σ2 σ2' := by
  unfold aappend at h ⊢
  dsimp only at h ⊢
  split at h
  · rename_i e h1
    rw [srcA_loc (u := u) (es := P.cellsOf e) (x := x) fun id hi => hs.2 id (by simp [hi])]
    rw [Option.bind_eq_some_iff] at h
    obtain ⟨s, hsrc, h⟩ := h
    rw [hsrc, Option.bind_some]
    try dsimp only
    split at h
    · rename_i hc
      rw [if_pos hc]
      split at h
      · rename_i b id es' off len cap
        try dsimp only
        have hid : id ∈ idOf (.slc b id es' off len cap) := by simp [idOf]
        rw [objP_congr (hs.2 id (by simp [idOf])), hs.2 id (by simp [idOf])]
        split at h
        · rename_i p es'' rs ho
          (try rw [ho]); (try dsimp only)
          split at h
          · rename_i hq
            cases h
            rw [if_pos hq]
            refine ⟨_, by rw [hs.1], ?_⟩
            exact ((Moved.refl _ hs).set hid _).push (by simp) _ fun _ _ => .inr rfl
          · cases h
        · cases h
      · cases h
        refine ⟨_, by rw [hs.1], ?_⟩
        exact ((Moved.refl _ hs)).push rfl _ fun _ _ => .inr rfl
      · cases h
    · cases h
  · cases h

theorem alen_loc {t : TypeId} {x : AVal} {σ σ2 : AState} {out : Out} (hs : Same (idOf x) σ σ2) (h : alen P t x σ = some out) : out.σ = σ ∧ alen P t x σ2 = some ⟨out.v, σ2, out.cs⟩ := by
  unfold alen at h ⊢
  split at h
  · cases h; simp [*]
  · cases h; simp [*]
  · cases h; simp [*]
  · cases h; simp [*]
  · cases h; simp [*]
  · rename_i id hu
    rw [hs.2 id (by simp [idOf])]
    split at h
    · rename_i ho; (try rw [ho]); cases h; exact ⟨rfl, rfl⟩
    · cases h
  · cases h

theorem abuiltin_loc {c : Callee} {ts : List TypeId} {vs : List AVal} {σ σ2 : AState} {out : Out} (h : abuiltin P c ts vs σ = some out) (hs : Same (touchB vs).1 σ σ2) :
    ∃ σ2', abuiltin P c ts vs σ2 = some ⟨out.v, σ2', out.cs⟩ ∧ Moved (touchB vs).1 (touchB vs).2 σ out.σ σ2 σ2' := by
  unfold abuiltin at h ⊢
  split at h
  · split at h
    · exact aappend_loc hs h
    · obtain ⟨e1, e2⟩ := alen_loc hs h
      exact ⟨σ2, e2, by rw [e1]; exact Moved.refl _ hs⟩
    · split at h
      · rename_i hc; cases h; exact ⟨σ2, by first | rfl | (rw [if_pos hc]), Moved.refl _ hs⟩
      · cases h
    · unfold aunsafeSliceData at h ⊢
      split at h
      · cases h; exact ⟨σ2, rfl, Moved.refl _ hs⟩
      · cases h
    · unfold aunsafeString at h ⊢
      split at h
      · rename_i e id m hu
        have e1 := hs.2 id (by simp [touchB, idOf])
        try rw [hu]
        try dsimp only
        rw [e1]
        cases ho : obj σ id <;> rw [ho] at h <;> (try dsimp only at h ⊢)
        case trows T p es rs =>
          split at h
          · split at h
            · rename_i hc
              cases h
              refine ⟨_, by simp only [hc, if_true], (Moved.refl _ hs).set (by simp [touchB, idOf]) _⟩
            · cases h
          · cases h
        all_goals cases h
      · cases h
    · split at h
      · rename_i hc; cases h; exact ⟨σ2, by first | rfl | (rw [if_pos hc]), Moved.refl _ hs⟩
      · cases h
    · cases h
  · cases h

theorem aextern_loc {f : FuncId} {as : List AVal} {σ σ2 : AState} {out : Out} (h : aextern P f as σ = some out) (hs : Same (touchB as).1 σ σ2) :
    ∃ σ2', aextern P f as σ2 = some ⟨out.v, σ2', out.cs⟩ ∧ Moved (touchB as).1 [] σ out.σ σ2 σ2' := by
  unfold aextern at h ⊢
  split at h
  · rename_i t id
    have e := hs.2 id (by simp [touchB, idOf])
    rw [e]
    cases ho : obj σ id <;> rw [ho] at h <;> dsimp only at h ⊢
    case mp p ents =>
      obtain rfl := Option.some.inj h
      exact ⟨_, by rw [hs.1], loc_new hs⟩
    all_goals cases h
  · obtain rfl := Option.some.inj h
    refine ⟨σ2, ?_, Moved.refl _ hs⟩
    first | rfl | (split <;> simp_all)
  · cases h

variable [Glob]
theorem aop_loc {op : Op} {ty : TypeId} {rg : Regs} {σ σ2 : AState} {out : Out} (h : aop P op ty rg σ = some out) (hs : Same (touch op rg σ).1 σ σ2) :
    ∃ σ2', aop P op ty rg σ2 = some ⟨out.v, σ2', out.cs⟩ ∧ Moved (touch op rg σ).1 (touch op rg σ).2 σ out.σ σ2 σ2' := by
  have fin : ∀ {W : List Nat}, out.σ = σ → aop P op ty rg σ2 = some ⟨out.v, σ2, out.cs⟩ → ∃ σ2', aop P op ty rg σ2 = some ⟨out.v, σ2', out.cs⟩ ∧ Moved (touch op rg σ).1 W σ out.σ σ2 σ2' := fun e1 e2 => ⟨σ2, e2, by rw [e1]; exact Moved.refl _ hs⟩
  cases op <;> simp only [aop] at h fin ⊢
  case move x => cases h; exact fin rfl rfl
  case assign x => cases h; exact fin rfl rfl
  case alloc t =>
    unfold aalloc at h ⊢
    rw [Option.bind_eq_some_iff] at h
    obtain ⟨z, hz, h⟩ := h
    rw [hz, Option.bind_some]
    split at h
    · rename_i hk
      rw [if_pos hk]
      split at h
      · rename_i hq
        cases h
        rw [if_pos hq]
        refine ⟨σ2 ++ [_], ?_, loc_new hs⟩
        simp only [new, hs.1]
      · cases h
    · rename_i hk
      rw [if_neg hk]
      exact abox_loc hs h
  case box t x => exact abox_loc hs h
  case build t ps =>
    unfold abuild at h fin ⊢
    rw [Option.map_eq_some_iff] at h
    obtain ⟨c, hc, rfl⟩ := h
    exact fin rfl (by rw [hc]; rfl)
  case buildSlice t n ps =>
    unfold abuildSlice at h ⊢
    dsimp only at h ⊢
    split at h
    · split at h
      · split at h
        · rename_i hz
          split at h
          · rename_i hc
            rw [Option.bind_eq_some_iff] at h
            obtain ⟨cs, hcs, h⟩ := h
            split at h
            · rename_i hq
              cases h
              refine ⟨σ2 ++ [_], ?_, loc_new hs⟩
              have := hs.1
              first | (simp [*, new]; done) | (simp_all [new]; done)
            · cases h
          · cases h
        · cases h
      · cases h
    · cases h
  case load t a => obtain ⟨e1, e2⟩ := aload_loc hs h; exact fin e1 e2
  case store t a v => exact astore_loc hs h
  case nilCheck x =>
    have e : out.σ = σ ∧ anilCheck (aev rg x) σ2 = some ⟨out.v, σ2, out.cs⟩ := by
      revert h
      generalize aev rg x = v0
      intro h
      unfold anilCheck at h ⊢
      repeat' (first | (cases h; done) | split at h)
      all_goals (cases h; exact ⟨rfl, rfl⟩)
    exact fin e.1 e.2
  case unOp op t x =>
    have e : out.σ = σ ∧ aunOp op (aev rg x) σ2 = some ⟨out.v, σ2, out.cs⟩ := by
      revert h
      generalize aev rg x = v0
      intro h
      unfold aunOp at h ⊢
      split at h <;> first | (cases h; done) | (cases h; exact ⟨rfl, rfl⟩)
    exact fin e.1 e.2
  case binOp op t x y p =>
    have e : out.σ = σ ∧ abinOp P op t (aev rg x) (aev rg y) σ2 = some ⟨out.v, σ2, out.cs⟩ := by
      unfold abinOp at h ⊢
      split at h
      · cases op <;> dsimp only at h ⊢ <;> first
          | (cases h; done)
          | (rw [Option.map_eq_some_iff] at h
             obtain ⟨b, h1, rfl⟩ := h
             exact ⟨rfl, by simp [h1]⟩)
      · cases op <;> dsimp only at h ⊢ <;> first
          | (cases h; exact ⟨rfl, rfl⟩)
          | (split at h <;> cases h; rename_i hc; exact ⟨rfl, by rw [if_pos hc]⟩)
      · cases op <;> dsimp only at h ⊢ <;> first
          | (cases h; done)
          | (cases h; exact ⟨rfl, rfl⟩)
      · cases op <;> dsimp only at h ⊢ <;> first
          | (cases h; done)
          | (rw [Option.map_eq_some_iff] at h
             obtain ⟨b, h1, rfl⟩ := h
             exact ⟨rfl, by simp [h1]⟩)
    exact fin e.1 e.2
  case convert s d x =>
    have e : out.σ = σ ∧ aconvert P s d (aev rg x) σ2 = some ⟨out.v, σ2, out.cs⟩ := by
      have hr2 := rowsOf_loc (es := 1) (x := aev rg x) (σ := σ) (σ2 := σ2) fun id hi => hs.2 id hi
      have hid : ∀ id ∈ idOf (aev rg x), obj σ2 id = obj σ id := fun id hi => hs.2 id hi
      revert h hr2 hid
      generalize aev rg x = v0
      intro h hr2 hid
      unfold aconvert at h ⊢
      split at h
      · cases h; exact ⟨rfl, by simp [*]⟩
      · cases h; exact ⟨rfl, by simp [*]⟩
      · rename_i x' h1 h2
        split at h
        · rename_i he
          rw [Option.map_eq_some_iff] at h
          obtain ⟨r, hr, rfl⟩ := h
          refine ⟨rfl, ?_⟩
          rw [← hr2] at hr
          try rw [h1, h2]
          try dsimp only
          try rw [he]
          try dsimp only
          rw [hr]; rfl
        · cases h
      · rename_i t id es h1 h2
        rw [hid id (by simp [idOf])]
        cases ho : obj σ id <;> rw [ho] at h <;> dsimp only at h ⊢
        case trows T p es' rs =>
          split at h
          · rename_i hc; cases h; exact ⟨rfl, by simp only [hc, if_true]⟩
          · cases h
        all_goals cases h
      · rename_i u id es h1 h2
        rw [hid id (by simp [idOf])]
        cases ho : obj σ id <;> rw [ho] at h <;> dsimp only at h ⊢
        case trows T p es' rs =>
          split at h
          · rename_i hc; cases h; exact ⟨rfl, by simp only [hc, if_true]⟩
          · cases h
        all_goals cases h
      · cases h
    exact fin e.1 e.2
  case makeFunc fn first cap =>
    have e : out.σ = σ ∧ amakeFunc fn first.toList (cap.toList.map (aev rg)) σ2 = some ⟨out.v, σ2, out.cs⟩ := by
      unfold amakeFunc at h ⊢
      split at h <;> cases h
      exact ⟨rfl, by simp [*]⟩
    exact fin e.1 e.2
  case makeMap t r =>
    unfold amakeMap at h ⊢
    split at h
    · rename_i hu hr
      cases h
      refine ⟨σ2 ++ [_], ?_, loc_new hs⟩
      simp only [hu, hr, new, hs.1]
    · cases h
  case makeSlice t l c =>
    unfold amakeSlice at h ⊢
    split at h
    · rename_i e n m hu hl hc
      rw [Option.bind_eq_some_iff] at h
      obtain ⟨z, hz, h⟩ := h
      dsimp only at h ⊢
      split at h
      · rename_i hq
        cases h
        refine ⟨σ2 ++ [_], ?_, loc_new hs⟩
        try rw [hu, hl, hc]
        try dsimp only
        rw [hz, Option.bind_some, if_pos hq, hs.1]
      · cases h
    · cases h
  case slice t x lo hi mx =>
    have e : out.σ = σ ∧ aslice P t (aev rg x) (lo.map (aev rg)) (hi.map (aev rg)) (mx.map (aev rg)) σ2 = some ⟨out.v, σ2, out.cs⟩ := by
      unfold aslice at h ⊢
      repeat' (first | (cases h; done) | split at h)
      all_goals (cases h; refine ⟨rfl, ?_⟩; first | (simp [*]; done) | (simp_all; done))
    exact fin e.1 e.2
  case fieldAddr t x i =>
    have e : out.σ = σ ∧ afieldAddr P t (aev rg x) i σ2 = some ⟨out.v, σ2, out.cs⟩ := by
      revert h
      generalize (aev rg x) = v0
      intro h
      unfold afieldAddr at h ⊢
      repeat' (first | (cases h; done) | split at h)
      all_goals (cases h; refine ⟨rfl, ?_⟩; first | (simp [*]; done) | (simp_all; done))
    exact fin e.1 e.2
  case field t x i =>
    have e : out.σ = σ ∧ afield P t (aev rg x) i σ2 = some ⟨out.v, σ2, out.cs⟩ := by
      revert h
      generalize (aev rg x) = v0
      intro h
      unfold afield at h ⊢
      repeat' (first | (cases h; done) | split at h)
      all_goals (cases h; refine ⟨rfl, ?_⟩; first | (simp [*]; done) | (simp_all; done))
    exact fin e.1 e.2
  case indexAddr t x i =>
    have e : out.σ = σ ∧ aindexAddr P t (aev rg x) (aev rg i) σ2 = some ⟨out.v, σ2, out.cs⟩ := by
      revert h
      generalize (aev rg x) = v0
      generalize (aev rg i) = v1
      intro h
      unfold aindexAddr at h ⊢
      repeat' (first | (cases h; done) | split at h)
      all_goals (cases h; refine ⟨rfl, ?_⟩; first | (simp [*]; done) | (simp_all; done))
    exact fin e.1 e.2
  case index t x i =>
    have e : out.σ = σ ∧ aindex P t (aev rg x) (aev rg i) σ2 = some ⟨out.v, σ2, out.cs⟩ := by
      revert h
      generalize (aev rg x) = v0
      generalize (aev rg i) = v1
      intro h
      unfold aindex at h ⊢
      repeat' (first | (cases h; done) | split at h)
      all_goals (cases h; refine ⟨rfl, ?_⟩; first | (simp [*]; done) | (simp_all; done))
    exact fin e.1 e.2
  case lookup t x k ok => obtain ⟨e1, e2⟩ := alookup_loc hs h; exact fin e1 e2
  case mapUpdate t m k v => exact amapUpdate_loc hs h
  case insert t m k v => exact amapUpdate_loc hs h
  case makeInterface t x =>
    have e : out.σ = σ ∧ amakeIface P t (aev rg x) σ2 = some ⟨out.v, σ2, out.cs⟩ := by
      revert h
      generalize (aev rg x) = v0
      intro h
      unfold amakeIface at h ⊢
      repeat' (first | (cases h; done) | split at h)
      all_goals (cases h; refine ⟨rfl, ?_⟩; first | (simp [*]; done) | (simp_all; done))
    exact fin e.1 e.2
  case typeAssert x xt t ok =>
    have e : out.σ = σ ∧ atypeAssert P t ok (aev rg x) σ2 = some ⟨out.v, σ2, out.cs⟩ := by
      revert h
      generalize aev rg x = v0
      intro h
      unfold atypeAssert at h ⊢
      split at h
      · cases h
      · split at h
        · split at h
          · cases h; exact ⟨rfl, by simp [*]⟩
          · split at h
            · rw [Option.map_eq_some_iff] at h
              obtain ⟨z, hz, rfl⟩ := h
              exact ⟨rfl, by simp [*]⟩
            · cases h
        · split at h
          · rw [Option.map_eq_some_iff] at h
            obtain ⟨z, hz, rfl⟩ := h
            exact ⟨rfl, by simp [*]⟩
          · cases h
        · cases h
      · cases h
    exact fin e.1 e.2
  case extract x i =>
    have e : out.σ = σ ∧ aextract (aev rg x) i σ2 = some ⟨out.v, σ2, out.cs⟩ := by
      revert h
      show aextract (aev rg x) i σ = _ → _
      generalize aev rg x = v0
      intro h
      unfold aextract at h ⊢
      split at h
      · rw [Option.map_eq_some_iff] at h
        obtain ⟨v, h1, rfl⟩ := h
        exact ⟨rfl, by rw [h1]; rfl⟩
      · cases h
    exact fin e.1 e.2
  case call c => exact abuiltin_loc h hs
  all_goals (cases h; done)

end
end Go.Abs
