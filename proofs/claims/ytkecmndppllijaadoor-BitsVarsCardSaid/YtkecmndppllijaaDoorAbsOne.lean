import Derived.Test.YtkecmndppllijaaDoorAbsRegion
set_option linter.unusedVariables false
set_option linter.unusedSectionVars false
set_option linter.unusedSimpArgs false
namespace Go.Abs
variable [Glob]

section
variable {N : Nat} {P : Program} {F : Nat → Prop} {w : World} {ρ : RMap} {σ : AState}

theorem Res.then_ok {α β : Type} {r : Res α} {f : α → Res β} {y : β} (h : r.then f = .ok y) : ∃ x, r = .ok x ∧ f x = .ok y := by
  cases r with
  | ok a => exact ⟨a, rfl, h⟩
  | no n => cases h

def REq (a b : Regs) : Prop := RImp a b ∧ RImp b a
theorem REq.refl (a : Regs) : REq a a := ⟨RImp.refl _, RImp.refl _⟩
theorem REq.trans {a b c : Regs} (h : REq a b) (h' : REq b c) : REq a c := ⟨h.1.trans h'.1, h'.2.trans h.2⟩
theorem RImp.unset {rg : Regs} {x : Tmp} {v : AVal} (h : Imp v (rg.getD x .any)) : RImp (rput rg (some x) v) rg := by
  refine ⟨rput_length _ _ _, fun t => ?_⟩
  rw [rput_getD]
  split
  · rename_i e; rw [← e.1]; exact h
  · exact Imp.refl _

theorem ask_ok {v : AVal} {x : Option Tmp} {st st' : St} {b : Bool} (h : ask v x st = .ok (b, st')) (hx : ∀ t, x = some t → st.rg.getD t .any = v) (hcs : allP st'.cs) :
    REq st.rg st'.rg ∧ st'.σ = st.σ ∧ Imp v (.tt b) ∧ ∃ new, st'.cs = new ++ st.cs := by
  unfold ask at h
  split at h
  · cases h; exact ⟨REq.refl _, rfl, Imp.refl _, [], rfl⟩
  · rename_i b0
    split at h
    · rename_i d s hs
      cases h
      have hd : b0 = b := hcs.cons.1
      subst hd
      have hi : Imp (.bool b0) (.tt b0) := fun F w ρ c hc => by obtain rfl := hc.bool_inv; exact .tt _ _
      refine ⟨?_, rfl, hi, [_], rfl⟩
      cases x with
      | none => exact REq.refl _
      | some t => exact ⟨RImp.set (by rw [hx t rfl]; exact hi), RImp.unset (by rw [hx t rfl]; exact fun F w ρ c hc => by obtain rfl := hc.tt_inv; exact .bool _ _)⟩
    · cases h
  · cases h

theorem looks_op {ops : Array Oper} {o : Oper} {t : Tmp} (h : Operand.tmp t ∈ o.op.operands) : t ∈ o.looksAt ops :=
  List.mem_append_left _ (List.mem_filterMap.2 ⟨.tmp t, by simpa using h, rfl⟩)

theorem ev_mask {rg : Regs} {a : Act} {L : List Tmp} (h : LookOk F w ρ rg a L) (x : Operand) : VRel F w ρ (aev (mask L rg) x) (a.eval x) := by
  cases x with
  | tmp t =>
    simp only [aev, Act.eval]
    by_cases ht : t ∈ L
    · rw [mask_getD ht]; exact h.2 t ht
    · have : (mask L rg).getD t .any = .any := by
        rw [List.getD_eq_getElem?_getD, mask, List.getElem?_mapIdx]
        cases rg[t]? <;> simp [ht]
      rw [this]; exact .any _ _
  | const v => exact abs0_ok _ _ _ _
  | global g =>
    simp only [aev, Act.eval]
    cases hg : Glob.val g with
    | none => exact .any _ _
    | some v => exact (h.1 g v hg).pure
  | func f => exact .func _ _ _ _ rfl fun i v u h _ => by simp at h

theorem aev_mask {rg : Regs} {L : List Tmp} {x : Operand} (h : ∀ t, x = .tmp t → t ∈ L) : aev (mask L rg) x = aev rg x := by
  cases x with
  | tmp t => simp only [aev]; exact mask_getD (h t rfl)
  | _ => rfl

theorem aev_looks {rg : Regs} {ops : Array Oper} {o : Oper} (x : Operand) (hx : x ∈ o.op.operands) : aev rg x = aev (mask (o.looksAt ops) rg) x :=
  (aev_mask fun t e => looks_op (by rw [← e]; exact hx)).symm

theorem ev_look {rg : Regs} {a : Act} {ops : Array Oper} {o : Oper} (h : LookOk F w ρ rg a (o.looksAt ops)) (x : Operand) (hx : x ∈ o.op.operands) : VRel F w ρ (aev rg x) (a.eval x) := by
  rw [aev_looks (ops := ops) x hx]; exact ev_mask h x

/-- from what an operation's run does to what is asked of it -/
theorem Step1.wp {o : Oper} {a : Act} {out : Out} (h : Step1 P F w ρ σ out (execOp a.eval o)) {K : Act → World → Prop} {Q : Exit → Act → World → Prop}
    (hK : ∀ F' w' ρ' cv, Tr σ out.σ ρ ρ' F F' w w' → Rel ρ' F' out.σ w' → VRel F' w' ρ' out.v cv → K (a.put o.dst cv) w') : o.wp P a w K Q := by
  obtain ⟨ρ', F', w', cv, n, h1, h2, h3, h4, h5⟩ := h
  unfold Oper.wp
  rw [h1]
  rcases h2 with rfl | ⟨rfl, rfl⟩
  · rw [Oper.upon_value]; exact hK _ _ _ _ h3 h4 h5
  · rw [Oper.upon_skip]; exact hK _ _ _ _ h3 h4 h5

theorem plug_obj {S σ' : AState} {es : List Nat} (hnd : nodupB es = true) (hlt : ∀ j ∈ es, j < S.length) (hl : es.length ≤ σ'.length) :
    (plug S es σ').length = S.length + (σ'.length - es.length) ∧ (∀ i j, es[i]? = some j → obj (plug S es σ') j = renO (emb es S.length) (obj σ' i)) ∧
      (∀ k, obj (plug S es σ') (S.length + k) = renO (emb es S.length) (obj σ' (es.length + k))) ∧ ∀ j, j < S.length → j ∉ es → obj (plug S es σ') j = obj S j := by
  obtain ⟨p1, p2, p3⟩ := plugGo_ok (S := S) (es := es) es σ' S hl hnd hlt
  refine ⟨by simp [plug, p1], fun i j hj => ?_, fun k => ?_, fun j hj hn => ?_⟩
  · have hi : i < σ'.length := Nat.lt_of_lt_of_le (List.getElem?_eq_some_iff.1 hj).1 hl
    have hjS := hlt j (List.mem_of_getElem? hj)
    refine obj_of ?_
    unfold plug
    rw [List.getElem?_append_left (by rw [p1]; exact hjS)]
    exact p2 i j _ hj (obj_get hi)
  · by_cases hk : es.length + k < σ'.length
    · refine obj_of ?_
      unfold plug
      rw [List.getElem?_append_right (by omega), p1, List.getElem?_map, List.getElem?_drop]
      rw [show es.length + (S.length + k - S.length) = es.length + k by omega, obj_get hk]; rfl
    · rw [obj_none (by simp [plug, p1]; omega), obj_none (Nat.not_lt.1 hk)]; rfl
  · refine obj_of ?_
    unfold plug
    rw [List.getElem?_append_left (by rw [p1]; exact hj), p3 j hn, obj_get hj]

theorem UseOk.at {f : FuncId} {es : List Nat} {as as0 : List AVal} {S S2 σ0 σ' : AState} {r : AVal} (u : UseOk P f es as S as0 σ0 r σ') (hs : Same es S S2) :
    UseOk P f es as S2 as0 σ0 r σ' ∧ Moved es es S (plug S es σ') S2 (plug S2 es σ') := by
  obtain ⟨h1, h2, h3, h4⟩ := u
  have h4' := h4
  unfold okEmb at h4'
  simp only [Bool.and_eq_true, decide_eq_true_eq] at h4'
  obtain ⟨⟨⟨⟨hnd, hlt⟩, _⟩, _⟩, hlen⟩ := h4'
  have hm : es.length = σ0.length := by have := congrArg List.length h3; simpa using this
  have hltS : ∀ j ∈ es, j < S.length := fun j hj => by have := List.all_eq_true.1 hlt j hj; simpa using this
  have hltS2 : ∀ j ∈ es, j < S2.length := fun j hj => by rw [hs.1]; exact hltS j hj
  have hget : es.map (fun j => S2[j]?) = es.map (fun j => S[j]?) := List.map_congr_left fun j hj => by rw [obj_get (hltS2 j hj), obj_get (hltS j hj), hs.2 j hj]
  refine ⟨⟨h1, by rw [hs.1]; exact h2, by rw [hs.1, hget]; exact h3, by rw [hs.1]; exact h4⟩, ?_⟩
  obtain ⟨a1, a2, a3, a4⟩ := plug_obj (S := S) hnd hltS (by omega : es.length ≤ σ'.length)
  obtain ⟨b1, b2, b3, b4⟩ := plug_obj (S := S2) hnd hltS2 (by omega : es.length ≤ σ'.length)
  refine ⟨by rw [a1, b1, hs.1], fun id hi => ?_, fun id hi => ?_, fun id hi hw => ?_⟩
  · obtain ⟨i, hlt, rfl⟩ := List.getElem_of_mem hi
    have := List.getElem?_eq_getElem hlt
    rw [a2 i _ this, b2 i _ this, hs.1]
  · obtain ⟨k, rfl⟩ := Nat.exists_eq_add_of_le hi
    rw [a3 k]
    have := b3 k
    rw [hs.1] at this
    exact this
  · exact ⟨b4 id (by rw [hs.1]; exact hi) hw, a4 id hi hw⟩

/-- What an operation that is carried out is shown to do. -/
def OpW (P : Program) (ops : Array Oper) (o : Oper) (rg : Regs) (σ : AState) (v : AVal) (σ' : AState) : Prop :=
  ∀ (F : Nat → Prop) (w : World) (ρ : RMap) (a : Act), Rel ρ F σ w → LookOk F w ρ rg a (o.looksAt ops) → ∀ (K : Act → World → Prop) (Q : Exit → Act → World → Prop),
    (∀ F' w' ρ' cv, Tr σ σ' ρ ρ' F F' w w' → Rel ρ' F' σ' w' → VRel F' w' ρ' v cv → K (a.put o.dst cv) w') → o.wp P a w K Q

theorem aop_W {ops : Array Oper} {o : Oper} {rg : Regs} {out : Out} (h : aop P o.op o.type rg σ = some out) (hcs : allP out.cs) : OpW P ops o rg σ out.v out.σ := by
  intro F w ρ a r hl K Q hK
  rw [aop_congr (fun x hx => aev_looks (ops := ops) x hx)] at h
  exact (aop_ok r (ev_mask hl) h hcs).wp hK

theorem execOp_call_value (ρ : Operand → Value) {o : Oper} {f : Operand} {xs : Array Operand} {ts : Array TypeId} (ho : o.op = .call ⟨.value f, xs, ts⟩) {g : FuncId} {cv : Array Value} (hf : ρ f = .func (.func g) #[] cv) :
    execOp ρ o = callFunc g ((#[] ++ xs.map ρ) ++ cv) := by
  obtain ⟨dst, op, ty, pos, af, gd⟩ := o
  dsimp only at ho
  subst ho
  simp only [execOp, resolve, hf, Deferred.ofValue]
  rfl

theorem call_W {ops : Array Oper} {o : Oper} {rg : Regs} {f : FuncId} {as : List AVal} {r : AVal} {σ' : AState} (h : acallee o.op rg = some (f, as)) (hF : FOk P f as σ r σ') : OpW P ops o rg σ r σ' := by
  intro F w ρ a rr hl K Q hK
  have hev := ev_look hl
  unfold acallee at h
  split at h
  · rename_i fo xs ts ho
    split at h
    · rename_i g cap hg
      cases h
      have hf := hev fo (by rw [ho]; simp [Op.operands, Call.operands])
      rw [hg] at hf
      obtain ⟨cv, hfe, hp⟩ := hf.func_inv
      obtain ⟨⟨fn, c, h1, h2, h3⟩, hC⟩ := hF
      have hname : fn.name ≠ "runtime.NumGoroutine" := by simpa using h2
      have hrun : (execOp a.eval o).run P w = .ok (.enter f ((#[] ++ xs.map a.eval) ++ cv)) w := by
        rw [execOp_call_value a.eval ho hfe]
        simp [callFunc, h1, hname, h3]
      unfold Oper.wp
      rw [hrun, Oper.upon_enter]
      refine (hC F w ρ _ rr ⟨hl.1, ?_⟩).mono fun e w' he => ?_
      · refine ⟨by simp [hp.1], fun i x y e1 e2 => ?_⟩
        simp only [Array.toList_append, List.append_assoc, Array.toList_map, List.nil_append] at e2
        rw [List.getElem?_append] at e1 e2
        simp only [List.length_map, Array.length_toList] at e1 e2
        split at e1
        · rename_i hlt
          rw [if_pos hlt] at e2
          simp only [List.getElem?_map, Option.map_eq_some_iff] at e1 e2
          obtain ⟨u, hu, rfl⟩ := e1
          obtain ⟨u', hu', rfl⟩ := e2
          rw [hu] at hu'; cases hu'
          exact hev u (by rw [ho]; have : u ∈ xs := by have := List.mem_of_getElem? hu; simpa using this
                          simp [Op.operands, Call.operands, this])
        · rename_i hlt
          rw [if_neg hlt] at e2
          exact hp.2 _ _ _ e1 e2
      · obtain ⟨v, ρ', F', rfl, h4, h5, h6⟩ := he
        exact hK _ _ _ _ h4 h5 h6
    · cases h
  · cases h

theorem callee_args {ops : Array Oper} {o : Oper} {rg : Regs} {f : FuncId} {as : List AVal} {a : Act} (h : acallee o.op rg = some (f, as)) (hl : LookOk F w ρ rg a (o.looksAt ops)) :
    ∃ args, execOp a.eval o = callFunc f args ∧ PW F w ρ as args.toList := by
  have hev := ev_look hl
  unfold acallee at h
  split at h
  · rename_i fo xs ts ho
    split at h
    · rename_i g cap hg
      cases h
      have hf := hev fo (by rw [ho]; simp [Op.operands, Call.operands])
      rw [hg] at hf
      obtain ⟨cv, hfe, hp⟩ := hf.func_inv
      refine ⟨_, execOp_call_value a.eval ho hfe, by simp [hp.1], fun i x y e1 e2 => ?_⟩
      simp only [Array.toList_append, List.append_assoc, Array.toList_map, List.nil_append] at e2
      rw [List.getElem?_append] at e1 e2
      simp only [List.length_map, Array.length_toList] at e1 e2
      split at e1
      · rename_i hlt
        rw [if_pos hlt] at e2
        simp only [List.getElem?_map, Option.map_eq_some_iff] at e1 e2
        obtain ⟨u, hu, rfl⟩ := e1
        obtain ⟨u', hu', rfl⟩ := e2
        rw [hu] at hu'; cases hu'
        exact hev u (by rw [ho]; have : u ∈ xs := by have := List.mem_of_getElem? hu; simpa using this
                        simp [Op.operands, Call.operands, this])
      · rename_i hlt
        rw [if_neg hlt] at e2
        exact hp.2 _ _ _ e1 e2
    · cases h
  · cases h
theorem extern_W {ops : Array Oper} {o : Oper} {rg : Regs} {f : FuncId} {as : List AVal} {out : Out} (h : acallee o.op rg = some (f, as)) (hr : aextern P f as σ = some out) (hcs : allP out.cs) : OpW P ops o rg σ out.v out.σ := by
  intro F w ρ a rr hl K Q hK
  obtain ⟨args, he, hp⟩ := callee_args h hl
  obtain ⟨ρ', F', w', cv, h1, h2, h3, h4⟩ := aextern_ok rr hp hr hcs
  unfold Oper.wp
  rw [he, h1, Oper.upon_value]
  exact hK _ _ _ _ h2 h3 h4

theorem pick_W {ops : Array Oper} {o : Oper} {rg : Regs} {c x y : Operand} {b : Bool} (ho : o.op = .pick c x y) (hb : Imp (aev rg c) (.tt b)) (σ : AState) : OpW P ops o rg σ (aev rg (if b then x else y)) σ := by
  intro F w ρ a r hl K Q hK
  have hev := ev_look hl
  have hc := hb _ _ _ _ (hev c (by rw [ho]; simp [Op.operands]))
  have hce := hc.tt_inv
  have hv : VRel F w ρ (aev rg (if b then x else y)) (a.eval (if b then x else y)) := hev _ (by rw [ho]; cases b <;> simp [Op.operands])
  unfold Oper.wp
  have hrun : (execOp a.eval o).run P w = .ok (.value (a.eval (if b then x else y))) w := by
    simp only [execOp, ho, hce]
    cases b <;> simp [asBool]
  rw [hrun, Oper.upon_value]
  exact hK _ _ _ _ (Tr.refl _ _ _ _) r hv

theorem FOk.argsN {f : FuncId} {as : List AVal} {σ σ' : AState} {r : AVal} (ts : List TypeId) (h : FOk P f (normTs P ts as) σ r σ') : FOk P f as σ r σ' :=
  ⟨h.1, fun F w ρ args rr hp => h.2 F w ρ args rr ⟨hp.1, normTs_ok ts _ _ hp.2⟩⟩

abbrev LocW (P : Program) (ops : Array Oper) (o : Oper) (rg : Regs) (T W : List Nat) (σ : AState) (v : AVal) (σ' : AState) : Prop :=
  (∀ id ∈ W, id ∈ T) ∧ ∀ σ2, Same T σ σ2 → ∃ σ2', OpW P ops o rg σ2 v σ2' ∧ Moved T W σ σ' σ2 σ2'
abbrev LocS (P : Program) (ops : Array Oper) (o : Oper) (rg : Regs) (T W : List Nat) (σ : AState) (v : AVal) (σ' : AState) : Prop :=
  (∀ id ∈ W, id ∈ T) ∧ ∀ σ2, Same T σ σ2 → ∃ σ2', OpS P ops o rg σ2 v σ2' ∧ Moved T W σ σ' σ2 σ2'

theorem touch_sub (op : Op) (rg : Regs) (σ : AState) : ∀ id ∈ (touch op rg σ).2, id ∈ (touch op rg σ).1 := by
  intro id h
  cases op <;> simp only [touch] at h ⊢ <;> try exact h
  all_goals first
    | (simp at h; done)
    | (unfold touchB at h ⊢
       split at h
       · exact List.mem_append_left _ h
       · simp at h
       · simp at h)

theorem same_eq {σ σ2 : AState} (h : Same (List.range σ.length) σ σ2) : σ2 = σ := by
  refine List.ext_getElem? fun i => ?_
  rcases Nat.lt_or_ge i σ.length with hi | hi
  · rw [obj_get hi, obj_get (by rw [h.1]; exact hi), h.2 i (List.mem_range.2 hi)]
  · rw [List.getElem?_eq_none hi, List.getElem?_eq_none (by rw [h.1]; exact hi)]
theorem Moved.id (T : List Nat) (σ σ' : AState) (hT : ∀ id, id < σ.length → id ∈ T) : Moved T T σ σ' σ σ' :=
  ⟨rfl, fun _ _ => rfl, fun _ _ => rfl, fun id h1 h2 => absurd (hT id h1) h2⟩

theorem evalOp_ok {ops : Array Oper} {o : Oper} {st : St} {d : Done} (h : evalOp P (owed P N) o st = .ok d) (hcs : allP d.st.cs) :
    REq st.rg d.st.rg ∧ d.st.σ = st.σ ∧ OpW P ops o d.st.rg st.σ d.v d.σ ∧ LocW P ops o d.st.rg d.T d.W st.σ d.v d.σ ∧ ∃ new, d.st.cs = new ++ st.cs := by
  unfold evalOp at h
  split at h
  · rename_i c x y ho
    obtain ⟨⟨b, st'⟩, h1, h2⟩ := Res.then_ok h
    cases h2
    obtain ⟨g1, g2, g3, g4⟩ := ask_ok h1 (by intro t ht; cases c <;> simp [tmpOf] at ht; subst ht; rfl) hcs
    have hb : Imp (aev st'.rg c) (.tt b) := by
      unfold ask at h1
      split at h1
      · rename_i e0; cases h1; rw [e0]; exact Imp.refl _
      · rename_i b0 e0
        split at h1
        · cases h1
          have hd : b0 = b := hcs.cons.1
          subst hd
          cases c with
          | tmp t =>
            simp only [tmpOf, aev]
            rw [rput_getD]
            split
            · exact Imp.refl _
            · have : aev st.rg (.tmp t) = .bool b0 := e0
              simp only [aev] at this
              rw [this]; rw [e0] at g3; exact g3
          | const v => simp only [tmpOf, rput]; rw [e0] at g3 ⊢; exact g3
          | global g => simp only [tmpOf, rput]; rw [e0] at g3 ⊢; exact g3
          | func f => cases e0
        · cases h1
      · cases h1
    dsimp only
    rw [g2]
    exact ⟨g1, rfl, pick_W ho hb _, ⟨fun _ h => h, fun σ2 hs => ⟨σ2, pick_W ho hb σ2, Moved.refl _ hs⟩⟩, g4⟩
  · rename_i hnp
    split at h
    · rename_i f as hc
      split at h
      · split at h
        · rename_i r hr
          cases h
          obtain ⟨hc1, hc2⟩ := hcs.append
          exact ⟨REq.refl _, rfl, extern_W hc hr hc1, ⟨fun _ h => by simp at h, fun σ2 hs => by
            obtain ⟨σ2', e1, e2⟩ := aextern_loc hr hs
            exact ⟨σ2', extern_W (out := ⟨r.v, σ2', r.cs⟩) hc e1 hc1, e2⟩⟩, r.cs, rfl⟩
        · cases h
      split at h
      · rename_i r σ' s hs
        cases h
        have hF : FOk P f as st.σ r σ' := hcs.cons.1
        exact ⟨REq.refl _, rfl, call_W hc hF, ⟨fun _ h => h, fun σ2 hs => by
          have := same_eq hs
          subst this
          exact ⟨σ', call_W hc hF, Moved.id _ _ _ fun id h => List.mem_range.2 h⟩⟩, [_], rfl⟩
      · rename_i es as0 σ0 r σ' s hs
        cases h
        have hF : UseOk P f es (normTs P (paramsOf P f) as) st.σ as0 σ0 r σ' := hcs.cons.1
        refine ⟨REq.refl _, rfl, call_W hc (hF.fok'.argsN _), ⟨fun _ h => h, fun σ2 hs => ?_⟩, [_], rfl⟩
        obtain ⟨u2, m⟩ := hF.at hs
        refine ⟨_, ?_, m⟩
        have := call_W hc (ops := ops) (u2.fok'.argsN _)
        rw [hs.1] at this
        exact this
      · cases h
    · split at h
      · rename_i r hr
        have loc : allP r.cs → LocW P ops o st.rg (touch o.op st.rg st.σ).1 (touch o.op st.rg st.σ).2 st.σ r.v r.σ := fun hc => ⟨touch_sub _ _ _, fun σ2 hs => by
          obtain ⟨σ2', e, m⟩ := aop_loc hr hs
          exact ⟨σ2', aop_W (out := ⟨r.v, σ2', r.cs⟩) e hc, m⟩⟩
        split at h
        · rename_i hlk
          split at h
          · rename_i v s hs
            cases h
            obtain ⟨hv, hcs2⟩ := hcs.cons
            obtain ⟨hc1, hc2⟩ := hcs2.append
            subst hv
            exact ⟨REq.refl _, rfl, aop_W hr hc1, loc hc1, _ :: r.cs, rfl⟩
          · cases h
            obtain ⟨hc1, hc2⟩ := hcs.append
            exact ⟨REq.refl _, rfl, aop_W hr hc1, loc hc1, r.cs, rfl⟩
          · cases h
        · cases h
          obtain ⟨hc1, hc2⟩ := hcs.append
          exact ⟨REq.refl _, rfl, aop_W hr hc1, loc hc1, r.cs, rfl⟩
      · cases h

theorem OpW.S {ops : Array Oper} {o : Oper} {rg : Regs} {v : AVal} {σ σ' : AState} (h : OpW P ops o rg σ v σ') (hw : ∀ (F : Nat → Prop) (w : World) (ρ : RMap) (a : Act), LookOk F w ρ rg a (o.looksAt ops) → Region.wanted o (yielded ops a.tmps) = true) : OpS P ops o rg σ v σ' := by
  intro F w ρ a r hl K Q hK
  rw [if_pos (hw F w ρ a hl)]
  exact h F w ρ a r hl K Q hK
theorem OpS.no {ops : Array Oper} {o : Oper} {rg : Regs} (σ : AState) (hw : ∀ (F : Nat → Prop) (w : World) (ρ : RMap) (a : Act), LookOk F w ρ rg a (o.looksAt ops) → Region.wanted o (yielded ops a.tmps) = false) : OpS P ops o rg σ aundef σ := by
  intro F w ρ a r hl K Q hK
  rw [if_neg (by rw [hw F w ρ a hl]; simp)]
  exact hK _ _ _ _ (Tr.refl _ _ _ _) r (.tuple _ _ _ rfl fun i v u h _ => by simp at h)

theorem RImp.look {rg rg' : Regs} (h : RImp rg rg') {F : Nat → Prop} {w : World} {ρ : RMap} {a : Act} {L : List Tmp} (hl : LookOk F w ρ rg a L) : LookOk F w ρ rg' a L := hl.imp h

/-- a guard's yield -/
theorem yielded_bool {ops : Array Oper} {tm : Array Value} {j : Nat} {d : Tmp} {b : Bool} (hd : (ops[j]?).bind (·.dst) = some d) (h : tm.getD d undef = .bool b) : yielded ops tm j = some b := by
  unfold yielded
  rw [hd]
  simp only [Option.bind_some]
  have : tm[d]? = some (.bool b) := by
    rw [Array.getD_eq_getD_getElem?] at h
    cases ht : tm[d]? with
    | none => rw [ht] at h; simp [undef] at h
    | some v => rw [ht] at h; simp at h; rw [h]
  rw [this]
theorem yielded_undef {ops : Array Oper} {tm : Array Value} {j : Nat} {d : Tmp} (hd : (ops[j]?).bind (·.dst) = some d) (h : tm.getD d undef = .tuple #[]) : yielded ops tm j = none := by
  unfold yielded
  rw [hd]
  simp only [Option.bind_some]
  rw [Array.getD_eq_getD_getElem?] at h
  cases ht : tm[d]? with
  | none => rfl
  | some v => rw [ht] at h; simp at h; rw [h]

theorem awant_ok {ops : Array Oper} {o : Oper} {st st' : St} {b : Bool} (h : awant ops o st = .ok (b, st')) (hcs : allP st'.cs) :
    REq st.rg st'.rg ∧ st'.σ = st.σ ∧ (∀ (F : Nat → Prop) (w : World) (ρ : RMap) (a : Act), LookOk F w ρ st'.rg a (o.looksAt ops) → Region.wanted o (yielded ops a.tmps) = b) ∧ ∃ new, st'.cs = new ++ st.cs := by
  unfold awant at h
  split at h
  · rename_i hg
    cases h
    exact ⟨REq.refl _, rfl, fun F w ρ a _ => by simp [Region.wanted, hg], [], rfl⟩
  · rename_i j want hg
    split at h
    · cases h
    · rename_i d hd
      have hin : d ∈ o.looksAt ops := List.mem_append_right _ (by rw [hg]; simp only [hd]; simp)
      split at h
      · rename_i e0
        cases h
        refine ⟨REq.refl _, rfl, fun F w ρ a hl => ?_, [], rfl⟩
        have := hl.2 d hin
        rw [e0] at this
        obtain ⟨cv, hc, hp⟩ := this.tuple_inv
        have : cv = #[] := by have := hp.1; simp at this; exact Array.eq_empty_of_size_eq_zero this.symm
        subst this
        simp [Region.wanted, hg, yielded_undef hd hc]
      · obtain ⟨⟨b0, st0⟩, h1, h2⟩ := Res.then_ok h
        cases h2
        obtain ⟨g1, g2, g3, g4⟩ := ask_ok h1 (by intro t ht; cases ht; rfl) hcs
        refine ⟨g1, g2, fun F w ρ a hl => ?_, g4⟩
        have hv : Imp (st0.rg.getD d .any) (.tt b0) := by
          unfold ask at h1
          split at h1
          · rename_i e0; cases h1; rw [e0]; exact Imp.refl _
          · rename_i b1 e0
            split at h1
            · cases h1
              have hd : b1 = b0 := hcs.cons.1
              subst hd
              rw [rput_getD]
              split
              · exact Imp.refl _
              · exact g3
            · cases h1
          · cases h1
        have := (hv _ _ _ _ (hl.2 d hin)).tt_inv
        simp only [Region.wanted, hg, yielded_bool hd this]
        cases b0 <;> cases want <;> rfl

theorem evalOne_ok {ops : Array Oper} {o : Oper} {st : St} {d : Done} (h : evalOne P (owed P N) ops o st = .ok d) (hcs : allP d.st.cs) :
    REq st.rg d.st.rg ∧ d.st.σ = st.σ ∧ OpS P ops o d.st.rg st.σ d.v d.σ ∧ LocS P ops o d.st.rg d.T d.W st.σ d.v d.σ ∧ ∃ new, d.st.cs = new ++ st.cs := by
  unfold evalOne at h
  obtain ⟨⟨b, st1⟩, h1, h2⟩ := Res.then_ok h
  dsimp only at h2
  split at h2
  · rename_i hb
    subst hb
    obtain ⟨g1, g2, g3, g4, new, hn⟩ := evalOp_ok (ops := ops) h2 hcs
    have hcs1 : allP st1.cs := fun p hp => hcs p (by rw [hn]; exact List.mem_append_right _ hp)
    obtain ⟨k1, k2, k3, new', hn'⟩ := awant_ok h1 hcs1
    have hw : ∀ (F : Nat → Prop) (w : World) (ρ : RMap) (a : Act), LookOk F w ρ d.st.rg a (o.looksAt ops) → Region.wanted o (yielded ops a.tmps) = true := fun F w ρ a hl => k3 F w ρ a (hl.imp g1.2)
    rw [k2] at g2 g3 g4
    exact ⟨k1.trans g1, g2, g3.S hw, ⟨g4.1, fun σ2 hs => let ⟨σ2', e, m⟩ := g4.2 σ2 hs; ⟨σ2', e.S hw, m⟩⟩, new ++ new', by rw [hn, hn', List.append_assoc]⟩
  · rename_i hb
    cases h2
    have hb : b = false := by simpa using hb
    subst hb
    obtain ⟨k1, k2, k3, new', hn'⟩ := awant_ok h1 hcs
    dsimp only
    rw [k2]
    exact ⟨k1, rfl, OpS.no _ k3, ⟨fun _ h => h, fun σ2 hs => ⟨σ2, OpS.no _ k3, Moved.refl _ hs⟩⟩, new', hn'⟩

end
end Go.Abs
