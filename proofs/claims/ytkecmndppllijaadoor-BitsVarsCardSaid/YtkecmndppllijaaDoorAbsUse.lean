import Derived.Test.YtkecmndppllijaaDoorAbsRen
set_option linter.unusedVariables false
set_option linter.unusedSectionVars false
set_option linter.unusedSimpArgs false
namespace Go.Abs
variable [Glob]

/-- What a function of the program does, as a heap of ours sees it. -/
def FOk (P : Program) (f : FuncId) (as : List AVal) (σ : AState) (r : AVal) (σ' : AState) : Prop :=
  (∃ fn c, P.funcs[f]? = some fn ∧ (fn.name == "runtime.NumGoroutine") = false ∧ fn.body = some c) ∧
  ∀ (F : Nat → Prop) (w : World) (ρ : RMap) (args : Array Value), Rel ρ F σ w → (GOk F w ∧ PW F w ρ as args.toList) →
    Calls P f args w fun e w' => ∃ v ρ' F', e = .returned v ∧ Tr σ σ' ρ ρ' F F' w w' ∧ Rel ρ' F' σ' w' ∧ VRel F' w' ρ' r v

def okEmb (es : List Nat) (n : Nat) (as0 : List AVal) (σ0 σ' : AState) : Bool :=
  nodupB es && es.all (fun j => decide (j < n)) && inScopeL σ0.length as0 && σ0.all (inScopeO σ0.length) && decide (σ0.length ≤ σ'.length)

/-- A function, shown at a small heap, is used at a large one. -/
structure UseOk (P : Program) (f : FuncId) (es : List Nat) (as : List AVal) (S : AState) (as0 : List AVal) (σ0 : AState) (r : AVal) (σ' : AState) : Prop where
  fok : FOk P f as0 σ0 r σ'
  args : as = renL (emb es S.length) as0
  heap : es.map (fun j => S[j]?) = σ0.map fun o => some (renO (emb es S.length) o)
  ok : okEmb es S.length as0 σ0 σ' = true

theorem nodupB_inj : ∀ {es : List Nat}, nodupB es = true → ∀ i j, i < es.length → j < es.length → es.getD i 0 = es.getD j 0 → i = j
  | [], _, i, j, hi, _, _ => by simp at hi
  | x :: xs, h, i, j, hi, hj, he => by
    simp only [nodupB, Bool.and_eq_true, Bool.not_eq_true'] at h
    have hx : ∀ k, k < xs.length → xs.getD k 0 ≠ x := fun k hk e => by
      have : x ∈ xs := by
        rw [← e, List.getD_eq_getElem?_getD, List.getElem?_eq_getElem hk]
        simp
      rw [List.contains_eq_mem] at h
      simp [this] at h
    match i, j with
    | 0, 0 => rfl
    | 0, j + 1 => exact absurd (by simpa using he.symm) (hx j (by simpa using hj))
    | i + 1, 0 => exact absurd (by simpa using he) (hx i (by simpa using hi))
    | i + 1, j + 1 => rw [nodupB_inj h.2 i j (by simpa using hi) (by simpa using hj) (by simpa using he)]

theorem plugGo_ok {S : AState} {es : List Nat} : ∀ (js : List Nat) (os T : List AObj), js.length ≤ os.length → nodupB js = true → (∀ j ∈ js, j < T.length) →
    (plugGo S es T js os).length = T.length ∧ (∀ (i j : Nat) (o : AObj), js[i]? = some j → os[i]? = some o → (plugGo S es T js os)[j]? = some (renO (emb es S.length) o)) ∧ ∀ (j : Nat), j ∉ js → (plugGo S es T js os)[j]? = T[j]?
  | [], os, T, _, _, _ => ⟨by cases os <;> rfl, fun i j o h => by simp at h, fun j _ => by cases os <;> rfl⟩
  | j :: js, [], T, h, _, _ => by simp at h
  | j :: js, o :: os, T, h, hn, hl => by
    simp only [nodupB, Bool.and_eq_true, Bool.not_eq_true'] at hn
    have hnj : j ∉ js := by
      have := hn.1
      rw [List.contains_eq_mem] at this
      simpa using this
    obtain ⟨h1, h2, h3⟩ := plugGo_ok js os (T.set j (renO (emb es S.length) o)) (by simpa using h) hn.2 (fun k hk => by simpa using hl k (by simp [hk]))
    refine ⟨by simpa [plugGo] using h1, fun i k o' hk ho => ?_, fun k hk => ?_⟩
    · match i with
      | 0 =>
        simp only [List.getElem?_cons_zero, Option.some.injEq] at hk ho
        subst hk; subst ho
        simp only [plugGo]
        rw [h3 j hnj, List.getElem?_set_self (hl j (by simp))]
      | i + 1 =>
        simp only [plugGo]
        exact h2 i k o' (by simpa using hk) (by simpa using ho)
    · simp only [List.mem_cons, not_or] at hk
      simp only [plugGo]
      rw [h3 k hk.2, List.getElem?_set_ne (Ne.symm hk.1)]

theorem UseOk.fok' {P : Program} {f : FuncId} {es : List Nat} {as : List AVal} {S : AState} {as0 : List AVal} {σ0 : AState} {r : AVal} {σ' : AState} (u : UseOk P f es as S as0 σ0 r σ') :
    FOk P f as S (ren (emb es S.length) r) (plug S es σ') := by
  obtain ⟨⟨hfn, hC⟩, hargs, hheap, hok⟩ := u
  unfold okEmb at hok
  simp only [Bool.and_eq_true, decide_eq_true_eq] at hok
  obtain ⟨⟨⟨⟨hnd, hlt⟩, hsa⟩, hsO⟩, hlen⟩ := hok
  have hm : es.length = σ0.length := by have := congrArg List.length hheap; simpa using this
  have hltj : ∀ j ∈ es, j < S.length := fun j hj => by have := List.all_eq_true.1 hlt j hj; simpa using this
  have hEget : ∀ i, i < es.length → es[i]? = some (emb es S.length i) := fun i hi => by
    unfold emb; rw [if_pos hi, List.getD_eq_getElem?_getD, List.getElem?_eq_getElem hi]; rfl
  have hElt : ∀ i, i < es.length → emb es S.length i < S.length := fun i hi => hltj _ (List.mem_of_getElem? (hEget i hi))
  have hEinj : ∀ i j, i < es.length → j < es.length → emb es S.length i = emb es S.length j → i = j := fun i j hi hj he => by
    unfold emb at he; rw [if_pos hi, if_pos hj] at he
    exact nodupB_inj hnd i j hi hj he
  have hEhi : ∀ i, es.length ≤ i → emb es S.length i = S.length + (i - es.length) := fun i hi => by unfold emb; rw [if_neg (by omega)]
  have hES : ∀ i o, σ0[i]? = some o → S[emb es S.length i]? = some (renO (emb es S.length) o) := fun i o ho => by
    have hi : i < es.length := by rw [hm]; exact (List.getElem?_eq_some_iff.1 ho).1
    have := congrArg (·[i]?) hheap
    simp only [List.getElem?_map, hEget i hi, ho, Option.map_some, Option.some.injEq] at this
    exact this
  generalize hE : emb es S.length = E at *
  -- the heap behind it
  obtain ⟨p1, p2, p3⟩ := plugGo_ok (S := S) (es := es) es σ' S (by omega) hnd hltj
  rw [hE] at p2
  have hSlen : (plug S es σ').length = S.length + (σ'.length - es.length) := by simp [plug, p1]
  have hS1 : ∀ i o, σ'[i]? = some o → (plug S es σ')[E i]? = some (renO E o) := fun i o ho => by
    unfold plug
    rcases Nat.lt_or_ge i es.length with hi | hi
    · rw [List.getElem?_append_left (by rw [p1]; exact hElt i hi)]
      exact p2 i _ o (hEget i hi) ho
    · rw [hEhi i hi, List.getElem?_append_right (by omega), p1, hE, List.getElem?_map, List.getElem?_drop]
      have : es.length + (S.length + (i - es.length) - S.length) = i := by omega
      rw [this, ho]; rfl
  have hS2 : ∀ j, j < S.length → (∀ i, i < es.length → E i ≠ j) → (plug S es σ')[j]? = S[j]? := fun j hj hno => by
    unfold plug
    rw [List.getElem?_append_left (by rw [p1]; exact hj)]
    refine p3 j fun hmem => ?_
    obtain ⟨i, hi, he⟩ := List.getElem_of_mem hmem
    have := hEget i hi
    rw [List.getElem?_eq_getElem hi] at this
    exact hno i hi (by simpa [he] using this.symm)
  refine ⟨hfn, fun F w ρ args R hp => ?_⟩
  -- the small heap
  let ρs : RMap := fun i => if i < es.length then ρ (E i) else none
  have ρs_some : ∀ {i b}, ρs i = some b → i < es.length ∧ ρ (E i) = some b := fun {i b} h => by
    dsimp only [ρs] at h; split at h
    · exact ⟨by assumption, h⟩
    · cases h
  have ρs_of : ∀ {i b}, i < es.length → ρ (E i) = some b → ρs i = some b := fun {i b} hi h => by dsimp only [ρs]; rw [if_pos hi]; exact h
  have hun : ∀ id b, id < σ0.length → ρ (E id) = some b → ρs id = some b := fun id b hi h => ρs_of (by omega) h
  have hLive : ∀ b, Live ρs σ0 b → ∃ i o, i < es.length ∧ S[E i]? = some o ∧ o.live = true ∧ ρ (E i) = some b := fun b ⟨i, o, h1, h2, h3⟩ => by
    obtain ⟨h4, h5⟩ := ρs_some h3
    exact ⟨i, _, h4, hES i o h1, by rw [renO_live]; exact h2, h5⟩
  have hLive' : ∀ b, Live ρs σ0 b → Live ρ S b := fun b h => let ⟨i, o, _, h2, h3, h4⟩ := hLive b h; ⟨E i, o, h2, h3, h4⟩
  have rs : Rel ρs F σ0 w := by
    refine ⟨fun i o b h1 h2 => ?_, fun i i' o o' b h1 h2 h3 h4 h5 h6 => ?_, fun b hb => ⟨(R.fr b hb).1, fun hl => (R.fr b hb).2 (hLive' b hl)⟩, fun i b h => R.lt _ b (ρs_some h).2, fun i hi => ?_⟩
    · exact ORel.unren (k := σ0.length) (R.obj _ _ b (hES i o h1) (ρs_some h2).2) hun (List.all_eq_true.1 hsO o (List.mem_of_getElem? h1))
    · exact hEinj i i' (ρs_some h5).1 (ρs_some h6).1 (R.inj _ _ _ _ b (hES i o h1) (hES i' o' h2) (by rw [renO_live]; exact h3) (by rw [renO_live]; exact h4) (ρs_some h5).2 (ρs_some h6).2)
    · dsimp only [ρs]; rw [if_neg (by omega)]
  have ps : PW F w ρs as0 args.toList := by
    subst hargs
    refine ⟨by have := hp.2.1; rw [renL_length] at this; exact this, fun i x y h1 h2 => ?_⟩
    exact VRel.unren (hp.2.2 i (ren E x) y (by rw [renL_get, h1]; rfl) h2) hun x rfl (scopeL hsa i x h1)
  refine (hC F w ρs args rs ⟨hp.1, ps⟩).mono fun e w' ⟨v, ρs', F', he, t, r', hv⟩ => ?_
  let ρ2 : RMap := fun j => if j < S.length then ρ j else ρs' (es.length + (j - S.length))
  have hup : ∀ i b, ρs' i = some b → i < σ'.length := fun i b h => by
    rcases Nat.lt_or_ge i σ'.length with h' | h'
    · exact h'
    · rw [r'.dom _ h'] at h; cases h
  have hback : ∀ i b, i < es.length → ρs' i = some b → ρ (E i) = some b := fun i b hi h => by
    rcases t.newρ i b h with h1 | ⟨h1, _⟩
    · exact (ρs_some h1).2
    · omega
  have hE2 : ∀ i b, ρs' i = some b → ρ2 (E i) = some b := fun i b h => by
    dsimp only [ρ2]
    rcases Nat.lt_or_ge i es.length with hi | hi
    · rw [if_pos (hElt i hi)]; exact hback i b hi h
    · rw [hEhi i hi, if_neg (by omega)]
      have : es.length + (S.length + (i - es.length) - S.length) = i := by omega
      rw [this]; exact h
  have hmap : ∀ j b, ρ j = some b → ρ2 j = some b := fun j b h => by
    dsimp only [ρ2]
    rw [if_pos]
    · exact h
    · rcases Nat.lt_or_ge j S.length with h' | h'
      · exact h'
      · rw [R.dom _ h'] at h; cases h
  have hFr : ∀ x, F x → F' x ∧ w'.heap[x]? = w.heap[x]? := fun x hx => ⟨t.frz x hx, t.keep x (R.fr x hx).1 (fun hl => (R.fr x hx).2 (hLive' x hl))⟩
  -- each live place of the large heap: of the small one, or not
  have split : ∀ j o b, (plug S es σ')[j]? = some o → ρ2 j = some b → (∃ i os, j = E i ∧ ρs' i = some b ∧ σ'[i]? = some os ∧ o = renO E os) ∨ (j < S.length ∧ (∀ i, i < es.length → E i ≠ j) ∧ S[j]? = some o ∧ ρ j = some b) := by
    intro j o b h1 h2
    dsimp only [ρ2] at h2
    split at h2
    · rename_i hj
      by_cases hex : ∃ i, i < es.length ∧ E i = j
      · obtain ⟨i, hi, rfl⟩ := hex
        have hi' : i < σ'.length := by omega
        have ho : σ'[i]? = some σ'[i] := List.getElem?_eq_getElem hi'
        have := hS1 i _ ho
        rw [h1] at this; cases this
        exact .inl ⟨i, _, rfl, t.map i b (ρs_of hi h2), ho, rfl⟩
      · have hno : ∀ i, i < es.length → E i ≠ j := fun i hi he => hex ⟨i, hi, he⟩
        rw [hS2 j hj hno] at h1
        exact .inr ⟨hj, hno, h1, h2⟩
    · rename_i hj
      have hi' := hup _ b h2
      have ho : σ'[es.length + (j - S.length)]? = some σ'[es.length + (j - S.length)] := List.getElem?_eq_getElem hi'
      have hj' : E (es.length + (j - S.length)) = j := by rw [hEhi _ (by omega)]; omega
      have := hS1 _ _ ho
      rw [hj', h1] at this; cases this
      exact .inl ⟨_, _, hj'.symm, h2, ho, rfl⟩
  have mixed : ∀ i os b j o, σ'[i]? = some os → os.live = true → ρs' i = some b → (∀ i, i < es.length → E i ≠ j) → S[j]? = some o → o.live = true → ρ j = some b → False := by
    intro i os b j o h1 h2 h3 h4 h5 h6 h7
    rcases t.newρ i b h3 with g | ⟨g, g'⟩
    · obtain ⟨g1, g2⟩ := ρs_some g
      obtain ⟨o0, g3, g4⟩ := t.live i os h1 h2 (by omega)
      exact h4 i g1 (R.inj _ _ _ _ b (hES i o0 g3) h5 (by rw [renO_live]; exact g4) h6 g2 h7)
    · rcases g' with g' | g'
      · exact absurd (R.lt _ _ h7) (Nat.not_lt.2 g')
      · obtain ⟨i2, o2, k1, k2, k3, k4⟩ := hLive b g'
        exact h4 i2 k1 (R.inj _ _ _ _ b k2 h5 k3 h6 k4 h7)
  refine ⟨v, ρ2, F', he, ⟨hmap, t.frz, t.os, t.tape, t.output, t.size, t.row, fun b h1 h2 => t.keep b h1 (fun hl => h2 (hLive' b hl)), fun b hb => ?_, fun j b hj => ?_, by rw [hSlen]; omega, fun j o' h1 h2 h3 => ?_⟩,
    ⟨fun j o b h1 h2 => ?_, fun j j' o o' b h1 h2 h3 h4 h5 h6 => ?_, fun b hb => ?_, fun j b h => ?_, fun j hj => ?_⟩, VRel.ren hv hE2⟩
  · rcases t.newF b hb with h | h | h
    · exact .inl h
    · exact .inr (.inl h)
    · exact .inr (.inr (hLive' b h))
  · dsimp only [ρ2] at hj
    split at hj
    · exact .inl hj
    · rename_i hge
      rcases t.newρ _ b hj with h | ⟨h, h'⟩
      · have := (ρs_some h).1; omega
      · refine .inr ⟨by omega, ?_⟩
        rcases h' with h' | h'
        · exact .inl h'
        · exact .inr (hLive' b h')
  · by_cases hex : ∃ i, i < es.length ∧ E i = j
    · obtain ⟨i, hi, rfl⟩ := hex
      have ho : σ'[i]? = some σ'[i] := List.getElem?_eq_getElem (by omega)
      have := hS1 i _ ho
      rw [h1] at this; cases this
      rw [renO_live] at h2
      obtain ⟨o0, g1, g2⟩ := t.live i _ ho h2 (by omega)
      exact ⟨_, hES i o0 g1, by rw [renO_live]; exact g2⟩
    · rw [hS2 j h3 (fun i hi he => hex ⟨i, hi, he⟩)] at h1
      exact ⟨o', h1, h2⟩
  · rcases split j o b h1 h2 with ⟨i, os, rfl, g1, g2, rfl⟩ | ⟨g1, g2, g3, g4⟩
    · exact (r'.obj i os b g2 g1).ren hE2
    · cases hol : o.live with
      | false => cases o <;> simp [AObj.live] at hol; trivial
      | true =>
        have hnl : ¬ Live ρs σ0 b := fun hl => by
          obtain ⟨i2, o2, k1, k2, k3, k4⟩ := hLive b hl
          exact g2 i2 k1 (R.inj _ _ _ _ b k2 g3 k3 hol k4 g4)
        exact (R.obj j o b g3 g4).move (t.keep b (R.lt _ _ g4) hnl) hFr t.row hmap
  · rcases split j o b h1 h5 with ⟨i, os, rfl, g1, g2, rfl⟩ | ⟨g1, g2, g3, g4⟩
    · rw [renO_live] at h3
      rcases split j' o' b h2 h6 with ⟨i', os', rfl, k1, k2, rfl⟩ | ⟨k1, k2, k3, k4⟩
      · rw [renO_live] at h4
        rw [r'.inj i i' os os' b g2 k2 h3 h4 g1 k1]
      · exact (mixed i os b j' o' g2 h3 g1 k2 k3 h4 k4).elim
    · rcases split j' o' b h2 h6 with ⟨i', os', rfl, k1, k2, rfl⟩ | ⟨k1, k2, k3, k4⟩
      · rw [renO_live] at h4
        exact (mixed i' os' b j o k2 h4 k1 g2 g3 h3 g4).elim
      · exact R.inj j j' o o' b g3 k3 h3 h4 g4 k4
  · refine ⟨(r'.fr b hb).1, fun ⟨j, o, h1, h2, h3⟩ => ?_⟩
    rcases split j o b h1 h3 with ⟨i, os, rfl, g1, g2, rfl⟩ | ⟨g1, g2, g3, g4⟩
    · rw [renO_live] at h2
      exact (r'.fr b hb).2 ⟨i, os, g2, h2, g1⟩
    · rcases t.newF b hb with h | h | h
      · exact (R.fr b h).2 ⟨j, o, g3, h2, g4⟩
      · exact absurd (R.lt _ _ g4) (Nat.not_lt.2 h)
      · obtain ⟨i2, o2, k1, k2, k3, k4⟩ := hLive b h
        exact g2 i2 k1 (R.inj _ _ _ _ b k2 g3 k3 h2 k4 g4)
  · dsimp only [ρ2] at h
    split at h
    · exact Nat.lt_of_lt_of_le (R.lt j b h) t.size
    · exact r'.lt _ b h
  · dsimp only [ρ2]
    rw [hSlen] at hj
    rw [if_neg (by omega)]
    exact r'.dom _ (by omega)

end Go.Abs
