import Derived.Test.YtpncnfhfjegibaaDoorAbsH
section
set_option linter.unusedVariables false
set_option linter.unusedSectionVars false
set_option linter.unusedSimpArgs false
namespace Go.Abs
variable [Glob]

def upto (es : List Nat) (n m : Nat) : List Nat := es ++ (List.range m).map (n + ·)
theorem emb_upto {es : List Nat} {n m : Nat} : emb (upto es n m) (n + m) = emb es n := by
  funext i
  unfold emb upto
  simp only [List.length_append, List.length_map, List.length_range]
  by_cases h : i < es.length
  · rw [if_pos (by omega), if_pos h, List.getD_eq_getElem?_getD, List.getD_eq_getElem?_getD, List.getElem?_append_left h]
  · rw [if_neg h]
    by_cases h2 : i < es.length + m
    · rw [if_pos h2, List.getD_eq_getElem?_getD, List.getElem?_append_right (by omega), List.getElem?_map, List.getElem?_range (by omega)]; rfl
    · rw [if_neg h2]; omega
theorem TripN.useX {P : Program} {N : Nat} {c : Code} {rg rg' : Regs} {T σ σ' : AState} {es : List Nat} {e : AExit} (h : TripN P σ.length c rg σ e rg' σ') (hnd : nodupB es = true) (hlt : ∀ j ∈ es, j < T.length) (hl : es.length ≤ σ.length)
    (hs : (inScopeL σ.length rg && σ.all (inScopeO σ.length)) = true) (hlen : σ.length ≤ σ'.length) : TripN P N c (renL (emb es T.length) rg) (plug T es σ) e (renL (emb es T.length) rg') (plug T es σ') := by
  obtain ⟨m, hm⟩ : ∃ m, σ.length = es.length + m := ⟨σ.length - es.length, by omega⟩
  have hpl := plug_len hnd hlt hl
  have hpl' : (plug T es σ).length = T.length + m := by rw [hpl, hm]; omega
  have hul : (upto es T.length m).length = σ.length := by simp [upto, hm]
  have hun : nodupB (upto es T.length m) = true := by
    have : ∀ (l : List Nat), l.Nodup → nodupB l = true := by
      intro l
      induction l with
      | nil => intro _; rfl
      | cons x l ih => intro h; rw [List.nodup_cons] at h; simp [nodupB, ih h.2, h.1]
    have hback : ∀ (l : List Nat), nodupB l = true → l.Nodup := by
      intro l
      induction l with
      | nil => intro _; exact List.nodup_nil
      | cons x l ih =>
        intro h
        simp only [nodupB, Bool.and_eq_true, Bool.not_eq_true'] at h
        rw [List.nodup_cons]
        refine ⟨fun hm => ?_, ih h.2⟩
        have := h.1
        simp [hm] at this
    refine this _ ?_
    unfold upto
    rw [List.nodup_append]
    refine ⟨hback es hnd, ?_, fun a ha b hb => ?_⟩
    · exact List.Pairwise.map _ (fun a b h => by omega) List.nodup_range
    · obtain ⟨k, _, rfl⟩ := List.mem_map.1 hb
      have := hlt a ha
      omega
  have hult : ∀ j ∈ upto es T.length m, j < (plug T es σ).length := fun j hj => by
    rw [hpl']
    unfold upto at hj
    rcases List.mem_append.1 hj with h | h
    · have := hlt j h; omega
    · obtain ⟨k, hk, rfl⟩ := List.mem_map.1 h
      simp at hk; omega
  have hE : emb (upto es T.length m) (plug T es σ).length = emb es T.length := by rw [hpl']; exact emb_upto
  have hget : ∀ i o, σ[i]? = some o → (upto es T.length m)[i]?.bind (fun j => (plug T es σ)[j]?) = some (renO (emb es T.length) o) := fun i o ho => by
    have hi := (List.getElem?_eq_some_iff.1 ho).1
    unfold upto
    rcases Nat.lt_or_ge i es.length with h | h
    · have hj : es[i]? = some es[i] := List.getElem?_eq_getElem h
      rw [List.getElem?_append_left h, hj]
      exact plug_in hnd hlt hl hj ho
    · rw [List.getElem?_append_right h, List.getElem?_map, List.getElem?_range (by omega)]
      show (plug T es σ)[T.length + (i - es.length)]? = _
      rw [plug_new hnd hlt hl, show es.length + (i - es.length) = i by omega, ho]; rfl
  have hu := TripN.use (N := N) (S := plug T es σ) (es := upto es T.length m) (σ0 := σ) (rg0 := rg) (rg' := rg') (σ' := σ') (e := e) (c := c) (by rw [hul]; exact h) (by
      refine List.ext_getElem? fun i => ?_
      rw [List.getElem?_map, List.getElem?_map, hE]
      cases ho : σ[i]? with
      | none =>
        rw [List.getElem?_eq_none (by rw [hul]; exact List.getElem?_eq_none_iff.1 ho)]; rfl
      | some o =>
        have hi := (List.getElem?_eq_some_iff.1 ho).1
        have hj : (upto es T.length m)[i]? = some (upto es T.length m)[i] := List.getElem?_eq_getElem (by rw [hul]; exact hi)
        have := hget i o ho
        rw [hj] at this ⊢
        simp only [Option.bind_some] at this
        simp [this]) (by
      unfold okEmb
      rw [Bool.and_eq_true] at hs
      rw [hun, hs.1, hs.2, List.all_eq_true.2 fun j hj => decide_eq_true (hult j hj), decide_eq_true hlen]; rfl)
  rw [hE] at hu
  have hpp : plug (plug T es σ) (upto es T.length m) σ' = plug T es σ' := by
    have hl' : es.length ≤ σ'.length := by omega
    have hul' : (upto es T.length m).length ≤ σ'.length := by omega
    refine List.ext_getElem? fun j => ?_
    by_cases hm2 : j ∈ upto es T.length m
    · obtain ⟨i, hi⟩ := List.getElem?_of_mem hm2
      have hil := (List.getElem?_eq_some_iff.1 hi).1
      have ho : σ'[i]? = some (σ'[i]'(by omega)) := List.getElem?_eq_getElem (by omega)
      rw [plug_in hun hult hul' hi ho, hE]
      unfold upto at hi
      rcases Nat.lt_or_ge i es.length with h | h
      · rw [List.getElem?_append_left h] at hi
        exact (plug_in hnd hlt hl' hi ho).symm
      · rw [List.getElem?_append_right h, List.getElem?_map, Option.map_eq_some_iff] at hi
        obtain ⟨q, hq, rfl⟩ := hi
        have hq2 : q = i - es.length := by
          have := (List.getElem?_eq_some_iff.1 hq).2; simpa using this.symm
        subst hq2
        rw [plug_new hnd hlt hl', show es.length + (i - es.length) = i by omega, ho]; rfl
    · rcases Nat.lt_or_ge j (plug T es σ).length with hj | hj
      · rw [plug_out hun hult hul' hj hm2]
        have hjT : j < T.length := by
          rcases Nat.lt_or_ge j T.length with h | h
          · exact h
          · exfalso
            refine hm2 (List.mem_append.2 (.inr (List.mem_map.2 ⟨j - T.length, ?_, by omega⟩)))
            rw [hpl'] at hj; simp; omega
        have hje : j ∉ es := fun h => hm2 (List.mem_append.2 (.inl h))
        rw [plug_out hnd hlt hl hjT hje, plug_out hnd hlt hl' hjT hje]
      · obtain ⟨d, rfl⟩ : ∃ d, j = (plug T es σ).length + d := ⟨j - (plug T es σ).length, by omega⟩
        rw [plug_new hun hult hul' d, hE, hul, hpl', show T.length + m + d = T.length + (m + d) by omega, plug_new hnd hlt hl', hm, show es.length + m + d = es.length + (m + d) by omega]
  rw [hpp] at hu
  exact hu

end Go.Abs
end

section
set_option linter.unusedVariables false
set_option linter.unusedSectionVars false
set_option linter.unusedSimpArgs false
namespace Go.Abs
variable [Glob]

def Agree (β : Nat → Nat) (I : List Nat) (ρ : RMap) : Prop := ∀ id ∈ I, ρ id = some (β id)
def TripB (P : Program) (β : Nat → Nat) (I : List Nat) (n : Nat) (c : Code) (rg : Regs) (σ : AState) (e : AExit) (rg' : Regs) (σ' : AState) : Prop :=
  n ≤ σ.length → ∀ (F : FS) (w : World) (ρ : RMap) (a : Act) (Q : Exit → Act → World → Prop), Agree β I ρ → Rel ρ F σ w → ARel F w ρ rg a →
    (∀ ρ' F' w' a', TrN n σ σ' ρ ρ' F F' w w' → Rel ρ' F' σ' w' → ARel F' w' ρ' rg' a' → Q e.real a' w') → c.wp P Q a w
variable {P : Program} {β : Nat → Nat} {I : List Nat} {N : Nat}
theorem Agree.tr {ρ ρ' : RMap} {σ σ' : AState} {F F' : FS} {w w' : World} (hI : ∀ id ∈ I, id < N) (h : Agree β I ρ) (t : TrN N σ σ' ρ ρ' F F' w w') : Agree β I ρ' := fun id hi => t.map _ _ (hI id hi) (h id hi)
theorem TripN.toB {c : Code} {rg rg' : Regs} {σ σ' : AState} {e : AExit} (h : TripN P N c rg σ e rg' σ') : TripB P β I N c rg σ e rg' σ' := fun hn F w ρ a Q _ r ha hQ => h hn F w ρ a Q r ha hQ
theorem TripB.imp {c : Code} {rg rg' rg0 : Regs} {σ σ' : AState} {e : AExit} (h : TripB P β I N c rg σ e rg' σ') (hi : RImp rg0 rg) : TripB P β I N c rg0 σ e rg' σ' :=
  fun hn F w ρ a Q hg r ha hQ => h hn F w ρ a Q hg r (ha.imp hi) hQ
theorem TripB.seqN (hI : ∀ id ∈ I, id < N) {x y : Code} {rg rg1 rg2 : Regs} {σ σ1 σ2 : AState} {e : AExit} (h1 : TripB P β I N x rg σ .normal rg1 σ1) (h2 : TripB P β I N y rg1 σ1 e rg2 σ2) : TripB P β I N (.seq x y) rg σ e rg2 σ2 :=
  fun hn F w ρ a Q hg r ha hQ => wp_seq (h1 hn F w ρ a _ hg r ha fun ρ' F' w' a' t r' ha' => h2 t.len F' w' ρ' a' Q (hg.tr hI t) r' ha' fun ρ2 F2 w2 a2 t2 r2 ha2 => hQ ρ2 F2 w2 a2 (TrN.trans t t2) r2 ha2)
theorem TripB.seqE {x y : Code} {rg rg1 : Regs} {σ σ1 : AState} {e : AExit} (h1 : TripB P β I N x rg σ e rg1 σ1) (he : e ≠ .normal) : TripB P β I N (.seq x y) rg σ e rg1 σ1 :=
  fun hn F w ρ a Q hg r ha hQ => wp_seq (h1 hn F w ρ a _ hg r ha fun ρ' F' w' a' t r' ha' => by
    have := hQ ρ' F' w' a' t r' ha'
    cases e with
    | normal => exact absurd rfl he
    | exit id => exact this
    | pan t => exact this
    | ret => exact this)
theorem TripB.cond {c : Operand} {x y : Code} {rg rg1 : Regs} {σ σ1 : AState} {e : AExit} {b : Bool} (hb : Imp (aev rg c) (.tt b)) (h : TripB P β I N (if b then x else y) rg σ e rg1 σ1) : TripB P β I N (.cond c x y) rg σ e rg1 σ1 :=
  fun hn F w ρ a Q hg r ha hQ => wp_cond (t := b) ((hb _ _ _ _ (aev_ok ha c)).tt_inv) (h hn F w ρ a Q hg r ha hQ)
theorem TripB.block {id : Nat} {c : Code} {rg rg1 : Regs} {σ σ1 : AState} {e : AExit} (h : TripB P β I N c rg σ e rg1 σ1) : TripB P β I N (.block id c) rg σ (e.out id) rg1 σ1 :=
  fun hn F w ρ a Q hg r ha hQ => wp_block (h hn F w ρ a _ hg r ha fun ρ' F' w' a' t r' ha' => by
    have := hQ ρ' F' w' a' t r' ha'
    cases e with
    | normal => exact this
    | ret => exact this
    | pan t => exact this
    | exit k =>
      simp only [AExit.real, Exit.inBlock]
      simp only [AExit.out] at this
      by_cases hk : k = id
      · simp only [hk, beq_self_eq_true, if_true] at this ⊢; exact this
      · have hk' : (k == id) = false := by simpa using hk
        simp only [hk, hk', if_false, Bool.false_eq_true] at this ⊢; exact this)

structure HideOk (N : Nat) (I : List Nat) (ents : List (AVal × AVal)) : Prop where
  cl : ∀ x ∈ ents, ∀ id es i j, x.2 = .ptr id es i j → id < N ∧ id ∈ I
  pure : ∀ x ∈ ents, idsIn [] x.1 = true ∧ ptrOrNo x.2 = true
theorem hidePure {F : FS} {w : World} {ρ : RMap} {v : AVal} {c : Value} (hv : idsIn [] v = true) (h : VRel F w ρ v c) : VRel F w noId v c := by
  have h1 := h.scope (scope_closed (k := 0) v hv)
  exact h1.weak fun id b hb => by have := (cut_some hb).1; omega
theorem Rel.hideB {ρ : RMap} {F : FS} {σ : AState} {w : World} (r : Rel ρ F σ w) (hg : Agree β I ρ) {a : Nat} {ents : List (AVal × AVal)} {bs : List Nat} {k : Nat} (hT : σ[a]? = some (.mpn false ents bs k)) (hk : HideOk N I ents) :
    Rel ρ F (σ.set a (.mpn true (hideE β ents) bs k)) w ∧ Tr σ (σ.set a (.mpn true (hideE β ents) bs k)) ρ ρ F F w w :=
  r.reobj (id := a) (A := .mpn true (hideE β ents) bs k) (obj_of hT) rfl (fun b hb => by
    obtain ⟨es, h1, h2, h3, h4⟩ := r.obj a _ b hT hb
    refine ⟨es, h1, by simpa [hideE] using h2, h3, fun i x v hi => ?_⟩
    unfold hideE at hi
    rw [List.getElem?_map, Option.map_eq_some_iff] at hi
    obtain ⟨⟨k0, v0⟩, hi, e⟩ := hi
    simp only [Prod.mk.injEq] at e
    obtain ⟨rfl, rfl⟩ := e
    obtain ⟨z, g1, g2, g3⟩ := h4 i k0 v0 hi
    have hm := hk.pure _ (List.mem_of_getElem? hi)
    refine ⟨z, g1, hidePure hm.1 g2, ?_⟩
    have e : hideV β v0 = hideV (fun id => (ρ id).getD 0) v0 := by
      cases hv : v0 with
      | ptr id es' i' j' =>
        have := hg id (hk.cl _ (List.mem_of_getElem? hi) id es' i' j' hv).2
        show AVal.blk (β id) es' i' j' = AVal.blk ((ρ id).getD 0) es' i' j'
        rw [this]; rfl
      | _ => rfl
    show VRel F w noId (hideV β v0) z.val
    rw [e]
    exact hidePure (ρ := ρ) (hide_closed hm.2) (hideV_ok g3))
theorem Rel.showB {ρ : RMap} {F : FS} {σ : AState} {w : World} (r : Rel ρ F σ w) (hg : Agree β I ρ) {a : Nat} {ents : List (AVal × AVal)} {bs : List Nat} {k : Nat} (hT : σ[a]? = some (.mpn true (hideE β ents) bs k)) (hk : HideOk N I ents) :
    Rel ρ F (σ.set a (.mpn false ents bs k)) w ∧ Tr σ (σ.set a (.mpn false ents bs k)) ρ ρ F F w w :=
  r.reobj (id := a) (A := .mpn false ents bs k) (obj_of hT) rfl (fun b hb => by
    obtain ⟨es, h1, h2, h3, h4⟩ := r.obj a _ b hT hb
    refine ⟨es, h1, by simpa [hideE] using h2, h3, fun i x v hi => ?_⟩
    obtain ⟨z, g1, g2, g3⟩ := h4 i x (hideV β v) (by unfold hideE; rw [List.getElem?_map, hi]; rfl)
    refine ⟨z, g1, VRel.pure g2, unhideV (VRel.pure g3) fun id es' i' j' hv => ?_⟩
    exact hg id (hk.cl _ (List.mem_of_getElem? hi) id es' i' j' hv).2)
theorem set_back {σ : AState} {a : Nat} {A B : AObj} (h : σ[a]? = some A) : (σ.set a B).set a A = σ := by
  rw [List.set_set]
  refine List.ext_getElem? fun i => ?_
  rw [List.getElem?_set]
  split
  · rename_i e; subst e
    split
    · exact h.symm
    · rename_i hl; exact absurd (List.getElem?_eq_some_iff.1 h).1 hl
  · rfl
theorem TripB.hide {c : Code} {rg rg' : Regs} {σ σ' : AState} {e : AExit} (hI : ∀ id ∈ I, id < N) (a : Nat) {ents ents' : List (AVal × AVal)} {bs bs' : List Nat} {k k' : Nat} (hT : σ[a]? = some (.mpn false ents bs k)) (hT' : σ'[a]? = some (.mpn false ents' bs' k')) (hk : HideOk N I ents) (hk' : HideOk N I ents')
    (h : TripB P β I N c rg (σ.set a (.mpn true (hideE β ents) bs k)) e rg' (σ'.set a (.mpn true (hideE β ents') bs' k'))) : TripB P β I N c rg σ e rg' σ' := by
  intro hn F w ρ ac Q hg r har hQ
  have hal' := (List.getElem?_eq_some_iff.1 hT').1
  obtain ⟨r1, t1⟩ := r.hideB hg hT hk
  refine h (by simpa using hn) F w ρ ac Q hg r1 (har.tr r t1) fun ρ' F' w' a' t r' ha' => ?_
  have hs : (σ'.set a (.mpn true (hideE β ents') bs' k'))[a]? = some (.mpn true (hideE β ents') bs' k') := by
    rw [List.getElem?_set, if_pos rfl, if_pos hal']
  obtain ⟨r2, t2⟩ := r'.showB (hg.tr hI t) hs hk'
  rw [List.set_set, show σ'.set a (.mpn false ents' bs' k') = σ' from by
    refine List.ext_getElem? fun i => ?_
    rw [List.getElem?_set]
    split
    · rename_i e; subst e; first | exact hT'.symm | rw [if_pos hal', hT']
    · rfl] at r2 t2
  exact hQ ρ' F' w' a' (((t1.toN r hn).trans t).trans (t2.toN r' t.len)) r2 (ha'.tr r' t2)
theorem TripB.show {c : Code} {rg rg' : Regs} {σ σ' : AState} {e : AExit} (hI : ∀ id ∈ I, id < N) (a : Nat) {ents ents' : List (AVal × AVal)} {bs bs' : List Nat} {k k' : Nat} (hT : σ[a]? = some (.mpn false ents bs k)) (hT' : σ'[a]? = some (.mpn false ents' bs' k')) (hk : HideOk N I ents) (hk' : HideOk N I ents')
    (h : TripB P β I N c rg σ e rg' σ') : TripB P β I N c rg (σ.set a (.mpn true (hideE β ents) bs k)) e rg' (σ'.set a (.mpn true (hideE β ents') bs' k')) := by
  intro hn F w ρ ac Q hg r har hQ
  have hal := (List.getElem?_eq_some_iff.1 hT).1
  have hs : (σ.set a (.mpn true (hideE β ents) bs k))[a]? = some (.mpn true (hideE β ents) bs k) := by
    rw [List.getElem?_set, if_pos rfl, if_pos hal]
  obtain ⟨r1, t1⟩ := r.showB hg hs hk
  rw [set_back hT] at r1 t1
  refine h (by simpa using hn) F w ρ ac Q hg r1 (har.tr r t1) fun ρ' F' w' a' t r' ha' => ?_
  obtain ⟨r2, t2⟩ := r'.hideB (hg.tr hI t) hT' hk'
  exact hQ ρ' F' w' a' (((t1.toN r hn).trans t).trans (t2.toN r' t.len)) r2 (ha'.tr r' t2)

def owedX (P : Program) (n : Nat) (es : List Nat) (L : Nat) (Ts : Nat → AState) (β : Nat → Nat) (I : List Nat) (N : Nat) (i : Nat) : Owed :=
  ⟨FOk P, UseOk P, fun c rg σ e rg' σ' => TripB P β I N (.loop c) (renL (emb es L) rg) (plug (Ts i) es σ) e (renL (emb es L) rg') (plug (Ts (i + 1)) es σ'), n⟩
theorem evalOps_loop (c : FuncId → List AVal → AState → AVal → AState → Prop) (u : FuncId → List Nat → List AVal → AState → List AVal → AState → AVal → AState → Prop) (L L' : Code → Regs → AState → AExit → Regs → AState → Prop) (n n' : Nat) (all : Array Oper) : ∀ (l : List Oper) (st : St), evalOps P ⟨c, u, L, n⟩ all l st = evalOps P ⟨c, u, L', n'⟩ all l st
  | [], st => rfl
  | x :: os, st => by
    show (evalOne P ⟨c, u, L', n'⟩ all x st).then _ = (evalOne P ⟨c, u, L', n'⟩ all x st).then _
    congr 1
    funext d
    congr 1
    funext v
    rw [evalOps_loop c u L L' n n' all os]
theorem evalAny_loop (c : FuncId → List AVal → AState → AVal → AState → Prop) (u : FuncId → List Nat → List AVal → AState → List AVal → AState → AVal → AState → Prop) (L L' : Code → Regs → AState → AExit → Regs → AState → Prop) (n n' : Nat) (all : Array Oper) (as : List Nat) : ∀ (l : List Oper) (j : Nat) (rs : List Rec) (st : St), evalAny P ⟨c, u, L, n⟩ all as j l rs st = evalAny P ⟨c, u, L', n'⟩ all as j l rs st
  | [], j, rs, st => rfl
  | x :: os, j, rs, st => by
    show (evalOne P ⟨c, u, L', n'⟩ all x st).then _ = (evalOne P ⟨c, u, L', n'⟩ all x st).then _
    congr 1
    funext d
    congr 1
    funext v
    congr 1
    funext T
    congr 1
    funext W
    rw [evalAny_loop c u L L' n n' all as os]
theorem evalC_region (c : FuncId → List AVal → AState → AVal → AState → Prop) (u : FuncId → List Nat → List AVal → AState → List AVal → AState → AVal → AState → Prop) (L L' : Code → Regs → AState → AExit → Regs → AState → Prop) (n n' : Nat) (id : Nat) (ops : Array Oper) (draw : Bool) (st : St) : evalC P ⟨c, u, L, n⟩ (.region id ops draw) st = evalC P ⟨c, u, L', n'⟩ (.region id ops draw) st := by
  cases draw with
  | true =>
    simp only [evalC, if_true]
    rw [evalAny_loop c u L L' n n']
  | false =>
    simp only [evalC, Bool.false_eq_true, if_false]
    rw [evalOps_loop c u L L' n n']
structure SX where
  i : Nat
  st : St
def evalX (P : Program) (H : Nat → Owed) (k : Nat) : Code → SX → Res (AExit × SX)
  | .skip, x => .ok (.normal, x)
  | .region id ops draw, x =>
    if inScopeL x.st.σ.length x.st.rg && x.st.σ.all (inScopeO x.st.σ.length) && decide (k ≤ x.st.σ.length) then
      (evalC P (H x.i) (.region id ops draw) x.st).then fun p => if decide (x.st.σ.length ≤ p.2.σ.length) then .ok (p.1, ⟨x.i, p.2⟩) else .no .odd
    else .no .odd
  | .seq a b, x => (evalX P H k a x).then fun p =>
      match p.1 with
      | .normal => evalX P H k b p.2
      | e => .ok (e, p.2)
  | .cond c y z, x =>
    match aev x.st.rg c with
    | .tt b => if b then evalX P H k y x else evalX P H k z x
    | .bool b =>
      match x.st.s with
      | .br d :: s => if d then evalX P H k y ⟨x.i, { x.st with s := s, cs := Brd b d :: x.st.cs }⟩ else evalX P H k z ⟨x.i, { x.st with s := s, cs := Brd b d :: x.st.cs }⟩
      | _ => .no (.br b)
    | _ => .no .odd
  | .block id c, x => (evalX P H k c x).then fun p =>
      match p.1 with
      | .exit k => .ok (if k == id then .normal else .exit k, p.2)
      | e => .ok (e, p.2)
  | .loop c, x =>
    match x.st.s with
    | .compact m _ :: .loop e rg σ :: s => .ok (e, ⟨x.i + 1, { rg := rg, σ := σ, s := s, cs := (H x.i).loop c (keepR m x.st.rg) x.st.σ e rg σ :: x.st.cs }⟩)
    | .loop e rg σ :: s => .ok (e, ⟨x.i + 1, { rg := rg, σ := σ, s := s, cs := (H x.i).loop c x.st.rg x.st.σ e rg σ :: x.st.cs }⟩)
    | _ => .no (.loop c x.st.rg x.st.σ)
  | .exit id, x => .ok (.exit id, x)
  | .ret, x => .ok (.ret, x)
  | .label _, x => .ok (.normal, x)
  | _, _ => .no .odd

theorem aev_tt {E : Nat → Nat} {rg : Regs} {c : Operand} {v : AVal} (h : aev rg c = v) (hv : idsIn [] v = true) (hf : ∀ f, c ≠ .func f) : aev (renL E rg) c = v := by
  cases c with
  | tmp t =>
    simp only [aev] at h ⊢
    rw [List.getD_eq_getElem?_getD, renL_get]
    rw [List.getD_eq_getElem?_getD] at h
    cases hx : rg[t]? with
    | none => rw [hx] at h; exact h
    | some x =>
      rw [hx] at h
      simp only [Option.getD_some] at h
      subst h
      exact ren_closed _ hv
  | const v => exact h
  | global g => exact h
  | func f => exact absurd rfl (hf f)
theorem keepR_ren {E : Nat → Nat} : ∀ (m : List Bool) (rg : Regs), keepR m (renL E rg) = renL E (keepR m rg)
  | true :: bs, v :: vs => by simp [keepR, renL, keepR_ren bs vs]
  | false :: bs, v :: vs => by simp [keepR, renL, ren, keepR_ren bs vs]
  | [], v :: vs => by simp [keepR, renL, ren, keepR_ren [] vs]
  | true :: bs, [] => rfl
  | false :: bs, [] => rfl
  | [], [] => rfl

theorem evalX_ok (hm : P.follows .mixedOrders = true) {n L : Nat} {es : List Nat} {Ts : Nat → AState} (hI : ∀ id ∈ I, id < N) (hnd : nodupB es = true) (hlt : ∀ j ∈ es, j < L) (hL : ∀ i, (Ts i).length = L) : ∀ (c : Code) (x x' : SX) (e : AExit), evalX P (owedX P n es L Ts β I N) es.length c x = .ok (e, x') → allP x'.st.cs →
    (∃ new, x'.st.cs = new ++ x.st.cs) ∧ TripB P β I N c (renL (emb es L) x.st.rg) (plug (Ts x.i) es x.st.σ) e (renL (emb es L) x'.st.rg) (plug (Ts x'.i) es x'.st.σ) := by
  have suf : ∀ {a b : List Prop}, (∃ new, a = new ++ b) → allP a → allP b := fun ⟨new, hn⟩ h p hp => h p (by rw [hn]; exact List.mem_append_right _ hp)
  intro c
  induction c with
  | skip =>
    intro x x' e h hcs
    cases h
    exact ⟨⟨[], rfl⟩, fun hn F w ρ a Q _ r ha hQ => wp_skip (hQ ρ F w a (TrN.refl _ _ _ _ _ r hn) r ha)⟩
  | label l =>
    intro x x' e h hcs
    cases h
    exact ⟨⟨[], rfl⟩, fun hn F w ρ a Q _ r ha hQ => wp_label (hQ ρ F w a (TrN.refl _ _ _ _ _ r hn) r ha)⟩
  | exit id =>
    intro x x' e h hcs
    cases h
    exact ⟨⟨[], rfl⟩, fun hn F w ρ a Q _ r ha hQ => wp_exit (hQ ρ F w a (TrN.refl _ _ _ _ _ r hn) r ha)⟩
  | ret =>
    intro x x' e h hcs
    cases h
    exact ⟨⟨[], rfl⟩, fun hn F w ρ a Q _ r ha hQ => wp_ret (hQ ρ F w a (TrN.refl _ _ _ _ _ r hn) r ha)⟩
  | region id ops draw =>
    intro x x' e h hcs
    simp only [evalX] at h
    split at h
    · rename_i hgd
      simp only [Bool.and_eq_true, decide_eq_true_eq] at hgd
      obtain ⟨⟨hsc, hso⟩, hkl⟩ := hgd
      obtain ⟨⟨e1, st1⟩, h1, h2⟩ := Res.then_ok h
      dsimp only at h2
      split at h2
      · rename_i hle0
        cases h2
        have hle := of_decide_eq_true hle0
        have he' : evalC P (owed P x.st.σ.length) (.region id ops draw) x.st = .ok (e, st1) := by
          rw [← h1]; exact evalC_region _ _ _ _ _ _ _ _ _ _
        obtain ⟨hs, ht⟩ := evalC_ok (N := x.st.σ.length) hm _ _ _ _ he' hcs
        have := (TripN.useX (N := N) (T := Ts x.i) ht hnd (by rw [hL]; exact hlt) hkl (by rw [hsc, hso]; rfl) hle).toB (β := β) (I := I)
        rw [hL] at this
        exact ⟨hs, this⟩
      · cases h2
    · cases h
  | seq y z ihx ihy =>
    intro x x' e h hcs
    simp only [evalX] at h
    obtain ⟨⟨e1, x1⟩, h1, h2⟩ := Res.then_ok h
    cases e1 with
    | normal =>
      obtain ⟨s2, t2⟩ := ihy x1 x' e h2 hcs
      obtain ⟨⟨n1, hn1⟩, t1⟩ := ihx x x1 .normal h1 (suf s2 hcs)
      obtain ⟨n2, hn2⟩ := s2
      exact ⟨⟨n2 ++ n1, by rw [hn2, hn1]; simp⟩, t1.seqN hI t2⟩
    | exit k =>
      cases h2
      obtain ⟨s1, t1⟩ := ihx x x1 (.exit k) h1 hcs
      exact ⟨s1, t1.seqE (by simp)⟩
    | ret =>
      cases h2
      obtain ⟨s1, t1⟩ := ihx x x1 .ret h1 hcs
      exact ⟨s1, t1.seqE (by simp)⟩
    | pan t =>
      cases h2
      obtain ⟨s1, t1⟩ := ihx x x1 (.pan t) h1 hcs
      exact ⟨s1, t1.seqE (by simp)⟩
  | cond c y z ihx ihy =>
    intro x x' e h hcs
    simp only [evalX] at h
    have nf : ∀ v, aev x.st.rg c = v → (∃ b, v = .tt b ∨ v = .bool b) → ∀ f, c ≠ .func f := fun v hv ⟨b, hb⟩ f hc => by
      subst hc
      rcases hb with rfl | rfl <;> cases hv
    split at h
    · rename_i b hb
      have hb' : Imp (aev (renL (emb es L) x.st.rg) c) (.tt b) := by rw [aev_tt hb rfl (nf _ hb ⟨b, .inl rfl⟩)]; exact Imp.refl _
      cases b with
      | true =>
        obtain ⟨s1, t1⟩ := ihx x x' e (by simpa using h) hcs
        exact ⟨s1, TripB.cond hb' t1⟩
      | false =>
        obtain ⟨s1, t1⟩ := ihy x x' e (by simpa using h) hcs
        exact ⟨s1, TripB.cond hb' t1⟩
    · rename_i b hb
      split at h
      · rename_i d s hs
        have hi : Imp (AVal.bool b) (.tt b) := fun F w ρ c hc => by obtain rfl := hc.bool_inv; exact .tt _ _
        have hb' : Imp (aev (renL (emb es L) x.st.rg) c) (.tt b) := by rw [aev_tt hb rfl (nf _ hb ⟨b, .inr rfl⟩)]; exact hi
        cases d with
        | true =>
          obtain ⟨⟨n1, hn1⟩, t1⟩ := ihx _ x' e (by simpa using h) hcs
          have hd : b = true := (suf ⟨n1, hn1⟩ hcs).cons.1
          subst hd
          exact ⟨⟨n1 ++ [Brd true true], by rw [hn1, List.append_assoc]; rfl⟩, TripB.cond hb' t1⟩
        | false =>
          obtain ⟨⟨n1, hn1⟩, t1⟩ := ihy _ x' e (by simpa using h) hcs
          have hd : b = false := (suf ⟨n1, hn1⟩ hcs).cons.1
          subst hd
          exact ⟨⟨n1 ++ [Brd false false], by rw [hn1, List.append_assoc]; rfl⟩, TripB.cond hb' t1⟩
      · cases h
    · cases h
  | block id c ih =>
    intro x x' e h hcs
    simp only [evalX] at h
    obtain ⟨⟨e1, x1⟩, h1, h2⟩ := Res.then_ok h
    have hst : x1 = x' ∧ e1.out id = e := by
      cases e1 with
      | normal => cases h2; exact ⟨rfl, rfl⟩
      | ret => cases h2; exact ⟨rfl, rfl⟩
      | pan t => cases h2; exact ⟨rfl, rfl⟩
      | exit k => cases h2; exact ⟨rfl, rfl⟩
    obtain ⟨rfl, rfl⟩ := hst
    obtain ⟨s1, t1⟩ := ih x x1 e1 h1 hcs
    exact ⟨s1, t1.block⟩
  | loop c ih =>
    intro x x' e h hcs
    simp only [evalX] at h
    split at h
    · rename_i m π e0 rg σ s hs
      cases h
      have ht : TripB P β I N (.loop c) (renL (emb es L) (keepR m x.st.rg)) (plug (Ts x.i) es x.st.σ) e (renL (emb es L) rg) (plug (Ts (x.i + 1)) es σ) := hcs.cons.1
      rw [← keepR_ren] at ht
      exact ⟨⟨[_], rfl⟩, ht.imp (keepR_imp m _)⟩
    · cases h
      exact ⟨⟨[_], rfl⟩, hcs.cons.1⟩
    · cases h
  | _ => intro st st' e h hcs; simp only [evalX] at h; cases h
end Go.Abs
end

section
set_option linter.unusedVariables false
set_option linter.unusedSectionVars false
set_option linter.unusedSimpArgs false
namespace Go.Abs
variable [Glob]
variable {P : Program} {β : Nat → Nat} {I : List Nat} {N : Nat}

theorem upto_ok {T σ : AState} {es : List Nat} (hnd : nodupB es = true) (hlt : ∀ j ∈ es, j < T.length) (hl : es.length ≤ σ.length) {as : List AVal} (hs : (inScopeL σ.length as && σ.all (inScopeO σ.length)) = true) :
    ∃ u : List Nat, emb u (plug T es σ).length = emb es T.length ∧ u.map (fun j => (plug T es σ)[j]?) = σ.map (fun o => some (renO (emb u (plug T es σ).length) o)) ∧ okEmb u (plug T es σ).length as σ σ = true := by
  obtain ⟨m, hm⟩ : ∃ m, σ.length = es.length + m := ⟨σ.length - es.length, by omega⟩
  have hpl := plug_len hnd hlt hl
  have hpl' : (plug T es σ).length = T.length + m := by rw [hpl, hm]; omega
  have hul : (upto es T.length m).length = σ.length := by simp [upto, hm]
  have hun : nodupB (upto es T.length m) = true := by
    have : ∀ (l : List Nat), l.Nodup → nodupB l = true := by
      intro l
      induction l with
      | nil => intro _; rfl
      | cons x l ih => intro h; rw [List.nodup_cons] at h; simp [nodupB, ih h.2, h.1]
    have hback : ∀ (l : List Nat), nodupB l = true → l.Nodup := by
      intro l
      induction l with
      | nil => intro _; exact List.nodup_nil
      | cons x l ih =>
        intro h
        simp only [nodupB, Bool.and_eq_true, Bool.not_eq_true'] at h
        rw [List.nodup_cons]
        refine ⟨fun hm => ?_, ih h.2⟩
        have := h.1
        simp [hm] at this
    refine this _ ?_
    unfold upto
    rw [List.nodup_append]
    refine ⟨hback es hnd, ?_, fun a ha b hb => ?_⟩
    · exact List.Pairwise.map _ (fun a b h => by omega) List.nodup_range
    · obtain ⟨k, _, rfl⟩ := List.mem_map.1 hb
      have := hlt a ha
      omega
  have hult : ∀ j ∈ upto es T.length m, j < (plug T es σ).length := fun j hj => by
    rw [hpl']
    unfold upto at hj
    rcases List.mem_append.1 hj with h | h
    · have := hlt j h; omega
    · obtain ⟨k, hk, rfl⟩ := List.mem_map.1 h
      simp at hk; omega
  have hE : emb (upto es T.length m) (plug T es σ).length = emb es T.length := by rw [hpl']; exact emb_upto
  have hget : ∀ i o, σ[i]? = some o → (upto es T.length m)[i]?.bind (fun j => (plug T es σ)[j]?) = some (renO (emb es T.length) o) := fun i o ho => by
    have hi := (List.getElem?_eq_some_iff.1 ho).1
    unfold upto
    rcases Nat.lt_or_ge i es.length with h | h
    · have hj : es[i]? = some es[i] := List.getElem?_eq_getElem h
      rw [List.getElem?_append_left h, hj]
      exact plug_in hnd hlt hl hj ho
    · rw [List.getElem?_append_right h, List.getElem?_map, List.getElem?_range (by omega)]
      show (plug T es σ)[T.length + (i - es.length)]? = _
      rw [plug_new hnd hlt hl, show es.length + (i - es.length) = i by omega, ho]; rfl
  refine ⟨upto es T.length m, hE, ?_, ?_⟩
  · refine List.ext_getElem? fun i => ?_
    rw [List.getElem?_map, List.getElem?_map, hE]
    cases ho : σ[i]? with
    | none =>
      rw [List.getElem?_eq_none (by rw [hul]; exact List.getElem?_eq_none_iff.1 ho)]; rfl
    | some o =>
      have hi := (List.getElem?_eq_some_iff.1 ho).1
      have hj : (upto es T.length m)[i]? = some (upto es T.length m)[i] := List.getElem?_eq_getElem (by rw [hul]; exact hi)
      have := hget i o ho
      rw [hj] at this ⊢
      simp only [Option.bind_some] at this
      simp [this]
  · unfold okEmb
    rw [Bool.and_eq_true] at hs
    rw [hun, hs.1, hs.2, List.all_eq_true.2 fun j hj => decide_eq_true (hult j hj), decide_eq_true (Nat.le_refl _)]; rfl

theorem results_X {fn : Func} {T σ : AState} {es : List Nat} {rg : Regs} {a : Act} {x : List AVal × List Prop} {F : FS} {w : World} {ρ : RMap} (hnd : nodupB es = true) (hlt : ∀ j ∈ es, j < T.length) (hl : es.length ≤ σ.length) (hs : (inScopeL σ.length rg && σ.all (inScopeO σ.length)) = true)
    (r : Rel ρ F (plug T es σ) w) (ha : ARel F w ρ (renL (emb es T.length) rg) a) (h : resAll P rg σ fn.results.toList = some x) (hcs : allP x.2) (hx : inScopeL σ.length x.1 = true) : ∃ cv, (results fn a.tmps).run P w = .ok cv w ∧ VRel F w ρ (ren (emb es T.length) (resVal (normTs P fn.resultTypes.toList x.1))) cv := by
  obtain ⟨u, h1, h2, h3⟩ := upto_ok hnd hlt hl hs
  obtain ⟨ρs, rs, hv, hback⟩ := use_core h2 h3 r
  rw [h1] at hv
  have hsc : inScopeL σ.length rg = true := by rw [Bool.and_eq_true] at hs; exact hs.1
  have has : ARel F w ρs rg a := ⟨by have := ha.size; rwa [renL_length] at this, fun i v c e1 e2 => hv v c (scopeL hsc i v e1) (ha.val i (ren (emb es T.length) v) c (by rw [renL_get, e1]; rfl) e2), ha.defers, ha.glob⟩
  obtain ⟨cv, hr, hv2⟩ := results_ok rs has h hcs
  have hv2 : VRel F w ρs (resVal (normTs P fn.resultTypes.toList x.1)) cv := resVal_ok (fun cs => normTs_ok fn.resultTypes.toList _ cs) (normTs_length _ _).symm hv2
  obtain ⟨ρ2, t2, r2, hv3⟩ := hback ρs F w (TrN.refl _ _ _ _ _ rs (by have := congrArg List.length h2; simp at this; omega)) rs
  refine ⟨cv, hr, ?_⟩
  have hv4 := hv3 _ _ hv2
  rw [h1] at hv4
  refine hv4.weak fun id b hb => ?_
  rcases Nat.lt_or_ge id (plug T es σ).length with hid | hid
  · exact t2.back id b hid hb
  · exfalso
    have : (plug (plug T es σ) u σ).length = (plug T es σ).length := by
      rw [plug_len (by unfold okEmb at h3; simp only [Bool.and_eq_true] at h3; exact h3.1.1.1.1) (by unfold okEmb at h3; simp only [Bool.and_eq_true] at h3; exact fun j hj => of_decide_eq_true (List.all_eq_true.1 h3.1.1.1.2 j hj)) (by have := congrArg List.length h2; simp at this; omega)]
      have := congrArg List.length h2; simp at this; omega
    rw [r2.dom id (by omega)] at hb
    cases hb

def finX (P : Program) (fn : Func) (k j : Nat) (p : AExit × SX) : Res FRes :=
  match p.1 with
  | .ret =>
    if inScopeL p.2.st.σ.length p.2.st.rg && p.2.st.σ.all (inScopeO p.2.st.σ.length) && decide (k ≤ p.2.st.σ.length) && decide (p.2.i = j) then
      match resAll P p.2.st.rg p.2.st.σ fn.results.toList with
      | some x => if inScopeL p.2.st.σ.length x.1 then .ok ⟨resVal (normTs P fn.resultTypes.toList x.1), p.2.st.σ, x.2 ++ p.2.st.cs⟩ else .no .odd
      | none => .no (.bad default p.2.st.rg p.2.st.σ)
    else .no .odd
  | _ => .no .odd
def evalFX (P : Program) (H : Nat → Owed) (k j : Nat) (fn : Func) (as : List AVal) (σ : AState) (s : List Dec) : Res FRes :=
  match fn.body with
  | none => .no .odd
  | some c => (evalX P H k c ⟨0, as ++ List.replicate (fn.ntmps - as.length) aundef, σ, s, []⟩).then (finX P fn k j)
def FOkB (P : Program) (β : Nat → Nat) (I : List Nat) (f : FuncId) (as : List AVal) (σ : AState) (r : AVal) (σ' : AState) : Prop :=
  (∃ fn c, P.funcs[f]? = some fn ∧ (fn.name == "runtime.NumGoroutine") = false ∧ fn.body = some c) ∧
  ∀ (F : FS) (w : World) (ρ : RMap) (args : Array Value), Agree β I ρ → Rel ρ F σ w → (GOk F w ∧ PW F w ρ as args.toList) →
    Calls P f args w fun e w' => ∃ ρ' F', EndOk F' w' ρ' r e ∧ TrN σ.length σ σ' ρ ρ' F F' w w' ∧ Rel ρ' F' σ' w'
theorem renL_undef {E : Nat → Nat} (as : List AVal) (n : Nat) : renL E (as ++ List.replicate n aundef) = renL E as ++ List.replicate n aundef := by
  have h1 : ∀ l1 l2 : List AVal, renL E (l1 ++ l2) = renL E l1 ++ renL E l2 := fun l1 l2 => by
    refine List.ext_getElem? fun i => ?_
    rw [renL_get, List.getElem?_append, List.getElem?_append, renL_length]
    split <;> rw [renL_get]
  rw [h1]
  congr 1
  exact renL_closed _ (by
    induction n with
    | zero => rfl
    | succ n ih => rw [List.replicate_succ]; show (idsIn [] aundef && idsInL [] _) = true; rw [ih]; rfl)
theorem evalFX_ok {f : FuncId} {fn : Func} {as : List AVal} {σ : AState} {Ts : Nat → AState} {es : List Nat} {n L j : Nat} {s : List Dec} {x : FRes} (hm : P.follows .mixedOrders = true) (hf : P.funcs[f]? = some fn) (hn : (fn.name == "runtime.NumGoroutine") = false)
    (hI : ∀ id ∈ I, id < N) (hnd : nodupB es = true) (hlt : ∀ j ∈ es, j < L) (hL : ∀ i, (Ts i).length = L) (hN : N = (plug (Ts 0) es σ).length)
    (h : evalFX P (owedX P n es L Ts β I N) es.length j fn as σ s = .ok x) (hcs : allP x.cs) (hds : Glob.ds = [] := by rfl) : FOkB P β I f (renL (emb es L) as) (plug (Ts 0) es σ) (ren (emb es L) x.v) (plug (Ts j) es x.σ) := by
  unfold evalFX at h
  split at h
  · cases h
  · rename_i c hb
    obtain ⟨⟨e, y0⟩, h1, h2⟩ := Res.then_ok h
    unfold finX at h2
    dsimp only at h2
    refine ⟨⟨fn, c, hf, hn, hb⟩, fun F w ρ args hg r hp => calls_of_wp hf hb ?_⟩
    split at h2
    · split at h2
      · rename_i hgd
        simp only [Bool.and_eq_true, decide_eq_true_eq] at hgd
        split at h2
        · rename_i y hy
          split at h2
          · rename_i hsx
            cases h2
            obtain ⟨hc1, hc2⟩ := hcs.append
            obtain ⟨_, t⟩ := evalX_ok (N := N) (β := β) hm hI hnd hlt hL c _ _ _ h1 hc2
            have hen := ARel.enter (fn := fn) hds hp
            rw [renL_length] at hen
            rw [renL_undef] at t
            refine t (by rw [hN]; exact Nat.le_refl _) F w ρ _ _ hg r hen fun ρ' F' w' a' tt r' ha' => ?_
            have hj : y0.i = j := hgd.2
            rw [hj] at r' tt
            rw [← hL j] at ha'
            obtain ⟨cv, hr, hv⟩ := results_X hnd (by rw [hL]; exact hlt) hgd.1.2 (by rw [hgd.1.1.1, hgd.1.1.2]; rfl) r' ha' hy hc1 hsx
            rw [hL] at hv
            subst hN
            exact ⟨ha'.defers.trans hds, cv, hr, ρ', F', .inl ⟨cv, rfl, hv⟩, tt, r'⟩
          · cases h2
        · cases h2
      · cases h2
    · cases h2

theorem FOkB.ok {f : FuncId} {as : List AVal} {σ σ' : AState} {v : AVal} (h : ∀ β, FOkB P β I f as σ v σ') (hag : ∀ (F : FS) (w : World) (ρ : RMap) (args : Array Value), Rel ρ F σ w → PW F w ρ as args.toList → ∀ id ∈ I, ∃ b, ρ id = some b)
    (hl : ∀ id o, σ.length ≤ id → σ'[id]? = some o → o.live = true) : FOk P f as σ v σ' :=
  ⟨(h fun _ => 0).1, fun F w ρ args r hp => ((h fun id => (ρ id).getD 0).2 F w ρ args (fun id hi => by
    obtain ⟨b, hb⟩ := hag F w ρ args r hp.2 id hi
    show ρ id = some ((ρ id).getD 0)
    rw [hb]; rfl) r hp).mono fun e w' ⟨ρ', F', he, t, r'⟩ => ⟨ρ', F', he, ⟨fun id b hb => t.map id b (by
      rcases Nat.lt_or_ge id σ.length with h | h
      · exact h
      · rw [r.dom id h] at hb; cases hb) hb, t.frz, t.os, t.tape, t.output, t.size, t.row, t.keep, t.newF, fun id b hb => by
      rcases Nat.lt_or_ge id σ.length with h | h
      · exact .inl (t.back id b h hb)
      · have hlt : id < σ'.length := by
          rcases Nat.lt_or_ge id σ'.length with h2 | h2
          · exact h2
          · rw [r'.dom id h2] at hb; cases hb
        have ho := List.getElem?_eq_getElem hlt
        exact .inr ⟨h, t.newρ id _ b h ho (hl id _ h ho) hb⟩, t.len, fun id o h1 h2 h3 => t.live id o h1 h2 h3, t.gho⟩, r'⟩⟩
theorem FOkB.hide {f : FuncId} {as : List AVal} {σ σ' : AState} {v : AVal} (a : Nat) {ents ents' : List (AVal × AVal)} {bs bs' : List Nat} {k k' : Nat} (hI : ∀ id ∈ I, id < σ.length) (hT : σ[a]? = some (.mpn false ents bs k)) (hT' : σ'[a]? = some (.mpn false ents' bs' k')) (hk : HideOk σ.length I ents) (hk' : HideOk σ.length I ents')
    (h : FOkB P β I f as (σ.set a (.mpn true (hideE β ents) bs k)) v (σ'.set a (.mpn true (hideE β ents') bs' k')))
    (hv : idsIn [] v = true) : FOkB P β I f as σ v σ' :=
  ⟨h.1, fun F w ρ args hg r hp => by
    have hal' := (List.getElem?_eq_some_iff.1 hT').1
    obtain ⟨r1, t1⟩ := r.hideB hg hT hk
    refine (h.2 F w ρ args hg r1 ⟨hp.1.tr r t1, hp.2.1, fun i x y e1 e2 => (hp.2.2 i x y e1 e2).tr r t1⟩).mono fun e w' ⟨ρ', F', he, t, r'⟩ => ?_
    have hs : (σ'.set a (.mpn true (hideE β ents') bs' k'))[a]? = some (.mpn true (hideE β ents') bs' k') := by
      rw [List.getElem?_set, if_pos rfl, if_pos hal']
    rw [List.length_set] at t
    obtain ⟨r2, t2⟩ := r'.showB (hg.tr hI t) hs hk'
    rw [List.set_set, show σ'.set a (.mpn false ents' bs' k') = σ' from by
      refine List.ext_getElem? fun i => ?_
      rw [List.getElem?_set]
      split
      · rename_i e; subst e; first | exact hT'.symm | rw [if_pos hal', hT']
      · rfl] at r2 t2
    exact ⟨ρ', F', he, ((t1.toN r (Nat.le_refl _)).trans t).trans (t2.toN r' t.len), r2⟩⟩
end Go.Abs
end

section
set_option linter.unusedVariables false
set_option linter.unusedSectionVars false
set_option linter.unusedSimpArgs false
namespace Go.Abs
variable [Glob]
variable {P : Program} {β : Nat → Nat} {I : List Nat} {N : Nat}

theorem FOkB.okN {f : FuncId} {as : List AVal} {σ σ' : AState} {v : AVal} (h : ∀ β, FOkB P β I f as σ v σ') (hag : ∀ (F : FS) (w : World) (ρ : RMap) (args : Array Value), Rel ρ F σ w → PW F w ρ as args.toList → ∀ id ∈ I, ∃ b, ρ id = some b) : FOkN P f as σ v σ' :=
  ⟨(h fun _ => 0).1, fun F w ρ args r hp => (h fun id => (ρ id).getD 0).2 F w ρ args (fun id hi => by
    obtain ⟨b, hb⟩ := hag F w ρ args r hp.2 id hi
    show ρ id = some ((ρ id).getD 0)
    rw [hb]; rfl) r hp⟩
theorem FOkN.born {f : FuncId} {as : List AVal} {σ σ' : AState} {v : AVal} {id : Nat} {p : Bool} {ents : List (AVal × AVal)} (ho : Abs.obj σ id = .mp p ents) (h : ∀ bs c, BRL bs c → bs.length = ents.length → FOkN P f as (σ.set id (.mpn p ents bs c)) v σ') : FOkN P f as σ v σ' :=
  ⟨(h (List.range ents.length) ents.length (brl_range _) (by simp)).1, fun F w ρ args r hp => by
    obtain ⟨bs, c, h1, h2, r1, t1⟩ := r.born ho
    have hp1 : GOk F w ∧ PW F w ρ as args.toList := hp
    refine ((h bs c h1 h2).2 F w ρ args r1 hp1).mono fun e w' ⟨ρ', F', he, t, r'⟩ => ⟨ρ', F', he, ?_, r'⟩
    rw [List.length_set] at t
    exact (t1.toN r (Nat.le_refl _)).trans t⟩
theorem FOkN.unborn {f : FuncId} {as : List AVal} {σ σ' : AState} {v : AVal} {id : Nat} {p : Bool} {ents : List (AVal × AVal)} {bs : List Nat} {c : Nat} (h : FOkN P f as σ v σ') (ho : Abs.obj σ' id = .mpn p ents bs c) : FOkN P f as σ v (σ'.set id (.mp p ents)) :=
  ⟨h.1, fun F w ρ args r hp => (h.2 F w ρ args r hp).mono fun e w' ⟨ρ', F', he, t, r'⟩ => by
    obtain ⟨r2, t2⟩ := r'.unborn ho
    exact ⟨ρ', F', he, t.trans (t2.toN r' t.len), r2⟩⟩
theorem FOkN.gh1 {f : FuncId} {as : List AVal} {T T' : AState} {v : AVal} {es i j : Nat} {rest : List AVal} (h : FOkN P f as T v T') (has : as = .ptr 0 es i j :: rest) (hs : inScopeL 1 as = true) (hg : noGh T = true)
    (hr : inScope 1 v = true) (hg2 : noGh T' = true) (hl : ∃ o, T'[0]? = some o ∧ o.live = true) (hT : 1 ≤ T.length) : FOk P f as [.gh T] v [.gh T'] :=
  ⟨h.1, fun F w ρ args r hp => by
    obtain ⟨b, hb⟩ : ∃ b, ρ 0 = some b := by
      subst has
      have hl := hp.2.1
      obtain ⟨c, hc⟩ : ∃ c, args.toList[0]? = some c := by
        cases hq : args.toList with
        | nil => rw [hq] at hl; simp at hl
        | cons c l => exact ⟨c, rfl⟩
      obtain ⟨b, hb, _⟩ := (hp.2.2 0 _ c rfl hc).ptr_inv
      exact ⟨b, hb⟩
    obtain ⟨ρT, rT, hbT, hL⟩ := r.ungh hb hg
    have hp2 : PW F w ρT as args.toList := ⟨hp.2.1, fun k x y h1 h2 => (hp.2.2 k x y h1 h2).scope (scopeL hs k x h1) |>.weak fun id y h => by
      obtain ⟨h7, h8⟩ := cut_some h
      obtain rfl : id = 0 := by omega
      rw [hb] at h8; cases h8; exact hbT⟩
    refine (h.2 F w ρT args rT ⟨hp.1, hp2⟩).mono fun e w' ⟨ρT', F', he, t, r'⟩ => ?_
    have hb2 : ρT' 0 = some b := t.map 0 b (by omega) hbT
    obtain ⟨r3, hL3⟩ := r'.togh hb2 hg2 hl
    have hrt : Live F ρ [.gh T] b := ⟨0, _, rfl, rfl, .inl hb⟩
    refine ⟨one b, F'.pack b (Live F' ρT' T'), he.mono (fun x hx => ?_) (fun t ht => ht), ⟨fun id x h => ?_, t.frz, t.os, t.tape, t.output, t.size, t.row, fun x h1 h2 => t.keep x h1 fun h => h2 (hL x h), fun x hx => ?_, fun id x h => ?_, by simp, fun id o h1 _ _ => ?_, ⟨fun y h1 h2 x => ?_, fun id o y x h1 h2 h3 h4 => ?_⟩⟩, r3⟩
    · refine VRel.mono (F := F') (F' := F'.pack b (Live F' ρT' T')) (w := w') (w' := w') (fun x hx => ⟨hx, rfl⟩) (fun _ cs _ _ h => ⟨cs, _, h, rfl⟩) (hx.scope hr) (ρ' := one b) fun id x h => ?_
      obtain ⟨h7, h8⟩ := cut_some h
      obtain rfl : id = 0 := by omega
      rw [hb2] at h8; cases h8; rfl
    · rcases Nat.lt_or_ge id 1 with hi | hi
      · obtain rfl : id = 0 := by omega
        rw [hb] at h; cases h; rfl
      · rw [r.dom id (by simpa using hi)] at h; cases h
    · rcases t.newF x hx with h | h | h
      · exact .inl h
      · exact .inr (.inl h)
      · exact .inr (.inr (hL x h))
    · unfold one at h; split at h
      · rename_i e; subst e; cases h; exact .inl hb
      · cases h
    · refine ⟨.gh T, ?_, rfl⟩
      have := (List.getElem?_eq_some_iff.1 h1).1
      simp at this; subst this; rfl
    · have hne : y ≠ b := fun e => h2 (e ▸ hrt)
      rw [← t.gho.keepO y h1 (fun h => h2 (hL y h)) x]
      constructor
      · rintro (⟨e, _⟩ | ⟨_, h⟩)
        · exact absurd e hne
        · exact h
      · exact fun h => .inr ⟨hne, h⟩
    · unfold one at h3; split at h3
      · rename_i e; subst e; cases h3
        rcases h4 with ⟨_, h⟩ | ⟨h, _⟩
        · exact (t.live' h).imp_left (hL x)
        · exact absurd rfl h
      · cases h3⟩
theorem TripB.toN {c : Code} {rg rg' : Regs} {σ σ' : AState} {e : AExit} (h : ∀ β, TripB P β I N c rg σ e rg' σ') (hag : ∀ (F : FS) (w : World) (ρ : RMap) (a : Act), Rel ρ F σ w → ARel F w ρ rg a → ∀ id ∈ I, ∃ b, ρ id = some b) : TripN P N c rg σ e rg' σ' :=
  fun hn F w ρ a Q r ha hQ => h (fun id => (ρ id).getD 0) hn F w ρ a Q (fun id hi => by
    obtain ⟨b, hb⟩ := hag F w ρ a r ha id hi
    show ρ id = some ((ρ id).getD 0)
    rw [hb]; rfl) r ha hQ
def RImpB (β : Nat → Nat) (I : List Nat) (rg rg' : Regs) : Prop := rg.length = rg'.length ∧ ∀ t (F : FS) (w : World) (ρ : RMap) (c : Value), Agree β I ρ → VRel F w ρ (rg.getD t .any) c → VRel F w ρ (rg'.getD t .any) c
theorem TripB.outB {c : Code} {rg rg' rg2 : Regs} {σ σ' : AState} {e : AExit} (hI : ∀ id ∈ I, id < N) (h : TripB P β I N c rg σ e rg' σ') (hi : RImpB β I rg' rg2) : TripB P β I N c rg σ e rg2 σ' :=
  fun hn F w ρ a Q hg r ha hQ => h hn F w ρ a Q hg r ha fun ρ' F' w' a' t r' ha' => hQ ρ' F' w' a' t r' ⟨by rw [← hi.1]; exact ha'.size, fun i v u h1 h2 => by
    have hg' := hg.tr hI t
    have hil : i < rg'.length := by rw [hi.1]; exact (List.getElem?_eq_some_iff.1 h1).1
    have h0 := ha'.val i _ u (List.getElem?_eq_getElem hil) h2
    have := hi.2 i F' w' ρ' u hg' (by rw [List.getD_eq_getElem?_getD, List.getElem?_eq_getElem hil]; exact h0)
    rw [List.getD_eq_getElem?_getD, h1] at this
    exact this, ha'.defers, ha'.glob⟩
theorem RImpB.set {rg : Regs} {t : Nat} {id es i j : Nat} (hid : id ∈ I) (h : rg.getD t .any = .blk (β id) es i j) : RImpB β I rg (rg.set t (.ptr id es i j)) := by
  refine ⟨by simp, fun k F w ρ c hg hv => ?_⟩
  rw [List.getD_eq_getElem?_getD, List.getElem?_set]
  split
  · rename_i e
    subst e
    rw [h] at hv
    split
    · exact unhideV (β := β) (v := .ptr id es i j) hv fun id' es' i' j' e => by
        cases e; exact hg id hid
    · rw [List.getD_eq_getElem?_getD, List.getElem?_eq_none (by omega)] at h; cases h
  · rw [← List.getD_eq_getElem?_getD]; exact hv
end Go.Abs
end

section
set_option linter.unusedVariables false
set_option linter.unusedSectionVars false
set_option linter.unusedSimpArgs false
namespace Go.Abs
variable [Glob]
theorem FOk.mkgh {P : Program} {f : FuncId} {as : List AVal} {T' : AState} {es i j : Nat} (h : FOk P f as [] (.ptr 0 es i j) T') (hg2 : noGh T' = true) (hl : ∃ o, T'[0]? = some o ∧ o.live = true) : FOk P f as [] (.ptr 0 es i j) [.gh T'] :=
  ⟨h.1, fun F w ρ args r hp => by
    refine (h.2 F w ρ args r hp).mono fun e w' ⟨ρT', F', he, t, r'⟩ => ?_
    obtain ⟨x0, rfl, hx0⟩ := he.value rfl
    obtain ⟨b, hb2, hx1⟩ := hx0.ptr_inv
    obtain ⟨r3, hL3⟩ := r'.togh hb2 hg2 hl
    have hnone : ∀ id, ρ id = none := fun id => r.dom id (Nat.zero_le _)
    have hno : ∀ x, ¬ Live F ρ [] x := fun x ⟨id, o, h1, _⟩ => by simp at h1
    obtain ⟨o0, ho0, ho1⟩ := hl
    have hbn : w.heap.size ≤ b := by
      rcases t.newρ 0 b hb2 with h | ⟨_, h | h⟩
      · rw [hnone] at h; cases h
      · exact h
      · exact absurd h (hno b)
    have hne : ∀ x, Live F' ρT' T' x → w.heap.size ≤ x := fun x hx => by
      rcases t.liveD (fun id _ => hnone id) hx with h | h
      · exact absurd h (hno x)
      · exact h
    refine ⟨one b, F'.pack b (Live F' ρT' T'), .inl ⟨_, rfl, ?_⟩, ⟨fun id x h => ?_, t.frz, t.os, t.tape, t.output, t.size, t.row, t.keep, fun x hx => ?_, fun id x h => ?_, by simp, fun id o h1 _ h3 => ?_, ⟨fun y h1 h2 x => ?_, fun id o y x h1 h2 h3 h4 => ?_⟩⟩, r3⟩
    · refine VRel.mono (F := F') (F' := F'.pack b (Live F' ρT' T')) (w := w') (w' := w') (fun x hx => ⟨hx, rfl⟩) (fun _ cs _ _ h => ⟨cs, _, h, rfl⟩) (hx0.scope (k := 1) rfl) (ρ' := one b) fun id x h => ?_
      obtain ⟨h7, h8⟩ := cut_some h
      obtain rfl : id = 0 := by omega
      rw [hb2] at h8; cases h8; rfl
    · rw [hnone] at h; cases h
    · rcases t.newF x hx with h | h | h
      · exact .inl h
      · exact .inr (.inl h)
      · exact absurd h (hno x)
    · unfold one at h; split at h
      · rename_i e; subst e; cases h; exact .inr ⟨Nat.zero_le _, .inl hbn⟩
      · cases h
    · simp at h3
    · have hyb : y ≠ b := fun e => by omega
      rw [← t.gho.keepO y h1 h2 x]
      constructor
      · rintro (⟨e, _⟩ | ⟨_, h⟩)
        · exact absurd e hyb
        · exact h
      · exact fun h => .inr ⟨hyb, h⟩
    · unfold one at h3; split at h3
      · rename_i e; subst e; cases h3
        rcases h4 with ⟨_, h⟩ | ⟨h, _⟩
        · exact .inr (hne x h)
        · exact absurd rfl h
      · cases h3⟩
end Go.Abs
end
