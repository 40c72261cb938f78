import Derived.Test.YtkecmndppllijaaDoorAbsRes
set_option linter.unusedVariables false
set_option linter.unusedSectionVars false
set_option linter.unusedSimpArgs false
namespace Go.Abs
variable [Glob]

section
variable {N : Nat} {P : Program}

theorem Rel.ext {ρ : RMap} {F : Nat → Prop} {σ S : AState} {w : World} (r : Rel ρ F σ w) (h : S.take σ.length = σ) : Rel ρ F S w ∧ Tr σ S ρ ρ F F w w := by
  have hlow : ∀ id, id < σ.length → S[id]? = σ[id]? := fun id hlt => by
    have := congrArg (·[id]?) h
    simp only [List.getElem?_take_of_lt hlt] at this
    exact this
  have hin : ∀ id b, ρ id = some b → id < σ.length := fun id b hb => by
    rcases Nat.lt_or_ge id σ.length with h' | h'
    · exact h'
    · rw [r.dom _ h'] at hb; cases hb
  have hlen : σ.length ≤ S.length := by have := congrArg List.length h; rw [List.length_take] at this; omega
  refine ⟨⟨?_, ?_, ?_, r.lt, fun id hid => r.dom id (by omega)⟩, ⟨fun _ _ h => h, fun _ h => h, rfl, rfl, rfl, Nat.le_refl _, fun _ cs _ _ h => ⟨cs, _, h, rfl⟩, fun _ _ _ => rfl, fun _ h => .inl h, fun _ _ h => .inl h, hlen, ?_⟩⟩
  · intro id o b h1 h2
    rw [hlow id (hin id b h2)] at h1
    exact r.obj id o b h1 h2
  · intro id id' o o' b h1 h2 h3 h4 h5 h6
    rw [hlow id (hin id b h5)] at h1
    rw [hlow id' (hin id' b h6)] at h2
    exact r.inj id id' o o' b h1 h2 h3 h4 h5 h6
  · intro b hb
    refine ⟨(r.fr b hb).1, fun ⟨id, o, h1, h2, h3⟩ => ?_⟩
    rw [hlow id (hin id b h3)] at h1
    exact (r.fr b hb).2 ⟨id, o, h1, h2, h3⟩
  · intro id o' h1 h2 h3
    rw [hlow id h3] at h1
    exact ⟨o', h1, h2⟩

theorem draw_ok {ops : Array Oper} {st st' : St} {id : Nat} (hm : P.follows .mixedOrders = true) (hok : okOrd ops = true) (h : evalAny P (owed P N) ops (ancs ops.toList []) 0 ops.toList [] st = .ok st') (hcs : allP st'.cs)
    (h0 : (inScopeL st.σ.length st.rg && st.σ.all (inScopeO st.σ.length)) = true) : Trip P (.region id ops true) st.rg st.σ .normal st'.rg st'.σ := by
  intro F w ρ a Q r ha hQ
  obtain ⟨_, vs, rgs, sg, cur, Ts, Ws, k1, k2, k3, k4, k5⟩ := evalAny_ok (ancs ops.toList []) _ 0 [] st st' st.rg h hcs (REq.refl _)
  rw [Array.length_toList] at k2 k4
  have hc : Chain P ops sg cur rgs vs Ts Ws := fun i o ho => by
    obtain ⟨a1, a2⟩ := k5 i o (by simpa using ho)
    refine ⟨a1, a2.loc, a2.scope, a2.len, fun k hk hb => ?_⟩
    have hp := a2.pairs
    rw [Nat.zero_add, List.nil_append] at hp
    exact pairC_spec (pairsC_get hp k ⟨Ts k, Ws k, sg k, sg (k + 1)⟩ (by rw [List.getElem?_map, List.getElem?_range hk]; rfl) (by rw [Nat.zero_add]; exact hb))
  rw [← k1] at r h0
  obtain ⟨r1, t1⟩ := drew_rel r
  refine wp_region_any hm ?_
  have hle := hc.le (Nat.zero_le ops.size) (Nat.le_refl _)
  obtain ⟨r2, t2⟩ := r1.ext (S := sg 0 ++ List.replicate ((sg ops.size).length - (sg 0).length) .dead) (by simp)
  rw [← k3] at h0
  have hget : ∀ j, (Array.replicate ops.size false).getD j false = false := fun j => by
    rw [Array.getD_eq_getD_getElem?, Array.getElem?_replicate]; split <;> rfl
  have harel : ARel F w.drew ρ (cur 0) a := by rw [k3]; exact ha.tr r (by rw [k1] at t1 ⊢; exact t1)
  refine any_ok (F0 := F) (w0 := w.drew) (ρ0 := ρ) (ha.glob.tr r t1) r1 h0 hc hok (fun ρ' F' w' a' t r' ha' => ?_) ops.size _ a w.drew ρ F (sg 0 ++ List.replicate ((sg ops.size).length - (sg 0).length) .dead) (by simp) ?_
  · refine hQ ρ' F' w' a' ?_ (by rw [← k2]; exact r') (ha'.imp k4.1)
    rw [← k1, ← k2]
    exact Tr.trans r t1 t
  · refine ⟨by simp, fun j o hj hl => (by rw [hget] at hl; cases hl), by simp; omega, fun id => ⟨0, Nat.zero_le _, ?_, fun i hi hl => (by rw [hget] at hl; cases hl), fun i _ _ _ => Nat.zero_le _⟩, r2, t2, ?_, harel.size.symm, harel.defers, fun t j o hj hd hl => (by rw [hget] at hl; cases hl), ?_⟩
    · rcases Nat.lt_or_ge id (sg 0).length with hl | hl
      · refine obj_of ?_
        rw [List.getElem?_append_left hl, obj_get hl]
      · rw [obj_none hl]
        unfold obj
        rw [List.getD_eq_getElem?_getD, List.getElem?_append_right hl, List.getElem?_replicate]
        split <;> rfl
    · intro j hj hl id h1 h2
      exact r1.dom id (Nat.le_trans (hc.le (Nat.zero_le j) (by omega)) h1)
    · intro t ht _
      exact (harel.look [t]).2 t (by simp)

theorem plain_ok {ops : Array Oper} {st st' : St} {id : Nat} (h : evalOps P (owed P N) ops ops.toList st = .ok st') (hcs : allP st'.cs) : Trip P (.region id ops false) st.rg st.σ .normal st'.rg st'.σ := by
  intro F w ρ a Q r ha hQ
  obtain ⟨_, vs, rgs, sg, cur, k1, k2, k3, k4, k5⟩ := evalOps_ok _ st st' st.rg h hcs (REq.refl _)
  rw [Array.length_toList] at k2 k4
  refine wp_region ?_
  rw [List.range_eq_range']
  rw [← k1] at r
  rw [← k3] at ha
  refine seq_ok (sg := sg) (cur := cur) (rgs := rgs) (vs := vs) (fun i o ho => k5 i _ (by simpa using ho)) ops.size 0 (by omega) F w ρ a r ha fun ρ' F' w' a' t r' ha' => ?_
  exact hQ ρ' F' w' a' (by rw [← k1, ← k2]; exact t) (by rw [← k2]; exact r') (ha'.imp k4.1)

theorem Trip.imp {c : Code} {rg rg' : Regs} {σ σ' : AState} {e : AExit} {rg0 : Regs} (h : Trip P c rg σ e rg' σ') (hi : RImp rg0 rg) : Trip P c rg0 σ e rg' σ' :=
  fun F w ρ a Q r ha hQ => h F w ρ a Q r (ha.imp hi) hQ
theorem Trip.toN {c : Code} {rg rg' : Regs} {σ σ' : AState} {e : AExit} (h : Trip P c rg σ e rg' σ') : TripN P N c rg σ e rg' σ' :=
  fun hn F w ρ a Q r ha hQ => h F w ρ a Q r ha fun ρ' F' w' a' t r' ha' => hQ ρ' F' w' a' (t.toN r hn) r' ha'
theorem TripN.imp {c : Code} {rg rg' : Regs} {σ σ' : AState} {e : AExit} {rg0 : Regs} (h : TripN P N c rg σ e rg' σ') (hi : RImp rg0 rg) : TripN P N c rg0 σ e rg' σ' :=
  fun hn F w ρ a Q r ha hQ => h hn F w ρ a Q r (ha.imp hi) hQ
theorem TripN.out {c : Code} {rg rg' rg2 : Regs} {σ σ' : AState} {e : AExit} (h : TripN P N c rg σ e rg' σ') (hi : RImp rg' rg2) : TripN P N c rg σ e rg2 σ' :=
  fun hn F w ρ a Q r ha hQ => h hn F w ρ a Q r ha fun ρ' F' w' a' t r' ha' => hQ ρ' F' w' a' t r' (ha'.imp hi)

theorem TripN.seqN {x y : Code} {rg rg1 rg2 : Regs} {σ σ1 σ2 : AState} {e : AExit} (h1 : TripN P N x rg σ .normal rg1 σ1) (h2 : TripN P N y rg1 σ1 e rg2 σ2) : TripN P N (.seq x y) rg σ e rg2 σ2 :=
  fun hn F w ρ a Q r ha hQ => wp_seq (h1 hn F w ρ a _ r ha fun ρ' F' w' a' t r' ha' => h2 t.len F' w' ρ' a' Q r' ha' fun ρ2 F2 w2 a2 t2 r2 ha2 => hQ ρ2 F2 w2 a2 (TrN.trans t t2) r2 ha2)
theorem TripN.seqE {x y : Code} {rg rg1 : Regs} {σ σ1 : AState} {e : AExit} (h1 : TripN P N x rg σ e rg1 σ1) (he : e ≠ .normal) : TripN P N (.seq x y) rg σ e rg1 σ1 :=
  fun hn F w ρ a Q r ha hQ => wp_seq (h1 hn F w ρ a _ r ha fun ρ' F' w' a' t r' ha' => by
    have := hQ ρ' F' w' a' t r' ha'
    cases e with
    | normal => exact absurd rfl he
    | exit id => exact this
    | ret => exact this)
theorem TripN.cond {c : Operand} {x y : Code} {rg rg1 : Regs} {σ σ1 : AState} {e : AExit} {b : Bool} (hb : Imp (aev rg c) (.tt b)) (h : TripN P N (if b then x else y) rg σ e rg1 σ1) : TripN P N (.cond c x y) rg σ e rg1 σ1 :=
  fun hn F w ρ a Q r ha hQ => wp_cond (t := b) ((hb _ _ _ _ (aev_ok ha c)).tt_inv) (h hn F w ρ a Q r ha hQ)
def AExit.out (id : Nat) : AExit → AExit
  | .exit k => if k == id then .normal else .exit k
  | e => e
theorem TripN.block {id : Nat} {c : Code} {rg rg1 : Regs} {σ σ1 : AState} {e : AExit} (h : TripN P N c rg σ e rg1 σ1) : TripN P N (.block id c) rg σ (e.out id) rg1 σ1 :=
  fun hn F w ρ a Q r ha hQ => wp_block (h hn F w ρ a _ r ha fun ρ' F' w' a' t r' ha' => by
    have := hQ ρ' F' w' a' t r' ha'
    cases e with
    | normal => exact this
    | ret => exact this
    | exit k =>
      simp only [AExit.real, Exit.inBlock]
      simp only [AExit.out] at this
      by_cases hk : k = id
      · simp only [hk, beq_self_eq_true, if_true] at this ⊢; exact this
      · have hk' : (k == id) = false := by simpa using hk
        simp only [hk, hk', if_false, Bool.false_eq_true] at this ⊢; exact this)

/-! ## Loops -/
inductive LoopRun (P : Program) (N : Nat) (c : Code) : Regs → AState → AExit → Regs → AState → Prop
  | done {rg σ e rg' σ'} (h : TripN P N c rg σ e rg' σ') (he : e ≠ .normal) : LoopRun P N c rg σ e rg' σ'
  | more {rg σ rg1 σ1 e rg' σ'} (h : TripN P N c rg σ .normal rg1 σ1) (h' : LoopRun P N c rg1 σ1 e rg' σ') : LoopRun P N c rg σ e rg' σ'

theorem LoopRun.run {c : Code} {rg rg' : Regs} {σ σ' : AState} {e : AExit} (h : LoopRun P N c rg σ e rg' σ') : N ≤ σ.length → ∀ (F : Nat → Prop) (w : World) (ρ : RMap) (a : Act) (Q : Exit → Act → World → Prop), Rel ρ F σ w → ARel F w ρ rg a →
    (∀ ρ' F' w' a', TrN N σ σ' ρ ρ' F F' w w' → Rel ρ' F' σ' w' → ARel F' w' ρ' rg' a' → Q e.real a' w') → ∀ (b : Frame) (k : List Item) (cs : List Frame),
      ∃ e a' w', Q e a' w' ∧ Arrives P (lone (b.at a (.code c :: .inLoop c :: k)) cs w) b k cs e a' w' := by
  induction h with
  | @done rg σ e rg' σ' h he =>
    intro hn F w ρ a Q r ha hQ b k cs
    obtain ⟨e1, a1, w1, hq, harr⟩ := h hn F w ρ a (fun e' a' w' => e' ≠ .normal ∧ Q e' a' w') r ha (fun ρ' F' w' a' t r' ha' => ⟨by cases e <;> simp [AExit.real] at he ⊢, hQ ρ' F' w' a' t r' ha'⟩) b (.inLoop c :: k) cs
    exact ⟨e1, a1, w1, hq.2, .pass (x := .inLoop c) rfl (fun _ _ => .inl hq.1) harr⟩
  | @more rg σ rg1 σ1 e rg' σ' h h' ih =>
    intro hn F w ρ a Q r ha hQ b k cs
    obtain ⟨e1, a1, w1, ⟨rfl, ρ1, F1, t1, r1, ha1⟩, harr⟩ := h hn F w ρ a (fun e' a' w' => e' = .normal ∧ ∃ ρ' F', TrN N σ σ1 ρ ρ' F F' w w' ∧ Rel ρ' F' σ1 w' ∧ ARel F' w' ρ' rg1 a') r ha
      (fun ρ' F' w' a' t r' ha' => ⟨rfl, ρ', F', t, r', ha'⟩) b (.inLoop c :: k) cs
    obtain ⟨e2, a2, w2, hq2, harr2⟩ := ih t1.len F1 w1 ρ1 a1 Q r1 ha1 (fun ρ' F' w' a' t r' ha' => hQ ρ' F' w' a' (TrN.trans t1 t) r' ha') b k cs
    exact ⟨e2, a2, w2, hq2, .of_steps (Steps.trans harr (.one step_inLoop)) harr2⟩

theorem LoopRun.trip {c : Code} {rg rg' : Regs} {σ σ' : AState} {e : AExit} (h : LoopRun P N c rg σ e rg' σ') : TripN P N (.loop c) rg σ e rg' σ' :=
  fun hn F w ρ a Q r ha hQ b k cs => let ⟨e, a', w', q, arr⟩ := h.run hn F w ρ a Q r ha hQ b k cs; ⟨e, a', w', q, .of_steps (.one step_loop) arr⟩

theorem LoopRun.imp {c : Code} {rg rg' rg0 : Regs} {σ σ' : AState} {e : AExit} (h : LoopRun P N c rg σ e rg' σ') (hi : RImp rg0 rg) : LoopRun P N c rg0 σ e rg' σ' := by
  cases h with
  | done h he => exact .done (h.imp hi) he
  | more h h' => exact .more (h.imp hi) h'


theorem Imp.nilSlc (es id es' off : Nat) (cap : Option Nat) : Imp (.fsl true es [] cap) (.slc true id es' off 0 none) := fun F w ρ c hc => by
  cases hc with
  | fnil _ _ _ _ => exact .slcE _ _ _ _ _ _ _ rfl (by simp)

/-- Ahead of a loop: the heap may get places that are nowhere yet. -/
theorem TripN.ext {c : Code} {rg rg' : Regs} {σ σ' S : AState} {e : AExit} (h : TripN P N c rg S e rg' σ') (hS : S.take σ.length = σ) : TripN P N c rg σ e rg' σ' := by
  intro hn F w ρ a Q r ha hQ
  obtain ⟨r1, t1⟩ := r.ext hS
  exact h (Nat.le_trans hn t1.len) F w ρ a Q r1 ha fun ρ' F' w' a' t r' ha' => hQ ρ' F' w' a' ((t1.toN r hn).trans t) r' ha'

def moved (π : List Nat) (ρ : RMap) : RMap := fun i => if i < π.length then ρ (old π i) else none

theorem move_rel {n : Nat} {ρ : RMap} {F : Nat → Prop} {σ σ' σ2 : AState} {w w' : World} {ρ' : RMap} {F' : Nat → Prop} {π : List Nat} {vs : List AVal} (t : TrN n σ σ' ρ ρ' F F' w w') (r : Rel ρ' F' σ' w')
    (hh : π.map (fun j => σ'[j]?) = σ2.map fun o => some (renO (old π) o)) (ok : okMove n π σ'.length vs σ2 = true) :
    TrN n σ σ2 ρ (moved π ρ') F F' w w' ∧ Rel (moved π ρ') F' σ2 w' := by
  unfold okMove at ok
  simp only [Bool.and_eq_true, decide_eq_true_eq, beq_iff_eq] at ok
  obtain ⟨⟨⟨⟨⟨hnd, hlt⟩, hn⟩, htk⟩, _⟩, hsO⟩ := ok
  have hlen : π.length = σ2.length := by have := congrArg List.length hh; simpa using this
  have hget : ∀ i o, σ2[i]? = some o → i < π.length ∧ σ'[old π i]? = some (renO (old π) o) := fun i o ho => by
    have hi : i < π.length := by rw [hlen]; exact (List.getElem?_eq_some_iff.1 ho).1
    refine ⟨hi, ?_⟩
    have := congrArg (·[i]?) hh
    simp only [List.getElem?_map, ho, Option.map_some] at this
    have hp : π[i]? = some (old π i) := by unfold old; rw [List.getD_eq_getElem?_getD, List.getElem?_eq_getElem hi]; rfl
    rw [hp] at this
    simpa using this
  have hinj : ∀ i j, i < π.length → j < π.length → old π i = old π j → i = j := fun i j hi hj he => nodupB_inj hnd i j hi hj he
  have hlow : ∀ i, i < n → old π i = i := fun i hi => by
    have h1 := congrArg (·[i]?) htk
    simp only [List.getElem?_take_of_lt hi, List.getElem?_range hi] at h1
    unfold old
    rw [List.getD_eq_getElem?_getD, h1]; rfl
  have hhigh : ∀ i, n ≤ i → i < π.length → n ≤ old π i := fun i hi hl => by
    rcases Nat.lt_or_ge (old π i) n with h | h
    · have := hinj i (old π i) hl (by omega) (hlow _ h).symm
      omega
    · exact h
  have hsome : ∀ {i b}, moved π ρ' i = some b → i < π.length ∧ ρ' (old π i) = some b := fun {i b} h => by
    unfold moved at h; split at h
    · exact ⟨by assumption, h⟩
    · cases h
  have hof : ∀ {i b}, i < π.length → ρ' (old π i) = some b → moved π ρ' i = some b := fun {i b} hi h => by unfold moved; rw [if_pos hi]; exact h
  have hLive : ∀ b, Live (moved π ρ') σ2 b → Live ρ' σ' b := fun b ⟨i, o, h1, h2, h3⟩ => ⟨old π i, _, (hget i o h1).2, by rw [renO_live]; exact h2, (hsome h3).2⟩
  refine ⟨⟨fun id b h1 h2 => hof (by omega) (by rw [hlow id h1]; exact t.map id b h1 h2), t.frz, t.os, t.tape, t.output, t.size, t.row, t.keep, t.newF, fun id b h1 h2 => ?_, fun id o' b h1 h2 h3 h4 => ?_, by omega, fun id o' h1 h2 h3 => ?_⟩,
    ⟨fun id o b h1 h2 => ?_, fun id id' o o' b h1 h2 h3 h4 h5 h6 => ?_, fun b hb => ⟨(r.fr b hb).1, fun hl => (r.fr b hb).2 (hLive b hl)⟩, fun id b h => r.lt _ b (hsome h).2, fun id h => by unfold moved; rw [if_neg (by omega)]⟩⟩
  · have := (hsome h2).2
    rw [hlow id h1] at this
    exact t.back id b h1 this
  · obtain ⟨g1, g2⟩ := hget id o' h2
    exact t.newρ (old π id) _ b (hhigh id h1 g1) g2 (by rw [renO_live]; exact h3) (hsome h4).2
  · obtain ⟨g1, g2⟩ := hget id o' h1
    rw [hlow id h3] at g2
    exact t.live id _ g2 (by rw [renO_live]; exact h2) h3
  · obtain ⟨g1, g2⟩ := hget id o h1
    exact ORel.unren (k := σ2.length) (r.obj _ _ b g2 (hsome h2).2) (fun i b hi h => hof (by omega) h) (List.all_eq_true.1 hsO o (List.mem_of_getElem? h1))
  · obtain ⟨g1, g2⟩ := hget id o h1
    obtain ⟨k1, k2⟩ := hget id' o' h2
    exact hinj id id' g1 k1 (r.inj _ _ _ _ b g2 k2 (by rw [renO_live]; exact h3) (by rw [renO_live]; exact h4) (hsome h5).2 (hsome h6).2)

theorem move_val {F : Nat → Prop} {w : World} {ρ : RMap} {π : List Nat} {k : Nat} {v2 : AVal} {c : Value} (h : VRel F w ρ (ren (old π) v2) c) (hk : k ≤ π.length) (hs : inScope k v2 = true) : VRel F w (moved π ρ) v2 c :=
  VRel.unren (k := k) h (fun i b hi h => by unfold moved; rw [if_pos (by omega)]; exact h) v2 rfl hs

theorem keepR_cell : ∀ (m : List Bool) (rg : Regs), (keepR m rg).length = rg.length ∧ ∀ t, (keepR m rg).getD t .any = rg.getD t .any ∨ (keepR m rg).getD t .any = .any
  | true :: bs, v :: vs => ⟨by simp [keepR, (keepR_cell bs vs).1], fun t => by
      cases t with
      | zero => exact .inl rfl
      | succ t => simpa [keepR] using (keepR_cell bs vs).2 t⟩
  | false :: bs, v :: vs => ⟨by simp [keepR, (keepR_cell bs vs).1], fun t => by
      cases t with
      | zero => exact .inr rfl
      | succ t => simpa [keepR] using (keepR_cell bs vs).2 t⟩
  | [], v :: vs => ⟨by simp [keepR, (keepR_cell [] vs).1], fun t => by
      cases t with
      | zero => exact .inr rfl
      | succ t => simpa [keepR] using (keepR_cell [] vs).2 t⟩
  | [], [] => ⟨rfl, fun t => .inr (by simp [keepR])⟩
  | true :: bs, [] => ⟨rfl, fun t => .inr (by simp [keepR])⟩
  | false :: bs, [] => ⟨rfl, fun t => .inr (by simp [keepR])⟩
theorem keepR_imp (m : List Bool) (rg : Regs) : RImp rg (keepR m rg) := by
  refine ⟨(keepR_cell m rg).1.symm, fun t => ?_⟩
  rcases (keepR_cell m rg).2 t with h | h
  · rw [h]; exact Imp.refl _
  · rw [h]; exact fun F w ρ c hc => .any _ _

theorem ARel.move {F : Nat → Prop} {w : World} {ρ : RMap} {rg rg2 : Regs} {a : Act} {π : List Nat} {k : Nat} (h : ARel F w ρ rg a) {m : List Bool} (hr : keepR m rg = renL (old π) rg2) (hk : k ≤ π.length) (hs : inScopeL k rg2 = true) : ARel F w (moved π ρ) rg2 a := by
  have h2 := h.imp (keepR_imp m rg)
  rw [hr] at h2
  refine ⟨by have := h2.size; rw [renL_length] at this; exact this, fun i v u h1 hu => ?_, h2.defers, h2.glob⟩
  exact move_val (h2.val i (ren (old π) v) u (by rw [renL_get, h1]; rfl) hu) hk (scopeL hs i v h1)


theorem TrN.refl (n : Nat) (σ : AState) (ρ : RMap) (F : Nat → Prop) (w : World) (r : Rel ρ F σ w) (h : n ≤ σ.length) : TrN n σ σ ρ ρ F F w w := (Tr.refl σ ρ F w).toN r h

theorem TripN.pre {c : Code} {rg rg' rg2 : Regs} {σ σ' σ2 : AState} {e : AExit} (h : TripN P N c rg2 σ2 e rg' σ') (m : List Bool) (π : List Nat) (hr : keepR m rg = renL (old π) rg2)
    (hh : π.map (fun j => σ[j]?) = σ2.map fun o => some (renO (old π) o)) (ok : okMove N π σ.length rg2 σ2 = true) : TripN P N c rg σ e rg' σ' := by
  intro hn F w ρ a Q r ha hQ
  obtain ⟨t2, r2⟩ := move_rel (TrN.refl N σ ρ F w r hn) r hh ok
  have hlen : π.length = σ2.length := by have := congrArg List.length hh; simpa using this
  have ok2 := ok
  unfold okMove at ok
  simp only [Bool.and_eq_true] at ok
  exact h t2.len F w _ a Q r2 (ha.move hr (Nat.le_of_eq hlen.symm) ok.1.2) fun ρ' F' w' a' t r' ha' => hQ ρ' F' w' a' (t2.trans t) r' ha'

theorem Rel.weakCell {ρ : RMap} {F : Nat → Prop} {σ : AState} {w : World} (r : Rel ρ F σ w) {id es' : Nat} {rs : List (List AVal)} {i j : Nat} {v' : AVal} (ho : Abs.obj σ id = .rows false es' rs) (hi : Imp ((rs.getD i []).getD j .any) v') :
    Rel ρ F (σ.set id (.rows false es' (rs.set i ((rs.getD i []).set j v')))) w ∧ Tr σ (σ.set id (.rows false es' (rs.set i ((rs.getD i []).set j v')))) ρ ρ F F w w := by
  have hid := obj_some ho rfl
  have hlt := (List.getElem?_eq_some_iff.1 hid).1
  have hcase : ∀ x o', (σ.set id (.rows false es' (rs.set i ((rs.getD i []).set j v'))))[x]? = some o' → (x = id ∧ o' = .rows false es' (rs.set i ((rs.getD i []).set j v'))) ∨ (x ≠ id ∧ σ[x]? = some o') := by
    intro x o' h
    rw [List.getElem?_set] at h
    by_cases e : id = x
    · subst e; simp only [if_true, hlt] at h; exact .inl ⟨rfl, by simpa using h.symm⟩
    · simp only [e, if_false] at h; exact .inr ⟨fun e' => e e'.symm, h⟩
  have hback : ∀ (x : Nat) (o' : AObj), (σ.set id (.rows false es' (rs.set i ((rs.getD i []).set j v'))))[x]? = some o' → o'.live = true → ∃ o : AObj, σ[x]? = some o ∧ o.live = true := by
    intro x o' h1 h2
    rcases hcase x o' h1 with ⟨rfl, _⟩ | ⟨_, h⟩
    · exact ⟨_, hid, rfl⟩
    · exact ⟨o', h, h2⟩
  refine ⟨⟨?_, ?_, ?_, r.lt, fun id h => r.dom id (by simpa using h)⟩, ⟨fun _ _ h => h, fun _ h => h, rfl, rfl, rfl, Nat.le_refl _, fun _ cs _ _ h => ⟨cs, _, h, rfl⟩, fun _ _ _ => rfl, fun _ h => .inl h, fun _ _ h => .inl h, by simp, fun x o' h1 h2 _ => hback x o' h1 h2⟩⟩
  · intro x o' y h1 h2
    rcases hcase x o' h1 with ⟨rfl, rfl⟩ | ⟨hne, h⟩
    · obtain ⟨cs, T, fr, k1, k2, k3, k4, k5⟩ := r.obj _ _ _ hid h2
      refine ⟨cs, T, fr, k1, k2, by simpa using k3, fun i' row e => ?_, fun i' j' row v e1 e2 => ?_⟩
      · rw [List.getElem?_set] at e
        by_cases hii : i = i'
        · subst hii
          by_cases hil : i < rs.length
          · simp only [if_true, hil] at e
            cases e
            rw [List.length_set]
            have hrow : rs[i]? = some rs[i] := List.getElem?_eq_getElem hil
            have hD : rs.getD i [] = rs[i] := by rw [List.getD_eq_getElem?_getD, hrow]; rfl
            rw [hD]; exact k4 i _ hrow
          · simp only [if_true, hil, if_false] at e; cases e
        · simp only [hii, if_false] at e; exact k4 i' row e
      · rw [List.getElem?_set] at e1
        by_cases hii : i = i'
        · subst hii
          by_cases hil : i < rs.length
          · simp only [if_true, hil] at e1
            cases e1
            have hrow : rs[i]? = some rs[i] := List.getElem?_eq_getElem hil
            have hD : rs.getD i [] = rs[i] := by rw [List.getD_eq_getElem?_getD, hrow]; rfl
            rw [List.getElem?_set] at e2
            by_cases hjj : j = j'
            · subst hjj
              split at e2
              · split at e2
                · rename_i hjl2
                  cases e2
                  rw [hD] at hjl2 hi
                  obtain ⟨cv, g1, g2⟩ := k5 i j _ (rs[i].getD j .any) hrow (by rw [List.getD_eq_getElem?_getD, List.getElem?_eq_getElem hjl2]; rfl)
                  exact ⟨cv, g1, hi _ _ _ _ g2⟩
                · cases e2
              · rename_i hne; exact absurd rfl hne
            · simp only [hjj, if_false] at e2
              rw [hD] at e2
              exact k5 i j' _ v hrow e2
          · simp only [if_true, hil, if_false] at e1; cases e1
        · simp only [hii, if_false] at e1; exact k5 i' j' row v e1 e2
    · exact r.obj x o' y h h2
  · intro x y o1 o2 z h1 h2 h3 h4 h5 h6
    obtain ⟨p1, e1, e2⟩ := hback x o1 h1 h3
    obtain ⟨p2, e3, e4⟩ := hback y o2 h2 h4
    exact r.inj _ _ _ _ _ e1 e3 e2 e4 h5 h6
  · intro x hx
    refine ⟨(r.fr x hx).1, ?_⟩
    rintro ⟨y, o', h1, h2, h3⟩
    obtain ⟨o, e1, e2⟩ := hback y o' h1 h2
    exact (r.fr x hx).2 ⟨y, o, e1, e2, h3⟩

theorem TripN.weakCell {c : Code} {rg rg' : Regs} {σ σ' : AState} {e : AExit} {id es' : Nat} {rs : List (List AVal)} {i j : Nat} {v' : AVal} (h : TripN P N c rg (σ.set id (.rows false es' (rs.set i ((rs.getD i []).set j v')))) e rg' σ') (ho : Abs.obj σ id = .rows false es' rs) (hi : Imp ((rs.getD i []).getD j .any) v') : TripN P N c rg σ e rg' σ' := by
  intro hn F w ρ a Q r ha hQ
  obtain ⟨r1, t1⟩ := r.weakCell ho hi
  exact h (Nat.le_trans hn t1.len) F w ρ a Q r1 ha fun ρ' F' w' a' t r' ha' => hQ ρ' F' w' a' ((t1.toN r hn).trans t) r' ha'

theorem placed_ok {c : Code} {rg' : Regs} {σ' : AState} {e : AExit} : ∀ (s : List Dec) (rg : Regs) (σ : AState), TripN P N c (placed N s rg σ).rg (placed N s rg σ).σ e rg' σ' → TripN P N c rg σ e rg' σ'
  | [], rg, σ, h => h
  | .place t es p :: s, rg, σ, h => by
    simp only [placed] at h
    split at h
    · rename_i hg
      have h1 := placed_ok s _ _ h
      refine (h1.ext (by simp)).imp (RImp.set ?_)
      rw [hg]; exact Imp.nilSlc _ _ _ _ _
    · exact h
  | .placeH id i j es p :: s, rg, σ, h => by
    simp only [placed] at h
    split at h
    · rename_i es' rs ho
      split at h
      · rename_i hg
        have h1 := placed_ok s _ _ h
        refine (h1.ext List.take_left).weakCell ho ?_
        rw [hg]; exact Imp.nilSlc _ _ _ _ _
      · exact h
    · exact h
  | .compact m π :: s, rg, σ, h => by
    simp only [placed] at h
    split at h
    · rename_i hc
      rw [Bool.and_eq_true, Bool.and_eq_true] at hc
      obtain ⟨⟨c1, c2⟩, c3⟩ := hc
      refine (placed_ok s _ _ h).pre m π (renL_back _ c2).symm ?_ c1
      rw [List.map_map]
      refine List.map_congr_left fun j hj => ?_
      have hlt : j < σ.length := by
        unfold okMove at c1
        simp only [Bool.and_eq_true] at c1
        have := List.all_eq_true.1 c1.1.1.1.1.2 j hj
        simpa using this
      show σ[j]? = some (renO (old π) (renO (invId π) (obj σ j)))
      rw [renO_back (List.all_eq_true.1 c3 j hj)]
      unfold obj
      rw [List.getD_eq_getElem?_getD, List.getElem?_eq_getElem hlt]; rfl
    · exact h
  | .br _ :: s, rg, σ, h => h
  | .call _ _ :: s, rg, σ, h => h
  | .rw _ :: s, rg, σ, h => h
  | .go :: s, rg, σ, h => h
  | .unroll _ :: s, rg, σ, h => h
  | .use _ _ _ _ _ :: s, rg, σ, h => h
  | .loop _ _ _ :: s, rg, σ, h => h

/-- a loop, round by round -/
theorem iterC_ok {c : Code} {ev : St → Res (AExit × St)} (hev : ∀ (st st' : St) (e : AExit), ev st = .ok (e, st') → allP st'.cs → (∃ new, st'.cs = new ++ st.cs) ∧ TripN P N c st.rg st.σ e st'.rg st'.σ) :
    ∀ (n : Nat) (st st' : St) (e : AExit), iterC ev n st = .ok (e, st') → allP st'.cs → (∃ new, st'.cs = new ++ st.cs) ∧ LoopRun P N c st.rg st.σ e st'.rg st'.σ
  | 0, st, st', e, h, _ => by cases h
  | n + 1, st, st', e, h, hcs => by
    simp only [iterC] at h
    obtain ⟨⟨e1, st1⟩, h1, h2⟩ := Res.then_ok h
    cases e1 with
    | normal =>
      obtain ⟨⟨n2, hn2⟩, t2⟩ := iterC_ok hev n st1 st' e h2 hcs
      obtain ⟨⟨n1, hn1⟩, t1⟩ := hev st st1 .normal h1 (fun p hp => hcs p (by rw [hn2]; exact List.mem_append_right _ hp))
      exact ⟨⟨n2 ++ n1, by rw [hn2, hn1]; simp⟩, .more t1 t2⟩
    | exit k =>
      cases h2
      obtain ⟨s1, t1⟩ := hev st st1 (.exit k) h1 hcs
      exact ⟨s1, .done t1 (by simp)⟩
    | ret =>
      cases h2
      obtain ⟨s1, t1⟩ := hev st st1 .ret h1 hcs
      exact ⟨s1, .done t1 (by simp)⟩

theorem evalC_ok (hm : P.follows .mixedOrders = true) : ∀ (c : Code) (st st' : St) (e : AExit), evalC P (owed P N) c st = .ok (e, st') → allP st'.cs → (∃ new, st'.cs = new ++ st.cs) ∧ TripN P N c st.rg st.σ e st'.rg st'.σ := by
  have suf : ∀ {a b : List Prop}, (∃ new, a = new ++ b) → allP a → allP b := fun ⟨new, hn⟩ h p hp => h p (by rw [hn]; exact List.mem_append_right _ hp)
  intro c
  induction c with
  | skip =>
    intro st st' e h hcs
    cases h
    exact ⟨⟨[], rfl⟩, Trip.toN fun F w ρ a Q r ha hQ => wp_skip (hQ ρ F w a (Tr.refl _ _ _ _) r ha)⟩
  | label l =>
    intro st st' e h hcs
    cases h
    exact ⟨⟨[], rfl⟩, Trip.toN fun F w ρ a Q r ha hQ => wp_label (hQ ρ F w a (Tr.refl _ _ _ _) r ha)⟩
  | exit id =>
    intro st st' e h hcs
    cases h
    exact ⟨⟨[], rfl⟩, Trip.toN fun F w ρ a Q r ha hQ => wp_exit (hQ ρ F w a (Tr.refl _ _ _ _) r ha)⟩
  | ret =>
    intro st st' e h hcs
    cases h
    exact ⟨⟨[], rfl⟩, Trip.toN fun F w ρ a Q r ha hQ => wp_ret (hQ ρ F w a (Tr.refl _ _ _ _) r ha)⟩
  | region id ops draw =>
    intro st st' e h hcs
    simp only [evalC] at h
    cases draw with
    | true =>
      simp only [if_true] at h
      split at h
      · rename_i hok
        obtain ⟨st1, h1, h2⟩ := Res.then_ok h
        rw [forceSt_eq] at h2
        cases h2
        obtain ⟨⟨new, hn⟩, _⟩ := evalAny_ok (ancs ops.toList []) _ _ _ _ _ _ h1 hcs (REq.refl _)
        have h0 := suf ⟨new, hn⟩ hcs
        have hd := draw_ok (id := id) hm hok h1 hcs h0.cons.1
        exact ⟨⟨new ++ [(inScopeL st.σ.length st.rg && st.σ.all (inScopeO st.σ.length)) = true], by rw [hn, List.append_assoc]; rfl⟩, hd.toN⟩
      · cases h
    | false =>
      simp only [Bool.false_eq_true, if_false] at h
      obtain ⟨st1, h1, h2⟩ := Res.then_ok h
      rw [forceSt_eq] at h2
      cases h2
      obtain ⟨hs, _⟩ := evalOps_ok _ _ _ _ h1 hcs (REq.refl _)
      exact ⟨hs, (plain_ok h1 hcs).toN⟩
  | seq x y ihx ihy =>
    intro st st' e h hcs
    simp only [evalC] at h
    obtain ⟨⟨e1, st1⟩, h1, h2⟩ := Res.then_ok h
    cases e1 with
    | normal =>
      obtain ⟨s2, t2⟩ := ihy st1 st' e h2 hcs
      obtain ⟨⟨n1, hn1⟩, t1⟩ := ihx st st1 .normal h1 (suf s2 hcs)
      obtain ⟨n2, hn2⟩ := s2
      exact ⟨⟨n2 ++ n1, by rw [hn2, hn1]; simp⟩, t1.seqN t2⟩
    | exit k =>
      cases h2
      obtain ⟨s1, t1⟩ := ihx st st1 (.exit k) h1 hcs
      exact ⟨s1, t1.seqE (by simp)⟩
    | ret =>
      cases h2
      obtain ⟨s1, t1⟩ := ihx st st1 .ret h1 hcs
      exact ⟨s1, t1.seqE (by simp)⟩
  | cond c x y ihx ihy =>
    intro st st' e h hcs
    simp only [evalC] at h
    obtain ⟨⟨b, st1⟩, h1, h2⟩ := Res.then_ok h
    dsimp only at h2
    have fin : ∀ (z : Code), (∀ (st st' : St) (e : AExit), evalC P (owed P N) z st = .ok (e, st') → allP st'.cs → (∃ new, st'.cs = new ++ st.cs) ∧ TripN P N z st.rg st.σ e st'.rg st'.σ) → evalC P (owed P N) z st1 = .ok (e, st') → (if b then x else y) = z →
        (∃ new, st'.cs = new ++ st.cs) ∧ TripN P N (.cond c x y) st.rg st.σ e st'.rg st'.σ := by
      intro z ih hz hbz
      obtain ⟨⟨n2, hn2⟩, t2⟩ := ih st1 st' e hz hcs
      obtain ⟨g1, g2, g3, n1, hn1⟩ := ask_ok h1 (by intro t ht; cases c <;> simp [tmpOf] at ht; subst ht; rfl) (suf ⟨n2, hn2⟩ hcs)
      refine ⟨⟨n2 ++ n1, by rw [hn2, hn1]; simp⟩, TripN.cond (b := b) g3 ?_⟩
      rw [hbz, ← g2]
      exact t2.imp g1.1
    cases b with
    | true => exact fin x ihx (by simpa using h2) rfl
    | false => exact fin y ihy (by simpa using h2) rfl
  | block id c ih =>
    intro st st' e h hcs
    simp only [evalC] at h
    obtain ⟨⟨e1, st1⟩, h1, h2⟩ := Res.then_ok h
    have hst : st1 = st' ∧ e1.out id = e := by
      cases e1 with
      | normal => cases h2; exact ⟨rfl, rfl⟩
      | ret => cases h2; exact ⟨rfl, rfl⟩
      | exit k => cases h2; exact ⟨rfl, rfl⟩
    obtain ⟨rfl, rfl⟩ := hst
    obtain ⟨s1, t1⟩ := ih st st1 e1 h1 hcs
    exact ⟨s1, t1.block⟩
  | loop c ih =>
    intro st st' e h hcs
    simp only [evalC] at h
    split at h
    · cases h
      exact ⟨⟨[_], rfl⟩, placed_ok st.s st.rg st.σ hcs.cons.1⟩
    · obtain ⟨s1, t1⟩ := iterC_ok ih _ _ _ _ h hcs
      exact ⟨s1, placed_ok st.s st.rg st.σ t1.trip⟩
    · cases h
  | _ => intro st st' e h hcs; simp only [evalC] at h; cases h

/-! ## A function -/
structure FRes where
  v : AVal
  σ : AState
  cs : List Prop

def finF (P : Program) (fn : Func) (p : AExit × St) : Res FRes :=
  match p.1 with
  | .exit _ => .no .odd
  | _ =>
    match resAll P p.2.rg p.2.σ fn.results.toList with
    | some x => .ok ⟨resVal (normTs P fn.resultTypes.toList x.1), p.2.σ, x.2 ++ p.2.cs⟩
    | none => .no (.bad default p.2.rg p.2.σ)
def evalF (P : Program) (fn : Func) (as : List AVal) (σ : AState) (s : List Dec) : Res FRes :=
  match fn.body with
  | none => .no .odd
  | some c => (evalC P (owed P σ.length) c ⟨as ++ List.replicate (fn.ntmps - as.length) aundef, σ, s, []⟩).then (finF P fn)

theorem resVal_ok {F : Nat → Prop} {w : World} {ρ : RMap} {xs ys : List AVal} {c : Value} (hi : ∀ cs, PW F w ρ xs cs → PW F w ρ ys cs) (hl : xs.length = ys.length) (h : VRel F w ρ (resVal xs) c) : VRel F w ρ (resVal ys) c := by
  match xs, ys, hl with
  | [], [], _ => exact h
  | [x], [y], _ => exact (hi [c] (.cons h .nil)).2 0 y c rfl rfl
  | x :: x2 :: xs, y :: y2 :: ys, hl =>
    simp only [resVal] at h ⊢
    obtain ⟨cv, rfl, hp⟩ := h.tuple_inv
    have := hi _ hp
    exact .tuple _ _ _ (by simpa using this.1) fun i v u h1 h2 => this.2 i v u h1 (by simpa using h2)
theorem normTs_length : ∀ (ts : List TypeId) (vs : List AVal), (normTs P ts vs).length = vs.length
  | [], vs => by cases vs <;> rfl
  | t :: ts, [] => rfl
  | t :: ts, v :: vs => by simp [normTs, normTs_length ts vs]

/-- What a function does, its new places under any names. -/
def FOkN (P : Program) (f : FuncId) (as : List AVal) (σ : AState) (r : AVal) (σ' : AState) : Prop :=
  (∃ fn c, P.funcs[f]? = some fn ∧ (fn.name == "runtime.NumGoroutine") = false ∧ fn.body = some c) ∧
  ∀ (F : Nat → Prop) (w : World) (ρ : RMap) (args : Array Value), Rel ρ F σ w → (GOk F w ∧ PW F w ρ as args.toList) →
    Calls P f args w fun e w' => ∃ v ρ' F', e = .returned v ∧ TrN σ.length σ σ' ρ ρ' F F' w w' ∧ Rel ρ' F' σ' w' ∧ VRel F' w' ρ' r v

theorem evalF_ok {f : FuncId} {fn : Func} {as : List AVal} {σ : AState} {s : List Dec} {x : FRes} (hm : P.follows .mixedOrders = true) (hf : P.funcs[f]? = some fn) (hn : (fn.name == "runtime.NumGoroutine") = false)
    (h : evalF P fn as σ s = .ok x) (hcs : allP x.cs) : FOkN P f as σ x.v x.σ := by
  unfold evalF at h
  split at h
  · cases h
  · rename_i c hb
    obtain ⟨⟨e, st⟩, h1, h2⟩ := Res.then_ok h
    unfold finF at h2
    dsimp only at h2
    refine ⟨⟨fn, c, hf, hn, hb⟩, fun F w ρ args r hp => calls_of_wp hf hb ?_⟩
    have key : ∀ (y : List AVal × List Prop), resAll P st.rg st.σ fn.results.toList = some y → x = ⟨resVal (normTs P fn.resultTypes.toList y.1), st.σ, y.2 ++ st.cs⟩ → e.real = .normal ∨ e.real = .ret → c.wp P (bodyPost P fn fun e w' => ∃ v ρ' F', e = .returned v ∧ TrN σ.length σ x.σ ρ ρ' F F' w w' ∧ Rel ρ' F' x.σ w' ∧ VRel F' w' ρ' x.v v) { tmps := args ++ Array.replicate (fn.ntmps - args.size) undef, defers := [] } w := by
      intro y hy hx he
      subst hx
      obtain ⟨hc1, hc2⟩ := hcs.append
      obtain ⟨_, t⟩ := evalC_ok hm c _ _ _ h1 hc2
      have hal : as.length = args.size := by have := hp.2.1; simpa using this
      have ha : ARel F w ρ (as ++ List.replicate (fn.ntmps - as.length) aundef) { tmps := args ++ Array.replicate (fn.ntmps - args.size) undef, defers := [] } := by
        refine ⟨by simp [hal], fun i v u e1 e2 => ?_, rfl, hp.1⟩
        rw [List.getElem?_append] at e1
        simp only [Array.getElem?_append] at e2
        split at e1
        · rename_i hlt
          rw [if_pos (by omega)] at e2
          exact hp.2.2 i v u e1 (by simpa using e2)
        · rename_i hge
          rw [if_neg (by omega)] at e2
          rw [List.getElem?_replicate] at e1
          rw [Array.getElem?_replicate] at e2
          split at e1
          · split at e2
            · cases e1; cases e2
              exact .tuple _ _ _ rfl fun i v u h _ => by simp at h
            · cases e2
          · cases e1
      refine t (Nat.le_refl _) F w ρ _ _ r ha fun ρ' F' w' a' tt r' ha' => ?_
      obtain ⟨cv, hr, hv⟩ := results_ok r' ha' hy hc1
      have hv : VRel F' w' ρ' (resVal (normTs P fn.resultTypes.toList y.1)) cv := resVal_ok (fun cs => normTs_ok fn.resultTypes.toList _ cs) (normTs_length _ _).symm hv
      rcases he with he | he <;> rw [he] <;> exact ⟨ha'.defers, cv, hr, cv, ρ', F', rfl, tt, r', hv⟩
    split at h2
    · cases h2
    · rename_i hne
      split at h2
      · rename_i y hy
        cases h2
        refine key y hy rfl ?_
        cases e with
        | normal => exact .inl rfl
        | ret => exact .inr rfl
        | exit k => exact absurd rfl (hne k)
      · cases h2

end
end Go.Abs
