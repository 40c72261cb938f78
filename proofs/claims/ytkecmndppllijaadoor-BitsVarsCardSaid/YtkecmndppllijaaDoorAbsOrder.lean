import Derived.Test.YtkecmndppllijaaDoorAbsOne
set_option linter.unusedVariables false
set_option linter.unusedSectionVars false
set_option linter.unusedSimpArgs false
namespace Go.Abs
variable [Glob]

/-! ## The operations of a region, one behind the other -/
structure ChainAt (P : Program) (ops : Array Oper) (x : Oper) (cur rgs cur' : Regs) (σ σ' : AState) (v : AVal) : Prop where
  req : REq cur rgs
  op : OpS P ops x rgs σ v σ'
  nxt : cur' = rput cur x.dst v

def shift {α : Type} (a : α) (f : Nat → α) : Nat → α
  | 0 => a
  | i + 1 => f i

theorem REq.put {a b : Regs} (h : REq a b) (d : Option Tmp) (v : AVal) : REq (rput a d v) (rput b d v) := ⟨h.1.put d v, h.2.put d v⟩

section
variable {N : Nat} {P : Program} {ops : Array Oper}

theorem evalOps_ok : ∀ (l : List Oper) (st st' : St) (rg0 : Regs), evalOps P (owed P N) ops l st = .ok st' → allP st'.cs → REq rg0 st.rg →
    (∃ new, st'.cs = new ++ st.cs) ∧ ∃ (vs : Nat → AVal) (rgs : Nat → Regs) (sg : Nat → AState) (cur : Nat → Regs), sg 0 = st.σ ∧ sg l.length = st'.σ ∧ cur 0 = rg0 ∧ REq (cur l.length) st'.rg ∧
      ∀ i x, l[i]? = some x → ChainAt P ops x (cur i) (rgs i) (cur (i + 1)) (sg i) (sg (i + 1)) (vs i)
  | [], st, st', rg0, h, hcs, hq => by
    cases h
    exact ⟨⟨[], rfl⟩, fun _ => .any, fun _ => [], fun _ => st.σ, fun _ => rg0, rfl, rfl, rfl, hq, fun i x h => by simp at h⟩
  | x :: l, st, st', rg0, h, hcs, hq => by
    obtain ⟨d, h1, h2⟩ := Res.then_ok h
    rw [forceV_eq] at h2
    have hq2 : allP d.st.cs → REq (rput rg0 x.dst d.v) (rput d.st.rg x.dst d.v) := fun hc => (hq.trans (evalOne_ok h1 hc).1).put _ _
    obtain ⟨⟨new, hn⟩, _⟩ := evalOps_ok l _ st' _ h2 hcs (REq.refl _)
    have hc2 : allP d.st.cs := fun p hp => hcs p (by rw [hn]; exact List.mem_append_right _ hp)
    obtain ⟨g1, g2, g3, _, new', hn'⟩ := evalOne_ok h1 hc2
    obtain ⟨_, vs, rgs, sg, cur, k1, k2, k3, k4, k5⟩ := evalOps_ok l _ st' (rput rg0 x.dst d.v) h2 hcs (hq2 hc2)
    refine ⟨⟨new ++ new', by rw [hn]; show new ++ d.st.cs = _; rw [hn']; simp⟩, shift d.v vs, shift d.st.rg rgs, shift st.σ sg, shift rg0 cur, rfl, k2, rfl, k4, ?_⟩
    intro i y hy
    match i with
    | 0 =>
      simp only [List.getElem?_cons_zero, Option.some.injEq] at hy
      subst hy
      have e1 : sg 0 = d.σ := k1
      simp only [shift]
      rw [e1]
      exact ⟨hq.trans g1, g3, k3⟩
    | i + 1 => exact k5 i y (by simpa using hy)

/-- what is known of an operation that may come in other orders, too -/
structure FreeAt (P : Program) (ops : Array Oper) (as : List Nat) (j : Nat) (rs : List Rec) (x : Oper) (rg : Regs) (v : AVal) (r : Rec) : Prop where
  loc : LocS P ops x rg r.T r.W r.σ v r.σ'
  scope : okScope r.σ' v = true
  len : r.σ.length ≤ r.σ'.length
  pairs : allP (pairsC (as.getD j 0) r 0 rs)

theorem evalAny_ok (as : List Nat) : ∀ (l : List Oper) (j : Nat) (rs : List Rec) (st st' : St) (rg0 : Regs), evalAny P (owed P N) ops as j l rs st = .ok st' → allP st'.cs → REq rg0 st.rg →
    (∃ new, st'.cs = new ++ st.cs) ∧ ∃ (vs : Nat → AVal) (rgs : Nat → Regs) (sg : Nat → AState) (cur : Nat → Regs) (Ts Ws : Nat → List Nat), sg 0 = st.σ ∧ sg l.length = st'.σ ∧ cur 0 = rg0 ∧ REq (cur l.length) st'.rg ∧
      ∀ i x, l[i]? = some x → ChainAt P ops x (cur i) (rgs i) (cur (i + 1)) (sg i) (sg (i + 1)) (vs i) ∧
        FreeAt P ops as (j + i) (rs ++ (List.range i).map fun k => ⟨Ts k, Ws k, sg k, sg (k + 1)⟩) x (rgs i) (vs i) ⟨Ts i, Ws i, sg i, sg (i + 1)⟩
  | [], j, rs, st, st', rg0, h, hcs, hq => by
    cases h
    exact ⟨⟨[], rfl⟩, fun _ => .any, fun _ => [], fun _ => st.σ, fun _ => rg0, fun _ => [], fun _ => [], rfl, rfl, rfl, hq, fun i x h => by simp at h⟩
  | x :: l, j, rs, st, st', rg0, h, hcs, hq => by
    obtain ⟨d, h1, h2⟩ := Res.then_ok h
    rw [forceV_eq, forceL_eq, forceL_eq] at h2
    have hq2 : allP d.st.cs → REq (rput rg0 x.dst d.v) (rput d.st.rg x.dst d.v) := fun hc => (hq.trans (evalOne_ok h1 hc).1).put _ _
    obtain ⟨⟨new, hn⟩, _⟩ := evalAny_ok as l _ _ _ st' _ h2 hcs (REq.refl _)
    dsimp only at hn
    have hall : allP (pairsC (as.getD j 0) ⟨d.T, d.W, d.st.σ, d.σ⟩ 0 rs ++ ((okScope d.σ d.v = true) :: (decide (d.st.σ.length ≤ d.σ.length) = true) :: d.st.cs)) := fun p hp => hcs p (by rw [hn]; exact List.mem_append_right _ hp)
    obtain ⟨hp1, hp2⟩ := hall.append
    have hc2 : allP d.st.cs := hp2.cons.2.cons.2
    obtain ⟨g1, g2, g3, g4, new', hn'⟩ := evalOne_ok h1 hc2
    obtain ⟨_, vs, rgs, sg, cur, Ts, Ws, k1, k2, k3, k4, k5⟩ := evalAny_ok as l _ _ _ st' (rput rg0 x.dst d.v) h2 hcs (hq2 hc2)
    refine ⟨⟨new ++ (pairsC (as.getD j 0) ⟨d.T, d.W, d.st.σ, d.σ⟩ 0 rs ++ ((okScope d.σ d.v = true) :: (decide (d.st.σ.length ≤ d.σ.length) = true) :: new')), by rw [hn, hn']; simp⟩,
      shift d.v vs, shift d.st.rg rgs, shift st.σ sg, shift rg0 cur, shift d.T Ts, shift d.W Ws, rfl, k2, rfl, k4, ?_⟩
    have e1 : sg 0 = d.σ := k1
    intro i y hy
    match i with
    | 0 =>
      simp only [List.getElem?_cons_zero, Option.some.injEq] at hy
      subst hy
      simp only [shift]
      rw [e1]
      rw [g2] at hp1 hp2
      exact ⟨⟨hq.trans g1, g3, k3⟩, ⟨g4, hp2.cons.1, of_decide_eq_true hp2.cons.2.cons.1, by simpa using hp1⟩⟩
    | i + 1 =>
      obtain ⟨a1, a2⟩ := k5 i y (by simpa using hy)
      refine ⟨a1, a2.loc, a2.scope, a2.len, ?_⟩
      have := a2.pairs
      rw [show j + 1 + i = j + (i + 1) by omega] at this
      refine Eq.mp ?_ this
      congr 2
      rw [List.range_succ_eq_map, List.map_cons, List.map_map, List.append_assoc]
      simp only [List.singleton_append]
      rw [g2, ← e1]
      rfl

theorem pairsC_get {anc : Nat} {y : Rec} : ∀ {xs : List Rec} {i : Nat}, allP (pairsC anc y i xs) → ∀ k x, xs[k]? = some x → anc.testBit (i + k) = false → allP (pairC x y)
  | [], i, _, k, x, hk, _ => by simp at hk
  | z :: xs, i, h, k, x, hk, hb => by
    simp only [pairsC] at h
    obtain ⟨h1, h2⟩ := h.append
    match k with
    | 0 =>
      simp only [List.getElem?_cons_zero, Option.some.injEq] at hk
      subst hk
      rw [Nat.add_zero] at hb
      rw [if_neg (by rw [hb]; simp)] at h1
      exact h1
    | k + 1 => exact pairsC_get h2 k x (by simpa using hk) (by rw [show i + 1 + k = i + (k + 1) by omega]; exact hb)

theorem pairC_spec {x y : Rec} (h : allP (pairC x y)) : (∀ id ∈ x.W, id ∈ y.T → obj x.σ' id = obj x.σ id) ∧ (∀ id ∈ y.W, id ∈ x.T → obj y.σ' id = obj y.σ id) ∧ ∀ id ∈ y.T, id < x.σ.length ∨ x.σ'.length ≤ id := by
  unfold pairC at h
  obtain ⟨h, h3⟩ := h.append
  obtain ⟨h1, h2⟩ := h.append
  refine ⟨fun id a b => h1 _ (List.mem_map.2 ⟨id, List.mem_filter.2 ⟨a, by simpa using b⟩, rfl⟩), fun id a b => h2 _ (List.mem_map.2 ⟨id, List.mem_filter.2 ⟨a, by simpa using b⟩, rfl⟩), fun id a => ?_⟩
  rw [if_neg (by rw [List.isEmpty_iff]; rintro e; rw [e] at a; cases a)] at h3
  have := List.all_eq_true.1 h3.cons.1 id a
  simpa using this

theorem seq_ok {sg : Nat → AState} {cur rgs : Nat → Regs} {vs : Nat → AVal} {Q : Exit → Act → World → Prop}
    (hc : ∀ i o, ops[i]? = some o → ChainAt P ops o (cur i) (rgs i) (cur (i + 1)) (sg i) (sg (i + 1)) (vs i)) :
    ∀ (n i : Nat), i + n = ops.size → ∀ (F : Nat → Prop) (w : World) (ρ : RMap) (a : Act), Rel ρ F (sg i) w → ARel F w ρ (cur i) a →
      (∀ ρ' F' w' a', Tr (sg i) (sg ops.size) ρ ρ' F F' w w' → Rel ρ' F' (sg ops.size) w' → ARel F' w' ρ' (cur ops.size) a' → Q .normal a' w') → wpOps P ops Q (List.range' i n) a w
  | 0, i, hi, F, w, ρ, a, r, ha, hQ => by
    obtain rfl : i = ops.size := by omega
    exact hQ _ _ _ _ (Tr.refl _ _ _ _) r ha
  | n + 1, i, hi, F, w, ρ, a, r, ha, hQ => by
    have hlt : i < ops.size := by omega
    have ho : ops[i]? = some ops[i] := Array.getElem?_eq_getElem hlt
    have h := hc i _ ho
    rw [List.range'_succ]
    simp only [wpOps, ho]
    have hop := h.op F w ρ a r ((ha.look _).imp h.req.1) (wpOps P ops Q (List.range' (i + 1) n)) Q (fun F' w' ρ' cv t r' hv => by
      refine seq_ok hc n (i + 1) (by omega) F' w' ρ' _ r' (by rw [h.nxt]; exact (ha.tr r t).put _ hv) fun ρ2 F2 w2 a2 t2 r2 ha2 => hQ _ _ _ _ (Tr.trans r t t2) r2 ha2)
    split
    · rename_i hw; rw [if_pos hw] at hop; exact .inl hop
    · rename_i hw; rw [if_neg hw] at hop; exact hop

/-! ## What stands ahead -/
theorem testBit_fold {acc : List Nat} {i : Nat} : ∀ (es : List Edge) (m : Nat), (es.foldl (fun m e => m ||| (1 <<< e.on) ||| acc.getD e.on 0) m).testBit i = true →
    m.testBit i = true ∨ ∃ e ∈ es, i = e.on ∨ (acc.getD e.on 0).testBit i = true
  | [], m, h => .inl h
  | e :: es, m, h => by
    rcases testBit_fold es _ h with h | ⟨e', h1, h2⟩
    · simp only [Nat.testBit_or, Bool.or_eq_true] at h
      rcases h with (h | h) | h
      · exact .inl h
      · refine .inr ⟨e, by simp, .inl ?_⟩
        rw [Nat.shiftLeft_eq, Nat.one_mul, Nat.testBit_two_pow] at h
        exact (by simpa using h : e.on = i).symm
      · exact .inr ⟨e, by simp, .inr h⟩
    · exact .inr ⟨e', by simp [h1], h2⟩

theorem ancs_spec : ∀ (os : List Oper) (acc : List Nat), ∃ rest, ancs os acc = acc ++ rest ∧ rest.length = os.length ∧
    ∀ j o, os[j]? = some o → ∀ i, ((acc ++ rest).getD (acc.length + j) 0).testBit i = true →
      ∃ e ∈ o.after, Region.binds .any e = true ∧ (i = e.on ∨ (((acc ++ rest).take (acc.length + j)).getD e.on 0).testBit i = true)
  | [], acc => ⟨[], by simp [ancs], rfl, fun j o h => by simp at h⟩
  | o :: os, acc => by
    obtain ⟨rest, h1, h2, h3⟩ := ancs_spec os (acc ++ [(o.after.toList.filter (Region.binds .any)).foldl (fun m e => m ||| (1 <<< e.on) ||| acc.getD e.on 0) 0])
    refine ⟨(o.after.toList.filter (Region.binds .any)).foldl (fun m e => m ||| (1 <<< e.on) ||| acc.getD e.on 0) 0 :: rest, by rw [ancs, h1]; simp, by simp [h2], ?_⟩
    intro j o' hj i hi
    match j with
    | 0 =>
      simp only [List.getElem?_cons_zero, Option.some.injEq] at hj
      subst hj
      have : (acc ++ (o.after.toList.filter (Region.binds .any)).foldl (fun m e => m ||| (1 <<< e.on) ||| acc.getD e.on 0) 0 :: rest).getD (acc.length + 0) 0 = (o.after.toList.filter (Region.binds .any)).foldl (fun m e => m ||| (1 <<< e.on) ||| acc.getD e.on 0) 0 := by
        simp [List.getD_eq_getElem?_getD]
      rw [this] at hi
      rcases testBit_fold _ _ hi with h | ⟨e, he, h⟩
      · simp at h
      · simp only [List.mem_filter, Array.mem_toList_iff] at he
        refine ⟨e, he.1, he.2, h.imp id fun h => ?_⟩
        simpa using h
    | j + 1 =>
      have h3 := h3 j o' (by simpa using hj) i (by simpa [Nat.add_assoc, Nat.add_comm 1 j] using hi)
      simpa [Nat.add_assoc, Nat.add_comm 1 j] using h3

theorem anc_edge {j i : Nat} {o : Oper} (ho : ops[j]? = some o) (h : ((ancs ops.toList []).getD j 0).testBit i = true) : ∃ e ∈ o.after, Region.binds .any e = true ∧ (i = e.on ∨ (e.on < j ∧ ((ancs ops.toList []).getD e.on 0).testBit i = true)) := by
  obtain ⟨rest, h1, h2, h3⟩ := ancs_spec ops.toList []
  simp only [List.nil_append, List.length_nil, Nat.zero_add] at h1 h3
  rw [h1] at h ⊢
  obtain ⟨e, he, hb, h⟩ := h3 j o (by simpa using ho) i h
  refine ⟨e, he, hb, h.imp id fun h => ?_⟩
  rw [List.getD_eq_getElem?_getD, List.getElem?_take] at h
  split at h
  · rename_i hlt; exact ⟨hlt, by rw [List.getD_eq_getElem?_getD]; exact h⟩
  · simp at h

def Down (ops : Array Oper) (listed : Array Bool) : Prop := ∀ j o, ops[j]? = some o → listed.getD j false = true → ∀ e ∈ o.after, Region.binds .any e = true → listed.getD e.on false = true

/-- whatever stands ahead has come up -/
theorem anc_listed {listed : Array Bool} (hd : Down ops listed) : ∀ (j : Nat) (o : Oper) (i : Nat), ops[j]? = some o → (∀ e ∈ o.after, Region.binds .any e = true → listed.getD e.on false = true) →
    ((ancs ops.toList []).getD j 0).testBit i = true → listed.size = ops.size → listed.getD i false = true := by
  intro j
  induction j using Nat.strongRecOn with
  | _ j ih =>
    intro o i ho hall h hsz
    obtain ⟨e, he, hb, h⟩ := anc_edge ho h
    rcases h with rfl | ⟨hlt, h⟩
    · exact hall e he hb
    · have hl := hall e he hb
      have hs : e.on < ops.size := Nat.lt_trans hlt (Array.getElem?_eq_some_iff.1 ho).1
      exact ih e.on hlt ops[e.on] i (Array.getElem?_eq_getElem hs) (hd e.on _ (Array.getElem?_eq_getElem hs) hl) h hsz

end
end Go.Abs
