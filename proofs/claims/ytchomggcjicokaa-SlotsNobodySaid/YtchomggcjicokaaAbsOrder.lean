import Derived.Test.YtchomggcjicokaaAbsOne
set_option linter.unusedVariables false
set_option linter.unusedSimpArgs false
namespace Go.Abs

/-! ## The operations of a region, one behind the other -/
structure ChainAt (P : Program) (ops : Array Oper) (x : Oper × Cls) (cur rgs cur' : Regs) (σ σ' : AState) (v : AVal) : Prop where
  req : REq cur rgs
  op : OpS P ops x.1 rgs σ v σ'
  pur : isPure x.1.op = true → σ' = σ ∧ ∀ σ2, OpS P ops x.1 rgs σ2 v σ2
  ext : isExt x.1.op = true → σ'.take σ.length = σ
  nxt : cur' = rput cur x.1.dst v
  cnd : allP (clsConds x.2 σ v σ')

def shift {α : Type} (a : α) (f : Nat → α) : Nat → α
  | 0 => a
  | i + 1 => f i

theorem REq.put {a b : Regs} (h : REq a b) (d : Option Tmp) (v : AVal) : REq (rput a d v) (rput b d v) := ⟨h.1.put d v, h.2.put d v⟩

section
variable {N : Nat} {P : Program} {ops : Array Oper}

theorem evalOps_ok : ∀ (l : List (Oper × Cls)) (st st' : St) (rg0 : Regs), evalOps P (owed P N) ops l st = .ok st' → allP st'.cs → REq rg0 st.rg →
    (∃ new, st'.cs = new ++ st.cs) ∧ ∃ (vs : Nat → AVal) (rgs : Nat → Regs) (sg : Nat → AState) (cur : Nat → Regs), sg 0 = st.σ ∧ sg l.length = st'.σ ∧ cur 0 = rg0 ∧ REq (cur l.length) st'.rg ∧
      ∀ i x, l[i]? = some x → ChainAt P ops x (cur i) (rgs i) (cur (i + 1)) (sg i) (sg (i + 1)) (vs i)
  | [], st, st', rg0, h, hcs, hq => by
    cases h
    exact ⟨⟨[], rfl⟩, fun _ => .any, fun _ => [], fun _ => st.σ, fun _ => rg0, rfl, rfl, rfl, hq, fun i x h => by simp at h⟩
  | x :: l, st, st', rg0, h, hcs, hq => by
    obtain ⟨d, h1, h2⟩ := Res.then_ok h
    rw [forceV_eq] at h2
    have hq2 : allP d.st.cs → REq (rput rg0 x.1.dst d.v) (rput d.st.rg x.1.dst d.v) := fun hc => (hq.trans (evalOne_ok h1 hc).1).put _ _
    have hsuf : ∃ new, st'.cs = new ++ (clsConds x.2 d.st.σ d.v d.σ ++ d.st.cs) := by
      -- the suffix, whatever the registers
      obtain ⟨⟨new, hn⟩, _⟩ := evalOps_ok l _ st' _ h2 hcs (REq.refl _)
      exact ⟨new, hn⟩
    obtain ⟨new, hn⟩ := hsuf
    have hcd : allP (clsConds x.2 d.st.σ d.v d.σ ++ d.st.cs) := fun p hp => hcs p (by rw [hn]; exact List.mem_append_right _ hp)
    obtain ⟨hc1, hc2⟩ := hcd.append
    obtain ⟨g1, g2, g3, g4, g5, new', hn'⟩ := evalOne_ok h1 hc2
    obtain ⟨_, vs, rgs, sg, cur, k1, k2, k3, k4, k5⟩ := evalOps_ok l _ st' (rput rg0 x.1.dst d.v) h2 hcs (hq2 hc2)
    refine ⟨⟨new ++ (clsConds x.2 d.st.σ d.v d.σ ++ new'), by rw [hn, hn']; simp⟩, shift d.v vs, shift d.st.rg rgs, shift st.σ sg, shift rg0 cur, rfl, k2, rfl, k4, ?_⟩
    intro i y hy
    match i with
    | 0 =>
      simp only [List.getElem?_cons_zero, Option.some.injEq] at hy
      subst hy
      have e1 : sg 0 = d.σ := k1
      have e2 : shift rg0 cur (0 + 1) = rput rg0 x.1.dst d.v := k3
      simp only [shift]
      rw [e1]
      exact ⟨hq.trans g1, g3, g4, g5, k3, by rw [g2] at hc1; exact hc1⟩
    | i + 1 => exact k5 i y (by simpa using hy)

theorem seq_ok {sg : Nat → AState} {cur rgs : Nat → Regs} {vs : Nat → AVal} {Q : Exit → Act → World → Prop}
    (hc : ∀ i o, ops[i]? = some o → ∃ c, ChainAt P ops (o, c) (cur i) (rgs i) (cur (i + 1)) (sg i) (sg (i + 1)) (vs i)) :
    ∀ (n i : Nat), i + n = ops.size → ∀ (F : Nat → Prop) (w : World) (ρ : RMap) (a : Act), Rel ρ F (sg i) w → ARel F w ρ (cur i) a →
      (∀ ρ' F' w' a', Tr (sg i) (sg ops.size) ρ ρ' F F' w w' → Rel ρ' F' (sg ops.size) w' → ARel F' w' ρ' (cur ops.size) a' → Q .normal a' w') → wpOps P ops Q (List.range' i n) a w
  | 0, i, hi, F, w, ρ, a, r, ha, hQ => by
    obtain rfl : i = ops.size := by omega
    exact hQ _ _ _ _ (Tr.refl _ _ _ _) r ha
  | n + 1, i, hi, F, w, ρ, a, r, ha, hQ => by
    have hlt : i < ops.size := by omega
    have ho : ops[i]? = some ops[i] := Array.getElem?_eq_getElem hlt
    obtain ⟨c, h⟩ := hc i _ ho
    rw [List.range'_succ]
    simp only [wpOps, ho]
    have hop := h.op F w ρ a r ((ha.look _).imp h.req.1) (wpOps P ops Q (List.range' (i + 1) n)) Q (fun F' w' ρ' cv t r' hv => by
      refine seq_ok hc n (i + 1) (by omega) F' w' ρ' _ r' (by rw [h.nxt]; exact (ha.tr r t).put _ hv) fun ρ2 F2 w2 a2 t2 r2 ha2 => hQ _ _ _ _ (Tr.trans r t t2) r2 ha2)
    split
    · rename_i hw; rw [if_pos hw] at hop; exact .inl hop
    · rename_i hw; rw [if_neg hw] at hop; exact hop

/-! ## What stands ahead -/
theorem testBit_fold {acc : List Nat} {i : Nat} : ∀ (es : List Edge) (m : Nat), (es.foldl (fun m e => m ||| (1 <<< e.on) ||| acc.getD e.on 0) m).testBit i = true →
    m.testBit i = true ∨ ∃ e ∈ es, i = e.on ∨ (acc.getD e.on 0).testBit i = true
  | [], m, h => .inl h
  | e :: es, m, h => by
    rcases testBit_fold es _ h with h | ⟨e', h1, h2⟩
    · simp only [Nat.testBit_or, Bool.or_eq_true] at h
      rcases h with (h | h) | h
      · exact .inl h
      · refine .inr ⟨e, by simp, .inl ?_⟩
        rw [Nat.shiftLeft_eq, Nat.one_mul, Nat.testBit_two_pow] at h
        exact (by simpa using h : e.on = i).symm
      · exact .inr ⟨e, by simp, .inr h⟩
    · exact .inr ⟨e', by simp [h1], h2⟩

theorem ancs_spec : ∀ (os : List Oper) (acc : List Nat), ∃ rest, ancs os acc = acc ++ rest ∧ rest.length = os.length ∧
    ∀ j o, os[j]? = some o → ∀ i, ((acc ++ rest).getD (acc.length + j) 0).testBit i = true →
      ∃ e ∈ o.after, Region.binds .any e = true ∧ (i = e.on ∨ (((acc ++ rest).take (acc.length + j)).getD e.on 0).testBit i = true)
  | [], acc => ⟨[], by simp [ancs], rfl, fun j o h => by simp at h⟩
  | o :: os, acc => by
    obtain ⟨rest, h1, h2, h3⟩ := ancs_spec os (acc ++ [(o.after.toList.filter (Region.binds .any)).foldl (fun m e => m ||| (1 <<< e.on) ||| acc.getD e.on 0) 0])
    refine ⟨(o.after.toList.filter (Region.binds .any)).foldl (fun m e => m ||| (1 <<< e.on) ||| acc.getD e.on 0) 0 :: rest, by rw [ancs, h1]; simp, by simp [h2], ?_⟩
    intro j o' hj i hi
    match j with
    | 0 =>
      simp only [List.getElem?_cons_zero, Option.some.injEq] at hj
      subst hj
      have : (acc ++ (o.after.toList.filter (Region.binds .any)).foldl (fun m e => m ||| (1 <<< e.on) ||| acc.getD e.on 0) 0 :: rest).getD (acc.length + 0) 0 = (o.after.toList.filter (Region.binds .any)).foldl (fun m e => m ||| (1 <<< e.on) ||| acc.getD e.on 0) 0 := by
        simp [List.getD_eq_getElem?_getD]
      rw [this] at hi
      rcases testBit_fold _ _ hi with h | ⟨e, he, h⟩
      · simp at h
      · simp only [List.mem_filter, Array.mem_toList_iff] at he
        refine ⟨e, he.1, he.2, h.imp id fun h => ?_⟩
        simpa using h
    | j + 1 =>
      have h3 := h3 j o' (by simpa using hj) i (by simpa [Nat.add_assoc, Nat.add_comm 1 j] using hi)
      simpa [Nat.add_assoc, Nat.add_comm 1 j] using h3

theorem anc_edge {j i : Nat} {o : Oper} (ho : ops[j]? = some o) (h : ((ancs ops.toList []).getD j 0).testBit i = true) : ∃ e ∈ o.after, Region.binds .any e = true ∧ (i = e.on ∨ (e.on < j ∧ ((ancs ops.toList []).getD e.on 0).testBit i = true)) := by
  obtain ⟨rest, h1, h2, h3⟩ := ancs_spec ops.toList []
  simp only [List.nil_append, List.length_nil, Nat.zero_add] at h1 h3
  rw [h1] at h ⊢
  obtain ⟨e, he, hb, h⟩ := h3 j o (by simpa using ho) i h
  refine ⟨e, he, hb, h.imp id fun h => ?_⟩
  rw [List.getD_eq_getElem?_getD, List.getElem?_take] at h
  split at h
  · rename_i hlt; exact ⟨hlt, by rw [List.getD_eq_getElem?_getD]; exact h⟩
  · simp at h

def Down (ops : Array Oper) (listed : Array Bool) : Prop := ∀ j o, ops[j]? = some o → listed.getD j false = true → ∀ e ∈ o.after, Region.binds .any e = true → listed.getD e.on false = true

/-- whatever stands ahead has come up -/
theorem anc_listed {listed : Array Bool} (hd : Down ops listed) : ∀ (j : Nat) (o : Oper) (i : Nat), ops[j]? = some o → (∀ e ∈ o.after, Region.binds .any e = true → listed.getD e.on false = true) →
    ((ancs ops.toList []).getD j 0).testBit i = true → listed.size = ops.size → listed.getD i false = true := by
  intro j
  induction j using Nat.strongRecOn with
  | _ j ih =>
    intro o i ho hall h hsz
    obtain ⟨e, he, hb, h⟩ := anc_edge ho h
    rcases h with rfl | ⟨hlt, h⟩
    · exact hall e he hb
    · have hl := hall e he hb
      have hs : e.on < ops.size := Nat.lt_trans hlt (Array.getElem?_eq_some_iff.1 ho).1
      exact ih e.on hlt ops[e.on] i (Array.getElem?_eq_getElem hs) (hd e.on _ (Array.getElem?_eq_getElem hs) hl) h hsz

end
end Go.Abs
