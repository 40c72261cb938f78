import Derived.Test.YtkecmndppllijaaDoorAbsOps3
set_option linter.unusedVariables false
set_option linter.unusedSimpArgs false
namespace Go.Abs

def setA : Array Value → Nat → List Value → Array Value
  | cs, _, [] => cs
  | cs, o, v :: vs => setA (cs.setIfInBounds o v) (o + 1) vs

theorem setA_size : ∀ (vs : List Value) (cs : Array Value) (o : Nat), (setA cs o vs).size = cs.size
  | [], _, _ => rfl
  | v :: vs, cs, o => by rw [setA, setA_size vs]; simp
theorem setA_get : ∀ (vs : List Value) (cs : Array Value) (o k : Nat), o + vs.length ≤ cs.size → (setA cs o vs)[k]? = if o ≤ k ∧ k < o + vs.length then vs[k - o]? else cs[k]?
  | [], cs, o, k, _ => by rw [setA, if_neg (by simp)]
  | v :: vs, cs, o, k, h => by
    simp only [List.length_cons] at h
    rw [setA, setA_get vs _ (o + 1) k (by simp; omega), Array.getElem?_setIfInBounds]
    by_cases h1 : o = k
    · subst h1
      rw [if_neg (by omega), if_pos (by simp)]
      simp; omega
    · by_cases h2 : o + 1 ≤ k ∧ k < o + 1 + vs.length
      · rw [if_pos h2, if_pos (by simp; omega)]
        obtain ⟨m, rfl⟩ : ∃ m, k = o + 1 + m := ⟨k - (o + 1), by omega⟩
        rw [show o + 1 + m - (o + 1) = m by omega, show o + 1 + m - o = m + 1 by omega]
        rfl
      · rw [if_neg h2, if_neg h1, if_neg (by simp; omega)]

theorem setCells_length : ∀ (vs : List AVal) (row : List AVal) (j : Nat), (setCells row j vs).length = row.length
  | [], _, _ => rfl
  | v :: vs, row, j => by rw [setCells, setCells_length vs]; simp
theorem setCells_get : ∀ (vs : List AVal) (row : List AVal) (j k : Nat), j + vs.length ≤ row.length → (setCells row j vs)[k]? = if j ≤ k ∧ k < j + vs.length then vs[k - j]? else row[k]?
  | [], row, j, k, _ => by rw [setCells, if_neg (by simp)]
  | v :: vs, row, j, k, h => by
    simp only [List.length_cons] at h
    rw [setCells, setCells_get vs _ (j + 1) k (by simp; omega), List.getElem?_set]
    by_cases h1 : j = k
    · subst h1
      rw [if_neg (by omega), if_pos (by simp)]
      simp; omega
    · by_cases h2 : j + 1 ≤ k ∧ k < j + 1 + vs.length
      · rw [if_pos h2, if_pos (by simp; omega)]
        obtain ⟨m, rfl⟩ : ∃ m, k = j + 1 + m := ⟨k - (j + 1), by omega⟩
        rw [show j + 1 + m - (j + 1) = m by omega, show j + 1 + m - j = m + 1 by omega]
        rfl
      · rw [if_neg h2, if_neg h1, if_neg (by simp; omega)]

theorem setCell_heap (w : World) (b o : Nat) (v : Value) (x : Nat) : (w.setCell ⟨b, o, none⟩ v).heap[x]? = if x = b then (w.heap[b]?).map (fun | .cells c e f => .cells (c.setIfInBounds o v) e f | ob => ob) else w.heap[x]? := by
  simp only [World.setCell, Array.getElem?_modify, Option.isSome_none, Bool.false_eq_true, if_false]
  by_cases h : b = x
  · subst h; simp only [if_true]; rfl
  · rw [if_neg h, if_neg (fun e => h e.symm)]

theorem setCells_heap_same : ∀ (vs : List Value) (w : World) (b o : Nat) (cs : Array Value) (T : TypeId) (fr : Nat × Nat), w.heap[b]? = some (.cells cs T fr) →
    (w.setCells b o vs).heap[b]? = some (.cells (setA cs o vs) T fr)
  | [], _, _, _, _, _, _, h => h
  | v :: vs, w, b, o, cs, T, fr, h => by
    rw [World.setCells, setA]
    exact setCells_heap_same vs _ b (o + 1) _ T fr (by rw [setCell_heap]; simp [h])
theorem setCells_heap_other : ∀ (vs : List Value) (w : World) (b o x : Nat), x ≠ b → (w.setCells b o vs).heap[x]? = w.heap[x]?
  | [], _, _, _, _, _ => rfl
  | v :: vs, w, b, o, x, h => by rw [World.setCells, setCells_heap_other vs _ b _ x h, setCell_heap, if_neg h]
theorem setCells_rest : ∀ (vs : List Value) (w : World) (b o : Nat), (w.setCells b o vs).heap.size = w.heap.size ∧ (w.setCells b o vs).os = w.os ∧ (w.setCells b o vs).tape = w.tape ∧ (w.setCells b o vs).output = w.output
  | [], _, _, _ => ⟨rfl, rfl, rfl, rfl⟩
  | v :: vs, w, b, o => by
    obtain ⟨h1, h2, h3, h4⟩ := setCells_rest vs (w.setCell ⟨b, o, none⟩ v) b (o + 1)
    rw [World.setCells]
    exact ⟨h1.trans (by simp), h2, h3, h4⟩

section
variable {P : Program} {F : Nat → Prop} {w : World} {ρ : RMap} {σ : AState}

theorem inMap_id (p : Bool) (id b : Nat) (h : inMap p ρ id = some b) : ρ id = some b := by
  unfold inMap at h; cases p
  · exact h
  · simp [noId] at h

/-- Cells of a row of an object are written. -/
theorem Rel.store {id es i j b : Nat} {p : Bool} {rs : List (List AVal)} {vs : List AVal} {cs : List Value} (r : Rel ρ F σ w) {o0 : AObj} (hid : σ[id]? = some o0) (hl : o0.live = true) (hb : ρ id = some b)
    (ho : ORel F w ρ b (.rows p es rs)) (hp : PW F w (inMap p ρ) vs cs) (hi : i < rs.length) (hj : j + vs.length ≤ es) :
    w.there b (i * es + j) cs.length ∧
    Rel ρ F (σ.set id (.rows p es (rs.set i (setCells (rs.getD i []) j vs)))) (w.setCells b (i * es + j) cs) ∧
    Tr σ (σ.set id (.rows p es (rs.set i (setCells (rs.getD i []) j vs)))) ρ ρ F F w (w.setCells b (i * es + j) cs) := by
  obtain ⟨ca, T, fr, h1, h2, h3, h4, h5⟩ := ho
  have hrow : rs[i]? = some rs[i] := List.getElem?_eq_getElem hi
  have hD : rs.getD i [] = rs[i] := by rw [List.getD_eq_getElem?_getD, hrow]; rfl
  have hlen := h4 i _ hrow
  have hin : i * es + es ≤ ca.size := by
    have : (i + 1) * es ≤ rs.length * es := Nat.mul_le_mul_right _ hi
    rw [Nat.add_mul, Nat.one_mul] at this
    omega
  have hcl : cs.length = vs.length := hp.1.symm
  have hfit : i * es + j + cs.length ≤ ca.size := by omega
  refine ⟨?_, ?_⟩
  · intro k hk
    refine ⟨?_, h2 _ (by omega)⟩
    rw [cell_of_row w b _ ca T fr h1, Array.getElem?_eq_getElem (by omega)]
    rfl
  · obtain ⟨g1, g2, g3, g4⟩ := setCells_rest cs w b (i * es + j)
    have hLive : Live ρ σ b := ⟨id, o0, hid, hl, hb⟩
    have hF : ∀ x, F x → F x ∧ (w.setCells b (i * es + j) cs).heap[x]? = w.heap[x]? := fun x hx => ⟨hx, setCells_heap_other _ _ _ _ _ (fun e => (r.fr x hx).2 (e ▸ hLive))⟩
    have hR : ∀ (x : Nat) (ca : Array Value) (T : TypeId) (fr : Nat × Nat), w.heap[x]? = some (.cells ca T fr) → ∃ cs' fr', (w.setCells b (i * es + j) cs).heap[x]? = some (.cells cs' T fr') ∧ cs'.size = ca.size := by
      intro x ca T fr h
      by_cases e : x = b
      · subst e; exact ⟨_, _, setCells_heap_same _ _ _ _ _ _ _ h, setA_size _ _ _⟩
      · exact ⟨ca, _, (setCells_heap_other _ _ _ _ _ e).trans h, rfl⟩
    refine r.upd hid hl hb g1 g2 g3 g4 (fun x hx => setCells_heap_other _ _ _ _ _ hx) (fun cs0 T fr h => hR b cs0 T fr h) ?_
    refine ⟨_, T, fr, setCells_heap_same _ _ _ _ _ _ _ h1, ?_, by rw [setA_size]; simpa using h3, ?_, ?_⟩
    · intro o ho
      rw [setA_size] at ho
      rw [World.frozen?_setCells]
      exact h2 o ho
    · intro i' row e
      rw [List.getElem?_set] at e
      by_cases hii : i = i'
      · simp only [hii, if_true] at e
        rw [if_pos (by omega)] at e
        cases e; rw [setCells_length]; subst hii; rw [hD]; exact hlen
      · rw [if_neg hii] at e; exact h4 i' row e
    · intro i' j' row v e1 e2
      rw [setA_get _ _ _ _ hfit]
      rw [List.getElem?_set] at e1
      by_cases hii : i = i'
      · subst hii
        simp only [if_true, hi] at e1
        cases e1
        rw [hD, setCells_get _ _ _ _ (by rw [hlen]; exact hj)] at e2
        by_cases hc : j ≤ j' ∧ j' < j + vs.length
        · rw [if_pos hc] at e2
          rw [if_pos (by omega), show i * es + j' - (i * es + j) = j' - j by omega]
          have hlt : j' - j < cs.length := by omega
          exact ⟨_, List.getElem?_eq_getElem hlt, (hp.2 _ _ _ e2 (List.getElem?_eq_getElem hlt)).mono hF hR (fun _ _ h => h)⟩
        · rw [if_neg hc] at e2
          rw [if_neg (by omega)]
          obtain ⟨cv, e3, e4⟩ := h5 i j' _ v hrow e2
          exact ⟨cv, e3, e4.mono hF hR (fun _ _ h => h)⟩
      · simp only [hii, if_false] at e1
        obtain ⟨cv, e3, e4⟩ := h5 i' j' row v e1 e2
        have hj' : j' < es := by rw [← h4 i' row e1]; exact (List.getElem?_eq_some_iff.1 e2).1
        rw [if_neg ?_]
        · exact ⟨cv, e3, e4.mono hF hR (fun _ _ h => h)⟩
        · rintro ⟨g1, g2⟩
          rcases Nat.lt_or_gt_of_ne hii with h | h
          · have := Nat.mul_le_mul_right es h
            rw [Nat.succ_mul] at this
            omega
          · have := Nat.mul_le_mul_right es h
            rw [Nat.succ_mul] at this
            omega

theorem run_storeAt {t : TypeId} {b o : Nat} {c : Value} (hth : w.there b o c.cells.toList.length) (hn : P.cellsOf t = c.cells.toList.length) (hi : P.info? t ≠ none) (h1 : ∀ u ∈ c.cells.toList, u.oneCell' = true) :
    (Instr.storeAt t (.pointer (some ⟨b, o, none⟩)) c).run P w = .ok () (w.setCells b o c.cells.toList) := by
  have := run_storeCells_cells (P := P) b o c.cells.toList 0 w (fun j hj => by simpa using (hth j hj).1) (fun j hj => by simpa using (hth j hj).2) h1
  simp only [Nat.add_zero] at this
  cases hq : P.info? t with
  | none => exact absurd hq hi
  | some i =>
    have hs : i.size = c.cells.size := by unfold Program.cellsOf at hn; rw [hq] at hn; simpa using hn
    simp [Instr.storeAt, Instr.sureAddr, storeVar, sizeOf, typeInfo, hq, hs, this]

theorem astore_ok {t : TypeId} {a v : AVal} {ca cv : Value} {out : Out} (r : Rel ρ F σ w) (ha : VRel F w ρ a ca) (hv : VRel F w ρ v cv) (h : astore P t a v σ = some out) (hcs : allP out.cs) :
    FineU P F w ρ σ out (Instr.storeAt t ca cv) := by
  unfold astore at h
  dsimp only at h
  split at h
  · rename_i id es i j
    obtain ⟨b, hb, rfl⟩ := ha.ptr_inv
    by_cases hc : (v.cells.length == P.cellsOf t && v.cells.all oneCell && (P.info? t).isSome) = true
    · rw [if_pos hc] at h
      simp only [Bool.and_eq_true, beq_iff_eq, decide_eq_true_eq] at hc
      obtain ⟨⟨hn, hone⟩, hinf⟩ := hc
      obtain ⟨hp, h1⟩ := PW.cells hv hone
      split at h
      · rename_i es' rs ho
        split at h
        · rename_i he
          simp only [beq_iff_eq] at he
          subst he
          cases h
          have hi : i < rs.length := by have := hcs.cons.1; simpa using this
          have hj : j + P.cellsOf t ≤ es := by have := hcs.cons.2.cons.1; simpa using this
          obtain ⟨o0, hid0, _, hlv0, _⟩ := objP_some ho rfl
          obtain ⟨g1, g2, g3⟩ := r.store hid0 hlv0 hb (r.objP ho rfl hb) hp hi (by rw [hn]; exact hj)
          exact ⟨ρ, F, _, run_storeAt g1 (by rw [← hp.1, hn]) (by intro e; rw [e] at hinf; cases hinf) h1, g3, g2, rfl⟩
        · cases h
      · rename_i es' rs ho
        split at h
        · rename_i he
          simp only [beq_iff_eq] at he
          subst he
          rw [Option.bind_eq_some_iff] at h
          obtain ⟨x, hx, h⟩ := h
          split at h
          · rename_i hlive
            cases h
            obtain ⟨hi, hcx⟩ := hcs.cons
            obtain ⟨hj, hcx⟩ := hcx.cons
            have hi : i < rs.length := by simpa using hi
            have hj : j + P.cellsOf t ≤ es := by simpa using hj
            obtain ⟨F', r', t', hp'⟩ := freezeL_ok _ _ r hp hx hcx
            obtain ⟨o0, ho0⟩ : ∃ o0, o0 = obj x.σ id := ⟨_, rfl⟩
            have hid := obj_some ho0.symm (by rw [ho0]; exact hlive)
            have hor : ORel F' w ρ b (.rows true es rs) := (r.objP ho rfl hb).move rfl (r.frz t') t'.row (fun _ _ h => h)
            have hl' : x.v.length = v.cells.length := by rw [hp'.1, hp.1]
            obtain ⟨g1, g2, g3⟩ := r'.store hid (by rw [ho0]; exact hlive) hb hor hp' hi (by rw [hl', hn]; exact hj)
            exact ⟨ρ, F', _, run_storeAt g1 (by rw [← hp.1, hn]) (by intro e; rw [e] at hinf; cases hinf) h1, Tr.trans r t' g3, g2, rfl⟩
          · cases h
        · cases h
      · cases h
    · rw [if_neg hc] at h; cases h
  · cases h

end
end Go.Abs
