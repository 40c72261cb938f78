import Derived.Test.YtkecmndppllijaaDoorAbsOps4
set_option linter.unusedVariables false
set_option linter.unusedSimpArgs false
namespace Go.Abs

section
variable {P : Program} {F : Nat → Prop} {w : World} {ρ : RMap} {σ : AState}

theorem Fine.new {out : Out} {s : Sem Value} {cv : Value} {o : Obj} {A : AObj} (r : Rel ρ F σ w) (h : s.run P w = .ok cv (w.alloc o)) (hσ : out.σ = σ ++ [A])
    (hA : ORel F (w.alloc o) (updMap ρ σ.length w.heap.size) w.heap.size A) (hv : VRel F (w.alloc o) (updMap ρ σ.length w.heap.size) out.v cv) : Fine P F w ρ σ out s := by
  obtain ⟨r', t'⟩ := r.alloc o A hA
  rw [Fine]; rw [hσ]; exact ⟨_, F, _, cv, h, t', r', hv⟩

theorem frozen_new (w : World) (cs : Array Value) (T : TypeId) (o : Nat) : (w.alloc (.cells cs T)).frozen? ⟨w.heap.size, o, none⟩ = false := by
  unfold World.frozen?
  rw [heap_alloc_new']
  simp

/-- rows of cells that lie in a new block -/
theorem ORel.new {es : Nat} {p : Bool} {rs : List (List AVal)} {cs : Array Value} {T : TypeId} {F' : Nat → Prop} {w' : World} {ρ' : RMap} {b : Nat} (hb : w'.heap[b]? = some (.cells cs T (0, 0))) (hsz : rs.length * es ≤ cs.size)
    (hw : ∀ (i : Nat) (row : List AVal), rs[i]? = some row → row.length = es)
    (hv : ∀ (i j : Nat) (row : List AVal) (v : AVal), rs[i]? = some row → row[j]? = some v → ∃ cv, cs[i * es + j]? = some cv ∧ VRel F' w' (inMap p ρ') v cv) : ORel F' w' ρ' b (.rows p es rs) :=
  ⟨cs, T, _, hb, fun o _ => by unfold World.frozen?; rw [hb]; simp, hsz, hw, hv⟩

theorem ORel.newT {es : Nat} {p : Bool} {rs : List (List AVal)} {cs : Array Value} {T : TypeId} {F' : Nat → Prop} {w' : World} {ρ' : RMap} {b : Nat} (hb : w'.heap[b]? = some (.cells cs T (0, 0))) (hsz : rs.length * es ≤ cs.size)
    (hw : ∀ (i : Nat) (row : List AVal), rs[i]? = some row → row.length = es)
    (hv : ∀ (i j : Nat) (row : List AVal) (v : AVal), rs[i]? = some row → row[j]? = some v → ∃ cv, cs[i * es + j]? = some cv ∧ VRel F' w' (inMap p ρ') v cv) : ORel F' w' ρ' b (.trows T p es rs) :=
  ⟨cs, _, hb, fun o _ => by unfold World.frozen?; rw [hb]; simp, hsz, hw, hv⟩

theorem PW.alloc {xs : List AVal} {ys : List Value} (r : Rel ρ F σ w) (h : PW F w ρ xs ys) (o : Obj) : PW F (w.alloc o) (updMap ρ σ.length w.heap.size) xs ys :=
  ⟨h.1, fun i x y h1 h2 => (h.2 i x y h1 h2).mono (alloc_F r o) (alloc_row w o) (upd_map r _)⟩

theorem run_newVar {t : TypeId} {v : Value} : (newVar t v).run P w = .ok ⟨w.heap.size, 0, none⟩ (w.alloc (.cells v.cells t)) := by
  simp [newVar, newRow]

theorem plain_pure {ρ' : RMap} {v : AVal} {c : Value} (hv : plainCell v = true) (h : VRel F w ρ v c) : VRel F w ρ' v c := by
  cases h <;> simp [plainCell] at hv
  · exact .tt _ _
  · exact .bool _ _
  · exact .int _ _ _
  · exact .str _ _

theorem abox_fine {t : TypeId} {v : AVal} {cv : Value} {out : Out} {s : Sem Value} (r : Rel ρ F σ w) (hv : VRel F w ρ v cv) (h : abox v σ = some out)
    (hs : s.run P w = .ok (.pointer (some ⟨w.heap.size, 0, none⟩)) (w.alloc (.cells cv.cells t))) : Fine P F w ρ σ out s := by
  unfold abox at h
  dsimp only at h
  split at h
  · rename_i hone
    cases h
    obtain ⟨hp, h1⟩ := PW.cells hv hone
    have hp' := hp.alloc r (.cells cv.cells t)
    refine Fine.new r hs rfl (ORel.new (heap_alloc_new' _ _) (by simp; rw [hp.1]; simp) ?_ ?_) ?_
    · intro i row e
      cases i with
      | zero => simp at e; subst e; rfl
      | succ i => simp at e
    · intro i j row v' e1 e2
      cases i with
      | zero =>
        simp at e1; subst e1
        have hlt : j < cv.cells.toList.length := by rw [← hp.1]; exact (List.getElem?_eq_some_iff.1 e2).1
        have e3 := List.getElem?_eq_getElem hlt
        have hx := hp'.2 j _ _ e2 e3
        refine ⟨cv.cells.toList[j], by simp, ?_⟩
        unfold inMap
        split
        · rename_i hpl
          exact plain_pure (List.all_eq_true.1 hpl v' (List.mem_of_getElem? e2)) hx
        · exact hx
      | succ i => simp at e1
    · have := VRel.ptr (F := F) (w := w.alloc (.cells cv.cells t)) (updMap ρ σ.length w.heap.size) σ.length v.cells.length 0 0 w.heap.size (by simp [updMap])
      simp only [Nat.zero_mul, Nat.add_zero] at this
      exact this
  · cases h

theorem abox_ok {t : TypeId} {v : AVal} {cv : Value} {out : Out} (r : Rel ρ F σ w) (hv : VRel F w ρ v cv) (h : abox v σ = some out) : Fine P F w ρ σ out (Instr.box t cv) :=
  abox_fine (t := t) r hv h (by simp [Instr.box, run_newVar])

theorem zeroA_ok {t : TypeId} {z : AVal} (h : zeroA P t = some z) : ∃ zv, (zeroValue t).run P w = .ok zv w ∧ ∀ F ρ, VRel F w ρ z zv := by
  unfold zeroA at h
  rw [Option.bind_eq_some_iff] at h
  obtain ⟨i, hi, h⟩ := h
  rw [Option.map_eq_some_iff] at h
  obtain ⟨zv, hz, h⟩ := h
  subst h
  exact ⟨zv, by simp [zeroValue, typeInfo, hi, hz], fun F ρ => abs0_ok _ _ _ _⟩

theorem abox_fineT {t : TypeId} {v : AVal} {cv : Value} {s : Sem Value} (r : Rel ρ F σ w) (hv : VRel F w ρ v cv) (hone : v.cells.all oneCell = true)
    (hs : s.run P w = .ok (.pointer (some ⟨w.heap.size, 0, none⟩)) (w.alloc (.cells cv.cells t))) : Fine P F w ρ σ (Abs.new σ (.trows t false v.cells.length [v.cells]) fun id => .ptr id v.cells.length 0 0) s := by
  obtain ⟨hp, h1⟩ := PW.cells hv hone
  have hp' := hp.alloc r (.cells cv.cells t)
  refine Fine.new r hs rfl (ORel.newT (heap_alloc_new' _ _) (by simp; rw [hp.1]; simp) ?_ ?_) ?_
  · intro i row e
    cases i with
    | zero => simp at e; subst e; rfl
    | succ i => simp at e
  · intro i j row v' e1 e2
    cases i with
    | zero =>
      simp at e1; subst e1
      have hlt : j < cv.cells.toList.length := by rw [← hp.1]; exact (List.getElem?_eq_some_iff.1 e2).1
      have e3 := List.getElem?_eq_getElem hlt
      have hx := hp'.2 j _ _ e2 e3
      exact ⟨cv.cells.toList[j], by simp, hx⟩
    | succ i => simp at e1
  · have := VRel.ptr (F := F) (w := w.alloc (.cells cv.cells t)) (updMap ρ σ.length w.heap.size) σ.length v.cells.length 0 0 w.heap.size (by simp [updMap])
    simp only [Nat.zero_mul, Nat.add_zero] at this
    exact this

theorem aalloc_ok {t : TypeId} {out : Out} (r : Rel ρ F σ w) (h : aalloc P t σ = some out) : Fine P F w ρ σ out (Instr.alloc t true (.tuple #[])) := by
  unfold aalloc at h
  rw [Option.bind_eq_some_iff] at h
  obtain ⟨z, hz, h⟩ := h
  obtain ⟨zv, h1, h2⟩ := zeroA_ok (w := w) hz
  split at h
  · split at h
    · rename_i hone
      cases h
      exact abox_fineT (t := t) r (h2 F ρ) hone (by simp [Instr.alloc, h1, run_newVar])
    · cases h
  · exact abox_fine (t := t) r (h2 F ρ) h (by simp [Instr.alloc, h1, run_newVar])

theorem zip_setA : ∀ (l : List Value) (k off : Nat) (cells : Array Value), (l.zipIdx k).foldl (fun cs (p : Value × Nat) => cs.setIfInBounds (off + p.2) p.1) cells = setA cells (off + k) l
  | [], _, _, _ => rfl
  | v :: l, k, off, cells => by
    simp only [List.zipIdx_cons, List.foldl_cons]
    rw [zip_setA l (k + 1) off]
    rfl

theorem fill_setA (off : Nat) (cells : Array Value) (v : Array Value) : v.zipIdx.foldl (fun cs (p : Value × Nat) => cs.setIfInBounds (off + p.2) p.1) cells = setA cells off v.toList := by
  rw [← Array.foldl_toList, Array.toList_zipIdx, zip_setA]
  rfl

theorem PW.set {xs vs : List AVal} {ys : Array Value} {us : List Value} {off : Nat} (h : PW F w ρ xs ys.toList) (hv : PW F w ρ vs us) (hl : off + vs.length ≤ xs.length) : PW F w ρ (setCells xs off vs) (setA ys off us).toList := by
  have hs : xs.length = ys.size := by simpa using h.1
  refine ⟨by rw [setCells_length]; simp [setA_size, hs], fun i x y h1 h2 => ?_⟩
  rw [setCells_get _ _ _ _ hl] at h1
  rw [Array.getElem?_toList, setA_get _ _ _ _ (by rw [← hv.1, ← hs]; exact hl)] at h2
  rw [← hv.1] at h2
  split at h1
  · rename_i hc; rw [if_pos hc] at h2; exact hv.2 _ _ _ h1 h2
  · rename_i hc; rw [if_neg hc] at h2; exact h.2 i _ _ h1 (by simpa using h2)

/-- parts, pair by pair -/
def PParts (F : Nat → Prop) (w : World) (ρ : RMap) : List (Nat × AVal) → List (Nat × Value) → Prop
  | [], [] => True
  | (i, v) :: xs, (j, u) :: ys => i = j ∧ VRel F w ρ v u ∧ PParts F w ρ xs ys
  | _, _ => False

theorem fillA_ok {place : Nat → Option (Nat × Nat)} : ∀ (parts : List (Nat × AVal)) (cparts : List (Nat × Value)) (xs : List AVal) (ys : Array Value) {cs : List AVal}, PW F w ρ xs ys.toList → PParts F w ρ parts cparts → fillA place xs parts = some cs →
    ∃ cv, Instr.fill place ys cparts = some cv ∧ PW F w ρ cs cv.toList
  | [], [], xs, ys, cs, h, _, hf => by simp only [fillA, Option.some.injEq] at hf; subst hf; exact ⟨ys, rfl, h⟩
  | (i, v) :: parts, (j, u) :: cparts, xs, ys, cs, h, hp, hf => by
    obtain ⟨rfl, hv, hps⟩ := hp
    simp only [fillA] at hf
    simp only [Instr.fill]
    cases hpl : place i with
    | none => rw [hpl] at hf; cases hf
    | some q =>
      obtain ⟨off, size⟩ := q
      rw [hpl] at hf
      dsimp only at hf ⊢
      split at hf
      · rename_i hc
        simp only [Bool.and_eq_true, beq_iff_eq, decide_eq_true_eq] at hc
        obtain ⟨⟨hone, hsz⟩, hle⟩ := hc
        obtain ⟨hcp, _⟩ := PW.cells hv hone
        have hus : u.cells.size = size := by rw [← hsz, hcp.1]; simp
        have hys : xs.length = ys.size := by simpa using h.1
        rw [if_neg (by simp [hus]; omega), fill_setA]
        exact fillA_ok parts cparts _ _ (h.set hcp (by rw [hsz]; exact hle)) hps hf
      · cases hf
  | [], _ :: _, _, _, _, _, hp, _ => hp.elim
  | _ :: _, [], _, _, _, _, hp, _ => hp.elim

theorem builtA_ok {t : TypeId} {parts : List (Nat × AVal)} {cparts : List (Nat × Value)} {cs : List AVal} (hp : PParts F w ρ parts cparts) (h : builtA P t parts = some cs) : ∃ cv, P.built t cparts = some cv ∧ PW F w ρ cs cv.toList := by
  unfold builtA at h
  unfold Program.built
  cases hi : P.info? t with
  | none => simp [hi] at h
  | some it =>
    cases hu : P.underlying t with
    | none => simp [hi, hu] at h
    | some d =>
      cases hz : it.zero with
      | none => cases d <;> simp [hi, hu, hz] at h
      | some z =>
        cases d <;> try (simp [hi, hu] at h; done)
        case array n e =>
          cases hie : P.info? e with
          | none => simp [hi, hu, hz, hie] at h
          | some ie =>
            simp only [hi, hu, hz, hie] at h ⊢
            split at h
            · rename_i hone
              exact fillA_ok _ _ _ _ (PW.cells (abs0_ok F w ρ z) hone).1 hp h
            · cases h
        case struct fields =>
          cases hm : fields.toList.mapM (fun f => (P.info? f.type).map fun i => (f.offset, i.size)) with
          | none => simp [hi, hu, hz, hm] at h
          | some places =>
            simp only [hi, hu, hz, hm] at h ⊢
            split at h
            · rename_i hone
              have := fillA_ok _ _ _ _ (PW.cells (abs0_ok F w ρ z) hone).1 hp h
              simpa using this
            · cases h

theorem abuild_ok {t : TypeId} {parts : List (Nat × AVal)} {cparts : Array (Nat × Value)} {out : Out} (r : Rel ρ F σ w) (hp : PParts F w ρ parts cparts.toList) (h : abuild P t parts σ = some out) : Fine P F w ρ σ out (Instr.build t cparts) := by
  unfold abuild at h
  rw [Option.map_eq_some_iff] at h
  obtain ⟨cs, hb, rfl⟩ := h
  obtain ⟨cv, h1, h2⟩ := builtA_ok hp hb
  refine Fine.same r (run_build w t cparts cv h1) rfl ?_
  have := h2.agg
  simpa using this

theorem cutRows_get : ∀ (es n : Nat) (cs : List AVal) (i : Nat) (row : List AVal), cs.length = n * es → (cutRows es n cs)[i]? = some row → i < n ∧ row = (cs.drop (i * es)).take es
  | es, 0, cs, i, row, _, h => by simp [cutRows] at h
  | es, n + 1, cs, i, row, hl, h => by
    rw [Nat.succ_mul] at hl
    cases i with
    | zero => simp [cutRows] at h; subst h; simp
    | succ i =>
      simp only [cutRows, List.getElem?_cons_succ] at h
      obtain ⟨h1, h2⟩ := cutRows_get es n _ i row (by simp; omega) h
      refine ⟨by omega, ?_⟩
      rw [h2, List.drop_drop, Nat.succ_mul, Nat.add_comm]
theorem cutRows_length : ∀ (es n : Nat) (cs : List AVal), (cutRows es n cs).length = n
  | _, 0, _ => rfl
  | es, n + 1, cs => by simp [cutRows, cutRows_length es n]

theorem replicate_flatten_get (n : Nat) (z : Array Value) (h0 : z.size ≠ 0) : ((Array.range (n * z.size)).map (z[· % z.size]!)).toList = (List.replicate n z.toList).flatten := by
  induction n with
  | zero => simp
  | succ n ih =>
    rw [List.replicate_succ', List.flatten_append, ← ih]
    apply List.ext_getElem?
    intro i
    simp only [Array.toList_map, Array.toList_range, List.flatten_cons, List.flatten_nil, List.append_nil]
    rw [List.getElem?_append]
    simp only [List.length_map, List.length_range, List.getElem?_map]
    have hs : (n + 1) * z.size = n * z.size + z.size := by rw [Nat.add_mul, Nat.one_mul]
    by_cases h1 : i < n * z.size
    · rw [if_pos h1, List.getElem?_range h1, List.getElem?_range (by omega)]
    · rw [if_neg h1]
      by_cases h2 : i < (n + 1) * z.size
      · rw [List.getElem?_range h2]
        have h3 : i - n * z.size < z.size := by omega
        have h4 : i % z.size = i - n * z.size := by
          obtain ⟨m, rfl⟩ : ∃ m, i = n * z.size + m := ⟨i - n * z.size, by omega⟩
          rw [Nat.add_comm, Nat.add_mul_mod_self_right, Nat.mod_eq_of_lt (by omega)]
          omega
        simp only [Option.map_some, h4]
        rw [Array.getElem?_toList, Array.getElem?_eq_getElem h3]
        simp [h3]
      · rw [List.getElem?_eq_none (by simpa using Nat.not_lt.1 h2), List.getElem?_eq_none (by simp; omega)]
        rfl

theorem PW.replicate {xs : List AVal} {ys : List Value} (h : PW F w ρ xs ys) : ∀ n, PW F w ρ (List.replicate n xs).flatten (List.replicate n ys).flatten
  | 0 => by simpa using PW.nil
  | n + 1 => by
    simp only [List.replicate_succ, List.flatten_cons]
    have ih := PW.replicate h n
    refine ⟨by simp only [List.length_append, h.1, ih.1], fun i x y h1 h2 => ?_⟩
    rw [List.getElem?_append] at h1 h2
    rw [h.1] at h1
    split at h1
    · rename_i hc; rw [if_pos hc] at h2; exact h.2 _ _ _ h1 h2
    · rename_i hc; rw [if_neg hc] at h2; exact ih.2 _ _ _ h1 h2

/-- rows cut out of cells that lie in a new block -/
theorem rows_of_cells {es n : Nat} {cs : List AVal} {cv : Array Value} (hp : PW F w ρ cs cv.toList) (hl : cs.length = n * es) :
    (∀ (i : Nat) (row : List AVal), (cutRows es n cs)[i]? = some row → row.length = es) ∧
    ∀ (i j : Nat) (row : List AVal) (v : AVal), (cutRows es n cs)[i]? = some row → row[j]? = some v → ∃ u, cv[i * es + j]? = some u ∧ VRel F w ρ v u := by
  refine ⟨fun i row h => ?_, fun i j row v h1 h2 => ?_⟩
  · obtain ⟨h1, h2⟩ := cutRows_get _ _ _ _ _ hl h
    subst h2
    have : (i + 1) * es ≤ n * es := Nat.mul_le_mul_right _ h1
    rw [Nat.succ_mul] at this
    simp; omega
  · obtain ⟨h3, h4⟩ := cutRows_get _ _ _ _ _ hl h1
    subst h4
    rw [List.getElem?_take] at h2
    split at h2
    · rw [List.getElem?_drop] at h2
      have hlt : i * es + j < cv.toList.length := by rw [← hp.1]; exact (List.getElem?_eq_some_iff.1 h2).1
      have := List.getElem?_eq_getElem hlt
      exact ⟨_, by simp, hp.2 _ _ _ h2 this⟩
    · cases h2

theorem abuildSlice_ok {t : TypeId} {n : Nat} {parts : List (Nat × AVal)} {cparts : Array (Nat × Value)} {out : Out} (r : Rel ρ F σ w) (hp : PParts F w ρ parts cparts.toList) (h : abuildSlice P t n parts σ = some out) :
    Fine P F w ρ σ out (Instr.buildSlice t n cparts) := by
  unfold abuildSlice at h
  split at h
  · rename_i e hu
    split at h
    · rename_i ie hie
      split at h
      · rename_i z hz
        dsimp only at h
        split at h
        · rename_i hc
          simp only [Bool.and_eq_true, beq_iff_eq, decide_eq_true_eq] at hc
          obtain ⟨⟨⟨hone, hzl⟩, hmax⟩, hes⟩ := hc
          rw [Option.bind_eq_some_iff] at h
          obtain ⟨cs, hf, h⟩ := h
          split at h
          · rename_i hc2
            simp only [Bool.and_eq_true, beq_iff_eq] at hc2
            obtain ⟨_, hl⟩ := hc2
            cases h
            obtain ⟨hzp, _⟩ := PW.cells (abs0_ok F w ρ z) hone
            have hzs : z.cells.size = ie.size := by rw [← hzl, hzp.1]; simp
            have hini : ((Array.range (n * ie.size)).map (z.cells[· % z.cells.size]!)).toList = (List.replicate n z.cells.toList).flatten := by
              rw [← hzs]; exact replicate_flatten_get n z.cells (by rw [hzs]; exact hes)
            obtain ⟨cv, h1, h2⟩ := fillA_ok _ _ _ ((Array.range (n * ie.size)).map (z.cells[· % z.cells.size]!)) (by rw [hini]; exact hzp.replicate n) hp hf
            have hrun : (Instr.buildSlice t n cparts).run P w = .ok (.slice (some ⟨w.heap.size, 0, none⟩) n n) (w.alloc (.cells cv e)) := by
              have hne : ¬ (n * ie.size = 0) ∨ n * ie.size = 0 := by omega
              unfold Instr.buildSlice
              simp only [Sem.run_bind, run_underlying hu, Result.andThen_ok, sizeOf, typeInfo, run_program, hie, Sem.run_pure]
              rw [if_neg (by omega)]
              rcases hne with hne | hne
              · simp only [if_neg hne, zeroValue, typeInfo, Sem.run_bind, run_program, Result.andThen_ok, hie, hz, Sem.run_pure]
                simp only [h1]
                simp [newRow]
              · have hn0 : n = 0 := by
                  rcases Nat.mul_eq_zero.1 hne with h | h
                  · exact h
                  · exact absurd h hes
                subst hn0
                simp only [Nat.zero_mul, if_true, Sem.run_pure, Result.andThen_ok] at h1 ⊢
                simp only [Array.range_zero', Array.map_empty] at h1 ⊢
                simp only [h1]
                simp [newRow]
            have hp' := (h2.alloc r (.cells cv e))
            have hpp : PW F (w.alloc (.cells cv e)) (inMap (!(kindsOf P 20 e).any refKind && cs.all pureCell) (updMap ρ σ.length w.heap.size)) cs cv.toList := by
              cases hpb : (!(kindsOf P 20 e).any refKind && cs.all pureCell) with
              | false => exact hp'
              | true =>
                simp only [Bool.and_eq_true] at hpb
                exact ⟨hp'.1, fun i x y h1 h2 => pureCell_noId (hp'.2 i x y h1 h2) (List.all_eq_true.1 hpb.2 x (List.mem_of_getElem? h1))⟩
            obtain ⟨g1, g2⟩ := rows_of_cells hpp hl
            have hcvs : cv.size = n * ie.size := by rw [← hl, h2.1]; simp
            refine Fine.new r hrun rfl (ORel.new (heap_alloc_new' _ _) (by rw [cutRows_length, hcvs]; exact Nat.le_refl _) g1 g2) ?_
            have := VRel.slc (F := F) (w := w.alloc (.cells cv e)) (updMap ρ σ.length w.heap.size) σ.length ie.size 0 n (some n) n w.heap.size (by simp [updMap]) (Nat.le_refl _) (by simp) ⟨cv, e, _, heap_alloc_new' _ _, by rw [Nat.zero_add, hcvs]; exact Nat.le_refl _⟩
            simp only [Nat.zero_mul] at this
            exact this
          · cases h
        · cases h
      · cases h
    · cases h
  · cases h

end
end Go.Abs
