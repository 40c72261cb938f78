import Derived.Test.YtkecmndppllijaaDoorAbsOps8
set_option linter.unusedVariables false
set_option linter.unusedSimpArgs false
namespace Go.Abs

section
variable {P : Program} {F : Nat → Prop} {w : World} {ρ : RMap} {σ : AState}

theorem info_of_cells {e : TypeId} (hes : P.cellsOf e ≠ 0) (hz : (zeroA P e).isSome = true) : ∃ i z, P.info? e = some i ∧ i.zero = some z ∧ i.size = P.cellsOf e ∧ i.bytes = P.bytesOf e ∧ zeroA P e = some (abs0 z) := by
  unfold zeroA at *
  cases hi : P.info? e with
  | none => rw [hi] at hz; cases hz
  | some i =>
    cases hzz : i.zero with
    | none => rw [hi] at hz; simp [hzz] at hz
    | some z => exact ⟨i, z, rfl, hzz, by simp [Program.cellsOf, hi], by simp [Program.bytesOf, hi], by simp [hzz]⟩

theorem lies_app {es : Nat} {p q : Bool} {F' : Nat → Prop} {w' : World} {ρ' : RMap} {rs ns : List (List AVal)} {olds news : List Value} {rest : List Value}
    (ho : olds.length = rs.length * es) (hw : ∀ (i : Nat) (row : List AVal), rs[i]? = some row → row.length = es)
    (hv : ∀ (i j : Nat) (row : List AVal) (v : AVal), rs[i]? = some row → row[j]? = some v → ∃ cv, olds[i * es + j]? = some cv ∧ VRel F' w' (inMap p ρ') v cv)
    (hL : Lies F' w' (inMap q ρ') es ns news) :
    (∀ (i : Nat) (row : List AVal), (rs ++ ns)[i]? = some row → row.length = es) ∧
    ∀ (i j : Nat) (row : List AVal) (v : AVal), (rs ++ ns)[i]? = some row → row[j]? = some v → ∃ cv, (olds ++ news ++ rest)[i * es + j]? = some cv ∧ VRel F' w' (inMap (p && q) ρ') v cv := by
  have hup : ∀ {a : Bool} {v : AVal} {cv : Value}, (a = p ∨ a = q) → VRel F' w' (inMap a ρ') v cv → VRel F' w' (inMap (p && q) ρ') v cv := by
    intro a v cv ha h
    refine h.weak fun id b hb => ?_
    unfold inMap at hb ⊢
    rcases ha with rfl | rfl <;> cases a <;> simp_all [noId]
  refine ⟨fun i row h => ?_, fun i j row v h1 h2 => ?_⟩
  · rw [List.getElem?_append] at h
    split at h
    · exact hw i row h
    · exact hL.wide _ row h
  · rw [List.getElem?_append] at h1
    split at h1
    · rename_i hi
      obtain ⟨cv, h3, h4⟩ := hv i j row v h1 h2
      refine ⟨cv, ?_, hup (.inl rfl) h4⟩
      have hlt := (List.getElem?_eq_some_iff.1 h3).1
      rw [List.append_assoc, List.getElem?_append_left hlt]
      exact h3
    · rename_i hi
      obtain ⟨cv, h3, h4⟩ := hL.rel _ j row v h1 h2
      refine ⟨cv, ?_, hup (.inr rfl) h4⟩
      have hlt := (List.getElem?_eq_some_iff.1 h3).1
      have he : i * es + j = olds.length + ((i - rs.length) * es + j) := by
        rw [ho]
        obtain ⟨m, rfl⟩ : ∃ m, i = rs.length + m := ⟨i - rs.length, by omega⟩
        rw [show rs.length + m - rs.length = m by omega, Nat.add_mul]; omega
      rw [he, List.getElem?_append_left (by simp; omega), List.getElem?_append_right (by omega), show olds.length + ((i - rs.length) * es + j) - olds.length = (i - rs.length) * es + j by omega]
      exact h3

theorem Lies.mono {es : Nat} {rs : List (List AVal)} {news : List Value} {F' : Nat → Prop} {w' : World} {ρ' : RMap} (h : Lies F w ρ es rs news)
    (hF : ∀ b, F b → F' b ∧ w'.heap[b]? = w.heap[b]?)
    (hrow : ∀ (b : Nat) (cs : Array Value) (T : TypeId) (fr : Nat × Nat), w.heap[b]? = some (.cells cs T fr) → ∃ cs' fr', w'.heap[b]? = some (.cells cs' T fr') ∧ cs'.size = cs.size)
    (hρ : ∀ id b, ρ id = some b → ρ' id = some b) : Lies F' w' ρ' es rs news :=
  ⟨h.len, h.wide, fun i j row v h1 h2 => let ⟨cv, h3, h4⟩ := h.rel i j row v h1 h2; ⟨cv, h3, h4.mono hF hrow hρ⟩, h.one⟩

theorem inMap_mono {ρ ρ' : RMap} (p : Bool) (hρ : ∀ id b, ρ id = some b → ρ' id = some b) : ∀ id b, inMap p ρ id = some b → inMap p ρ' id = some b := by
  intro id b h; unfold inMap at *; cases p
  · exact hρ id b h
  · exact h

theorem drew_rel (r : Rel ρ F σ w) : Rel ρ F σ w.drew ∧ Tr σ σ ρ ρ F F w w.drew := by
  have hF : ∀ b, F b → F b ∧ w.drew.heap[b]? = w.heap[b]? := fun b h => ⟨h, rfl⟩
  have hR : ∀ (b : Nat) (cs : Array Value) (T : TypeId) (fr : Nat × Nat), w.heap[b]? = some (.cells cs T fr) → ∃ cs' fr', w.drew.heap[b]? = some (.cells cs' T fr') ∧ cs'.size = cs.size := fun b cs T fr h => ⟨cs, _, h, rfl⟩
  exact ⟨⟨fun id o b h1 h2 => (r.obj id o b h1 h2).move rfl hF hR (fun _ _ h => h), r.inj, r.fr, r.lt, r.dom⟩,
    ⟨fun _ _ h => h, fun _ h => h, rfl, rfl, rfl, Nat.le_refl _, hR, fun _ _ _ => rfl, fun _ h => .inl h, fun _ _ h => .inl h, Nat.le_refl _, fun _ o h1 h2 _ => ⟨o, h1, h2⟩⟩⟩

theorem srcA_of {es : Nat} {u : TypeId} {x : AVal} {cx : Value} {s : Src} (r : Rel ρ F σ w) (hx : VRel F w ρ x cx) (h : srcA P u es σ x = some s) (hcs : allP s.cs) :
    ∃ news, Go.Src P es u cx s.rs.length news w ∧ Lies F w (inMap s.pure ρ) es s.rs news := by
  unfold srcA at h
  split at h
  · rename_i e' huu
    obtain ⟨base, cc, news, hcx, hS, hL, hnone, hsome⟩ := src_of r hx h hcs huu
    exact ⟨news, hS, hL⟩
  · rename_i huu
    split at h
    · rename_i b
      split at h
      · rename_i he
        simp only [beq_iff_eq] at he
        subst he
        cases h
        obtain rfl := hx.str_inv
        have hl : (byteRows b).length = b.size := by unfold byteRows; rw [List.length_map, Array.length_toList]; rfl
        refine ⟨byteCells b, by rw [hl]; exact Go.Src.ofString (P := P) w huu b, ⟨by rw [byteCells_length, hl, Nat.mul_one], fun i row e => ?_, fun i j row v e1 e2 => ?_, fun u hu => ?_⟩⟩
        · unfold byteRows at e
          rw [List.getElem?_map, Option.map_eq_some_iff] at e
          obtain ⟨x, _, rfl⟩ := e
          rfl
        · unfold byteRows at e1
          rw [List.getElem?_map, Option.map_eq_some_iff] at e1
          obtain ⟨y, hy, rfl⟩ := e1
          match j with
          | 0 =>
            simp only [List.getElem?_cons_zero, Option.some.injEq] at e2
            subst e2
            refine ⟨.int .u8 (y.toNat : Int), ?_, .int _ _ _⟩
            unfold byteCells
            rw [Nat.mul_one, Nat.add_zero, List.getElem?_map, hy]; rfl
          | j + 1 => simp at e2
        · obtain ⟨_, _, rfl⟩ := List.mem_map.1 hu
          rfl
      · cases h
    · cases h
  · cases h

theorem mkRows_of {b : Nat} {typed : Bool} {e : TypeId} {p : Bool} {es : Nat} {rs : List (List AVal)} {T : TypeId} (h : ORel F w ρ b (.trows T p es rs)) (hT : typed = true → T = e) : ORel F w ρ b (mkRows typed e p es rs) := by
  unfold mkRows
  cases typed with
  | true => obtain rfl := hT rfl; exact h
  | false => exact h.plain
theorem typed_eq {id b : Nat} {e T : TypeId} {o0 : AObj} {ca : Array Value} {fr : Nat × Nat} (r : Rel ρ F σ w) (hid : σ[id]? = some o0) (ho : Abs.obj σ id = o0) (hb : ρ id = some b) (h1 : w.heap[b]? = some (.cells ca T fr)) (x : Bool) (h : (x && isTyped (Abs.obj σ id) e) = true) : T = e := by
  rw [ho, Bool.and_eq_true] at h
  have h := h.2
  unfold isTyped at h
  split at h
  · rename_i T' p es rs
    obtain ⟨cs, fr', g, _⟩ := r.obj _ _ _ hid hb
    rw [h1] at g
    cases g
    simpa using h
  · cases h

theorem aappend_ok {t u ty : TypeId} {d x : AVal} {cd cx : Value} {out : Out} (r : Rel ρ F σ w) (hd : VRel F w ρ d cd) (hx : VRel F w ρ x cx) (h : aappend P t u d x σ = some out) (hcs : allP out.cs) :
    Fine P F w ρ σ out (Builtin.append_ #[t, u] ty #[cd, cx]) := by
  unfold aappend at h
  split at h
  · rename_i e hut
    dsimp only at h
    rw [Option.bind_eq_some_iff] at h
    obtain ⟨s, hs, h⟩ := h
    split at h
    · rename_i hq
      simp only [Bool.and_eq_true, decide_eq_true_eq] at hq
      obtain ⟨⟨hes, hz⟩, hzl⟩ := hq
      obtain ⟨i, z, hi, hiz, hsz, hby, hza⟩ := info_of_cells hes hz
      rw [hza] at hzl
      have hzl : (abs0 z).cells.length = P.cellsOf e := by simpa using hzl
      -- a new row, and what it comes to
      have grown : ∀ (id0 : Option Nat) (base : Option Addr) (len c : Nat) (olds news : List Value) (n : Nat) (rs : List (List AVal)) (p : Bool), cd = .slice base len c → s.rs.length = n →
          ∀ typed : Bool, Go.Src P (P.cellsOf e) u cx n news w → Lies F w (inMap s.pure ρ) (P.cellsOf e) s.rs news →
          (Builtin.firstCells i.size len (.slice base len c)).run P w.drew = .ok olds.toArray w.drew → olds.length = rs.length * P.cellsOf e → rs.length = len →
          (∀ (i : Nat) (row : List AVal), rs[i]? = some row → row.length = P.cellsOf e) →
          (∀ (i j : Nat) (row : List AVal) (v : AVal), rs[i]? = some row → row[j]? = some v → ∃ cv, olds[i * P.cellsOf e + j]? = some cv ∧ VRel F w (inMap p ρ) v cv) →
          c < len + n → (len + n) * P.bytesOf e ≤ 140737488355328 → len + n ≤ 9223372036854775807 → out.v = .slc false σ.length (P.cellsOf e) 0 (len + n) none → out.σ = (match id0 with | some id => σ.set id .dead | none => σ) ++ [mkRows typed e (p && s.pure) (P.cellsOf e) (rs ++ s.rs)] →
          Fine P F w ρ σ out (Builtin.append_ #[t, u] ty #[cd, cx]) := by
        intro id0 base len c olds news n rs p e1 e2 typed hS hL hold holen hrl hw hv hc hb h63 hov hoσ
        subst e1
        have hS' : Go.Src P i.size u cx n news w := by rw [hsz]; exact hS
        have hrun := run_append_grow_src (P := P) w t u ty e i z hut hi hiz base len c olds hold cx n news hS' hc (by omega) (by rw [hby]; exact growslice_fits hc hb)
        generalize hg : grownCap w (len + n) c e = G at hrun
        have hG : len + n ≤ G := by rw [← hg]; exact grownCap_ge w (len + n) c e
        generalize hcells : (olds ++ news).toArray ++ Builtin.zeroCells z.cells (G - (len + n)) = cells at hrun
        have hzs : z.cells.size = P.cellsOf e := by
          unfold abs0 at hzl
          split at hzl
          · rename_i cs; simpa [AVal.cells, Value.cells] using hzl
          · rename_i hne
            have h1 : z.cells = #[z] := by unfold Value.cells; split <;> simp_all
            have h2 : (abs1 z).cells.length = 1 := by unfold abs1; split <;> rfl
            rw [h1]; rw [h2] at hzl; simp; omega
        have hcz : cells.size = G * P.cellsOf e := by
          rw [← hcells]
          have : s.rs.length = n := e2
          have hnl := hL.len
          simp only [Array.size_append, List.size_toArray, List.length_append, size_zeroCells, hzs, holen, hnl, hrl, this]
          obtain ⟨m, rfl⟩ : ∃ m, G = len + n + m := ⟨G - (len + n), by omega⟩
          rw [show len + n + m - (len + n) = m by omega, Nat.add_mul, Nat.add_mul]
        -- the heap of ours, the one that is done with struck
        have step : ∀ (σ1 : AState), σ1.length = σ.length → Rel ρ F σ1 w → Tr σ σ1 ρ ρ F F w w → out.σ = σ1 ++ [mkRows typed e (p && s.pure) (P.cellsOf e) (rs ++ s.rs)] → Fine P F w ρ σ out (Builtin.append_ #[t, u] ty #[.slice base len c, cx]) := by
          intro σ1 hlen r1 t1 hoσ
          obtain ⟨r2, t2⟩ := drew_rel r1
          have hm := upd_map r2 w.drew.heap.size
          have hFa := alloc_F r2 (.cells cells e)
          have hRa := alloc_row w.drew (.cells cells e)
          have hFb : ∀ b, F b → F b ∧ (w.drew.alloc (.cells cells e)).heap[b]? = w.heap[b]? := hFa
          have hRb : ∀ (b : Nat) (cs : Array Value) (T : TypeId) (fr : Nat × Nat), w.heap[b]? = some (.cells cs T fr) → ∃ cs' fr', (w.drew.alloc (.cells cells e)).heap[b]? = some (.cells cs' T fr') ∧ cs'.size = cs.size := hRa
          have hO : ORel F (w.drew.alloc (.cells cells e)) (updMap ρ σ1.length w.drew.heap.size) w.drew.heap.size (mkRows typed e (p && s.pure) (P.cellsOf e) (rs ++ s.rs)) := by
            have hLa : Lies F (w.drew.alloc (.cells cells e)) (inMap s.pure (updMap ρ σ1.length w.drew.heap.size)) (P.cellsOf e) s.rs news := hL.mono hFb hRb (inMap_mono _ hm)
            obtain ⟨g1, g2⟩ := lies_app (p := p) (q := s.pure) (rest := (Builtin.zeroCells z.cells (G - (len + n))).toList) (ρ' := updMap ρ σ1.length w.drew.heap.size) holen hw (fun i j row v h1 h2 => by
              obtain ⟨cv, h3, h4⟩ := hv i j row v h1 h2
              exact ⟨cv, h3, h4.mono hFb hRb (inMap_mono _ hm)⟩) hLa
            refine mkRows_of (T := e) (ORel.newT (heap_alloc_new' _ _) ?_ g1 ?_) (fun _ => rfl)
            · rw [hcz]; refine Nat.mul_le_mul_right _ ?_; rw [List.length_append, hrl, e2]; exact hG
            · intro i j row v h1 h2
              obtain ⟨cv, h3, h4⟩ := g2 i j row v h1 h2
              refine ⟨cv, ?_, h4⟩
              rw [← hcells, ← Array.getElem?_toList]
              simpa using h3
          obtain ⟨r3, t3⟩ := r2.alloc (.cells cells e) _ hO
          refine ⟨updMap ρ σ1.length w.drew.heap.size, F, _, _, hrun, ?_, ?_, ?_⟩
          · rw [hoσ]; exact Tr.trans r t1 (Tr.trans r1 t2 t3)
          · rw [hoσ]; exact r3
          · rw [hov]
            have := VRel.slc (F := F) (w := w.drew.alloc (.cells cells e)) (updMap ρ σ1.length w.drew.heap.size) σ.length (P.cellsOf e) 0 (len + n) none G w.heap.size (by simp [updMap, hlen]) hG (by simp) ⟨cells, e, _, heap_alloc_new' _ _, by rw [Nat.zero_add, hcz]; exact Nat.le_refl _⟩
            simp only [Nat.zero_mul] at this
            exact this
        cases id0 with
        | none => exact step σ rfl r (Tr.refl _ _ _ _) hoσ
        | some id =>
          obtain ⟨r1, t1⟩ := r.kill id (fun _ => False) (fun _ h => h.elim)
          have hFF : (fun b => F b ∨ False) = F := by funext b; simp
          rw [hFF] at r1 t1
          exact step _ (by simp) r1 t1 hoσ
      split at h
      · rename_i isnil id es' off len cap
        split at h
        · rename_i p es'' rs ho
          split at h
          · rename_i he
            simp only [Bool.and_eq_true, beq_iff_eq] at he
            obtain ⟨⟨he1, he2⟩, rfl⟩ := he
            subst he1; subst he2
            cases h
            obtain ⟨hrl, hcs⟩ := hcs.cons
            obtain ⟨hb, hcs⟩ := hcs.cons
            have hrl := of_decide_eq_true hrl
            obtain ⟨hb, h63⟩ := of_decide_eq_true hb
            obtain ⟨news, hS, hL⟩ := srcA_of r hx hs hcs
            obtain ⟨o0, hid, _, hlv0, ho0⟩ := objP_some ho rfl
            rcases hd.slc_inv with ⟨rfl, c, b, hbb, hlc, hcp, ⟨ca, T, fr, h1, hfit⟩, rfl⟩ | ⟨rfl, base0, hbn, hcp, rfl⟩
            · obtain ⟨ca', T', fr', h1', h2, h3, h4, h5⟩ := r.objP ho rfl hbb
              rw [h1] at h1'; cases h1'
              have holdget : ∀ (i j : Nat) (row : List AVal) (v : AVal), rs[i]? = some row → row[j]? = some v → i * P.cellsOf e + j < len * P.cellsOf e := by
                intro i j row v e1 e2
                have g1 := (List.getElem?_eq_some_iff.1 e1).1
                have g2 : j < P.cellsOf e := by rw [← h4 i row e1]; exact (List.getElem?_eq_some_iff.1 e2).1
                exact mul_add_lt (by omega) g2
              have hlenc : len * P.cellsOf e ≤ ca.size := by rw [← hrl]; exact h3
              by_cases hroom : len + s.rs.length ≤ c
              · -- in place
                have hspace : (len + s.rs.length) * P.cellsOf e ≤ ca.size := Nat.le_trans (Nat.mul_le_mul_right _ hroom) (by rw [Nat.zero_add] at hfit; exact hfit)
                have hnl := hL.len
                rw [Nat.add_mul] at hspace
                have hlo : (0 : Nat) * P.cellsOf e = 0 := Nat.zero_mul _
                have hS' : Go.Src P i.size u cx s.rs.length news w := by rw [hsz]; exact hS
                have hrun := run_append_room_src (P := P) w t u ty e i hut hi b (0 * P.cellsOf e) len c cx s.rs.length news hS' hroom
                  (fun j hj => by rw [cell_of_row w b _ ca T fr h1, Array.getElem?_eq_getElem (by rw [hsz]; omega)]; rfl) (fun j hj => h2 _ (by rw [hsz]; omega))
                rw [hsz, hlo, Nat.zero_add] at hrun
                obtain ⟨g1, g2, g3, g4⟩ := setCells_rest news w b (len * P.cellsOf e)
                have hLive : Live ρ σ b := ⟨id, _, hid, hlv0, hbb⟩
                have hF : ∀ x, F x → F x ∧ (w.setCells b (len * P.cellsOf e) news).heap[x]? = w.heap[x]? := fun x hx => ⟨hx, setCells_heap_other _ _ _ _ _ (fun e => (r.fr x hx).2 (e ▸ hLive))⟩
                have hR : ∀ (x : Nat) (ca : Array Value) (T : TypeId) (fr : Nat × Nat), w.heap[x]? = some (.cells ca T fr) → ∃ cs' fr', (w.setCells b (len * P.cellsOf e) news).heap[x]? = some (.cells cs' T fr') ∧ cs'.size = ca.size := by
                  intro x ca T fr h
                  by_cases e : x = b
                  · subst e; exact ⟨_, _, setCells_heap_same _ _ _ _ _ _ _ h, setA_size _ _ _⟩
                  · exact ⟨ca, _, (setCells_heap_other _ _ _ _ _ e).trans h, rfl⟩
                have hm := upd_map r b
                have hLa := hL.mono hF hR (inMap_mono s.pure hm)
                have hsa : ∀ k, (setA ca (len * P.cellsOf e) news)[k]? = if len * P.cellsOf e ≤ k ∧ k < len * P.cellsOf e + news.length then news[k - len * P.cellsOf e]? else ca[k]? := fun k => setA_get _ _ _ _ (by omega)
                obtain ⟨q1, q2⟩ := lies_app (p := p) (q := s.pure) (rest := []) (ρ' := updMap ρ σ.length b) (F' := F) (w' := w.setCells b (len * P.cellsOf e) news) (olds := (ca.toList.take (len * P.cellsOf e))) (es := P.cellsOf e) (rs := rs) (by simp; rw [hrl]; omega) h4 (fun i j row v e1 e2 => by
                  obtain ⟨cv, e3, e4⟩ := h5 i j row v e1 e2
                  refine ⟨cv, ?_, e4.mono hF hR (inMap_mono _ hm)⟩
                  rw [List.getElem?_take, if_pos (holdget i j row v e1 e2)]
                  simpa using e3) hLa
                have hO : ORel F (w.setCells b (len * P.cellsOf e) news) (updMap ρ σ.length b) b (mkRows (isU8 P e && isTyped (Abs.obj σ id) e) e (p && s.pure) (P.cellsOf e) (rs ++ s.rs)) := by
                  refine mkRows_of (T := T) ?_ (fun h => typed_eq r hid ho0 hbb h1 _ h)
                  refine ⟨_, fr, setCells_heap_same _ _ _ _ _ _ _ h1, fun o ho => ?_, ?_, q1, ?_⟩
                  · rw [setA_size] at ho; rw [World.frozen?_setCells]; exact h2 o ho
                  · rw [setA_size, List.length_append, Nat.add_mul, hrl]; exact hspace
                  · intro i j row v e1 e2
                    obtain ⟨cv, e3, e4⟩ := q2 i j row v e1 e2
                    refine ⟨cv, ?_, e4⟩
                    rw [List.append_nil] at e3
                    rw [hsa]
                    have htl : (ca.toList.take (len * P.cellsOf e)).length = len * P.cellsOf e := by simp; omega
                    rw [List.getElem?_append, htl] at e3
                    by_cases hk : i * P.cellsOf e + j < len * P.cellsOf e
                    · rw [if_neg (by omega)]
                      rw [if_pos hk, List.getElem?_take, if_pos hk] at e3
                      simpa using e3
                    · rw [if_neg hk] at e3
                      have := (List.getElem?_eq_some_iff.1 e3).1
                      rw [if_pos (by omega)]
                      exact e3
                obtain ⟨r', t'⟩ := r.renew hid hlv0 hbb g1 g2 g3 g4 (fun x hx => setCells_heap_other _ _ _ _ _ hx) (fun cs0 T fr h => hR b cs0 T fr h) hO
                refine ⟨_, F, _, _, by rw [hlo]; exact hrun, t', r', ?_⟩
                have := VRel.slc (F := F) (w := w.setCells b (len * P.cellsOf e) news) (updMap ρ σ.length b) σ.length (P.cellsOf e) 0 (len + s.rs.length) none c b (by simp [updMap]) hroom (by simp) ⟨_, T, fr, setCells_heap_same _ _ _ _ _ _ _ h1, by rw [setA_size]; exact hfit⟩
                simp only [Nat.zero_mul] at this
                simpa using this
              · refine grown (some id) (some ⟨b, 0 * P.cellsOf e, none⟩) len c (ca.toList.take (len * P.cellsOf e)) news s.rs.length rs p rfl rfl _ hS hL ?_ (by simp; rw [hrl]; omega) hrl h4 ?_ (by omega) hb h63 (by simp) rfl
                · rw [hsz]
                  refine run_firstCells_some (P := P) w.drew (P.cellsOf e) len _ len c (ca.toList.take (len * P.cellsOf e)) (by simp; omega) (fun j v hj => ?_)
                  rw [List.getElem?_take] at hj
                  split at hj
                  · rw [Nat.zero_mul, add_addr, Nat.zero_add, World.cell?_drew, cell_of_row w b _ ca T fr h1]; simpa using hj
                  · cases hj
                · intro i j row v e1 e2
                  obtain ⟨cv, e3, e4⟩ := h5 i j row v e1 e2
                  refine ⟨cv, ?_, e4⟩
                  rw [List.getElem?_take, if_pos (holdget i j row v e1 e2)]
                  simpa using e3
            · have hrs : rs = [] := List.eq_nil_of_length_eq_zero hrl
              subst hrs
              by_cases hn0 : s.rs = []
              · have hS0 : Go.Src P i.size u cx 0 [] w := by
                  have : news = [] := List.eq_nil_of_length_eq_zero (by rw [hL.len, hn0]; simp)
                  rw [hsz]; rw [hn0, this] at hS; exact hS
                have hrun := run_append_nothing (P := P) w t u ty e i hut hi base0 0 0 (Nat.le_refl _) cx hS0
                obtain ⟨r1, t1⟩ := r.kill id (fun _ => False) (fun _ h => h.elim)
                have hFF : (fun b => F b ∨ False) = F := by funext b; simp
                rw [hFF] at r1 t1
                obtain ⟨r2, t2⟩ := r1.push (mkRows (isU8 P e && isTyped (Abs.obj σ id) e) e (p && s.pure) (P.cellsOf e) ([] ++ s.rs))
                refine ⟨ρ, F, w, _, hrun, Tr.trans r t1 t2, r2, ?_⟩
                have := VRel.slcE (F := F) (w := w) ρ isnil σ.length (P.cellsOf e) 0 none base0 hbn (by simp)
                simpa [hn0] using this
              · have hfc : (Builtin.firstCells i.size 0 (.slice base0 0 0)).run P w.drew = .ok ([] : List Value).toArray w.drew := by
                  cases base0 with
                  | none => exact run_firstCells_none w.drew i.size 0 0 0
                  | some a => exact run_firstCells_some w.drew i.size 0 a 0 0 [] (by simp) (fun j v h => by simp at h)
                have hpos : 0 < s.rs.length := List.length_pos_iff.2 hn0
                refine grown (some id) base0 0 0 [] news s.rs.length [] p rfl rfl _ hS hL hfc (by simp) rfl (fun i row h => by simp at h) (fun i j row v h => by simp at h) (by omega) hb h63 ?_ rfl
                simp [hn0]
          · cases h
        · cases h
      · rename_i es' rows cap
        cases h
        obtain ⟨hb, hcs⟩ := hcs.cons
        obtain ⟨hb, h63⟩ := of_decide_eq_true hb
        obtain ⟨news, hS, hL⟩ := srcA_of r hx hs hcs
        rcases hd.fsl_inv with ⟨_, rfl, hcp, rfl⟩ | ⟨h, _⟩
        · by_cases hn0 : s.rs = []
          · have hS0 : Go.Src P i.size u cx 0 [] w := by
              have : news = [] := List.eq_nil_of_length_eq_zero (by rw [hL.len, hn0]; simp)
              rw [hsz]; rw [hn0, this] at hS; exact hS
            have hrun := run_append_nothing (P := P) w t u ty e i hut hi none 0 0 (Nat.le_refl _) cx hS0
            obtain ⟨r2, t2⟩ := r.push (mkRows (isU8 P e) e s.pure (P.cellsOf e) s.rs)
            refine ⟨ρ, F, w, _, hrun, t2, r2, ?_⟩
            have := VRel.slcE (F := F) (w := w) ρ true σ.length (P.cellsOf e) 0 none none rfl (by simp)
            simpa [hn0] using this
          · have hpos : 0 < s.rs.length := List.length_pos_iff.2 hn0
            refine grown none none 0 0 [] news s.rs.length [] true rfl rfl (isU8 P e) hS hL (run_firstCells_none w.drew i.size 0 0 0) (by simp) rfl (fun i row h => by simp at h) (fun i j row v h => by simp at h) (by omega) (by rw [Nat.zero_add]; exact hb) (by omega) ?_ (by simp)
            simp [hn0]
        · cases h
      · cases h
    · cases h
  · cases h

end
end Go.Abs
