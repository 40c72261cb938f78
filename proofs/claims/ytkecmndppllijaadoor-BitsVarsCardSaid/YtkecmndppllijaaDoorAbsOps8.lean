import Derived.Test.YtkecmndppllijaaDoorAbsOps7
import Derived.Deep.AppendSrc
import Derived.Deep.Upon
set_option linter.unusedVariables false
set_option linter.unusedSimpArgs false
namespace Go.Abs

section
variable {P : Program} {F : Nat → Prop} {w : World} {ρ : RMap} {σ : AState}

/-- what rows of cells come to, cell by cell -/
structure Lies (F : Nat → Prop) (w : World) (ρ : RMap) (es : Nat) (rs : List (List AVal)) (news : List Value) : Prop where
  len : news.length = rs.length * es
  wide : ∀ (i : Nat) (row : List AVal), rs[i]? = some row → row.length = es
  rel : ∀ (i j : Nat) (row : List AVal) (v : AVal), rs[i]? = some row → row[j]? = some v → ∃ cv, news[i * es + j]? = some cv ∧ VRel F w ρ v cv
  one : ∀ u ∈ news, u.oneCell' = true

theorem div_mod_lt {k n es : Nat} (h : k < n * es) : k / es < n ∧ k % es < es ∧ k / es * es + k % es = k := by
  have h0 : 0 < es := by rcases Nat.eq_zero_or_pos es with h1 | h1; subst h1; omega; exact h1
  exact ⟨Nat.div_lt_of_lt_mul (by rw [Nat.mul_comm]; exact h), Nat.mod_lt _ h0, by rw [Nat.mul_comm]; exact Nat.div_add_mod k es⟩
theorem mul_add_div {i j es : Nat} (h : j < es) : (i * es + j) / es = i ∧ (i * es + j) % es = j := by
  have h0 : 0 < es := by omega
  refine ⟨?_, ?_⟩
  · rw [Nat.mul_comm, Nat.mul_add_div h0, Nat.div_eq_of_lt h]; rfl
  · rw [Nat.mul_comm, Nat.mul_add_mod, Nat.mod_eq_of_lt h]
theorem mul_add_lt {i j n es : Nat} (hi : i < n) (hj : j < es) : i * es + j < n * es := by
  have := Nat.mul_le_mul_right es hi
  rw [Nat.succ_mul] at this
  omega

theorem oneCell_rel {v : AVal} {c : Value} (h : VRel F w ρ v c) (ho : oneCell v = true) : c.oneCell' = true := by
  cases h <;> simp_all [oneCell, Value.oneCell']

theorem Lies.of_fun {es : Nat} {rs : List (List AVal)} {f : Nat → Nat → Value} (hw : ∀ (i : Nat) (row : List AVal), rs[i]? = some row → row.length = es)
    (hv : ∀ (i j : Nat) (row : List AVal) (v : AVal), rs[i]? = some row → row[j]? = some v → VRel F w ρ v (f i j)) (hone : (rs.all fun r => r.all oneCell) = true) :
    Lies F w ρ es rs ((List.range (rs.length * es)).map fun k => f (k / es) (k % es)) := by
  refine ⟨by simp, hw, ?_, ?_⟩
  · intro i j row v h1 h2
    have hi := (List.getElem?_eq_some_iff.1 h1).1
    have hj : j < es := by rw [← hw i row h1]; exact (List.getElem?_eq_some_iff.1 h2).1
    obtain ⟨e1, e2⟩ := mul_add_div (i := i) hj
    refine ⟨f i j, ?_, hv i j row v h1 h2⟩
    rw [List.getElem?_map, List.getElem?_range (mul_add_lt hi hj)]
    simp [e1, e2]
  · intro u hu
    obtain ⟨k, hk, rfl⟩ := List.mem_map.1 hu
    obtain ⟨h1, h2, _⟩ := div_mod_lt (List.mem_range.1 hk)
    have e1 := List.getElem?_eq_getElem h1
    have h3 : k % es < (rs[k / es]).length := by rw [hw _ _ e1]; exact h2
    have e2 := List.getElem?_eq_getElem h3
    rw [List.all_eq_true] at hone
    have := hone _ (List.mem_of_getElem? e1)
    rw [List.all_eq_true] at this
    exact oneCell_rel (hv _ _ _ _ e1 e2) (this _ (List.mem_of_getElem? e2))

theorem cells_of_fun {es b o : Nat} {rs : List (List AVal)} {f : Nat → Nat → Value} (hw : ∀ (i : Nat) (row : List AVal), rs[i]? = some row → row.length = es)
    (hg : ∀ (i j : Nat) (row : List AVal) (v : AVal), rs[i]? = some row → row[j]? = some v → w.cell? ⟨b, o + i * es + j, none⟩ = some (f i j)) :
    ∀ j u, ((List.range (rs.length * es)).map fun k => f (k / es) (k % es))[j]? = some u → w.cell? ((⟨b, o, none⟩ : Addr).add j) = some u := by
  intro k u hu
  have hk : k < rs.length * es := by have := (List.getElem?_eq_some_iff.1 hu).1; simpa using this
  rw [List.getElem?_map, List.getElem?_range hk] at hu
  simp only [Option.map_some, Option.some.injEq] at hu
  obtain ⟨h1, h2, h3⟩ := div_mod_lt hk
  have e1 := List.getElem?_eq_getElem h1
  have h4 : k % es < (rs[k / es]).length := by rw [hw _ _ e1]; exact h2
  rw [add_addr, ← hu, ← hg _ _ _ _ e1 (List.getElem?_eq_getElem h4), Nat.add_assoc, h3]

/-- What a slice that is appended, or turned into a text, yields. -/
theorem src_of {es : Nat} {x : AVal} {cx : Value} {s : Src} {tx e' : TypeId} (r : Rel ρ F σ w) (hx : VRel F w ρ x cx) (h : rowsOf es σ x = some s) (hcs : allP s.cs) (hk : P.underlying tx = some (.slice e')) :
    ∃ (base : Option Addr) (c : Nat) (news : List Value), cx = .slice base s.rs.length c ∧ Go.Src P es tx cx s.rs.length news w ∧ Lies F w (inMap s.pure ρ) es s.rs news ∧
      (base = none → s.rs = []) ∧ ∀ a, base = some a → ∀ j u, news[j]? = some u → w.cell? (a.add j) = some u := by
  unfold rowsOf at h
  split at h
  · rename_i isnil id es1 off len cap
    split at h
    · rename_i p es2 rs ho
      split at h
      · rename_i he
        simp only [Bool.and_eq_true, beq_iff_eq] at he
        obtain ⟨rfl, rfl⟩ := he
        cases h
        obtain ⟨hlen, hcs⟩ := hcs.cons
        have hone := hcs.cons.1
        have hlen := of_decide_eq_true hlen
        have hlr : ((rs.drop off).take len).length = len := by simp; omega
        have hget : ∀ (i : Nat) (row : List AVal), ((rs.drop off).take len)[i]? = some row → rs[off + i]? = some row := by
          intro i row h
          rw [List.getElem?_take] at h
          split at h
          · rwa [List.getElem?_drop] at h
          · cases h
        rcases hx.slc_inv with ⟨_, c, b, hb, hl, hcp, hs, rfl⟩ | ⟨rfl, base, hbn, hcp, rfl⟩
        · obtain ⟨cs, T, fr, h1, h2, h3, h4, h5⟩ := r.objP ho rfl hb
          have hw : ∀ (i : Nat) (row : List AVal), ((rs.drop off).take len)[i]? = some row → row.length = es := fun i row h => h4 _ _ (hget i row h)
          have hg : ∀ (i j : Nat) (row : List AVal) (v : AVal), ((rs.drop off).take len)[i]? = some row → row[j]? = some v → w.cell? ⟨b, off * es + i * es + j, none⟩ = some (cs.getD ((off + i) * es + j) undef) := by
            intro i j row v e1 e2
            obtain ⟨cv, e3, _⟩ := h5 _ _ _ _ (hget i row e1) e2
            rw [cell_of_row w b _ cs T fr h1, show off * es + i * es + j = (off + i) * es + j by rw [Nat.add_mul], e3, Array.getD_eq_getD_getElem?, e3]; rfl
          have hv : ∀ (i j : Nat) (row : List AVal) (v : AVal), ((rs.drop off).take len)[i]? = some row → row[j]? = some v → VRel F w (inMap p ρ) v (cs.getD ((off + i) * es + j) undef) := by
            intro i j row v e1 e2
            obtain ⟨cv, e3, e4⟩ := h5 _ _ _ _ (hget i row e1) e2
            rw [Array.getD_eq_getD_getElem?, e3]; exact e4
          have hL := Lies.of_fun hw hv hone
          refine ⟨some ⟨b, off * es, none⟩, c, _, by rw [hlr], ?_, hL, (fun h => by cases h), fun a ha => ?_⟩
          · have := Go.Src.ofSlice (P := P) w hk ⟨b, off * es, none⟩ ((rs.drop off).take len).length c _ hL.len (cells_of_fun hw hg) hL.one
            rw [hlr] at this ⊢
            exact this
          · cases ha; exact cells_of_fun hw hg
        · refine ⟨base, 0, [], by simp, ?_, ⟨by simp, (fun i row h => by simp at h), (fun i j row v h => by simp at h), (fun u hu => by simp at hu)⟩, (fun _ => by simp), (fun a h j u hj => by simp at hj)⟩
          rw [List.take_zero]
          cases base with
          | none => exact Go.Src.ofNil (P := P) w hk 0
          | some a => exact Go.Src.ofSlice (P := P) w hk a 0 0 [] (by simp) (fun j u h => by simp at h) (fun u h => by simp at h)
      · cases h
    · cases h
  · rename_i isnil es1 rs cap
    split at h
    · rename_i he
      cases h
      have hone := hcs.cons.1
      rcases hx.fsl_inv with ⟨_, rfl, _, rfl⟩ | ⟨hn, a, c, hl, _, rfl, h | ⟨b, o, f, rfl, hF, hw, hg, hv⟩⟩
      · refine ⟨none, 0, [], by simp, ?_, ⟨by simp, (fun i row h => by simp at h), (fun i j row v h => by simp at h), (fun u hu => by simp at hu)⟩, fun _ => rfl, fun a h => by cases h⟩
        simpa using Go.Src.ofNil (P := P) w hk 0
      · subst h
        refine ⟨some a, c, [], by simp, ?_, ⟨by simp, (fun i row h => by simp at h), (fun i j row v h => by simp at h), (fun u hu => by simp at hu)⟩, fun _ => rfl, fun a h j u hj => by simp at hj⟩
        simpa using Go.Src.ofSlice (P := P) w hk a 0 c [] (by simp) (fun j u h => by simp at h) (fun u h => by simp at h)
      · have he : es = es1 := by subst hn; simpa using he
        subst he
        have hL := Lies.of_fun hw hv hone
        refine ⟨some ⟨b, o, none⟩, c, _, rfl, Go.Src.ofSlice (P := P) w hk ⟨b, o, none⟩ rs.length c _ hL.len (cells_of_fun hw hg) hL.one, hL, (fun h => by cases h), fun a ha => ?_⟩
        cases ha; exact cells_of_fun hw hg
    · cases h
  · cases h

/-- An object of which nothing stands in memory (of an empty slice). -/
theorem Rel.push (r : Rel ρ F σ w) (A : AObj) : Rel ρ F (σ ++ [A]) w ∧ Tr σ (σ ++ [A]) ρ ρ F F w w := by
  have hold : ∀ id o' b, (σ ++ [A])[id]? = some o' → ρ id = some b → σ[id]? = some o' := by
    intro id o' b h h2
    rcases Nat.lt_or_ge id σ.length with h1 | h1
    · rwa [List.getElem?_append_left h1] at h
    · rw [r.dom _ h1] at h2; cases h2
  refine ⟨⟨fun id o b h1 h2 => r.obj id o b (hold id o b h1 h2) h2, fun id id' o o' b h1 h2 h3 h4 h5 h6 => r.inj _ _ _ _ _ (hold _ _ _ h1 h5) (hold _ _ _ h2 h6) h3 h4 h5 h6,
    fun b hb => ⟨(r.fr b hb).1, fun ⟨id, o, h1, h2, h3⟩ => (r.fr b hb).2 ⟨id, o, hold _ _ _ h1 h3, h2, h3⟩⟩, r.lt, fun id h => r.dom id (by simp at h; omega)⟩,
    ⟨fun _ _ h => h, fun _ h => h, rfl, rfl, rfl, Nat.le_refl _, fun _ cs _ _ h => ⟨cs, _, h, rfl⟩, fun _ _ _ => rfl, fun _ h => .inl h, fun _ _ h => .inl h, by simp, fun id o' h1 h2 h3 => ⟨o', by rwa [List.getElem?_append_left h3] at h1, h2⟩⟩⟩

/-- An object's block goes over to a new object. -/
theorem Rel.renew (r : Rel ρ F σ w) {w' : World} {id b : Nat} {o0 A : AObj} (hid : σ[id]? = some o0) (hl : o0.live = true) (hρ : ρ id = some b) (hsz : w'.heap.size = w.heap.size)
    (hos : w'.os = w.os) (htp : w'.tape = w.tape) (hout : w'.output = w.output) (hother : ∀ x, x ≠ b → w'.heap[x]? = w.heap[x]?)
    (hrow : ∀ (cs : Array Value) (T : TypeId) (fr : Nat × Nat), w.heap[b]? = some (.cells cs T fr) → ∃ cs' fr', w'.heap[b]? = some (.cells cs' T fr') ∧ cs'.size = cs.size)
    (hA : ORel F w' (updMap ρ σ.length b) b A) :
    Rel (updMap ρ σ.length b) F (σ.set id .dead ++ [A]) w' ∧ Tr σ (σ.set id .dead ++ [A]) ρ (updMap ρ σ.length b) F F w w' := by
  have hidl : id < σ.length := (List.getElem?_eq_some_iff.1 hid).1
  have hLive : Live ρ σ b := ⟨id, o0, hid, hl, hρ⟩
  have hmap := upd_map r b
  have hF : ∀ x, F x → F x ∧ w'.heap[x]? = w.heap[x]? := fun x hx => ⟨hx, hother x (fun e => (r.fr x hx).2 (e ▸ hLive))⟩
  have hR : ∀ (x : Nat) (cs : Array Value) (T : TypeId) (fr : Nat × Nat), w.heap[x]? = some (.cells cs T fr) → ∃ cs' fr', w'.heap[x]? = some (.cells cs' T fr') ∧ cs'.size = cs.size := by
    intro x cs T fr h
    by_cases e : x = b
    · subst e; exact hrow cs T fr h
    · exact ⟨cs, _, (hother x e).trans h, rfl⟩
  have hcase : ∀ (x : Nat) (o' : AObj), (σ.set id .dead ++ [A])[x]? = some o' → (x = id ∧ o' = .dead) ∨ (x ≠ id ∧ x < σ.length ∧ σ[x]? = some o') ∨ (x = σ.length ∧ o' = A) := by
    intro x o' h
    rcases Nat.lt_or_ge x σ.length with h1 | h1
    · rw [List.getElem?_append_left (by simpa using h1), List.getElem?_set] at h
      by_cases e : id = x
      · subst e; simp only [if_true, hidl] at h; exact .inl ⟨rfl, by simpa using h.symm⟩
      · simp only [e, if_false] at h; exact .inr (.inl ⟨fun e' => e e'.symm, h1, h⟩)
    · rw [List.getElem?_append_right (by simpa using h1)] at h
      simp only [List.length_set] at h
      have : x - σ.length = 0 := by have := (List.getElem?_eq_some_iff.1 h).1; simp at this; omega
      rw [this] at h
      exact .inr (.inr ⟨by omega, by simpa using h.symm⟩)
  have hval : ∀ x y, updMap ρ σ.length b x = some y → (x ≠ σ.length ∧ ρ x = some y) ∨ (x = σ.length ∧ y = b) := by
    intro x y h
    unfold updMap at h
    split at h
    · exact .inr ⟨by assumption, by simpa using h.symm⟩
    · exact .inl ⟨by assumption, h⟩
  have hne : ∀ x o' , x ≠ id → σ[x]? = some o' → o'.live = true → ρ x ≠ some b := fun x o' h1 h2 h3 h4 => h1 (r.inj _ _ _ _ _ h2 hid h3 hl h4 hρ)
  refine ⟨⟨?_, ?_, ?_, ?_, ?_⟩, ⟨hmap, fun _ h => h, hos, htp, hout, by rw [hsz]; exact Nat.le_refl _, hR, ?_, fun _ h => .inl h, ?_, by simp, ?_⟩⟩
  · intro x o' y h1 h2
    rcases hcase x o' h1 with ⟨_, rfl⟩ | ⟨h3, h4, h5⟩ | ⟨h3, rfl⟩
    · trivial
    · rcases hval x y h2 with ⟨_, h6⟩ | ⟨h6, _⟩
      · cases o' with
        | dead => trivial
        | rows p es rs => exact (r.obj x _ y h5 h6).move (hother y (fun e => hne x _ h3 h5 rfl (e ▸ h6))) hF hR hmap
        | trows T0 p es rs => exact (r.obj x _ y h5 h6).move (hother y (fun e => hne x _ h3 h5 rfl (e ▸ h6))) hF hR hmap
        | mp p es => exact (r.obj x _ y h5 h6).move (hother y (fun e => hne x _ h3 h5 rfl (e ▸ h6))) hF hR hmap
      · omega
    · rcases hval x y h2 with ⟨h6, _⟩ | ⟨_, h6⟩
      · exact absurd h3 h6
      · subst h6; exact hA
  · intro x y o1 o2 z h1 h2 h3 h4 h5 h6
    rcases hcase x o1 h1 with ⟨_, rfl⟩ | ⟨g1, g2, g3⟩ | ⟨g1, g2⟩
    · cases h3
    · rcases hcase y o2 h2 with ⟨_, rfl⟩ | ⟨g4, g5, g6⟩ | ⟨g4, g5⟩
      · cases h4
      · rcases hval x z h5 with ⟨_, e1⟩ | ⟨e1, _⟩
        · rcases hval y z h6 with ⟨_, e2⟩ | ⟨e2, _⟩
          · exact r.inj _ _ _ _ _ g3 g6 h3 h4 e1 e2
          · omega
        · omega
      · rcases hval x z h5 with ⟨_, e1⟩ | ⟨e1, _⟩
        · rcases hval y z h6 with ⟨e2, _⟩ | ⟨_, e2⟩
          · exact absurd g4 e2
          · subst e2; exact absurd e1 (hne x _ g1 g3 h3)
        · omega
    · rcases hcase y o2 h2 with ⟨_, rfl⟩ | ⟨g4, g5, g6⟩ | ⟨g4, g5⟩
      · cases h4
      · rcases hval y z h6 with ⟨_, e1⟩ | ⟨e1, _⟩
        · rcases hval x z h5 with ⟨e2, _⟩ | ⟨_, e2⟩
          · exact absurd g1 e2
          · subst e2; exact absurd e1 (hne y _ g4 g6 h4)
        · omega
      · omega
  · intro x hx
    refine ⟨by rw [hsz]; exact (r.fr x hx).1, ?_⟩
    rintro ⟨y, o', h1, h2, h3⟩
    rcases hcase y o' h1 with ⟨_, rfl⟩ | ⟨g1, g2, g3⟩ | ⟨g1, g2⟩
    · cases h2
    · rcases hval y x h3 with ⟨_, e⟩ | ⟨e, _⟩
      · exact (r.fr x hx).2 ⟨y, o', g3, h2, e⟩
      · omega
    · rcases hval y x h3 with ⟨e, _⟩ | ⟨_, e⟩
      · exact e g1
      · subst e; exact (r.fr x hx).2 hLive
  · intro x y h
    rw [hsz]
    rcases hval x y h with ⟨_, e⟩ | ⟨_, e⟩
    · exact r.lt _ _ e
    · subst e; exact r.lt _ _ hρ
  · intro x h
    simp only [List.length_append, List.length_set, List.length_singleton] at h
    unfold updMap
    rw [if_neg (by omega)]
    exact r.dom x (by omega)
  · intro x hx hn
    exact hother x (fun e => hn (e ▸ hLive))
  · intro x y h
    rcases hval x y h with ⟨_, e⟩ | ⟨e1, e2⟩
    · exact .inl e
    · subst e2; exact .inr ⟨by omega, .inr hLive⟩
  · intro x o' h1 h2 h3
    rcases hcase x o' h1 with ⟨_, rfl⟩ | ⟨_, _, g⟩ | ⟨g, _⟩
    · cases h2
    · exact ⟨o', g, h2⟩
    · omega

end
end Go.Abs
