import Derived.Test.YtkecmndppllijaaDoorAbsOps1
set_option linter.unusedVariables false
set_option linter.unusedSimpArgs false
namespace Go.Abs

section
variable {P : Program} {F : Nat → Prop} {w : World} {ρ : RMap} {σ : AState}

def allP (cs : List Prop) : Prop := ∀ p ∈ cs, p
theorem allP.append {a b : List Prop} (h : allP (a ++ b)) : allP a ∧ allP b := ⟨fun p hp => h p (by simp [hp]), fun p hp => h p (by simp [hp])⟩
theorem allP.cons {a : Prop} {b : List Prop} (h : allP (a :: b)) : a ∧ allP b := ⟨h a (by simp), fun p hp => h p (by simp [hp])⟩

def Fine (P : Program) (F : Nat → Prop) (w : World) (ρ : RMap) (σ : AState) (out : Out) (s : Sem Value) : Prop :=
  ∃ ρ' F' w' cv, s.run P w = .ok cv w' ∧ Tr σ out.σ ρ ρ' F F' w w' ∧ Rel ρ' F' out.σ w' ∧ VRel F' w' ρ' out.v cv
def FineU (P : Program) (F : Nat → Prop) (w : World) (ρ : RMap) (σ : AState) (out : Out) (s : Sem Unit) : Prop :=
  ∃ ρ' F' w', s.run P w = .ok () w' ∧ Tr σ out.σ ρ ρ' F F' w w' ∧ Rel ρ' F' out.σ w' ∧ out.v = aundef

theorem Fine.same {out : Out} {s : Sem Value} {cv : Value} (r : Rel ρ F σ w) (h : s.run P w = .ok cv w) (hσ : out.σ = σ) (hv : VRel F w ρ out.v cv) : Fine P F w ρ σ out s := by
  rw [Fine]; rw [hσ]; exact ⟨ρ, F, w, cv, h, Tr.refl _ _ _ _, r, hv⟩

theorem ORel.move {F' : Nat → Prop} {w' : World} {ρ' : RMap} {b : Nat} {o : AObj} (h : ORel F w ρ b o) (hb : w'.heap[b]? = w.heap[b]?)
    (hF : ∀ b, F b → F' b ∧ w'.heap[b]? = w.heap[b]?)
    (hrow : ∀ (b : Nat) (cs : Array Value) (T : TypeId) (fr : Nat × Nat), w.heap[b]? = some (.cells cs T fr) → ∃ cs' fr', w'.heap[b]? = some (.cells cs' T fr') ∧ cs'.size = cs.size)
    (hρ : ∀ id b, ρ id = some b → ρ' id = some b) : ORel F' w' ρ' b o := by
  have hm : ∀ p id x, inMap p ρ id = some x → inMap p ρ' id = some x := by
    intro p id x; unfold inMap; cases p
    · exact hρ id x
    · exact fun h => h
  cases o with
  | dead => trivial
  | rows p es rs =>
    obtain ⟨cs, T, fr, h1, h2, h3, h4, h5⟩ := h
    refine ⟨cs, T, fr, hb.trans h1, ?_, h3, h4, ?_⟩
    · intro o ho
      have := h2 o ho
      unfold World.frozen? at this ⊢
      simp only [hb, h1] at this ⊢
      exact this
    · intro i j row v e1 e2
      obtain ⟨cv, e3, e4⟩ := h5 i j row v e1 e2
      exact ⟨cv, e3, e4.mono hF hrow (hm p)⟩
  | trows T0 p es rs =>
    obtain ⟨cs, fr, h1, h2, h3, h4, h5⟩ := h
    refine ⟨cs, fr, hb.trans h1, ?_, h3, h4, ?_⟩
    · intro o ho
      have := h2 o ho
      unfold World.frozen? at this ⊢
      simp only [hb, h1] at this ⊢
      exact this
    · intro i j row v e1 e2
      obtain ⟨cv, e3, e4⟩ := h5 i j row v e1 e2
      exact ⟨cv, e3, e4.mono hF hrow (hm p)⟩
  | mp p ents =>
    obtain ⟨es, clock, h1, h2, h3⟩ := h
    refine ⟨es, clock, hb.trans h1, h2, ?_⟩
    intro i k v e1
    obtain ⟨e, e2, e3, e4⟩ := h3 i k v e1
    exact ⟨e, e2, e3.mono hF hrow (hm p), e4.mono hF hrow (hm p)⟩

def updMap (ρ : RMap) (id b : Nat) : RMap := fun x => if x = id then some b else ρ x

theorem heap_alloc_lt (w : World) (o : Obj) {b : Nat} (h : b < w.heap.size) : (w.alloc o).heap[b]? = w.heap[b]? := by
  show (w.heap.push o)[b]? = _
  rw [Array.getElem?_push_lt h, Array.getElem?_eq_getElem h]
theorem heap_alloc_new' (w : World) (o : Obj) : (w.alloc o).heap[w.heap.size]? = some o := by
  show (w.heap.push o)[w.heap.size]? = _
  simp

theorem alloc_F (r : Rel ρ F σ w) (o : Obj) : ∀ b, F b → F b ∧ (w.alloc o).heap[b]? = w.heap[b]? := fun b hb => ⟨hb, heap_alloc_lt w o (r.fr b hb).1⟩
theorem alloc_row (w : World) (o : Obj) : ∀ (b : Nat) (cs : Array Value) (T : TypeId) (fr : Nat × Nat), w.heap[b]? = some (.cells cs T fr) → ∃ cs' fr', (w.alloc o).heap[b]? = some (.cells cs' T fr') ∧ cs'.size = cs.size :=
  fun b cs T fr h => ⟨cs, _, (heap_alloc_lt w o (Array.getElem?_eq_some_iff.1 h).1).trans h, rfl⟩
theorem upd_map (r : Rel ρ F σ w) (b : Nat) : ∀ id x, ρ id = some x → updMap ρ σ.length b id = some x := by
  intro id x h
  unfold updMap
  split
  · rename_i e; subst e; rw [r.dom _ (Nat.le_refl _)] at h; cases h
  · exact h

/-- A new block. -/
theorem Rel.alloc (r : Rel ρ F σ w) (o : Obj) (A : AObj) (hA : ORel F (w.alloc o) (updMap ρ σ.length w.heap.size) w.heap.size A) :
    Rel (updMap ρ σ.length w.heap.size) F (σ ++ [A]) (w.alloc o) ∧ Tr σ (σ ++ [A]) ρ (updMap ρ σ.length w.heap.size) F F w (w.alloc o) := by
  have hmap := upd_map r w.heap.size
  have hold : ∀ id o', id < σ.length → (σ ++ [A])[id]? = some o' → σ[id]? = some o' := fun id o' h1 h2 => by rwa [List.getElem?_append_left h1] at h2
  have hcase : ∀ id o', (σ ++ [A])[id]? = some o' → (id < σ.length ∧ σ[id]? = some o') ∨ (id = σ.length ∧ o' = A) := by
    intro id o' h
    rcases Nat.lt_or_ge id σ.length with h1 | h1
    · exact .inl ⟨h1, hold _ _ h1 h⟩
    · rw [List.getElem?_append_right h1] at h
      have : id - σ.length = 0 := by have := (List.getElem?_eq_some_iff.1 h).1; simp at this; omega
      rw [this] at h
      exact .inr ⟨by omega, by simpa using h.symm⟩
  have hval : ∀ id x, updMap ρ σ.length w.heap.size id = some x → (id ≠ σ.length ∧ ρ id = some x) ∨ (id = σ.length ∧ x = w.heap.size) := by
    intro id x h
    unfold updMap at h
    split at h
    · exact .inr ⟨by assumption, by simpa using h.symm⟩
    · exact .inl ⟨by assumption, h⟩
  refine ⟨⟨?_, ?_, ?_, ?_, ?_⟩, ⟨hmap, fun _ h => h, rfl, rfl, rfl, by simp, alloc_row w o, fun b hb _ => heap_alloc_lt w o hb, fun _ h => .inl h, ?_, by simp, ?_⟩⟩
  · intro id o' b h1 h2
    rcases hcase id o' h1 with ⟨h3, h4⟩ | ⟨h3, h4⟩
    · rcases hval id b h2 with ⟨_, h5⟩ | ⟨h5, _⟩
      · exact (r.obj id o' b h4 h5).move (heap_alloc_lt w o (r.lt _ _ h5)) (alloc_F r o) (alloc_row w o) hmap
      · omega
    · subst h3; subst h4
      rcases hval _ b h2 with ⟨h5, _⟩ | ⟨_, h5⟩
      · exact absurd rfl h5
      · subst h5; exact hA
  · intro id id' o1 o2 b h1 h2 h3 h4 h5 h6
    rcases hval id b h5 with ⟨e1, e2⟩ | ⟨e1, e2⟩ <;> rcases hval id' b h6 with ⟨e3, e4⟩ | ⟨e3, e4⟩
    · rcases hcase id o1 h1 with ⟨_, g1⟩ | ⟨g1, _⟩
      · rcases hcase id' o2 h2 with ⟨_, g2⟩ | ⟨g2, _⟩
        · exact r.inj _ _ _ _ _ g1 g2 h3 h4 e2 e4
        · exact absurd g2 e3
      · exact absurd g1 e1
    · exact absurd (r.lt _ _ e2) (by omega)
    · exact absurd (r.lt _ _ e4) (by omega)
    · omega
  · intro b hb
    refine ⟨Nat.lt_of_lt_of_le (r.fr b hb).1 (by simp), ?_⟩
    rintro ⟨id, o', h1, h2, h3⟩
    rcases hval id b h3 with ⟨e1, e2⟩ | ⟨e1, e2⟩
    · rcases hcase id o' h1 with ⟨_, g⟩ | ⟨g, _⟩
      · exact (r.fr b hb).2 ⟨id, o', g, h2, e2⟩
      · exact e1 g
    · exact absurd (r.fr b hb).1 (by omega)
  · intro id b h
    rcases hval id b h with ⟨_, e⟩ | ⟨_, e⟩
    · exact Nat.lt_of_lt_of_le (r.lt _ _ e) (by simp)
    · subst e; simp
  · intro id h
    simp only [List.length_append, List.length_singleton] at h
    unfold updMap
    rw [if_neg (by omega)]
    exact r.dom id (by omega)
  · intro id b h
    rcases hval id b h with ⟨_, e⟩ | ⟨e1, e2⟩
    · exact .inl e
    · exact .inr ⟨by omega, .inl (by omega)⟩
  · intro id o' h1 h2 h3
    exact ⟨o', hold _ _ h3 h1, h2⟩

/-- One block has turned. -/
theorem Rel.upd (r : Rel ρ F σ w) {w' : World} {id b : Nat} {o0 A : AObj} (hid : σ[id]? = some o0) (hl : o0.live = true) (hρ : ρ id = some b) (hsz : w'.heap.size = w.heap.size)
    (hos : w'.os = w.os) (htp : w'.tape = w.tape) (hout : w'.output = w.output) (hother : ∀ x, x ≠ b → w'.heap[x]? = w.heap[x]?)
    (hrow : ∀ (cs : Array Value) (T : TypeId) (fr : Nat × Nat), w.heap[b]? = some (.cells cs T fr) → ∃ cs' fr', w'.heap[b]? = some (.cells cs' T fr') ∧ cs'.size = cs.size)
    (hA : ORel F w' ρ b A) : Rel ρ F (σ.set id A) w' ∧ Tr σ (σ.set id A) ρ ρ F F w w' := by
  have hidl : id < σ.length := (List.getElem?_eq_some_iff.1 hid).1
  have hLive : Live ρ σ b := ⟨id, o0, hid, hl, hρ⟩
  have hF : ∀ x, F x → F x ∧ w'.heap[x]? = w.heap[x]? := fun x hx => ⟨hx, hother x (fun e => (r.fr x hx).2 (e ▸ hLive))⟩
  have hR : ∀ (x : Nat) (cs : Array Value) (T : TypeId) (fr : Nat × Nat), w.heap[x]? = some (.cells cs T fr) → ∃ cs' fr', w'.heap[x]? = some (.cells cs' T fr') ∧ cs'.size = cs.size := by
    intro x cs T fr h
    by_cases e : x = b
    · subst e; exact hrow cs T fr h
    · exact ⟨cs, _, (hother x e).trans h, rfl⟩
  have hcase : ∀ x o', (σ.set id A)[x]? = some o' → (x = id ∧ o' = A) ∨ (x ≠ id ∧ σ[x]? = some o') := by
    intro x o' h
    rw [List.getElem?_set] at h
    by_cases e : id = x
    · subst e; simp only [if_true, hidl] at h; exact .inl ⟨rfl, by simpa using h.symm⟩
    · simp only [e, if_false] at h; exact .inr ⟨fun e' => e e'.symm, h⟩
  have hback : ∀ (x : Nat) (o' : AObj), (σ.set id A)[x]? = some o' → o'.live = true → ∃ o : AObj, σ[x]? = some o ∧ o.live = true := by
    intro x o' h1 h2
    rcases hcase x o' h1 with ⟨rfl, _⟩ | ⟨_, h⟩
    · exact ⟨o0, hid, hl⟩
    · exact ⟨o', h, h2⟩
  refine ⟨⟨?_, ?_, ?_, fun id b h => by rw [hsz]; exact r.lt id b h, fun id h => r.dom id (by simpa using h)⟩,
    ⟨fun _ _ h => h, fun _ h => h, hos, htp, hout, by rw [hsz]; exact Nat.le_refl _, hR, ?_, fun _ h => .inl h, fun _ _ h => .inl h, by simp, fun x o' h1 h2 _ => hback x o' h1 h2⟩⟩
  · intro x o' y h1 h2
    rcases hcase x o' h1 with ⟨rfl, rfl⟩ | ⟨hne, h⟩
    · rw [hρ] at h2; cases h2; exact hA
    · by_cases e : y = b
      · subst e
        cases o' with
        | dead => trivial
        | rows p es rs => exact absurd (r.inj _ _ _ _ _ h hid rfl hl h2 hρ) hne
        | trows T0 p es rs => exact absurd (r.inj _ _ _ _ _ h hid rfl hl h2 hρ) hne
        | mp p es => exact absurd (r.inj _ _ _ _ _ h hid rfl hl h2 hρ) hne
      · exact (r.obj x o' y h h2).move (hother y e) hF hR (fun _ _ h => h)
  · intro x y o1 o2 z h1 h2 h3 h4 h5 h6
    obtain ⟨p1, e1, e2⟩ := hback x o1 h1 h3
    obtain ⟨p2, e3, e4⟩ := hback y o2 h2 h4
    exact r.inj _ _ _ _ _ e1 e3 e2 e4 h5 h6
  · intro x hx
    refine ⟨by rw [hsz]; exact (r.fr x hx).1, ?_⟩
    rintro ⟨y, o', h1, h2, h3⟩
    obtain ⟨o, e1, e2⟩ := hback y o' h1 h2
    exact (r.fr x hx).2 ⟨y, o, e1, e2, h3⟩
  · intro x hx hn
    exact hother x (fun e => hn (e ▸ hLive))

/-- One object is done with; its block may be kept as it is, for good. -/
theorem Rel.kill (r : Rel ρ F σ w) (id : Nat) (G : Nat → Prop) (hG : ∀ b, G b → ∃ o, σ[id]? = some o ∧ o.live = true ∧ ρ id = some b) :
    Rel ρ (fun b => F b ∨ G b) (σ.set id .dead) w ∧ Tr σ (σ.set id .dead) ρ ρ F (fun b => F b ∨ G b) w w := by
  have hcase : ∀ x o', (σ.set id .dead)[x]? = some o' → (x = id ∧ o' = .dead) ∨ (x ≠ id ∧ σ[x]? = some o') := by
    intro x o' h
    rw [List.getElem?_set] at h
    by_cases e : id = x
    · subst e
      simp only [if_true] at h
      by_cases hl : id < σ.length
      · simp only [hl, if_true] at h; exact .inl ⟨rfl, by simpa using h.symm⟩
      · simp only [hl, if_false] at h; cases h
    · simp only [e, if_false] at h; exact .inr ⟨fun e' => e e'.symm, h⟩
  have hback : ∀ (x : Nat) (o' : AObj), (σ.set id .dead)[x]? = some o' → o'.live = true → x ≠ id ∧ σ[x]? = some o' := by
    intro x o' h1 h2
    rcases hcase x o' h1 with ⟨_, rfl⟩ | h
    · cases h2
    · exact h
  have hF : ∀ b, F b → (F b ∨ G b) ∧ w.heap[b]? = w.heap[b]? := fun b h => ⟨.inl h, rfl⟩
  refine ⟨⟨?_, ?_, ?_, r.lt, fun id h => r.dom id (by simpa using h)⟩, ⟨fun _ _ h => h, fun _ h => .inl h, rfl, rfl, rfl, Nat.le_refl _, fun _ cs _ _ h => ⟨cs, _, h, rfl⟩, fun _ _ _ => rfl, ?_, fun _ _ h => .inl h, by simp, fun x o' h1 h2 _ => ⟨o', (hback x o' h1 h2).2, h2⟩⟩⟩
  · intro x o' y h1 h2
    rcases hcase x o' h1 with ⟨_, rfl⟩ | ⟨_, h⟩
    · trivial
    · exact (r.obj x o' y h h2).move rfl hF (fun _ cs _ _ h => ⟨cs, _, h, rfl⟩) (fun _ _ h => h)
  · intro x y o1 o2 z h1 h2 h3 h4 h5 h6
    exact r.inj _ _ _ _ _ (hback x o1 h1 h3).2 (hback y o2 h2 h4).2 h3 h4 h5 h6
  · intro x hx
    rcases hx with hx | hx
    · refine ⟨(r.fr x hx).1, ?_⟩
      rintro ⟨y, o', h1, h2, h3⟩
      exact (r.fr x hx).2 ⟨y, o', (hback y o' h1 h2).2, h2, h3⟩
    · obtain ⟨o, e1, e2, e3⟩ := hG x hx
      refine ⟨r.lt _ _ e3, ?_⟩
      rintro ⟨y, o', h1, h2, h3⟩
      obtain ⟨h4, h5⟩ := hback y o' h1 h2
      exact h4 (r.inj _ _ _ _ _ h5 e1 h2 e2 h3 e3)
  · intro x hx
    rcases hx with hx | hx
    · exact .inl hx
    · obtain ⟨o, e1, e2, e3⟩ := hG x hx
      exact .inr (.inr ⟨id, o, e1, e2, e3⟩)

end
end Go.Abs
