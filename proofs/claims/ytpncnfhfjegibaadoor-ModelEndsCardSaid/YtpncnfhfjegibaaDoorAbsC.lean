import Derived.Deep.AppendSrc
import Derived.Deep.Upon
import Derived.MapKept
import Derived.WideKeyRuns
import Derived.Laws.Strings
import Derived.Laws.BytesArg
import Derived.Lib.Builder
import Derived.Lib.UnsafeStr
import Derived.Test.YtpncnfhfjegibaaDoorAbsB
section
set_option linter.unusedVariables false
set_option linter.unusedSimpArgs false
namespace Go.Abs

section
variable {P : Program} {F : FS} {w : World} {ρ : RMap} {σ : AState}

structure Lies (F : FS) (w : World) (ρ : RMap) (es : Nat) (rs : List (List AVal)) (news : List Value) : Prop where
  len : news.length = rs.length * es
  wide : ∀ (i : Nat) (row : List AVal), rs[i]? = some row → row.length = es
  rel : ∀ (i j : Nat) (row : List AVal) (v : AVal), rs[i]? = some row → row[j]? = some v → ∃ cv, news[i * es + j]? = some cv ∧ VRel F w ρ v cv
  one : ∀ u ∈ news, u.oneCell' = true

theorem div_mod_lt {k n es : Nat} (h : k < n * es) : k / es < n ∧ k % es < es ∧ k / es * es + k % es = k := by
  have h0 : 0 < es := by rcases Nat.eq_zero_or_pos es with h1 | h1; subst h1; omega; exact h1
  exact ⟨Nat.div_lt_of_lt_mul (by rw [Nat.mul_comm]; exact h), Nat.mod_lt _ h0, by rw [Nat.mul_comm]; exact Nat.div_add_mod k es⟩
theorem mul_add_div {i j es : Nat} (h : j < es) : (i * es + j) / es = i ∧ (i * es + j) % es = j := by
  have h0 : 0 < es := by omega
  refine ⟨?_, ?_⟩
  · rw [Nat.mul_comm, Nat.mul_add_div h0, Nat.div_eq_of_lt h]; rfl
  · rw [Nat.mul_comm, Nat.mul_add_mod, Nat.mod_eq_of_lt h]
theorem mul_add_lt {i j n es : Nat} (hi : i < n) (hj : j < es) : i * es + j < n * es := by
  have := Nat.mul_le_mul_right es hi
  rw [Nat.succ_mul] at this
  omega

theorem oneCell_rel {v : AVal} {c : Value} (h : VRel F w ρ v c) (ho : oneCell v = true) : c.oneCell' = true := by
  cases h <;> simp_all [oneCell, Value.oneCell']

theorem Lies.of_fun {es : Nat} {rs : List (List AVal)} {f : Nat → Nat → Value} (hw : ∀ (i : Nat) (row : List AVal), rs[i]? = some row → row.length = es)
    (hv : ∀ (i j : Nat) (row : List AVal) (v : AVal), rs[i]? = some row → row[j]? = some v → VRel F w ρ v (f i j)) (hone : (rs.all fun r => r.all oneCell) = true) :
    Lies F w ρ es rs ((List.range (rs.length * es)).map fun k => f (k / es) (k % es)) := by
  refine ⟨by simp, hw, ?_, ?_⟩
  · intro i j row v h1 h2
    have hi := (List.getElem?_eq_some_iff.1 h1).1
    have hj : j < es := by rw [← hw i row h1]; exact (List.getElem?_eq_some_iff.1 h2).1
    obtain ⟨e1, e2⟩ := mul_add_div (i := i) hj
    refine ⟨f i j, ?_, hv i j row v h1 h2⟩
    rw [List.getElem?_map, List.getElem?_range (mul_add_lt hi hj)]
    simp [e1, e2]
  · intro u hu
    obtain ⟨k, hk, rfl⟩ := List.mem_map.1 hu
    obtain ⟨h1, h2, _⟩ := div_mod_lt (List.mem_range.1 hk)
    have e1 := List.getElem?_eq_getElem h1
    have h3 : k % es < (rs[k / es]).length := by rw [hw _ _ e1]; exact h2
    have e2 := List.getElem?_eq_getElem h3
    rw [List.all_eq_true] at hone
    have := hone _ (List.mem_of_getElem? e1)
    rw [List.all_eq_true] at this
    exact oneCell_rel (hv _ _ _ _ e1 e2) (this _ (List.mem_of_getElem? e2))

theorem cells_of_fun {es b o : Nat} {rs : List (List AVal)} {f : Nat → Nat → Value} (hw : ∀ (i : Nat) (row : List AVal), rs[i]? = some row → row.length = es)
    (hg : ∀ (i j : Nat) (row : List AVal) (v : AVal), rs[i]? = some row → row[j]? = some v → w.cell? ⟨b, o + i * es + j, none⟩ = some (f i j)) :
    ∀ j u, ((List.range (rs.length * es)).map fun k => f (k / es) (k % es))[j]? = some u → w.cell? ((⟨b, o, none⟩ : Addr).add j) = some u := by
  intro k u hu
  have hk : k < rs.length * es := by have := (List.getElem?_eq_some_iff.1 hu).1; simpa using this
  rw [List.getElem?_map, List.getElem?_range hk] at hu
  simp only [Option.map_some, Option.some.injEq] at hu
  obtain ⟨h1, h2, h3⟩ := div_mod_lt hk
  have e1 := List.getElem?_eq_getElem h1
  have h4 : k % es < (rs[k / es]).length := by rw [hw _ _ e1]; exact h2
  rw [add_addr, ← hu, ← hg _ _ _ _ e1 (List.getElem?_eq_getElem h4), Nat.add_assoc, h3]

theorem src_of {es : Nat} {x : AVal} {cx : Value} {s : Src} {tx e' : TypeId} (r : Rel ρ F σ w) (hx : VRel F w ρ x cx) (h : rowsOf es σ x = some s) (hcs : allP s.cs) (hk : P.underlying tx = some (.slice e')) :
    ∃ (base : Option Addr) (c : Nat) (news : List Value), cx = .slice base s.rs.length c ∧ Go.Src P es tx cx s.rs.length news w ∧ Lies F w (inMap s.pure ρ) es s.rs news ∧
      (base = none → s.rs = []) ∧ ∀ a, base = some a → ∀ j u, news[j]? = some u → w.cell? (a.add j) = some u := by
  unfold rowsOf at h
  split at h
  · rename_i isnil id es1 off len cap
    split at h
    · rename_i p es2 rs ho
      split at h
      · rename_i he
        simp only [Bool.and_eq_true, beq_iff_eq] at he
        obtain ⟨rfl, rfl⟩ := he
        cases h
        obtain ⟨hlen, hcs⟩ := hcs.cons
        have hone := hcs.cons.1
        have hlen := of_decide_eq_true hlen
        have hlr : ((rs.drop off).take len).length = len := by simp; omega
        have hget : ∀ (i : Nat) (row : List AVal), ((rs.drop off).take len)[i]? = some row → rs[off + i]? = some row := by
          intro i row h
          rw [List.getElem?_take] at h
          split at h
          · rwa [List.getElem?_drop] at h
          · cases h
        rcases hx.slc_inv with ⟨_, c, b, hb, hl, hcp, hs, rfl⟩ | ⟨rfl, base, hbn, hcp, rfl⟩
        · obtain ⟨cs, T, fr, h1, h2, h3, h4, h5⟩ := r.objP ho rfl hb
          have hw : ∀ (i : Nat) (row : List AVal), ((rs.drop off).take len)[i]? = some row → row.length = es := fun i row h => h4 _ _ (hget i row h)
          have hg : ∀ (i j : Nat) (row : List AVal) (v : AVal), ((rs.drop off).take len)[i]? = some row → row[j]? = some v → w.cell? ⟨b, off * es + i * es + j, none⟩ = some (cs.getD ((off + i) * es + j) undef) := by
            intro i j row v e1 e2
            obtain ⟨cv, e3, _⟩ := h5 _ _ _ _ (hget i row e1) e2
            rw [cell_of_row w b _ cs T fr h1, show off * es + i * es + j = (off + i) * es + j by rw [Nat.add_mul], e3, Array.getD_eq_getD_getElem?, e3]; rfl
          have hv : ∀ (i j : Nat) (row : List AVal) (v : AVal), ((rs.drop off).take len)[i]? = some row → row[j]? = some v → VRel F w (inMap p ρ) v (cs.getD ((off + i) * es + j) undef) := by
            intro i j row v e1 e2
            obtain ⟨cv, e3, e4⟩ := h5 _ _ _ _ (hget i row e1) e2
            rw [Array.getD_eq_getD_getElem?, e3]; exact e4
          have hL := Lies.of_fun hw hv hone
          refine ⟨some ⟨b, off * es, none⟩, c, _, by rw [hlr], ?_, hL, (fun h => by cases h), fun a ha => ?_⟩
          · have := Go.Src.ofSlice (P := P) w hk ⟨b, off * es, none⟩ ((rs.drop off).take len).length c _ hL.len (cells_of_fun hw hg) hL.one
            rw [hlr] at this ⊢
            exact this
          · cases ha; exact cells_of_fun hw hg
        · refine ⟨base, 0, [], by simp, ?_, ⟨by simp, (fun i row h => by simp at h), (fun i j row v h => by simp at h), (fun u hu => by simp at hu)⟩, (fun _ => by simp), (fun a h j u hj => by simp at hj)⟩
          rw [List.take_zero]
          cases base with
          | none => exact Go.Src.ofNil (P := P) w hk 0
          | some a => exact Go.Src.ofSlice (P := P) w hk a 0 0 [] (by simp) (fun j u h => by simp at h) (fun u h => by simp at h)
      · cases h
    · cases h
  · rename_i isnil es1 rs cap
    split at h
    · rename_i he
      cases h
      have hone := hcs.cons.1
      rcases hx.fsl_inv with ⟨_, rfl, _, rfl⟩ | ⟨hn, a, c, hl, _, rfl, h | ⟨b, o, f, rfl, hF, hw, hg, hv⟩⟩
      · refine ⟨none, 0, [], by simp, ?_, ⟨by simp, (fun i row h => by simp at h), (fun i j row v h => by simp at h), (fun u hu => by simp at hu)⟩, fun _ => rfl, fun a h => by cases h⟩
        simpa using Go.Src.ofNil (P := P) w hk 0
      · subst h
        refine ⟨some a, c, [], by simp, ?_, ⟨by simp, (fun i row h => by simp at h), (fun i j row v h => by simp at h), (fun u hu => by simp at hu)⟩, fun _ => rfl, fun a h j u hj => by simp at hj⟩
        simpa using Go.Src.ofSlice (P := P) w hk a 0 c [] (by simp) (fun j u h => by simp at h) (fun u h => by simp at h)
      · have he : es = es1 := by subst hn; simpa using he
        subst he
        have hL := Lies.of_fun hw hv hone
        refine ⟨some ⟨b, o, none⟩, c, _, rfl, Go.Src.ofSlice (P := P) w hk ⟨b, o, none⟩ rs.length c _ hL.len (cells_of_fun hw hg) hL.one, hL, (fun h => by cases h), fun a ha => ?_⟩
        cases ha; exact cells_of_fun hw hg
    · cases h
  · cases h

theorem Rel.push (r : Rel ρ F σ w) (A : AObj) : Rel ρ F (σ ++ [A]) w ∧ Tr σ (σ ++ [A]) ρ ρ F F w w := by
  have hold : ∀ id o' b, (σ ++ [A])[id]? = some o' → ρ id = some b → σ[id]? = some o' := by
    intro id o' b h h2
    rcases Nat.lt_or_ge id σ.length with h1 | h1
    · rwa [List.getElem?_append_left h1] at h
    · rw [r.dom _ h1] at h2; cases h2
  have holdO : ∀ id o' b, (σ ++ [A])[id]? = some o' → Own F ρ id o' b → σ[id]? = some o' := fun id o' b h h2 => by
    rcases h2 with h2 | ⟨_, y, h2, _⟩
    · exact hold _ _ _ h h2
    · exact hold _ _ _ h h2
  refine ⟨⟨fun id o b h1 h2 => r.obj id o b (hold id o b h1 h2) h2, fun id id' o o' b h1 h2 h3 h4 h5 h6 => r.injO _ _ _ _ _ (holdO _ _ _ h1 h5) (holdO _ _ _ h2 h6) h3 h4 h5 h6,
    fun b hb => ⟨(r.fr b hb).1, fun ⟨id, o, h1, h2, h3⟩ => (r.fr b hb).2 ⟨id, o, holdO _ _ _ h1 h3, h2, h3⟩⟩, r.lt, fun id h => r.dom id (by simp at h; omega)⟩,
    ⟨fun _ _ h => h, fun _ h => h, rfl, rfl, rfl, Nat.le_refl _, fun _ cs _ _ h => ⟨cs, _, h, rfl⟩, fun _ _ _ => rfl, fun _ h => .inl h, fun _ _ h => .inl h, by simp, fun id o' h1 h2 h3 => ⟨o', by rwa [List.getElem?_append_left h3] at h1, h2⟩, .same rfl fun id o' b h1 _ h3 => ⟨id, hold _ _ _ h1 h3, h3⟩⟩⟩

theorem Rel.renew (r : Rel ρ F σ w) {w' : World} {id b : Nat} {o0 A : AObj} (hid : σ[id]? = some o0) (hl : o0.live = true) (hρ : ρ id = some b) (hsz : w'.heap.size = w.heap.size)
    (hos : w'.os = w.os) (htp : w'.tape = w.tape) (hout : w'.output = w.output) (hother : ∀ x, x ≠ b → w'.heap[x]? = w.heap[x]?)
    (hrow : ∀ (cs : Array Value) (T : TypeId) (fr : Nat × Nat), w.heap[b]? = some (.cells cs T fr) → ∃ cs' fr', w'.heap[b]? = some (.cells cs' T fr') ∧ cs'.size = cs.size)
    (hA : ORel F w' (updMap ρ σ.length b) b A) (hAg : A.isGh = false := by rfl) :
    Rel (updMap ρ σ.length b) F (σ.set id .dead ++ [A]) w' ∧ Tr σ (σ.set id .dead ++ [A]) ρ (updMap ρ σ.length b) F F w w' := by
  have hidl : id < σ.length := (List.getElem?_eq_some_iff.1 hid).1
  have hLive : Live F ρ σ b := ⟨id, o0, hid, hl, .inl hρ⟩
  have hmap := upd_map r b
  have hF : ∀ x, F x → F x ∧ w'.heap[x]? = w.heap[x]? := fun x hx => ⟨hx, hother x (fun e => (r.fr x hx).2 (e ▸ hLive))⟩
  have hR : ∀ (x : Nat) (cs : Array Value) (T : TypeId) (fr : Nat × Nat), w.heap[x]? = some (.cells cs T fr) → ∃ cs' fr', w'.heap[x]? = some (.cells cs' T fr') ∧ cs'.size = cs.size := by
    intro x cs T fr h
    by_cases e : x = b
    · subst e; exact hrow cs T fr h
    · exact ⟨cs, _, (hother x e).trans h, rfl⟩
  have hcase : ∀ (x : Nat) (o' : AObj), (σ.set id .dead ++ [A])[x]? = some o' → (x = id ∧ o' = .dead) ∨ (x ≠ id ∧ x < σ.length ∧ σ[x]? = some o') ∨ (x = σ.length ∧ o' = A) := by
    intro x o' h
    rcases Nat.lt_or_ge x σ.length with h1 | h1
    · rw [List.getElem?_append_left (by simpa using h1), List.getElem?_set] at h
      by_cases e : id = x
      · subst e; simp only [if_true, hidl] at h; exact .inl ⟨rfl, by simpa using h.symm⟩
      · simp only [e, if_false] at h; exact .inr (.inl ⟨fun e' => e e'.symm, h1, h⟩)
    · rw [List.getElem?_append_right (by simpa using h1)] at h
      simp only [List.length_set] at h
      have : x - σ.length = 0 := by have := (List.getElem?_eq_some_iff.1 h).1; simp at this; omega
      rw [this] at h
      exact .inr (.inr ⟨by omega, by simpa using h.symm⟩)
  have hval : ∀ x y, updMap ρ σ.length b x = some y → (x ≠ σ.length ∧ ρ x = some y) ∨ (x = σ.length ∧ y = b) := by
    intro x y h
    unfold updMap at h
    split at h
    · exact .inr ⟨by assumption, by simpa using h.symm⟩
    · exact .inl ⟨by assumption, h⟩
  have hne : ∀ x o' , x ≠ id → σ[x]? = some o' → o'.live = true → ρ x ≠ some b := fun x o' h1 h2 h3 h4 => h1 (r.inj _ _ _ _ _ h2 hid h3 hl h4 hρ)
  have hown : ∀ x o' z, (σ.set id .dead ++ [A])[x]? = some o' → o'.live = true → Own F (updMap ρ σ.length b) x o' z → (x ≠ id ∧ σ[x]? = some o' ∧ Own F ρ x o' z) ∨ (x = σ.length ∧ z = b) := by
    intro x o' z h1 h2 h3
    rcases hcase x o' h1 with ⟨_, rfl⟩ | ⟨g1, g2, g3⟩ | ⟨g1, rfl⟩
    · cases h2
    · refine .inl ⟨g1, g3, h3.to fun y hy => ?_⟩
      rcases hval x y hy with ⟨_, e⟩ | ⟨e, _⟩
      · exact e
      · omega
    · rcases hval x z (h3.root hAg) with ⟨e, _⟩ | ⟨_, e⟩
      · exact absurd g1 e
      · exact .inr ⟨g1, e⟩
  refine ⟨⟨?_, ?_, ?_, ?_, ?_⟩, ⟨hmap, fun _ h => h, hos, htp, hout, by rw [hsz]; exact Nat.le_refl _, hR, ?_, fun _ h => .inl h, ?_, by simp, ?_, ?_⟩⟩
  · intro x o' y h1 h2
    rcases hcase x o' h1 with ⟨_, rfl⟩ | ⟨h3, h4, h5⟩ | ⟨h3, rfl⟩
    · trivial
    · rcases hval x y h2 with ⟨_, h6⟩ | ⟨h6, _⟩
      · cases ho' : o'.live with
        | false => cases o' <;> simp [AObj.live] at ho'; trivial
        | true => exact (r.obj x _ y h5 h6).move (hother y (fun e => hne x _ h3 h5 ho' (e ▸ h6))) hF hR hmap fun hg => ⟨fun _ => Iff.rfl, fun z hz => hother z (r.ownNe h5 hg h6 hid hl hρ h3 z hz), by rw [hsz]; exact Nat.le_refl _⟩
      · omega
    · rcases hval x y h2 with ⟨h6, _⟩ | ⟨_, h6⟩
      · exact absurd h3 h6
      · subst h6; exact hA
  · intro x y o1 o2 z h1 h2 h3 h4 h5 h6
    rcases hown x o1 z h1 h3 h5 with ⟨g1, g2, g3⟩ | ⟨g1, g2⟩ <;> rcases hown y o2 z h2 h4 h6 with ⟨g4, g5, g6⟩ | ⟨g4, g5⟩
    · exact r.injO _ _ _ _ _ g2 g5 h3 h4 g3 g6
    · subst g5; exact absurd (r.injO _ _ _ _ _ g2 hid h3 hl g3 (.inl hρ)) g1
    · subst g2; exact absurd (r.injO _ _ _ _ _ g5 hid h4 hl g6 (.inl hρ)) g4
    · omega
  · intro x hx
    refine ⟨by rw [hsz]; exact (r.fr x hx).1, ?_⟩
    rintro ⟨y, o', h1, h2, h3⟩
    rcases hown y o' x h1 h2 h3 with ⟨g1, g2, g3⟩ | ⟨g1, g2⟩
    · exact (r.fr x hx).2 ⟨y, o', g2, h2, g3⟩
    · subst g2; exact (r.fr x hx).2 hLive
  · intro x y h
    rw [hsz]
    rcases hval x y h with ⟨_, e⟩ | ⟨_, e⟩
    · exact r.lt _ _ e
    · subst e; exact r.lt _ _ hρ
  · intro x h
    simp only [List.length_append, List.length_set, List.length_singleton] at h
    unfold updMap
    rw [if_neg (by omega)]
    exact r.dom x (by omega)
  · intro x hx hn
    exact hother x (fun e => hn (e ▸ hLive))
  · intro x y h
    rcases hval x y h with ⟨_, e⟩ | ⟨e1, e2⟩
    · exact .inl e
    · subst e2; exact .inr ⟨by omega, .inr hLive⟩
  · intro x o' h1 h2 h3
    rcases hcase x o' h1 with ⟨_, rfl⟩ | ⟨_, _, g⟩ | ⟨g, _⟩
    · cases h2
    · exact ⟨o', g, h2⟩
    · omega
  · refine .same rfl fun x o' y h1 h2 h3 => ?_
    rcases hcase x o' h1 with ⟨_, rfl⟩ | ⟨g1, g2, g3⟩ | ⟨_, rfl⟩
    · cases h2
    · rcases hval x y h3 with ⟨_, e⟩ | ⟨e, _⟩
      · exact ⟨x, g3, e⟩
      · omega
    · rw [hAg] at h2; cases h2

end
end Go.Abs
end

section
set_option linter.unusedVariables false
set_option linter.unusedSimpArgs false
namespace Go.Abs

section
variable {P : Program} {F : FS} {w : World} {ρ : RMap} {σ : AState}

theorem info_of_cells {e : TypeId} (hes : P.cellsOf e ≠ 0) (hz : (zeroA P e).isSome = true) : ∃ i z, P.info? e = some i ∧ i.zero = some z ∧ i.size = P.cellsOf e ∧ i.bytes = P.bytesOf e ∧ zeroA P e = some (abs0 z) := by
  unfold zeroA at *
  cases hi : P.info? e with
  | none => rw [hi] at hz; cases hz
  | some i =>
    cases hzz : i.zero with
    | none => rw [hi] at hz; simp [hzz] at hz
    | some z => exact ⟨i, z, rfl, hzz, by simp [Program.cellsOf, hi], by simp [Program.bytesOf, hi], by simp [hzz]⟩

theorem lies_app {es : Nat} {p q : Bool} {F' : FS} {w' : World} {ρ' : RMap} {rs ns : List (List AVal)} {olds news : List Value} {rest : List Value}
    (ho : olds.length = rs.length * es) (hw : ∀ (i : Nat) (row : List AVal), rs[i]? = some row → row.length = es)
    (hv : ∀ (i j : Nat) (row : List AVal) (v : AVal), rs[i]? = some row → row[j]? = some v → ∃ cv, olds[i * es + j]? = some cv ∧ VRel F' w' (inMap p ρ') v cv)
    (hL : Lies F' w' (inMap q ρ') es ns news) :
    (∀ (i : Nat) (row : List AVal), (rs ++ ns)[i]? = some row → row.length = es) ∧
    ∀ (i j : Nat) (row : List AVal) (v : AVal), (rs ++ ns)[i]? = some row → row[j]? = some v → ∃ cv, (olds ++ news ++ rest)[i * es + j]? = some cv ∧ VRel F' w' (inMap (p && q) ρ') v cv := by
  have hup : ∀ {a : Bool} {v : AVal} {cv : Value}, (a = p ∨ a = q) → VRel F' w' (inMap a ρ') v cv → VRel F' w' (inMap (p && q) ρ') v cv := by
    intro a v cv ha h
    refine h.weak fun id b hb => ?_
    unfold inMap at hb ⊢
    rcases ha with rfl | rfl <;> cases a <;> simp_all [noId]
  refine ⟨fun i row h => ?_, fun i j row v h1 h2 => ?_⟩
  · rw [List.getElem?_append] at h
    split at h
    · exact hw i row h
    · exact hL.wide _ row h
  · rw [List.getElem?_append] at h1
    split at h1
    · rename_i hi
      obtain ⟨cv, h3, h4⟩ := hv i j row v h1 h2
      refine ⟨cv, ?_, hup (.inl rfl) h4⟩
      have hlt := (List.getElem?_eq_some_iff.1 h3).1
      rw [List.append_assoc, List.getElem?_append_left hlt]
      exact h3
    · rename_i hi
      obtain ⟨cv, h3, h4⟩ := hL.rel _ j row v h1 h2
      refine ⟨cv, ?_, hup (.inr rfl) h4⟩
      have hlt := (List.getElem?_eq_some_iff.1 h3).1
      have he : i * es + j = olds.length + ((i - rs.length) * es + j) := by
        rw [ho]
        obtain ⟨m, rfl⟩ : ∃ m, i = rs.length + m := ⟨i - rs.length, by omega⟩
        rw [show rs.length + m - rs.length = m by omega, Nat.add_mul]; omega
      rw [he, List.getElem?_append_left (by simp; omega), List.getElem?_append_right (by omega), show olds.length + ((i - rs.length) * es + j) - olds.length = (i - rs.length) * es + j by omega]
      exact h3

theorem Lies.mono {es : Nat} {rs : List (List AVal)} {news : List Value} {F' : FS} {w' : World} {ρ' : RMap} (h : Lies F w ρ es rs news)
    (hF : ∀ b, F b → F' b ∧ w'.heap[b]? = w.heap[b]?)
    (hrow : ∀ (b : Nat) (cs : Array Value) (T : TypeId) (fr : Nat × Nat), w.heap[b]? = some (.cells cs T fr) → ∃ cs' fr', w'.heap[b]? = some (.cells cs' T fr') ∧ cs'.size = cs.size)
    (hρ : ∀ id b, ρ id = some b → ρ' id = some b) : Lies F' w' ρ' es rs news :=
  ⟨h.len, h.wide, fun i j row v h1 h2 => let ⟨cv, h3, h4⟩ := h.rel i j row v h1 h2; ⟨cv, h3, h4.mono hF hrow hρ⟩, h.one⟩

theorem inMap_mono {ρ ρ' : RMap} (p : Bool) (hρ : ∀ id b, ρ id = some b → ρ' id = some b) : ∀ id b, inMap p ρ id = some b → inMap p ρ' id = some b := by
  intro id b h; unfold inMap at *; cases p
  · exact hρ id b h
  · exact h

theorem drew_rel (r : Rel ρ F σ w) : Rel ρ F σ w.drew ∧ Tr σ σ ρ ρ F F w w.drew := by
  have hF : ∀ b, F b → F b ∧ w.drew.heap[b]? = w.heap[b]? := fun b h => ⟨h, rfl⟩
  have hR : ∀ (b : Nat) (cs : Array Value) (T : TypeId) (fr : Nat × Nat), w.heap[b]? = some (.cells cs T fr) → ∃ cs' fr', w.drew.heap[b]? = some (.cells cs' T fr') ∧ cs'.size = cs.size := fun b cs T fr h => ⟨cs, _, h, rfl⟩
  exact ⟨⟨fun id o b h1 h2 => (r.obj id o b h1 h2).move rfl hF hR (fun _ _ h => h) (fun _ => ⟨fun _ => Iff.rfl, fun _ _ => rfl, Nat.le_refl _⟩), r.injO, r.fr, r.lt, r.dom⟩,
    ⟨fun _ _ h => h, fun _ h => h, rfl, rfl, rfl, Nat.le_refl _, hR, fun _ _ _ => rfl, fun _ h => .inl h, fun _ _ h => .inl h, Nat.le_refl _, fun _ o h1 h2 _ => ⟨o, h1, h2⟩, .same rfl fun id o' b h1 _ h3 => ⟨id, h1, h3⟩⟩⟩

theorem srcA_of {es : Nat} {u : TypeId} {x : AVal} {cx : Value} {s : Src} (r : Rel ρ F σ w) (hx : VRel F w ρ x cx) (h : srcA P u es σ x = some s) (hcs : allP s.cs) :
    ∃ news, Go.Src P es u cx s.rs.length news w ∧ Lies F w (inMap s.pure ρ) es s.rs news := by
  unfold srcA at h
  split at h
  · rename_i e' huu
    obtain ⟨base, cc, news, hcx, hS, hL, hnone, hsome⟩ := src_of r hx h hcs huu
    exact ⟨news, hS, hL⟩
  · rename_i huu
    split at h
    · rename_i b
      split at h
      · rename_i he
        simp only [beq_iff_eq] at he
        subst he
        cases h
        obtain rfl := hx.str_inv
        have hl : (byteRows b).length = b.size := by unfold byteRows; rw [List.length_map, Array.length_toList]; rfl
        refine ⟨byteCells b, by rw [hl]; exact Go.Src.ofString (P := P) w huu b, ⟨by rw [byteCells_length, hl, Nat.mul_one], fun i row e => ?_, fun i j row v e1 e2 => ?_, fun u hu => ?_⟩⟩
        · unfold byteRows at e
          rw [List.getElem?_map, Option.map_eq_some_iff] at e
          obtain ⟨x, _, rfl⟩ := e
          rfl
        · unfold byteRows at e1
          rw [List.getElem?_map, Option.map_eq_some_iff] at e1
          obtain ⟨y, hy, rfl⟩ := e1
          match j with
          | 0 =>
            simp only [List.getElem?_cons_zero, Option.some.injEq] at e2
            subst e2
            refine ⟨.int .u8 (y.toNat : Int), ?_, .int _ _ _⟩
            unfold byteCells
            rw [Nat.mul_one, Nat.add_zero, List.getElem?_map, hy]; rfl
          | j + 1 => simp at e2
        · obtain ⟨_, _, rfl⟩ := List.mem_map.1 hu
          rfl
      · cases h
    · cases h
  · cases h

theorem mkRows_gh (typed : Bool) (e : TypeId) (p : Bool) (es : Nat) (rs : List (List AVal)) : (mkRows typed e p es rs).isGh = false := by unfold mkRows; split <;> rfl
theorem mkRows_of {b : Nat} {typed : Bool} {e : TypeId} {p : Bool} {es : Nat} {rs : List (List AVal)} {T : TypeId} (h : ORel F w ρ b (.trows T p es rs)) (hT : typed = true → T = e) : ORel F w ρ b (mkRows typed e p es rs) := by
  unfold mkRows
  cases typed with
  | true => obtain rfl := hT rfl; exact h
  | false => exact h.plain
theorem typed_eq {id b : Nat} {e T : TypeId} {o0 : AObj} {ca : Array Value} {fr : Nat × Nat} (r : Rel ρ F σ w) (hid : σ[id]? = some o0) (ho : Abs.obj σ id = o0) (hb : ρ id = some b) (h1 : w.heap[b]? = some (.cells ca T fr)) (x : Bool) (h : (x && isTyped (Abs.obj σ id) e) = true) : T = e := by
  rw [ho, Bool.and_eq_true] at h
  have h := h.2
  unfold isTyped at h
  split at h
  · rename_i T' p es rs
    obtain ⟨cs, fr', g, _⟩ := r.obj _ _ _ hid hb
    rw [h1] at g
    cases g
    simpa using h
  · cases h

theorem aappend_ok {t u ty : TypeId} {d x : AVal} {cd cx : Value} {out : Out} (r : Rel ρ F σ w) (hd : VRel F w ρ d cd) (hx : VRel F w ρ x cx) (h : aappend P t u d x σ = some out) (hcs : allP out.cs) :
    Fine P F w ρ σ out (Builtin.append_ #[t, u] ty #[cd, cx]) := by
  unfold aappend at h
  split at h
  · rename_i e hut
    dsimp only at h
    rw [Option.bind_eq_some_iff] at h
    obtain ⟨s, hs, h⟩ := h
    split at h
    · rename_i hq
      simp only [Bool.and_eq_true, decide_eq_true_eq] at hq
      obtain ⟨⟨hes, hz⟩, hzl⟩ := hq
      obtain ⟨i, z, hi, hiz, hsz, hby, hza⟩ := info_of_cells hes hz
      rw [hza] at hzl
      have hzl : (abs0 z).cells.length = P.cellsOf e := by simpa using hzl
      -- a new row, and what it comes to
      have grown : ∀ (id0 : Option Nat) (base : Option Addr) (len c : Nat) (olds news : List Value) (n : Nat) (rs : List (List AVal)) (p : Bool), cd = .slice base len c → s.rs.length = n →
          ∀ typed : Bool, Go.Src P (P.cellsOf e) u cx n news w → Lies F w (inMap s.pure ρ) (P.cellsOf e) s.rs news →
          (Builtin.firstCells i.size len (.slice base len c)).run P w.drew = .ok olds.toArray w.drew → olds.length = rs.length * P.cellsOf e → rs.length = len →
          (∀ (i : Nat) (row : List AVal), rs[i]? = some row → row.length = P.cellsOf e) →
          (∀ (i j : Nat) (row : List AVal) (v : AVal), rs[i]? = some row → row[j]? = some v → ∃ cv, olds[i * P.cellsOf e + j]? = some cv ∧ VRel F w (inMap p ρ) v cv) →
          c < len + n → (len + n) * P.bytesOf e ≤ 140737488355328 → len + n ≤ 9223372036854775807 → out.v = .slc false σ.length (P.cellsOf e) 0 (len + n) none → out.σ = (match id0 with | some id => σ.set id .dead | none => σ) ++ [mkRows typed e (p && s.pure) (P.cellsOf e) (rs ++ s.rs)] →
          Fine P F w ρ σ out (Builtin.append_ #[t, u] ty #[cd, cx]) := by
        intro id0 base len c olds news n rs p e1 e2 typed hS hL hold holen hrl hw hv hc hb h63 hov hoσ
        subst e1
        have hS' : Go.Src P i.size u cx n news w := by rw [hsz]; exact hS
        have hrun := run_append_grow_src (P := P) w t u ty e i z hut hi hiz base len c olds hold cx n news hS' hc (by omega) (by rw [hby]; exact growslice_fits hc hb)
        generalize hg : grownCap w (len + n) c e = G at hrun
        have hG : len + n ≤ G := by rw [← hg]; exact grownCap_ge w (len + n) c e
        generalize hcells : (olds ++ news).toArray ++ Builtin.zeroCells z.cells (G - (len + n)) = cells at hrun
        have hzs : z.cells.size = P.cellsOf e := by
          unfold abs0 at hzl
          split at hzl
          · rename_i cs; simpa [AVal.cells, Value.cells] using hzl
          · rename_i hne
            have h1 : z.cells = #[z] := by unfold Value.cells; split <;> simp_all
            have h2 : (abs1 z).cells.length = 1 := by unfold abs1; split <;> rfl
            rw [h1]; rw [h2] at hzl; simp; omega
        have hcz : cells.size = G * P.cellsOf e := by
          rw [← hcells]
          have : s.rs.length = n := e2
          have hnl := hL.len
          simp only [Array.size_append, List.size_toArray, List.length_append, size_zeroCells, hzs, holen, hnl, hrl, this]
          obtain ⟨m, rfl⟩ : ∃ m, G = len + n + m := ⟨G - (len + n), by omega⟩
          rw [show len + n + m - (len + n) = m by omega, Nat.add_mul, Nat.add_mul]
        -- the heap of ours, the one that is done with struck
        have step : ∀ (σ1 : AState), σ1.length = σ.length → Rel ρ F σ1 w → Tr σ σ1 ρ ρ F F w w → out.σ = σ1 ++ [mkRows typed e (p && s.pure) (P.cellsOf e) (rs ++ s.rs)] → Fine P F w ρ σ out (Builtin.append_ #[t, u] ty #[.slice base len c, cx]) := by
          intro σ1 hlen r1 t1 hoσ
          obtain ⟨r2, t2⟩ := drew_rel r1
          have hm := upd_map r2 w.drew.heap.size
          have hFa := alloc_F r2 (.cells cells e)
          have hRa := alloc_row w.drew (.cells cells e)
          have hFb : ∀ b, F b → F b ∧ (w.drew.alloc (.cells cells e)).heap[b]? = w.heap[b]? := hFa
          have hRb : ∀ (b : Nat) (cs : Array Value) (T : TypeId) (fr : Nat × Nat), w.heap[b]? = some (.cells cs T fr) → ∃ cs' fr', (w.drew.alloc (.cells cells e)).heap[b]? = some (.cells cs' T fr') ∧ cs'.size = cs.size := hRa
          have hO : ORel F (w.drew.alloc (.cells cells e)) (updMap ρ σ1.length w.drew.heap.size) w.drew.heap.size (mkRows typed e (p && s.pure) (P.cellsOf e) (rs ++ s.rs)) := by
            have hLa : Lies F (w.drew.alloc (.cells cells e)) (inMap s.pure (updMap ρ σ1.length w.drew.heap.size)) (P.cellsOf e) s.rs news := hL.mono hFb hRb (inMap_mono _ hm)
            obtain ⟨g1, g2⟩ := lies_app (p := p) (q := s.pure) (rest := (Builtin.zeroCells z.cells (G - (len + n))).toList) (ρ' := updMap ρ σ1.length w.drew.heap.size) holen hw (fun i j row v h1 h2 => by
              obtain ⟨cv, h3, h4⟩ := hv i j row v h1 h2
              exact ⟨cv, h3, h4.mono hFb hRb (inMap_mono _ hm)⟩) hLa
            refine mkRows_of (T := e) (ORel.newT (heap_alloc_new' _ _) ?_ g1 ?_) (fun _ => rfl)
            · rw [hcz]; refine Nat.mul_le_mul_right _ ?_; rw [List.length_append, hrl, e2]; exact hG
            · intro i j row v h1 h2
              obtain ⟨cv, h3, h4⟩ := g2 i j row v h1 h2
              refine ⟨cv, ?_, h4⟩
              rw [← hcells, ← Array.getElem?_toList]
              simpa using h3
          obtain ⟨r3, t3⟩ := r2.alloc (.cells cells e) _ hO (mkRows_gh _ _ _ _ _)
          refine ⟨updMap ρ σ1.length w.drew.heap.size, F, _, _, hrun, ?_, ?_, ?_⟩
          · rw [hoσ]; exact Tr.trans r t1 (Tr.trans r1 t2 t3)
          · rw [hoσ]; exact r3
          · rw [hov]
            have := VRel.slc (F := F) (w := w.drew.alloc (.cells cells e)) (updMap ρ σ1.length w.drew.heap.size) σ.length (P.cellsOf e) 0 (len + n) none G w.heap.size (by simp [updMap, hlen]) hG (by simp) ⟨cells, e, _, heap_alloc_new' _ _, by rw [Nat.zero_add, hcz]; exact Nat.le_refl _⟩
            simp only [Nat.zero_mul] at this
            exact this
        cases id0 with
        | none => exact step σ rfl r (Tr.refl _ _ _ _) hoσ
        | some id =>
          obtain ⟨r1, t1⟩ := r.kill id (fun _ => False) (fun _ h => h.elim)
          have hFF : F.or (fun _ => False) = F := F.or_false
          rw [hFF] at r1 t1
          exact step _ (by simp) r1 t1 hoσ
      split at h
      · rename_i isnil id es' off len cap
        split at h
        · rename_i p es'' rs ho
          split at h
          · rename_i he
            simp only [Bool.and_eq_true, beq_iff_eq] at he
            obtain ⟨⟨he1, he2⟩, rfl⟩ := he
            subst he1; subst he2
            cases h
            obtain ⟨hrl, hcs⟩ := hcs.cons
            obtain ⟨hb, hcs⟩ := hcs.cons
            have hrl := of_decide_eq_true hrl
            obtain ⟨hb, h63⟩ := of_decide_eq_true hb
            obtain ⟨news, hS, hL⟩ := srcA_of r hx hs hcs
            obtain ⟨o0, hid, _, hlv0, ho0⟩ := objP_some ho rfl
            rcases hd.slc_inv with ⟨rfl, c, b, hbb, hlc, hcp, ⟨ca, T, fr, h1, hfit⟩, rfl⟩ | ⟨rfl, base0, hbn, hcp, rfl⟩
            · obtain ⟨ca', T', fr', h1', h2, h3, h4, h5⟩ := r.objP ho rfl hbb
              rw [h1] at h1'; cases h1'
              have holdget : ∀ (i j : Nat) (row : List AVal) (v : AVal), rs[i]? = some row → row[j]? = some v → i * P.cellsOf e + j < len * P.cellsOf e := by
                intro i j row v e1 e2
                have g1 := (List.getElem?_eq_some_iff.1 e1).1
                have g2 : j < P.cellsOf e := by rw [← h4 i row e1]; exact (List.getElem?_eq_some_iff.1 e2).1
                exact mul_add_lt (by omega) g2
              have hlenc : len * P.cellsOf e ≤ ca.size := by rw [← hrl]; exact h3
              by_cases hroom : len + s.rs.length ≤ c
              · -- in place
                have hspace : (len + s.rs.length) * P.cellsOf e ≤ ca.size := Nat.le_trans (Nat.mul_le_mul_right _ hroom) (by rw [Nat.zero_add] at hfit; exact hfit)
                have hnl := hL.len
                rw [Nat.add_mul] at hspace
                have hlo : (0 : Nat) * P.cellsOf e = 0 := Nat.zero_mul _
                have hS' : Go.Src P i.size u cx s.rs.length news w := by rw [hsz]; exact hS
                have hrun := run_append_room_src (P := P) w t u ty e i hut hi b (0 * P.cellsOf e) len c cx s.rs.length news hS' hroom
                  (fun j hj => by rw [cell_of_row w b _ ca T fr h1, Array.getElem?_eq_getElem (by rw [hsz]; omega)]; rfl) (fun j hj => h2 _ (by rw [hsz]; omega))
                rw [hsz, hlo, Nat.zero_add] at hrun
                obtain ⟨g1, g2, g3, g4⟩ := setCells_rest news w b (len * P.cellsOf e)
                have hLive : Live F ρ σ b := ⟨id, _, hid, hlv0, .inl hbb⟩
                have hF : ∀ x, F x → F x ∧ (w.setCells b (len * P.cellsOf e) news).heap[x]? = w.heap[x]? := fun x hx => ⟨hx, setCells_heap_other _ _ _ _ _ (fun e => (r.fr x hx).2 (e ▸ hLive))⟩
                have hR : ∀ (x : Nat) (ca : Array Value) (T : TypeId) (fr : Nat × Nat), w.heap[x]? = some (.cells ca T fr) → ∃ cs' fr', (w.setCells b (len * P.cellsOf e) news).heap[x]? = some (.cells cs' T fr') ∧ cs'.size = ca.size := by
                  intro x ca T fr h
                  by_cases e : x = b
                  · subst e; exact ⟨_, _, setCells_heap_same _ _ _ _ _ _ _ h, setA_size _ _ _⟩
                  · exact ⟨ca, _, (setCells_heap_other _ _ _ _ _ e).trans h, rfl⟩
                have hm := upd_map r b
                have hLa := hL.mono hF hR (inMap_mono s.pure hm)
                have hsa : ∀ k, (setA ca (len * P.cellsOf e) news)[k]? = if len * P.cellsOf e ≤ k ∧ k < len * P.cellsOf e + news.length then news[k - len * P.cellsOf e]? else ca[k]? := fun k => setA_get _ _ _ _ (by omega)
                obtain ⟨q1, q2⟩ := lies_app (p := p) (q := s.pure) (rest := []) (ρ' := updMap ρ σ.length b) (F' := F) (w' := w.setCells b (len * P.cellsOf e) news) (olds := (ca.toList.take (len * P.cellsOf e))) (es := P.cellsOf e) (rs := rs) (by simp; rw [hrl]; omega) h4 (fun i j row v e1 e2 => by
                  obtain ⟨cv, e3, e4⟩ := h5 i j row v e1 e2
                  refine ⟨cv, ?_, e4.mono hF hR (inMap_mono _ hm)⟩
                  rw [List.getElem?_take, if_pos (holdget i j row v e1 e2)]
                  simpa using e3) hLa
                have hO : ORel F (w.setCells b (len * P.cellsOf e) news) (updMap ρ σ.length b) b (mkRows (isU8 P e && isTyped (Abs.obj σ id) e) e (p && s.pure) (P.cellsOf e) (rs ++ s.rs)) := by
                  refine mkRows_of (T := T) ?_ (fun h => typed_eq r hid ho0 hbb h1 _ h)
                  refine ⟨_, fr, setCells_heap_same _ _ _ _ _ _ _ h1, fun o ho => ?_, ?_, q1, ?_⟩
                  · rw [setA_size] at ho; rw [World.frozen?_setCells]; exact h2 o ho
                  · rw [setA_size, List.length_append, Nat.add_mul, hrl]; exact hspace
                  · intro i j row v e1 e2
                    obtain ⟨cv, e3, e4⟩ := q2 i j row v e1 e2
                    refine ⟨cv, ?_, e4⟩
                    rw [List.append_nil] at e3
                    rw [hsa]
                    have htl : (ca.toList.take (len * P.cellsOf e)).length = len * P.cellsOf e := by simp; omega
                    rw [List.getElem?_append, htl] at e3
                    by_cases hk : i * P.cellsOf e + j < len * P.cellsOf e
                    · rw [if_neg (by omega)]
                      rw [if_pos hk, List.getElem?_take, if_pos hk] at e3
                      simpa using e3
                    · rw [if_neg hk] at e3
                      have := (List.getElem?_eq_some_iff.1 e3).1
                      rw [if_pos (by omega)]
                      exact e3
                obtain ⟨r', t'⟩ := r.renew hid hlv0 hbb g1 g2 g3 g4 (fun x hx => setCells_heap_other _ _ _ _ _ hx) (fun cs0 T fr h => hR b cs0 T fr h) hO (mkRows_gh _ _ _ _ _)
                refine ⟨_, F, _, _, by rw [hlo]; exact hrun, t', r', ?_⟩
                have := VRel.slc (F := F) (w := w.setCells b (len * P.cellsOf e) news) (updMap ρ σ.length b) σ.length (P.cellsOf e) 0 (len + s.rs.length) none c b (by simp [updMap]) hroom (by simp) ⟨_, T, fr, setCells_heap_same _ _ _ _ _ _ _ h1, by rw [setA_size]; exact hfit⟩
                simp only [Nat.zero_mul] at this
                simpa using this
              · refine grown (some id) (some ⟨b, 0 * P.cellsOf e, none⟩) len c (ca.toList.take (len * P.cellsOf e)) news s.rs.length rs p rfl rfl _ hS hL ?_ (by simp; rw [hrl]; omega) hrl h4 ?_ (by omega) hb h63 (by simp) rfl
                · rw [hsz]
                  refine run_firstCells_some (P := P) w.drew (P.cellsOf e) len _ len c (ca.toList.take (len * P.cellsOf e)) (by simp; omega) (fun j v hj => ?_)
                  rw [List.getElem?_take] at hj
                  split at hj
                  · rw [Nat.zero_mul, add_addr, Nat.zero_add, World.cell?_drew, cell_of_row w b _ ca T fr h1]; simpa using hj
                  · cases hj
                · intro i j row v e1 e2
                  obtain ⟨cv, e3, e4⟩ := h5 i j row v e1 e2
                  refine ⟨cv, ?_, e4⟩
                  rw [List.getElem?_take, if_pos (holdget i j row v e1 e2)]
                  simpa using e3
            · have hrs : rs = [] := List.eq_nil_of_length_eq_zero hrl
              subst hrs
              by_cases hn0 : s.rs = []
              · have hS0 : Go.Src P i.size u cx 0 [] w := by
                  have : news = [] := List.eq_nil_of_length_eq_zero (by rw [hL.len, hn0]; simp)
                  rw [hsz]; rw [hn0, this] at hS; exact hS
                have hrun := run_append_nothing (P := P) w t u ty e i hut hi base0 0 0 (Nat.le_refl _) cx hS0
                obtain ⟨r1, t1⟩ := r.kill id (fun _ => False) (fun _ h => h.elim)
                have hFF : F.or (fun _ => False) = F := F.or_false
                rw [hFF] at r1 t1
                obtain ⟨r2, t2⟩ := r1.push (mkRows (isU8 P e && isTyped (Abs.obj σ id) e) e (p && s.pure) (P.cellsOf e) ([] ++ s.rs))
                refine ⟨ρ, F, w, _, hrun, Tr.trans r t1 t2, r2, ?_⟩
                have := VRel.slcE (F := F) (w := w) ρ isnil σ.length (P.cellsOf e) 0 none base0 hbn (by simp)
                simpa [hn0] using this
              · have hfc : (Builtin.firstCells i.size 0 (.slice base0 0 0)).run P w.drew = .ok ([] : List Value).toArray w.drew := by
                  cases base0 with
                  | none => exact run_firstCells_none w.drew i.size 0 0 0
                  | some a => exact run_firstCells_some w.drew i.size 0 a 0 0 [] (by simp) (fun j v h => by simp at h)
                have hpos : 0 < s.rs.length := List.length_pos_iff.2 hn0
                refine grown (some id) base0 0 0 [] news s.rs.length [] p rfl rfl _ hS hL hfc (by simp) rfl (fun i row h => by simp at h) (fun i j row v h => by simp at h) (by omega) hb h63 ?_ rfl
                simp [hn0]
          · cases h
        · cases h
      · rename_i es' rows cap
        cases h
        obtain ⟨hb, hcs⟩ := hcs.cons
        obtain ⟨hb, h63⟩ := of_decide_eq_true hb
        obtain ⟨news, hS, hL⟩ := srcA_of r hx hs hcs
        rcases hd.fsl_inv with ⟨_, rfl, hcp, rfl⟩ | ⟨h, _⟩
        · by_cases hn0 : s.rs = []
          · have hS0 : Go.Src P i.size u cx 0 [] w := by
              have : news = [] := List.eq_nil_of_length_eq_zero (by rw [hL.len, hn0]; simp)
              rw [hsz]; rw [hn0, this] at hS; exact hS
            have hrun := run_append_nothing (P := P) w t u ty e i hut hi none 0 0 (Nat.le_refl _) cx hS0
            obtain ⟨r2, t2⟩ := r.push (mkRows (isU8 P e) e s.pure (P.cellsOf e) s.rs)
            refine ⟨ρ, F, w, _, hrun, t2, r2, ?_⟩
            have := VRel.slcE (F := F) (w := w) ρ true σ.length (P.cellsOf e) 0 none none rfl (by simp)
            simpa [hn0] using this
          · have hpos : 0 < s.rs.length := List.length_pos_iff.2 hn0
            refine grown none none 0 0 [] news s.rs.length [] true rfl rfl (isU8 P e) hS hL (run_firstCells_none w.drew i.size 0 0 0) (by simp) rfl (fun i row h => by simp at h) (fun i j row v h => by simp at h) (by omega) (by rw [Nat.zero_add]; exact hb) (by omega) ?_ (by simp)
            simp [hn0]
        · cases h
      · cases h
    · cases h
  · cases h

end
end Go.Abs
end

section
set_option linter.unusedVariables false
set_option linter.unusedSimpArgs false
namespace Go.Abs

section
variable {P : Program} {F : FS} {w : World} {ρ : RMap} {σ : AState}

theorem objM_ok {id b : Nat} {p : Bool} {ents : List (AVal × AVal)} (r : Rel ρ F σ w) (h : objM σ id = .mp p ents) (hb : ρ id = some b) : ORel F w ρ b (.mp p ents) := by
  unfold objM at h
  cases ho : Abs.obj σ id <;> rw [ho] at h <;> simp only [AObj.asM] at h <;> cases h
  · exact r.obj _ _ _ (obj_some ho rfl) hb
  · obtain ⟨es, h1, h2, h3, h4⟩ := r.obj _ _ _ (obj_some ho rfl) hb
    exact ⟨es, _, h1, h2, h3.1, h4⟩
  · exact (r.obj _ _ _ (obj_some ho rfl) hb).2

theorem alen_ok {t ty : TypeId} {x : AVal} {cx : Value} {out : Out} (r : Rel ρ F σ w) (hx : VRel F w ρ x cx) (h : alen P t x σ = some out) : Fine P F w ρ σ out (Builtin.len_ #[t] ty #[cx]) := by
  unfold alen at h
  split at h
  · rename_i s hu
    cases h; obtain rfl := hx.str_inv
    exact Fine.same r (by simp [Builtin.len_, run_underlying hu]; rfl) rfl (.int _ _ _)
  · rename_i n e hu
    cases h
    exact Fine.same r (by simp [Builtin.len_, run_underlying hu]; rfl) rfl (.int _ _ _)
  · rename_i e _ _ _ _ len _ hu
    cases h
    rcases hx.slc_inv with ⟨_, c, b, _, _, _, _, rfl⟩ | ⟨rfl, base, _, _, rfl⟩
    · exact Fine.same r (by simp [Builtin.len_, run_underlying hu]; rfl) rfl (.int _ _ _)
    · exact Fine.same r (by simp [Builtin.len_, run_underlying hu]; rfl) rfl (.int _ _ _)
  · rename_i e _ _ rs _ hu
    cases h
    rcases hx.fsl_inv with ⟨_, rfl, _, rfl⟩ | ⟨_, a, c, _, _, rfl, _⟩
    · exact Fine.same r (by simp [Builtin.len_, run_underlying hu]; rfl) rfl (.int _ _ _)
    · exact Fine.same r (by simp [Builtin.len_, run_underlying hu]; rfl) rfl (.int _ _ _)
  · rename_i k e hu
    cases h; obtain rfl := hx.nilm_inv
    exact Fine.same r (by simp [Builtin.len_, run_underlying hu]; rfl) rfl (.int _ _ _)
  · rename_i k e id hu
    split at h
    · rename_i p ents ho
      cases h
      obtain ⟨b, hb, rfl⟩ := hx.map_inv
      obtain ⟨es, clock, h1, h2, _⟩ := objM_ok r ho hb
      refine Fine.same r (cv := goInt es.size) ?_ rfl (by unfold goInt; rw [h2]; exact .int _ _ _)
      have hg : (getObj b).run P w = .ok (.map es clock) w := by simp [getObj, Sem.run, h1]
      simp [Builtin.len_, run_underlying hu, hg]
    · cases h
  · cases h

theorem amakeSlice_ok {t : TypeId} {l c : AVal} {cl cc : Value} {out : Out} (r : Rel ρ F σ w) (hl : VRel F w ρ l cl) (hc : VRel F w ρ c cc) (h : amakeSlice P t l c σ = some out) (hcs : allP out.cs) :
    Fine P F w ρ σ out (Instr.makeSlice t cl cc) := by
  unfold amakeSlice at h
  split at h
  · rename_i e n m hu
    rw [Option.bind_eq_some_iff] at h
    obtain ⟨z', hz', h⟩ := h
    dsimp only at h
    split at h
    · rename_i hq
      simp only [Bool.and_eq_true, beq_iff_eq, decide_eq_true_eq] at hq
      obtain ⟨⟨hzl, hpure⟩, hes⟩ := hq
      cases h
      obtain rfl := hl.int_inv
      obtain rfl := hc.int_inv
      obtain ⟨i, z, hi, hiz, hsz, hby, hza⟩ := info_of_cells hes (by rw [hz']; rfl)
      rw [hz'] at hza; cases hza
      obtain ⟨h0, hlm, hbb, h63⟩ := of_decide_eq_true hcs.cons.1
      have hrun := run_make (P := P) w t e i z hu hi hiz .i64 .i64 n m h0 hlm (by rw [hby, Int.mul_comm]; exact hbb) h63
      have hone : ∀ v : AVal, pureCell v = true → oneCell v = true := by intro v hv; cases v <;> simp_all [pureCell, oneCell]
      have hall : (abs0 z).cells.all oneCell = true := by
        rw [List.all_eq_true] at hpure ⊢
        exact fun v hv => hone v (hpure v hv)
      obtain ⟨hzp, _⟩ := PW.cells (abs0_ok F w noId z) hall
      have hzs : z.cells.size = P.cellsOf e := by rw [← hzl, hzp.1]; simp
      have hmc : (madeCells z.cells (m.toNat * i.size)).toList = (List.replicate m.toNat z.cells.toList).flatten := by
        rw [hsz, ← hzs]; exact replicate_flatten_get m.toNat z.cells (by rw [hzs]; exact hes)
      have hPW := (hzp.replicate m.toNat)
      rw [← hmc] at hPW
      have hp' : PW F (w.alloc (.cells (madeCells z.cells (m.toNat * i.size)) e)) noId (List.replicate m.toNat (abs0 z).cells).flatten (madeCells z.cells (m.toNat * i.size)).toList :=
        ⟨hPW.1, fun k x y h1 h2 => (hPW.2 k x y h1 h2).mono (alloc_F r _) (alloc_row w _) (fun _ _ h => h)⟩
      refine Fine.new (A := .rows (!(kindsOf P 20 e).any refKind) (P.cellsOf e) (List.replicate n.toNat (abs0 z).cells)) r hrun rfl ?_ ?_
      · refine ORel.new (heap_alloc_new' _ _) ?_ ?_ ?_
        · rw [size_madeCells, List.length_replicate, hsz]
          exact Nat.mul_le_mul_right _ (by omega)
        · intro k row hk
          rw [List.getElem?_replicate] at hk
          split at hk
          · cases hk; exact hzl
          · cases hk
        · intro k j row v h1 h2
          rw [List.getElem?_replicate] at h1
          split at h1
          · rename_i hk
            cases h1
            have hj : j < P.cellsOf e := by rw [← hzl]; exact (List.getElem?_eq_some_iff.1 h2).1
            have hlt : k * P.cellsOf e + j < m.toNat * P.cellsOf e := mul_add_lt (by omega) hj
            have hget : (madeCells z.cells (m.toNat * i.size))[k * P.cellsOf e + j]? = some (z.cells[j]'(by rw [hzs]; exact hj)) := by
              unfold madeCells
              rw [Array.getElem?_map, Array.getElem?_range, if_pos (by rw [hsz]; exact hlt)]
              simp only [Option.map_some]
              have hjz : j < z.cells.size := by rw [hzs]; exact hj
              have e1 : (k * P.cellsOf e + j) % z.cells.size = j := by rw [hzs]; exact (mul_add_div hj).2
              rw [e1, getElem!_pos z.cells j hjz]
            refine ⟨_, hget, ?_⟩
            have := hzp.2 j v (z.cells[j]'(by rw [hzs]; exact hj)) h2 (by simp [hzs, hj])
            exact ((this.mono (alloc_F r _) (alloc_row w _) (ρ' := noId) (fun _ _ h => h))).pure
          · cases h1
      · have := VRel.slc (F := F) (w := w.alloc (.cells (madeCells z.cells (m.toNat * i.size)) e)) (updMap ρ σ.length w.heap.size) σ.length (P.cellsOf e) 0 n.toNat (some m.toNat) m.toNat w.heap.size (by simp [updMap]) (by omega) (by simp)
          ⟨_, e, _, heap_alloc_new' _ _, by rw [Nat.zero_add, size_madeCells, hsz]; exact Nat.le_refl _⟩
        simp only [Nat.zero_mul] at this
        exact this
    · cases h
  · cases h

theorem amakeMap_ok {t : TypeId} {out : Out} (r : Rel ρ F σ w) (h : amakeMap P t none σ = some out) : Fine P F w ρ σ out (Instr.makeMap t none) := by
  unfold amakeMap at h
  split at h
  · cases h
    refine Fine.new (o := .map #[] 0) (A := .mp _ []) r (by simp [Instr.makeMap]; rfl) rfl ⟨#[], 0, heap_alloc_new' _ _, rfl, ⟨by simp [bornL], by simp [bornL]⟩, fun i k v h => by simp at h⟩ (.map _ _ _ (by simp [updMap]))
  · cases h

def ORelO (F : FS) (w : World) (ρ : RMap) (a : Option AVal) (c : Option Value) : Prop :=
  match a, c with
  | none, none => True
  | some x, some y => VRel F w ρ x y
  | _, _ => False

theorem bound_cases {d : Nat} {a : Option AVal} {c : Option Value} {v : Int} (h : ORelO F w ρ a c) (e : abound d a = some v) : (a = none ∧ c = none ∧ v = d) ∨ (a ≠ none ∧ ∃ k, c = some (.int k v)) := by
  cases a with
  | none =>
    cases c with
    | none => simp only [abound, Option.some.injEq] at e; exact .inl ⟨rfl, rfl, e.symm⟩
    | some y => exact h.elim
  | some x =>
    cases c with
    | none => exact h.elim
    | some y =>
      cases x <;> simp only [abound] at e <;> first | (cases e; done) | skip
      simp only [Option.some.injEq] at e; subst e
      exact .inr ⟨by simp, _, congrArg some (VRel.int_inv h)⟩

theorem run_bounds {isSlice : Bool} {len cap : Nat} {lo hi mx : Option AVal} {clo chi cmx : Option Value} {l h : Int} {m : Int} (hlo : ORelO F w ρ lo clo) (hhi : ORelO F w ρ hi chi) (hmx : ORelO F w ρ mx cmx)
    (el : abound 0 lo = some l) (eh : abound len hi = some h) (em : abound cap mx = some m) (hm : mx ≠ none → hi ≠ none) (h0 : 0 ≤ l ∧ l ≤ h ∧ h ≤ m ∧ m ≤ (cap : Int)) :
    (Instr.sliceBounds isSlice len cap clo chi cmx).run P w = .ok (l.toNat, h.toNat, m.toNat) w := by
  obtain ⟨h1, h2, h3, h4⟩ := h0
  have hhn : ((h.toNat : Nat) : Int) = h := by omega
  have hmn : ((m.toNat : Nat) : Int) = m := by omega
  have s1 : ∀ k code, (Instr.sliceBound (.int k m) cap code).run P w = .ok m.toNat w := fun k code => run_sliceBound w k m cap code (by omega) h4
  have s2 : ∀ k code, (Instr.sliceBound (.int k h) m.toNat code).run P w = .ok h.toNat w := fun k code => run_sliceBound w k h _ code (by omega) (by omega)
  have s3 : ∀ k code, (Instr.sliceBound (.int k l) h.toNat code).run P w = .ok l.toNat w := fun k code => run_sliceBound w k l _ code h1 (by omega)
  rcases bound_cases hmx em with ⟨e1, rfl, e2⟩ | ⟨e1, km, rfl⟩ <;> rcases bound_cases hhi eh with ⟨e3, rfl, e4⟩ | ⟨e3, kh, rfl⟩ <;> rcases bound_cases hlo el with ⟨e5, rfl, e6⟩ | ⟨e5, kl, rfl⟩
  all_goals first
    | (exact absurd e3 (hm e1))
    | skip
  all_goals (try subst e2); (try subst e4); (try subst e6)
  all_goals (try simp only [Int.toNat_natCast] at s1 s2 s3)
  all_goals (unfold Instr.sliceBounds; simp [s1, s2, s3])

theorem aslice_ok {t : TypeId} {x : AVal} {cx : Value} {lo hi mx : Option AVal} {clo chi cmx : Option Value} {out : Out} (r : Rel ρ F σ w) (hx : VRel F w ρ x cx) (hlo : ORelO F w ρ lo clo) (hhi : ORelO F w ρ hi chi) (hmx : ORelO F w ρ mx cmx)
    (h : aslice P t x lo hi mx σ = some out) (hcs : allP out.cs) : Fine P F w ρ σ out (Instr.sliceAt t cx clo chi cmx) := by
  unfold aslice at h
  split at h
  · rename_i s hu
    split at h
    · rename_i l hh e1 e2
      cases h
      obtain rfl := hx.str_inv
      have hc := of_decide_eq_true hcs.cons.1
      have hcm : cmx = none := by
        cases cmx with
        | none => rfl
        | some y => exact hmx.elim
      subst hcm
      have hb := run_bounds (P := P) (isSlice := false) (len := s.size) (cap := s.size) hlo hhi hmx e1 e2 (by rfl : abound s.size none = some (s.size : Int)) (by simp) ⟨hc.1, hc.2.1, hc.2.2, by omega⟩
      exact Fine.same r (by simp [Instr.sliceAt, run_underlying hu, Instr.slice, hb]) rfl (.str _ _)
    · cases h
  · rename_i e isnil id es off len cap hu
    split at h
    · rename_i hbeq
      simp only [Bool.and_eq_true, beq_iff_eq, bne_iff_ne] at hbeq
      obtain ⟨hbe, hes⟩ := hbeq
      subst hbe
      have key : ∀ (l hh : Int) (ncap : Option Nat), abound 0 lo = some l → abound len hi = some hh → (mx ≠ none → hi ≠ none) → 0 ≤ l → l ≤ hh →
          (∀ c : Nat, len ≤ c → (∀ k, cap = some k → c = k) → ∃ m' : Int, abound c mx = some m' ∧ hh ≤ m' ∧ m' ≤ (c : Int) ∧ (∀ k, ncap = some k → m'.toNat - l.toNat = k)) →
          out.v = .slc isnil id (P.cellsOf e) (l.toNat + off) (hh.toNat - l.toNat) ncap → out.σ = σ → Fine P F w ρ σ out (Instr.sliceAt t cx clo chi cmx) := by
        intro l hh ncap e1 e2 e3 g0 g1 gc ov oσ
        have run : ∀ (base : Option Addr) (c : Nat) (m' : Int), abound c mx = some m' → hh ≤ m' → m' ≤ (c : Int) →
            (Instr.sliceAt t (.slice base len c) clo chi cmx).run P w = .ok (.slice (if m'.toNat = l.toNat then base else base.map (·.add (l.toNat * P.cellsOf e))) (hh.toNat - l.toNat) (m'.toNat - l.toNat)) w := by
          intro base c m' e4 g3 g4
          have hrb := run_bounds (P := P) (isSlice := true) (len := len) (cap := c) hlo hhi hmx e1 e2 e4 e3 ⟨g0, g1, g3, g4⟩
          simp only [Instr.sliceAt, Sem.run_bind, run_underlying hu, Result.andThen_ok, Instr.slice, hrb, run_sizeOf hes, Sem.run_pure]
        rcases hx.slc_inv with ⟨rfl, c, b, hb, hlc, hcp, ⟨cs, T, fr, hw, hfit⟩, rfl⟩ | ⟨rfl, base, hbn, hcp, rfl⟩
        · obtain ⟨m', e4, g3, g4, g5⟩ := gc c hlc hcp
          refine Fine.same r (run _ c m' e4 g3 g4) oσ ?_
          rw [ov, Nat.add_comm l.toNat off]
          by_cases hml : m'.toNat = l.toNat
          · rw [if_pos hml, hml, Nat.sub_self, show hh.toNat - l.toNat = 0 by omega]
            exact .slcE _ _ _ _ _ _ _ rfl (fun k hk => by have := g5 k hk; omega)
          · rw [if_neg hml, Option.map_some, add_addr, ← Nat.add_mul]
            refine .slc _ _ _ _ _ _ _ _ hb (by omega) g5 ⟨cs, T, fr, hw, Nat.le_trans (Nat.mul_le_mul_right _ ?_) hfit⟩
            omega
        · obtain ⟨m', e4, g3, g4, g5⟩ := gc 0 (Nat.le_refl _) (fun k hk => (hcp k hk).symm)
          have hl0 : l.toNat = 0 := by omega
          have hm0 : m'.toNat = 0 := by omega
          refine Fine.same r (run _ 0 m' e4 g3 g4) oσ ?_
          rw [ov, if_pos (by omega), hm0, hl0, show hh.toNat = 0 by omega]
          exact .slcE _ _ _ _ _ _ _ hbn (fun k hk => by have := g5 k hk; omega)
      split at h
      · rename_i l hh e1 e2
        cases h
        have hc := of_decide_eq_true hcs.cons.1
        exact key l hh none e1 e2 (by simp) hc.1 hc.2.1 (fun c h1 h2 => ⟨c, rfl, by omega, by omega, by simp⟩) rfl rfl
      · rename_i l hh c' e1 e2
        cases h
        have hc := of_decide_eq_true hcs.cons.1
        exact key l hh _ e1 e2 (by simp) hc.1 hc.2.1 (fun c h1 h2 => ⟨c, rfl, by have := h2 _ rfl; omega, by omega, by intro k hk; cases hk; have := h2 _ rfl; subst this; simp⟩) rfl rfl
      · rename_i l hh k m e1 e2
        split at h
        · rename_i hhi0
          cases h
          have hc := of_decide_eq_true hcs.cons.1
          exact key l hh _ e1 e2 (fun _ => by rw [← Option.isSome_iff_ne_none]; exact hhi0) hc.1 hc.2.1 (fun c h1 h2 => ⟨m, rfl, hc.2.2.1, by omega, by intro k hk; cases hk; rfl⟩) rfl rfl
        · cases h
      · cases h
    · cases h
  · rename_i e isnil es rs cap hu
    split at h
    · rename_i hbeq
      simp only [Bool.and_eq_true, beq_iff_eq, bne_iff_ne] at hbeq
      obtain ⟨hbe, hes⟩ := hbeq
      subst hbe
      have key : ∀ (l hh : Int) (ncap : Option Nat), abound 0 lo = some l → abound rs.length hi = some hh → (mx ≠ none → hi ≠ none) → 0 ≤ l → l ≤ hh → hh ≤ (rs.length : Int) →
          (∀ c : Nat, rs.length ≤ c → ∃ m' : Int, abound c mx = some m' ∧ hh ≤ m' ∧ m' ≤ (c : Int) ∧ (∀ k, ncap = some k → m'.toNat - l.toNat = k)) →
          out.v = .fsl isnil (P.cellsOf e) ((rs.take hh.toNat).drop l.toNat) ncap → out.σ = σ → Fine P F w ρ σ out (Instr.sliceAt t cx clo chi cmx) := by
        intro l hh ncap e1 e2 e3 g0 g1 g2 gc ov oσ
        have run : ∀ (base : Option Addr) (c : Nat) (m' : Int), abound c mx = some m' → hh ≤ m' → m' ≤ (c : Int) →
            (Instr.sliceAt t (.slice base rs.length c) clo chi cmx).run P w = .ok (.slice (if m'.toNat = l.toNat then base else base.map (·.add (l.toNat * P.cellsOf e))) (hh.toNat - l.toNat) (m'.toNat - l.toNat)) w := by
          intro base c m' e4 g3 g4
          have hrb := run_bounds (P := P) (isSlice := true) (len := rs.length) (cap := c) hlo hhi hmx e1 e2 e4 e3 ⟨g0, g1, g3, g4⟩
          simp only [Instr.sliceAt, Sem.run_bind, run_underlying hu, Result.andThen_ok, Instr.slice, hrb, run_sizeOf hes, Sem.run_pure]
        have hlen : ((rs.take hh.toNat).drop l.toNat).length = hh.toNat - l.toNat := by simp; omega
        rcases hx.fsl_inv with ⟨rfl, rfl, hcp, rfl⟩ | ⟨rfl, a, c, hl, hcp, rfl, hrest⟩
        · obtain ⟨m', e4, g3, g4, g5⟩ := gc 0 (Nat.le_refl _)
          simp only [List.length_nil] at g2
          refine Fine.same r (run _ 0 m' e4 g3 g4) oσ ?_
          rw [ov, if_pos (by omega), show m'.toNat - l.toNat = 0 by omega, show hh.toNat - l.toNat = 0 by omega, List.take_nil, List.drop_nil]
          exact .fnil _ _ _ (fun k hk => by have := g5 k hk; omega)
        · obtain ⟨m', e4, g3, g4, g5⟩ := gc c hl
          refine Fine.same r (run _ c m' e4 g3 g4) oσ ?_
          rw [ov]
          by_cases he0 : (rs.take hh.toNat).drop l.toNat = []
          · have h0 : hh.toNat - l.toNat = 0 := by rw [← hlen, he0]; rfl
            rw [he0, h0]
            by_cases hml : m'.toNat = l.toNat
            · rw [if_pos hml]; exact .femp _ _ _ _ _ g5
            · rw [if_neg hml]; exact .femp _ _ _ _ _ g5
          · have hne : hh.toNat - l.toNat ≠ 0 := by
              intro h0; apply he0; exact List.eq_nil_of_length_eq_zero (by rw [hlen, h0])
            rcases hrest with h0 | ⟨b, o, f, rfl, hF, hw, hg, hv⟩
            · subst h0; simp at he0
            · have hget : ∀ (i : Nat) (row : List AVal), ((rs.take hh.toNat).drop l.toNat)[i]? = some row → rs[l.toNat + i]? = some row := by
                intro i row hr
                rw [List.getElem?_drop, List.getElem?_take] at hr
                split at hr
                · exact hr
                · cases hr
              rw [if_neg (by omega), Option.map_some, add_addr]
              have := VRel.fsl (F := F) (w := w) ρ (P.cellsOf e) ((rs.take hh.toNat).drop l.toNat) b (o + l.toNat * P.cellsOf e) (m'.toNat - l.toNat) ncap (fun i j => f (l.toNat + i) j) hF (by rw [hlen]; omega) g5
                (fun i row hr => hw _ _ (hget i row hr))
                (fun i j row v h1 h2 => by
                  have := hg _ _ _ _ (hget i row h1) h2
                  rw [Nat.add_mul, ← Nat.add_assoc] at this
                  exact this)
                (fun i j row v h1 h2 => hv _ _ _ _ (hget i row h1) h2)
              rw [hlen] at this
              exact this
      split at h
      · rename_i l hh e1 e2
        cases h
        have hc := of_decide_eq_true hcs.cons.1
        exact key l hh none e1 e2 (by simp) hc.1 hc.2.1 hc.2.2 (fun c h1 => ⟨c, rfl, by omega, by omega, by simp⟩) rfl rfl
      · rename_i l hh k m e1 e2
        split at h
        · rename_i hhi0
          cases h
          have hc := of_decide_eq_true hcs.cons.1
          exact key l hh _ e1 e2 (fun _ => by rw [← Option.isSome_iff_ne_none]; exact hhi0) hc.1 hc.2.1 (by omega) (fun c h1 => ⟨m, rfl, hc.2.2.1, by omega, by intro k hk; cases hk; rfl⟩) rfl rfl
        · cases h
      · cases h
    · cases h
  · cases h
  · cases h

end
end Go.Abs
end

section
set_option linter.unusedVariables false
set_option linter.unusedSimpArgs false
namespace Go.Abs
open Go.MapKept (IsKey bytes_beq run_setObj_map run_checkKey run_findKey heap_set)

section
variable {P : Program} {F : FS} {w : World} {ρ : RMap} {σ : AState}

theorem keyKind_desc {kt : TypeId} {k : AVal} (h : keyKind P kt k = true) : ∃ d, P.underlying kt = some d := by
  unfold keyKind at h
  cases hu : P.underlying kt with
  | none => rw [hu] at h; cases h
  | some d => exact ⟨d, rfl⟩

theorem keyKind_cases {kt : TypeId} {d : TypeDesc} {k : AVal} {c : Value} (hd : P.underlying kt = some d) (h : keyKind P kt k = true) (hk : VRel F w ρ k c) :
    IsKey d c ∨ ∃ fs xs, d = .struct fs ∧ k = .agg xs ∧ fieldsKind P fs.toList xs 0 = true ∧ P.stoodInHeld kt = false ∧ P.eqGuardType P.depth kt = false := by
  unfold keyKind at h
  rw [hd] at h
  cases d <;> cases hk <;> simp_all [IsKey]

theorem keyKind1_pure {t : TypeId} {x : AVal} (h : keyKind1 P t x = true) : pureCell x = true := by
  unfold keyKind1 at h
  split at h <;> first | rfl | cases h
theorem fieldsKind_pure : ∀ (fs : List Field) (xs : List AVal) (i : Nat), fieldsKind P fs xs i = true → ∀ x ∈ xs, pureCell x = true
  | [], [], _, _, x, hx => by cases hx
  | [], _ :: _, _, h, _, _ => by simp [fieldsKind] at h
  | _ :: _, [], _, h, _, _ => by simp [fieldsKind] at h
  | f :: fs, y :: ys, i, h, x, hx => by
    simp only [fieldsKind, Bool.and_eq_true] at h
    rcases List.mem_cons.1 hx with rfl | hx
    · exact keyKind1_pure h.2.2.1
    · exact fieldsKind_pure fs ys (i + 1) h.2.2.2 x hx
theorem key_noId {kt : TypeId} {k : AVal} {c : Value} (h : keyKind P kt k = true) (hk : VRel F w ρ k c) : VRel F w noId k c := by
  obtain ⟨d, hd⟩ := keyKind_desc h
  rcases keyKind_cases hd h hk with hi | ⟨fs, xs, rfl, rfl, h1, _, _⟩
  · refine pureCell_noId hk ?_
    unfold keyKind at h
    rw [hd] at h
    cases d <;> cases k <;> simp_all [pureCell, IsKey]
  · obtain ⟨cx, rfl, px⟩ := PW.of_agg hk
    have : PW F w noId xs cx.toList := ⟨px.1, fun i a b e1 e2 => pureCell_noId (px.2 i a b e1 e2) (fieldsKind_pure _ _ _ h1 a (List.mem_of_getElem? e1))⟩
    have := this.agg (ρ := noId)
    simpa using this

theorem keyKind1_eq {t : TypeId} {x y : AVal} {cx cy : Value} {ρ' : RMap} (h1 : keyKind1 P t x = true) (h2 : keyKind1 P t y = true) (hx : VRel F w ρ x cx) (hy : VRel F w ρ' y cy) : keq1 x y = true ↔ cx = cy := by
  unfold keyKind1 at h1 h2
  cases hu : P.underlying t with
  | none => rw [hu] at h1; cases h1
  | some d =>
    rw [hu] at h1 h2
    cases d <;> cases hx <;> simp only [Bool.false_eq_true] at h1 <;> cases hy <;> simp only [Bool.false_eq_true] at h2 <;> simp_all [keq1, bytes_beq]

theorem bytesL_beq (a b : ByteArray) : (a.toList == b.toList) = (a == b) := by
  rw [Bool.eq_iff_iff, bytes_beq, beq_iff_eq, ByteArray.toList_eq, ByteArray.toList_eq]
  constructor
  · intro h
    cases a; cases b
    simp only [ByteArray.mk.injEq]
    exact Array.toList_inj.1 h
  · rintro rfl; rfl

theorem fields_eq {ρ' : RMap} {xs ys : List AVal} {cx cy : List Value} (hx : PW F w ρ xs cx) (hy : PW F w ρ' ys cy) :
    ∀ (fs : List Field) (us vs : List AVal) (i : Nat), xs.drop i = us → ys.drop i = vs → fieldsKind P fs us i = true → fieldsKind P fs vs i = true →
      (∀ nest, aeqFields P nest xs ys fs = some (keqL us vs)) ∧ (keqL us vs = true ↔ cx.drop i = cy.drop i)
  | [], [], [], i, e1, e2, _, _ => by
    refine ⟨fun nest => by simp [aeqFields, keqL], ?_⟩
    have h1 : xs.length ≤ i := by simpa using e1
    have h2 : ys.length ≤ i := by simpa using e2
    simp [keqL, List.drop_eq_nil_of_le (show cx.length ≤ i by rw [← hx.1]; exact h1), List.drop_eq_nil_of_le (show cy.length ≤ i by rw [← hy.1]; exact h2)]
  | f :: fs, u :: us, v :: vs, i, e1, e2, h1, h2 => by
    simp only [fieldsKind, Bool.and_eq_true, Bool.not_eq_true', beq_iff_eq] at h1 h2
    obtain ⟨g1, g2, g3, g4⟩ := h1
    obtain ⟨_, _, g5, g6⟩ := h2
    have x1 : xs[i]? = some u := by rw [← List.head?_drop, e1]; rfl
    have y1 : ys[i]? = some v := by rw [← List.head?_drop, e2]; rfl
    have hi : i < cx.length := by rw [← hx.1]; exact (List.getElem?_eq_some_iff.1 x1).1
    have hj : i < cy.length := by rw [← hy.1]; exact (List.getElem?_eq_some_iff.1 y1).1
    have rx := hx.2 i u _ x1 (List.getElem?_eq_getElem hi)
    have ry := hy.2 i v _ y1 (List.getElem?_eq_getElem hj)
    obtain ⟨k1, k2⟩ := fields_eq hx hy fs us vs (i + 1) (by rw [← List.drop_drop, e1]; rfl) (by rw [← List.drop_drop, e2]; rfl) g4 g6
    have hq := keyKind1_eq g3 g5 rx ry
    refine ⟨fun nest => ?_, ?_⟩
    · unfold keyKind1 at g3 g5
      unfold aeqFields
      rw [if_neg (by simpa using g1)]
      simp only [g2, x1, y1]
      split at g3
      · rename_i q q' n hu
        rw [hu] at g5 ⊢
        split at g5
        · rename_i q2 q3 m h6
          have g3 : q = q' := by simpa using g3
          have g5 : q2 = q3 := by simpa using g5
          cases h6
          subst g3; subst g5
          simp [k1, keqL, keq1]
        · rename_i h6; cases h6
        · cases g5
      · rename_i s hu
        rw [hu] at g5 ⊢
        split at g5
        · rename_i h6; cases h6
        · rename_i s2 h6
          simp only [k1, Option.map_some, keqL, keq1]
          rw [bytesL_beq]
        · cases g5
      · cases g3
    · rw [List.drop_eq_getElem_cons hi, List.drop_eq_getElem_cons hj]
      simp only [keqL, Bool.and_eq_true, List.cons.injEq]
      rw [hq, k2]
  | [], u :: us, _, i, _, _, h1, _ => by simp [fieldsKind] at h1
  | [], [], v :: vs, i, _, _, _, h2 => by simp [fieldsKind] at h2
  | f :: fs, [], _, i, _, _, h1, _ => by simp [fieldsKind] at h1
  | f :: fs, u :: us, [], i, _, _, _, h2 => by simp [fieldsKind] at h2

theorem keq_ok {kt : TypeId} {d : TypeDesc} {k k' : AVal} {c c' : Value} {ρ' : RMap} (hd : P.underlying kt = some d) (h : keyKind P kt k = true) (h' : keyKind P kt k' = true) (hk : VRel F w ρ k c) (hk' : VRel F w ρ' k' c') :
    (IsKey d c → Instr.sameNow d c c' = some (keq k k')) ∧ ((∃ fs, d = .struct fs) → (Op.equal kt c c').run P w = .ok (keq k k') w) ∧ (keq k k' = true ↔ c = c') := by
  rcases keyKind_cases hd h hk with hi | ⟨fs, xs, rfl, rfl, h1, h2, h3⟩
  · unfold keyKind at h h'
    rw [hd] at h h'
    cases d <;> cases hk <;> simp only [Bool.false_eq_true] at h <;> cases hk' <;> simp only [Bool.false_eq_true] at h' <;> simp_all [Instr.sameNow, keq, keq1, bytes_beq, IsKey]
  · have n1 := key_noId h hk
    have n2 := key_noId h' hk'
    unfold keyKind at h'
    rw [hd] at h'
    cases n2 <;> simp only [Bool.false_eq_true] at h'
    rename_i ys cy hl' hh'
    obtain ⟨cx, rfl, px⟩ := PW.of_agg n1
    have py : PW F w noId ys cy.toList := ⟨by simpa using hl', fun i a b e1 e2 => hh' i a b e1 (by simpa using e2)⟩
    simp only [Bool.and_eq_true] at h'
    obtain ⟨f1, f2⟩ := fields_eq px py fs.toList xs ys 0 rfl rfl h1 h'.1
    refine ⟨fun hi => by simp [IsKey] at hi, fun _ => ?_, ?_⟩
    · have ha : aeqAgg P kt xs ys = some (keqL xs ys) := by
        unfold aeqAgg
        rw [h3]
        simp only [Bool.false_eq_true, if_false]
        unfold aeqNest
        rw [h2, hd]
        simp only [Bool.false_eq_true, if_false]
        exact f1 _
      have := (aeqAgg_ok px py ha).1
      show (Op.equalIn 10000 kt _ _).run P w = _
      rw [this]; rfl
    · simp only [List.drop_zero] at f2
      show keqL xs ys = true ↔ _
      rw [f2]
      simp

theorem flat_checks {xs : List AVal} {cx : Array Value} (hx : PW F w ρ xs cx.toList) (n : Nat) :
    ∀ (fs : List Field) (us : List AVal) (i : Nat), xs.drop i = us → fieldsKind P fs us i = true → ∀ f ∈ fs, f.name ≠ "_" ∧ ∃ a, (part f.type cx f.offset).run P w = .ok a w ∧ ∀ em, (Instr.checkKey em (n + 1) f.type a).run P w = .ok () w
  | [], _, _, _, _, f, hf => by cases hf
  | g :: fs, [], _, _, h, f, hf => by simp [fieldsKind] at h
  | g :: fs, u :: us, i, e1, h, f, hf => by
    simp only [fieldsKind, Bool.and_eq_true, Bool.not_eq_true', beq_iff_eq] at h
    obtain ⟨g1, g2, g3, g4⟩ := h
    rcases List.mem_cons.1 hf with rfl | hf
    · refine ⟨by simpa using g1, ?_⟩
      have x1 : xs[i]? = some u := by rw [← List.head?_drop, e1]; rfl
      have hi : i < cx.size := by
        have := (List.getElem?_eq_some_iff.1 x1).1
        have h2 : xs.length = cx.size := by rw [hx.1, Array.length_toList]
        omega
      have rx := hx.2 i u cx[i] x1 (by rw [Array.getElem?_toList, Array.getElem?_eq_getElem hi])
      unfold keyKind1 at g3
      split at g3
      · rename_i q q' m hu
        have e := rx.int_inv
        exact ⟨_, by simp [Go.part, isAgg, run_underlying hu, g2, Array.getElem?_eq_getElem hi]; rfl, fun em => by rw [e]; simp [Instr.checkKey, run_underlying hu]⟩
      · rename_i s hu
        have e := rx.str_inv
        exact ⟨_, by simp [Go.part, isAgg, run_underlying hu, g2, Array.getElem?_eq_getElem hi]; rfl, fun em => by rw [e]; simp [Instr.checkKey, run_underlying hu]⟩
      · cases g3
    · exact flat_checks hx n fs us (i + 1) (by rw [← List.drop_drop, e1]; rfl) g4 f hf

theorem run_check {kt : TypeId} {k : AVal} {c : Value} (h : keyKind P kt k = true) (hk : VRel F w ρ k c) (em : Bool) : (Instr.checkKey em 10000 kt c).run P w = .ok () w := by
  obtain ⟨d, hd⟩ := keyKind_desc h
  rcases keyKind_cases hd h hk with hi | ⟨fs, xs, rfl, rfl, h1, _, _⟩
  · exact run_checkKey hd hi em 9999
  · obtain ⟨cx, rfl, px⟩ := PW.of_agg hk
    rw [show (10000 : Nat) = 9999 + 1 from rfl, Instr.checkKey]
    simp only [Sem.run_bind, run_underlying hd, Result.andThen_ok]
    rw [← Array.forIn_toList]
    have each := flat_checks px 9998 fs.toList xs 0 rfl h1
    generalize fs.toList = L at each
    clear h1 hd h
    induction L with
    | nil => simp
    | cons f L ih =>
      obtain ⟨hn, a, p1, p2⟩ := each f (by simp)
      simp only [List.forIn_cons, Sem.run_bind, hn, ne_eq, not_false_eq_true, if_true, Result.andThen_ok, p1, p2, Sem.run_pure]
      exact ih fun y hy => each y (by simp [hy])

def PE (F : FS) (w : World) (ρ : RMap) (ents : List (AVal × AVal)) (es : List MapEntry) : Prop :=
  es.length = ents.length ∧ ∀ (i : Nat) (k v : AVal), ents[i]? = some (k, v) → ∃ e, es[i]? = some e ∧ VRel F w ρ k e.key ∧ VRel F w ρ v e.val

theorem PE.tail {x : AVal × AVal} {ents : List (AVal × AVal)} {e : MapEntry} {es : List MapEntry} (h : PE F w ρ (x :: ents) (e :: es)) : PE F w ρ ents es :=
  ⟨by simpa using h.1, fun i k v h1 => by simpa using h.2 (i + 1) k v (by simpa using h1)⟩

theorem find_any {kt : TypeId} {k : AVal} {c : Value} {run : List MapEntry → Nat → Option (Nat × Value) → Prop}
    (r0 : ∀ i, run [] i none) (r1 : ∀ (k' : AVal) (e : MapEntry) es i, keyKind P kt k' = true → VRel F w ρ k' e.key → keq k k' = true → run (e :: es) i (some (i, e.val)))
    (r2 : ∀ (k' : AVal) (e : MapEntry) es i r, keyKind P kt k' = true → VRel F w ρ k' e.key → keq k k' = false → run es (i + 1) r → run (e :: es) i r)
    (heq : ∀ (k' : AVal) (e : MapEntry), keyKind P kt k' = true → VRel F w ρ k' e.key → keq k k' = true → c = e.key) :
    ∀ (ents : List (AVal × AVal)) (es : List MapEntry) (i : Nat), PE F w ρ ents es → (ents.all fun p => keyKind P kt p.1) = true →
      (afind k ents = none ∧ run es i none ∧ (∀ u, aput k u ents = ents ++ [(k, u)]) ∧ adel k ents = ents ∧ ∀ bs, bs.length = ents.length → adelB k ents bs = bs) ∨
      ∃ v j e, afind k ents = some v ∧ run es i (some (i + j, e.val)) ∧ es[j]? = some e ∧ VRel F w ρ v e.val ∧ e.key = c ∧ (∀ u, aput k u ents = ents.set j (k, u)) ∧ j < ents.length ∧ adel k ents = ents.eraseIdx j ∧
        ∀ bs, bs.length = ents.length → adelB k ents bs = bs.eraseIdx j
  | [], [], i, _, _ => .inl ⟨rfl, r0 i, fun _ => rfl, rfl, fun bs _ => by cases bs <;> rfl⟩
  | [], e :: es, _, h, _ => by have := h.1; simp at this
  | x :: ents, [], _, h, _ => by have := h.1; simp at this
  | (k', v') :: ents, e :: es, i, h, ha => by
    simp only [List.all_cons, Bool.and_eq_true] at ha
    obtain ⟨e', h1, h2, h3⟩ := h.2 0 k' v' rfl
    simp only [List.getElem?_cons_zero, Option.some.injEq] at h1
    subst h1
    cases hq : keq k k' with
    | true =>
      refine .inr ⟨v', 0, e, by simp [afind, hq], r1 k' e es i ha.1 h2 hq, rfl, h3, (heq k' e ha.1 h2 hq).symm, fun u => by simp [aput, hq], by simp, by simp [adel, hq], fun bs hb => ?_⟩
      cases bs with
      | nil => simp at hb
      | cons b bs => simp [adelB, hq]
    | false =>
      rcases find_any r0 r1 r2 heq ents es (i + 1) h.tail ha.2 with ⟨g1, g2, g3, g4, g5⟩ | ⟨v, j, e', g1, g2, g3, g4, g5, g6, g7, g8, g9⟩
      · refine .inl ⟨by simp [afind, hq, g1], r2 k' e es i _ ha.1 h2 hq g2, fun u => by simp [aput, hq, g3], by simp [adel, hq, g4], fun bs hb => ?_⟩
        cases bs with
        | nil => simp at hb
        | cons b bs => simp [adelB, hq, g5 bs (by simpa using hb)]
      · refine .inr ⟨v, j + 1, e', by simp [afind, hq, g1], r2 k' e es i _ ha.1 h2 hq (by rw [show i + (j + 1) = i + 1 + j by omega]; exact g2), by simpa using g3, g4, g5, fun u => by simp [aput, hq, g6], by simpa using g7, by simp [adel, hq, g8], fun bs hb => ?_⟩
        cases bs with
        | nil => simp at hb
        | cons b bs => simp [adelB, hq, g9 bs (by simpa using hb)]

theorem find_ok {kt : TypeId} {k : AVal} {c : Value} {ρ' : RMap} (hk : keyKind P kt k = true) (hkc : VRel F w ρ' k c) (ents : List (AVal × AVal)) (es : List MapEntry) (h : PE F w ρ ents es) (hall : (ents.all fun p => keyKind P kt p.1) = true) :
      (afind k ents = none ∧ (Instr.findKey kt c es).run P w = .ok none w ∧ (∀ u, aput k u ents = ents ++ [(k, u)]) ∧ adel k ents = ents ∧ ∀ bs, bs.length = ents.length → adelB k ents bs = bs) ∨
      ∃ v j e, afind k ents = some v ∧ (Instr.findKey kt c es).run P w = .ok (some (j, e.val)) w ∧ es[j]? = some e ∧ VRel F w ρ v e.val ∧ e.key = c ∧ (∀ u, aput k u ents = ents.set j (k, u)) ∧ j < ents.length ∧ adel k ents = ents.eraseIdx j ∧
        ∀ bs, bs.length = ents.length → adelB k ents bs = bs.eraseIdx j := by
  obtain ⟨d, hd⟩ := keyKind_desc hk
  have heq : ∀ (k' : AVal) (e : MapEntry), keyKind P kt k' = true → VRel F w ρ k' e.key → keq k k' = true → c = e.key := fun k' e h1 h2 h3 => (keq_ok hd hk h1 hkc h2).2.2.1 h3
  rcases keyKind_cases hd hk hkc with hi | ⟨fs, xs, rfl, rfl, _, _, _⟩
  · rcases find_any (run := fun es i r => Instr.findNow d c es i = some r) (fun i => rfl)
      (fun k' e es i h1 h2 h3 => by simp [Instr.findNow, (keq_ok hd hk h1 hkc h2).1 hi, h3]) (fun k' e es i r h1 h2 h3 h4 => by simp [Instr.findNow, (keq_ok hd hk h1 hkc h2).1 hi, h3, h4]) heq ents es 0 h hall with ⟨g1, g2, g3⟩ | ⟨v, j, e, g1, g2, g3⟩
    · exact .inl ⟨g1, run_findKey hd g2, g3⟩
    · rw [Nat.zero_add] at g2
      exact .inr ⟨v, j, e, g1, run_findKey hd g2, g3⟩
  · have hfk : ∀ es, (Instr.findKey kt c es).run P w = (Instr.findAsking kt c es).run P w := fun es => run_findKey_eq w (by rw [hd]) _ _
    rw [hfk]
    rcases find_any (run := fun es i r => (Instr.findAsking kt c es i).run P w = .ok r w) (fun i => by simp [Instr.findAsking])
      (fun k' e es i h1 h2 h3 => by simp only [Instr.findAsking, Sem.run_bind, (keq_ok hd hk h1 hkc h2).2.1 ⟨fs, rfl⟩, h3, Result.andThen_ok]; simp)
      (fun k' e es i r h1 h2 h3 h4 => by simp only [Instr.findAsking, Sem.run_bind, (keq_ok hd hk h1 hkc h2).2.1 ⟨fs, rfl⟩, h3, Result.andThen_ok]; simpa using h4) heq ents es 0 h hall with ⟨g1, g2, g3⟩ | ⟨v, j, e, g1, g2, g3⟩
    · exact .inl ⟨g1, g2, g3⟩
    · rw [Nat.zero_add] at g2
      exact .inr ⟨v, j, e, g1, g2, g3⟩

theorem run_lookup {t kt e : TypeId} {k : AVal} {c : Value} {ok : Bool} {r : Nat} {es : Array MapEntry} {clock : Nat} (hu : P.underlying t = some (.map kt e)) (hkk : keyKind P kt k = true) (hk : VRel F w ρ k c) (hb : w.heap[r]? = some (.map es clock)) {zv : Value} (hz : (zeroValue e).run P w = .ok zv w) :
    ((Instr.findKey kt c es.toList).run P w = .ok none w → (Instr.lookup t (.map (some r)) c ok).run P w = .ok (if ok then .tuple #[zv, .bool false] else zv) w) ∧
    ∀ j v, (Instr.findKey kt c es.toList).run P w = .ok (some (j, v)) w → (Instr.lookup t (.map (some r)) c ok).run P w = .ok (if ok then .tuple #[v, .bool true] else v) w := by
  have hc := fun b => run_check (P := P) (w := w) hkk hk b
  refine ⟨fun h => ?_, fun j v h => ?_⟩
  · simp [Instr.lookup, run_underlying hu, Go.MapKept.run_getObj_map hb, hc, h, hz]
  · simp [Instr.lookup, run_underlying hu, Go.MapKept.run_getObj_map hb, hc, h]

theorem tuple2 {a b : AVal} {x y : Value} (h1 : VRel F w ρ a x) (h2 : VRel F w ρ b y) : VRel F w ρ (.tuple [a, b]) (.tuple #[x, y]) :=
  .tuple _ _ _ rfl fun i v u e1 e2 => by
    match i with
    | 0 => simp at e1 e2; subst e1; subst e2; exact h1
    | 1 => simp at e1 e2; subst e1; subst e2; exact h2
    | i + 2 => simp at e1

theorem reify_type {e : TypeId} {v : AVal} {c : Value} (h : VRel F w noId v c) (hok : okCells P e v = true) : VRel F w ρ (asType P e (reifyL (kindsOf P 20 e) v.cells)) c := by
  unfold okCells at hok
  simp only [Bool.and_eq_true, decide_eq_true_eq] at hok
  obtain ⟨⟨⟨hk, hone⟩, hv⟩, h0⟩ := hok
  obtain ⟨hp, _⟩ := PW.cells h hone
  have hr := reifyL_ok _ _ _ hp hk
  have hlen : 0 < (reifyL (kindsOf P 20 e) v.cells).length := by rw [hr.1, ← hp.1]; exact h0
  unfold asType
  cases v with
  | agg cs =>
    obtain ⟨ys, rfl, hp'⟩ := PW.of_agg h
    have hv : isAggT P e = true := by simpa using hv
    rw [hv]
    have := hr.pure (ρ := ρ) |>.agg
    simpa [Value.cells] using this
  | any => simp [AVal.cells, oneCell] at hone
  | tuple vs => simp [AVal.cells, oneCell] at hone
  | pagg vs => simp [AVal.cells, oneCell] at hone
  | _ =>
    have hv : isAggT P e = false := by simpa using hv
    rw [hv]
    have e1 : c.cells = #[c] := by cases h <;> rfl
    have := (hr.pure (ρ := ρ)).head hlen
    rw [e1] at this
    simpa using this

theorem alookup_ok {t : TypeId} {x k : AVal} {cx ck : Value} {ok : Bool} {out : Out} (r : Rel ρ F σ w) (hx : VRel F w ρ x cx) (hk : VRel F w ρ k ck) (h : alookup P t x k ok σ = some out) (hcs : allP out.cs) :
    Fine P F w ρ σ out (Instr.lookup t cx ck ok) := by
  unfold alookup at h
  split at h
  · rename_i kt e hu
    split at h
    · rename_i hkk
      split at h
      · rename_i z hz
        obtain ⟨zv, hz1, hz2⟩ := zeroA_ok (w := w) hz
        split at h
        · cases h
          obtain rfl := hx.nilm_inv
          have hc := fun b => run_check (P := P) (w := w) hkk hk b
          obtain ⟨d, hd⟩ := keyKind_desc hkk
          refine Fine.same r (cv := if ok then .tuple #[zv, .bool false] else zv) ?_ rfl ?_
          · simp [Instr.lookup, run_underlying hu, hc, Instr.findKey, run_underlying hd, Instr.findNow, hz1]
          · cases ok
            · exact hz2 _ _
            · exact tuple2 (hz2 _ _) (.tt _ _)
        · rename_i id
          obtain ⟨b, hb, rfl⟩ := hx.map_inv
          split at h
          · rename_i ents ho
            cases h
            obtain ⟨h1, h2⟩ := hcs.cons
            have h2 := h2.cons.1
            obtain ⟨es, clock, hw, hsz, _, hpe⟩ := objM_ok r ho hb
            obtain ⟨g1, g2⟩ := run_lookup (P := P) (w := w) (ok := ok) hu hkk hk hw hz1
            rcases find_ok (F := F) (w := w) (ρ := noId) hkk hk ents es.toList ⟨by simpa using hsz, fun i k v h => by have := hpe i k v h; simpa [inMap] using this⟩ h2 with ⟨e1, e2, _⟩ | ⟨v, j, e', e1, e2, e3, e4, _⟩
            · refine Fine.same r (g1 e2) rfl ?_
              rw [e1] at h1 ⊢
              have := reify_type (ρ := ρ) (hz2 F noId) h1
              cases ok
              · exact this
              · exact tuple2 this (.tt _ _)
            · refine Fine.same r (g2 _ _ e2) rfl ?_
              rw [e1] at h1 ⊢
              have := reify_type (ρ := ρ) e4 h1
              cases ok
              · exact this
              · exact tuple2 this (.tt _ _)
          · rename_i ents ho
            cases h
            have h2 := hcs.cons.1
            obtain ⟨es, clock, hw, hsz, _, hpe⟩ := objM_ok r ho hb
            obtain ⟨g1, g2⟩ := run_lookup (P := P) (w := w) (ok := ok) hu hkk hk hw hz1
            rcases find_ok (F := F) (w := w) (ρ := ρ) hkk hk ents es.toList ⟨by simpa using hsz, fun i k v h => by simpa [inMap] using hpe i k v h⟩ h2 with ⟨e1, e2, _⟩ | ⟨v, j, e', e1, e2, e3, e4, _⟩
            · refine Fine.same r (g1 e2) rfl ?_
              rw [e1]
              cases ok
              · exact hz2 _ _
              · exact tuple2 (hz2 _ _) (.tt _ _)
            · refine Fine.same r (g2 _ _ e2) rfl ?_
              rw [e1]
              cases ok
              · exact e4
              · exact tuple2 e4 (.tt _ _)
          · cases h
        · cases h
      · cases h
    · cases h
  · cases h

theorem sameBits_key {kt : TypeId} {k : AVal} {c : Value} (h : keyKind P kt k = true) (hk : VRel F w ρ k c) : Instr.sameBits 10000 c c = true := by
  obtain ⟨d, hd⟩ := keyKind_desc h
  rcases keyKind_cases hd h hk with hi | ⟨fs, xs, rfl, rfl, h1, _, _⟩
  · exact Go.MapKept.sameBits_self hi _
  · obtain ⟨cx, rfl, px⟩ := PW.of_agg hk
    show Instr.sameBits (9999 + 1) (.agg cx) (.agg cx) = true
    simp only [Instr.sameBits, beq_self_eq_true, Bool.true_and, List.all_eq_true]
    intro p hp
    obtain ⟨i, hi⟩ := List.mem_iff_getElem?.1 hp
    rw [List.getElem?_zip_eq_some] at hi
    obtain ⟨h2, h3⟩ := hi
    rw [h2] at h3
    have e : p.1 = p.2 := Option.some.inj h3
    rw [← e]
    have hlt : i < xs.length := by rw [px.1]; exact (List.getElem?_eq_some_iff.1 h2).1
    have hv := px.2 i xs[i] p.1 (List.getElem?_eq_getElem hlt) h2
    have key : ∀ (fs : List Field) (us : List AVal) (n : Nat), fieldsKind P fs us n = true → ∀ u ∈ us, ∃ t, keyKind1 P t u = true := by
      intro fs
      induction fs with
      | nil => intro us n h u hu; cases us with
        | nil => cases hu
        | cons => simp [fieldsKind] at h
      | cons f fs ih =>
        intro us n h u hu
        cases us with
        | nil => cases hu
        | cons y ys =>
          simp only [fieldsKind, Bool.and_eq_true] at h
          rcases List.mem_cons.1 hu with rfl | hu
          · exact ⟨_, h.2.2.1⟩
          · exact ih ys _ h.2.2.2 u hu
    obtain ⟨t, ht⟩ := key _ _ _ h1 xs[i] (List.getElem_mem hlt)
    unfold keyKind1 at ht
    generalize xs[i] = x at ht hv
    split at ht
    · rw [hv.int_inv]; simp [Instr.sameBits]
    · rw [hv.str_inv]; simp [Instr.sameBits, bytes_beq]
    · cases ht

theorem BRL.push {bs : List Nat} {c : Nat} (h : BRL bs c) : BRL (bs ++ [c]) (c + 1) := by
  refine ⟨List.pairwise_append.2 ⟨h.1, by simp, fun a ha b hb => ?_⟩, fun b hb => ?_⟩
  · simp at hb; subst hb; exact h.2 a ha
  · rcases List.mem_append.1 hb with hb | hb
    · have := h.2 b hb; omega
    · simp at hb; omega
theorem bornL_push (es : Array MapEntry) (e : MapEntry) : bornL (es.push e) = bornL es ++ [e.born] := by simp [bornL]
theorem bornL_modify (es : Array MapEntry) (j : Nat) (f : MapEntry → MapEntry) (hf : ∀ e, (f e).born = e.born) : bornL (es.modify j f) = bornL es := by
  refine List.ext_getElem? fun i => ?_
  simp only [bornL, List.getElem?_map, Array.getElem?_toList, Array.getElem?_modify]
  split
  · cases es[i]? <;> simp [hf]
  · rfl
theorem ih0 (l : List MapEntry) : ∀ (j : Nat), (l.eraseIdx j).map (·.born) = (l.map (·.born)).eraseIdx j := by
  induction l with
  | nil => intro j; simp
  | cons a l ih => intro j; cases j with
    | zero => simp
    | succ j => simp [ih j]
theorem bornL_erase (es : Array MapEntry) {j : Nat} (hj : j < es.size) : bornL (es.eraseIdxIfInBounds j) = (bornL es).eraseIdx j := by
  rw [Array.eraseIdxIfInBounds_eq, dif_pos hj]
  simp only [bornL, Array.toList_eraseIdx]
  exact ih0 _ _
theorem BRL.erase {bs : List Nat} {c : Nat} (h : BRL bs c) (j : Nat) : BRL (bs.eraseIdx j) c :=
  ⟨h.1.sublist (List.eraseIdx_sublist _ _), fun b hb => h.2 b ((List.eraseIdx_sublist bs j).subset hb)⟩

theorem Rel.mapput {id b : Nat} {p : Bool} {ents : List (AVal × AVal)} {kt : TypeId} {t e : TypeId} {k v : AVal} {ck cv : Value} {o0 : AObj} (r : Rel ρ F σ w) (hid : σ[id]? = some o0) (hl : o0.live = true) (hb : ρ id = some b)
    (ho : ORel F w ρ b (.mp p ents)) (hu : P.underlying t = some (.map kt e)) (hkk : keyKind P kt k = true) (hk : VRel F w ρ k ck) (hv : VRel F w (inMap p ρ) v cv) (hall : (ents.all fun p => keyKind P kt p.1) = true) :
    ∃ w', (Instr.mapUpdate t (.map (some b)) ck cv).run P w = .ok () w' ∧ Rel ρ F (σ.set id (.mp p (aput k v ents))) w' ∧ Tr σ (σ.set id (.mp p (aput k v ents))) ρ ρ F F w w' := by
  obtain ⟨es, clock, hw, hsz, hbr, hpe⟩ := ho
  have hkp : VRel F w (inMap p ρ) k ck := (key_noId hkk hk).pure
  have hck := run_check (P := P) (w := w) hkk hk false
  have hset : ∀ (o : Obj), (setObj b o).run P w = .ok () { w with heap := w.heap.setIfInBounds b o } := fun o => run_setObj_map o hw
  have fin : ∀ (es' : Array MapEntry) (clock' : Nat), es'.size = (aput k v ents).length → BRL (bornL es') clock' → (∀ (i : Nat) (k' v' : AVal), (aput k v ents)[i]? = some (k', v') → ∃ e, es'[i]? = some e ∧ VRel F w (inMap p ρ) k' e.key ∧ VRel F w (inMap p ρ) v' e.val) →
      Rel ρ F (σ.set id (.mp p (aput k v ents))) { w with heap := w.heap.setIfInBounds b (.map es' clock') } ∧ Tr σ (σ.set id (.mp p (aput k v ents))) ρ ρ F F w { w with heap := w.heap.setIfInBounds b (.map es' clock') } := by
    intro es' clock' h1 h0 h2
    obtain ⟨g1, g2⟩ := heap_set (o' := .map es' clock') hw
    have hLive : Live F ρ σ b := ⟨id, o0, hid, hl, .inl hb⟩
    have hF : ∀ x, F x → F x ∧ ({ w with heap := w.heap.setIfInBounds b (.map es' clock') } : World).heap[x]? = w.heap[x]? := fun x hx => ⟨hx, g2 x (fun e => (r.fr x hx).2 (e ▸ hLive))⟩
    have hR : ∀ (x : Nat) (ca : Array Value) (T : TypeId) (fr : Nat × Nat), w.heap[x]? = some (.cells ca T fr) → ∃ cs' fr', ({ w with heap := w.heap.setIfInBounds b (.map es' clock') } : World).heap[x]? = some (.cells cs' T fr') ∧ cs'.size = ca.size := by
      intro x ca T fr h
      by_cases e : x = b
      · subst e; rw [hw] at h; cases h
      · exact ⟨ca, _, (g2 x e).trans h, rfl⟩
    refine r.upd hid hl hb (by simp) rfl rfl rfl g2 (fun cs T fr h => hR b cs T fr h) ⟨es', clock', g1, h1, h0, ?_⟩
    intro i k' v' e1
    obtain ⟨e, e2, e3, e4⟩ := h2 i k' v' e1
    exact ⟨e, e2, e3.mono hF hR (fun _ _ h => h), e4.mono hF hR (fun _ _ h => h)⟩
  rcases find_ok (F := F) (w := w) (ρ := inMap p ρ) hkk hk ents es.toList ⟨by simpa using hsz, fun i k v h => by simpa using hpe i k v h⟩ hall with ⟨e1, e2, e3, _⟩ | ⟨v0, j, e', e1, e2, e3, e4, e5, e6, _⟩
  · refine ⟨_, ?_, fin (es.push { key := ck, val := cv, born := clock }) (clock + 1) (by rw [e3]; simp [hsz]) (by rw [bornL_push]; exact hbr.push) ?_⟩
    · simp [Instr.mapUpdate, run_underlying hu, Go.MapKept.run_getObj_map hw, hck, e2, hset]
    · intro i k' v' h
      rw [e3, List.getElem?_append] at h
      split at h
      · obtain ⟨e, g1, g2, g3⟩ := hpe i k' v' h
        have hlt := (Array.getElem?_eq_some_iff.1 g1).1
        exact ⟨e, by rw [Array.getElem?_push_lt hlt, ← g1, Array.getElem?_eq_getElem hlt], g2, g3⟩
      · have hi : i - ents.length = 0 := by have := (List.getElem?_eq_some_iff.1 h).1; simp at this; omega
        rw [hi] at h
        simp only [List.getElem?_cons_zero, Option.some.injEq, Prod.mk.injEq] at h
        obtain ⟨rfl, rfl⟩ := h
        have hlen : i = es.size := by omega
        exact ⟨{ key := ck, val := cv, born := clock }, by rw [hlen]; simp, hkp, hv⟩
  · have hj : j < es.size := by have := (List.getElem?_eq_some_iff.1 e3).1; simpa using this
    have hje : es[j]? = some e' := by simpa using e3
    refine ⟨_, ?_, fin (es.modify j fun e => { e with key := ck, val := cv }) clock (by rw [e6]; simp [hsz]) (by rw [bornL_modify]; exact hbr; intro e; rfl) ?_⟩
    · have hsb : Instr.sameBits 10000 ck ck = true := sameBits_key hkk hk
      simp [Instr.mapUpdate, run_underlying hu, Go.MapKept.run_getObj_map hw, hck, e2, hset, hje, e5, Instr.keyThatStays, hsb]
    · intro i k' v' h
      rw [e6, List.getElem?_set] at h
      rw [Array.getElem?_modify]
      by_cases hij : j = i
      · subst hij
        simp only [if_true] at h
        rw [if_pos (by omega)] at h
        simp only [Option.some.injEq, Prod.mk.injEq] at h
        obtain ⟨rfl, rfl⟩ := h
        exact ⟨_, by rw [if_pos rfl, hje]; rfl, hkp, hv⟩
      · rw [if_neg hij] at h
        obtain ⟨e, g1, g2, g3⟩ := hpe i k' v' h
        exact ⟨e, by rw [if_neg hij]; exact g1, g2, g3⟩

theorem freezeA_ok {v : AVal} {c : Value} {x : AVal × Frz} (r : Rel ρ F σ w) (hv : VRel F w ρ v c) (h : freezeA σ v = some x) (hcs : allP x.2.cs) :
    ∃ F', Rel ρ F' x.2.σ w ∧ Tr σ x.2.σ ρ ρ F F' w w ∧ VRel F' w noId x.1 c := by
  unfold freezeA at h
  split at h
  · rename_i cs
    rw [Option.map_eq_some_iff] at h
    obtain ⟨y, hy, rfl⟩ := h
    obtain ⟨ys, rfl, hp⟩ := PW.of_agg hv
    obtain ⟨F', r', t', hp'⟩ := freezeL_ok _ _ r hp hy hcs
    exact ⟨F', r', t', by simpa using hp'.agg⟩
  · rw [Option.map_eq_some_iff] at h
    obtain ⟨y, hy, rfl⟩ := h
    obtain ⟨F', r', t', u, hu, hu'⟩ := freezeV_ok r hv hy hcs
    exact ⟨F', r', t', by rw [hu]; exact hu'⟩

theorem aput_none {k v : AVal} : ∀ (l : List (AVal × AVal)), afind k l = none → aput k v l = l ++ [(k, v)]
  | [], _ => rfl
  | (k', v') :: l, h => by
    simp only [afind] at h
    split at h
    · cases h
    · rename_i hk
      simp only [aput, hk, if_false, List.cons_append]
      rw [aput_none l h]; simp
theorem adel_mid {k : AVal} {e : AVal × AVal} {post : List (AVal × AVal)} (he : keq k e.1 = true) : ∀ (pre : List (AVal × AVal)), afind k pre = none → adel k (pre ++ [e] ++ post) = pre ++ post
  | [], _ => by obtain ⟨k', v'⟩ := e; simp only [List.nil_append, List.cons_append, adel, he, if_true]
  | (k', v') :: l, h => by
    simp only [afind] at h
    split at h
    · cases h
    · rename_i hk
      simp only [List.cons_append, adel, hk, if_false]
      rw [adel_mid he l h]; simp
theorem amapUpdate_ok {t : TypeId} {m k v : AVal} {cm ck cv : Value} {out : Out} (r : Rel ρ F σ w) (hm : VRel F w ρ m cm) (hk : VRel F w ρ k ck) (hv : VRel F w ρ v cv) (h : amapUpdate P t m k v σ = some out) (hcs : allP out.cs) :
    FineU P F w ρ σ out (Instr.mapUpdate t cm ck cv) := by
  unfold amapUpdate at h
  split at h
  · rename_i kt e id hu
    obtain ⟨b, hb, rfl⟩ := hm.map_inv
    split at h
    · rename_i hkk
      split at h
      · rename_i ents ho
        cases h
        have hall := hcs.cons.1
        obtain ⟨w', h1, h2, h3⟩ := r.mapput (obj_some ho rfl) rfl hb (r.obj _ _ _ (obj_some ho rfl) hb) hu hkk hk hv hall
        exact ⟨ρ, F, w', h1, h3, h2, rfl⟩
      · rename_i pre post ho
        cases h
        obtain ⟨hall, hcs⟩ := hcs.cons
        have hnone : afind k (pre ++ post) = none := by simpa using hcs.cons.1
        obtain ⟨hpure, hmp⟩ := r.obj _ _ _ (obj_some ho rfl) hb
        rw [List.append_nil] at hmp
        obtain ⟨w', h1, h2, h3⟩ := r.mapput (p := false) (ents := pre ++ post) (obj_some ho rfl) rfl hb hmp hu hkk hk hv hall
        rw [aput_none _ hnone] at h2 h3
        have hlt := (List.getElem?_eq_some_iff.1 (obj_some ho rfl)).1
        have hget : (σ.set id (.mp false (pre ++ post ++ [(k, v)])))[id]? = some (.mp false (pre ++ post ++ [(k, v)])) := by
          rw [List.getElem?_set, if_pos rfl, if_pos hlt]
        have hobj := h2.obj id _ b hget hb
        obtain ⟨r4, t4⟩ := h2.upd (w' := w') (id := id) (A := .mq (pre ++ post) [(k, v)] []) hget rfl hb rfl rfl rfl rfl (fun _ _ => rfl) (fun cs T fr h => ⟨cs, _, h, rfl⟩)
          ⟨fun e he => hpure e (by simpa using he), by rw [List.append_nil]; exact hobj⟩
        rw [List.set_set] at r4 t4
        exact ⟨ρ, F, w', h1, Tr.trans r h3 t4, r4, rfl⟩
      · rename_i ents ho
        rw [Option.bind_eq_some_iff] at h
        obtain ⟨x, hx, h⟩ := h
        split at h
        · rename_i hlive
          cases h
          obtain ⟨hall, hcx⟩ := hcs.cons
          obtain ⟨F', r', t', hv'⟩ := freezeA_ok r hv hx hcx
          obtain ⟨o0, ho0⟩ : ∃ o0, o0 = obj x.2.σ id := ⟨_, rfl⟩
          have hid := obj_some ho0.symm (by rw [ho0]; exact hlive)
          have hor : ORel F' w ρ b (.mp true ents) := (r.obj _ _ _ (obj_some ho rfl) hb).move rfl (r.frz t') t'.row (fun _ _ h => h)
          obtain ⟨w', h1, h2, h3⟩ := r'.mapput hid (by rw [ho0]; exact hlive) hb hor hu hkk (hk.tr r t') hv' hall
          exact ⟨ρ, F', w', h1, Tr.trans r t' h3, h2, rfl⟩
        · cases h
      · cases h
    · cases h
  · cases h

end
end Go.Abs
end

section
set_option linter.unusedVariables false
set_option linter.unusedSimpArgs false
namespace Go.Abs

section
variable {P : Program} {F : FS} {w : World} {ρ : RMap} {σ : AState}

theorem areKinds_u8 {r : List AVal} (h : areKinds [.int .u8] r = true) : ∃ n, r = [.int .u8 n] := by
  match r with
  | [] => simp [areKinds] at h
  | [v] =>
    simp only [areKinds, Bool.and_eq_true] at h
    cases v <;> simp [isKind] at h
    subst h; exact ⟨_, rfl⟩
  | v :: u :: r => simp [areKinds] at h

theorem aconvert_ok {src dst : TypeId} {x : AVal} {cx : Value} {out : Out} (r : Rel ρ F σ w) (hx : VRel F w ρ x cx) (h : aconvert P src dst x σ = some out) (hcs : allP out.cs)
    (hp : ¬ ((∃ t id es, P.underlying src = some (.pointer t) ∧ P.underlying dst = some .unsafePointer ∧ x = .ptr id es 0 0) ∨ (∃ u id es, P.underlying src = some .unsafePointer ∧ P.underlying dst = some (.pointer u) ∧ x = .ptr id es 0 0))) :
    Fine P F w ρ σ out (convert src dst cx) := by
  unfold aconvert at h
  split at h
  · rename_i k _ n hs hd
    cases h
    obtain rfl := hx.int_inv
    exact Fine.same r (cv := .int k (k.wrap n)) (by simp [convert, run_underlying hs, run_underlying hd, Conv.intToInt]) rfl (.int _ _ _)
  · rename_i s hs hd
    cases h
    obtain rfl := hx.str_inv
    exact Fine.same r (cv := .string s) (by simp [convert, run_underlying hs, run_underlying hd]) rfl (.str _ _)
  · rename_i e hs hd
    split at h
    · rename_i he
      rw [Option.map_eq_some_iff] at h
      obtain ⟨s, hr, rfl⟩ := h
      obtain ⟨hk, hcs⟩ := hcs.cons
      obtain ⟨base, c, news, rfl, hS, hL, hnone, hsome⟩ := src_of (P := P) r hx hr hcs hs
      have hrow : ∀ i row, s.rs[i]? = some row → ∃ n, row = [AVal.int .u8 n] := fun i row h => areKinds_u8 (List.all_eq_true.1 hk _ (List.mem_of_getElem? h))
      have hnews : news = (s.rs.map fun r => (r.headD .any).toInt).map (Value.int .u8) := by
        apply List.ext_getElem?
        intro i
        rcases Nat.lt_or_ge i s.rs.length with hi | hi
        · obtain ⟨n, hn⟩ := hrow i _ (List.getElem?_eq_getElem hi)
          have h1 : s.rs[i]? = some [AVal.int .u8 n] := by rw [List.getElem?_eq_getElem hi, hn]
          obtain ⟨cv, h2, h3⟩ := hL.rel i 0 _ _ h1 rfl
          obtain rfl := h3.int_inv
          simp only [Nat.mul_one, Nat.add_zero] at h2
          rw [h2]
          simp [h1, AVal.toInt]
        · have := hL.len
          rw [List.getElem?_eq_none (by omega), List.getElem?_eq_none (by simpa using hi)]
      cases base with
      | none =>
        refine Fine.same r (cv := .string .empty) (by simp [convert, run_underlying hs, run_underlying hd, run_underlying he, Conv.bytesToString]) rfl ?_
        rw [hnone rfl]
        exact .str _ _
      | some a =>
        have hl : (loadCells a s.rs.length).run P w = .ok ((s.rs.map fun r => (r.headD .any).toInt).map (Value.int .u8)).toArray w := by
          have := run_loadCells_list (P := P) w a news (fun j v hj => hsome a rfl j v hj)
          have hlen : news.length = s.rs.length := by rw [hnews]; simp
          rw [hlen, hnews] at this
          exact this
        refine Fine.same r (cv := .string (rowBytes s.rs)) ?_ rfl (.str _ _)
        rw [run_convert_bytes_string w src dst e _ _ c hs he hd, run_bytesToString w a _ c _ hl, foldl_push_bytes]
        simp [rowBytes, ByteArray.empty, ByteArray.emptyWithCapacity]
        rfl
    · cases h
  · rename_i t id es h1 h2; exact absurd (.inl ⟨t, id, es, h1, h2, rfl⟩) hp
  · rename_i u id es h1 h2; exact absurd (.inr ⟨u, id, es, h1, h2, rfl⟩) hp
  · cases h

theorem amakeIface_ok {t : TypeId} {x : AVal} {cx : Value} {out : Out} (r : Rel ρ F σ w) (hx : VRel F w ρ x cx) (h : amakeIface P t x σ = some out) : Fine P F w ρ σ out (Instr.makeInterface t cx) := by
  unfold amakeIface at h
  split at h
  · cases h
  · rename_i d hne hd
    cases h
    refine Fine.same r (cv := .iface t cx) ?_ rfl (.iface _ _ _ _ hx)
    unfold Instr.makeInterface
    rw [Sem.run_bind, run_underlying hd]
    simp only [Result.andThen]
    first | rfl | (split; · rename_i m; exact (hne _ rfl).elim
                   · rfl)
  · cases h

end
end Go.Abs
end

section
set_option linter.unusedVariables false
set_option linter.unusedSimpArgs false
namespace Go.Abs

section
variable {P : Program} {F : FS} {w : World} {ρ : RMap} {σ : AState}

theorem liesAt_self {e : TypeId} (hc : P.cellsOf e ≠ 0) (count : Nat) (hn : 1 ≤ count) : liesAt P P.depth e count 0 e 1 = true := by
  have hd : P.depth = (2 * (P.types.size + Made.depth) + 1) + 1 := rfl
  rw [hd]
  simp only [liesAt, Bool.or_eq_true]
  left
  rw [hd]
  simp [rowAt, hn, sameLayout, hc]

theorem aconvert_ok2 {src dst : TypeId} {x : AVal} {cx : Value} {out : Out} (r : Rel ρ F σ w) (hx : VRel F w ρ x cx) (h : aconvert P src dst x σ = some out) (hcs : allP out.cs) :
    Fine P F w ρ σ out (convert src dst cx) := by
  by_cases hp : (∃ t id es, P.underlying src = some (.pointer t) ∧ P.underlying dst = some .unsafePointer ∧ x = .ptr id es 0 0) ∨ (∃ u id es, P.underlying src = some .unsafePointer ∧ P.underlying dst = some (.pointer u) ∧ x = .ptr id es 0 0)
  · rcases hp with ⟨t, id, es, h1, h2, rfl⟩ | ⟨u, id, es, h1, h2, rfl⟩
    · unfold aconvert at h
      simp only [h1, h2] at h
      split at h
      · rename_i T p es' rs ho
        split at h
        · rename_i hc
          cases h
          simp only [Bool.and_eq_true, beq_iff_eq, decide_eq_true_eq] at hc
          obtain ⟨rfl, hn⟩ := hc
          have h0 := of_decide_eq_true hcs.cons.1
          obtain ⟨b, hb, rfl⟩ := hx.ptr_inv
          obtain ⟨cs, fr, g1, g2, g3, _⟩ := r.obj _ _ _ (obj_some ho rfl) hb
          have hsh : w.shape? b = some (T, cs.size) := by simp [World.shape?, g1]
          cases hi : P.info? t with
          | none => simp [Program.cellsOf, hi] at hn
          | some j =>
            have hj : j.size ≠ 0 := by simpa [Program.cellsOf, hi] using hn
            exact Fine.same r (cv := .pointer (some ⟨b, 0 * es + 0, none⟩)) (Lib.run_to_unsafe w _ h1 h2 hi hj hsh (by simp; omega)) rfl (.ptr _ _ _ _ _ _ hb)
        · cases h
      · cases h
    · unfold aconvert at h
      simp only [h1, h2] at h
      split at h
      · rename_i T p es' rs ho
        split at h
        · rename_i hc
          cases h
          simp only [Bool.and_eq_true, beq_iff_eq, decide_eq_true_eq] at hc
          obtain ⟨⟨⟨rfl, rfl⟩, hcell⟩, hn⟩ := hc
          have h0 := of_decide_eq_true hcs.cons.1
          obtain ⟨b, hb, rfl⟩ := hx.ptr_inv
          obtain ⟨cs, fr, g1, g2, g3, _⟩ := r.obj _ _ _ (obj_some ho rfl) hb
          have hsh : w.shape? b = some (T, cs.size) := by simp [World.shape?, g1]
          cases hi : P.info? T with
          | none => simp [Program.cellsOf, hi] at hcell; omega
          | some j =>
            have hpos : 0 < es := Nat.pos_of_ne_zero hn
            have hcount : 1 ≤ cs.size / es := by
              rw [Nat.le_div_iff_mul_le hpos]
              exact Nat.le_trans (Nat.mul_le_mul_right es h0) g3
            refine Fine.same r (cv := .pointer (some ⟨b, 0 * es + 0, none⟩)) (Lib.run_from_unsafe w _ h1 h2 hi hsh ?_) rfl (.ptr _ _ _ _ _ _ hb)
            simp only [Nat.zero_mul, Nat.add_zero]
            rw [hcell]
            exact liesAt_self (by rw [hcell]; exact hn) _ hcount
        · cases h
      · cases h
  · exact aconvert_ok r hx h hcs hp

theorem VRel.iface_inv {t : TypeId} {v : AVal} {c : Value} (h : VRel F w ρ (.iface t v) c) : ∃ u, c = .iface t u ∧ VRel F w ρ v u := by
  cases h with
  | iface _ _ _ u h => exact ⟨u, rfl, h⟩
theorem VRel.nili_inv {c : Value} (h : VRel F w ρ .nili c) : c = .nilIface := by cases h; rfl
theorem atypeAssert_ok {xt t : TypeId} {ok : Bool} {x : AVal} {cx : Value} {out : Out} (r : Rel ρ F σ w) (hx : VRel F w ρ x cx) (h : atypeAssert P t ok x σ = some out) : Fine P F w ρ σ out (Instr.typeAssert cx xt t ok) := by
  unfold atypeAssert at h
  split at h
  · cases h
  · rename_i d hd hu
    have hne : ∀ m, d ≠ .interface m := fun m e => hd m e
    have hz : ∀ z, zeroA P t = some z → ∃ zv, (zeroValue t).run P w = .ok zv w ∧ ∀ F ρ, VRel F w ρ z zv := fun z h => zeroA_ok h
    have two : ∀ {a b : AVal} {ca cb : Value}, VRel F w ρ a ca → VRel F w ρ b cb → VRel F w ρ (.tuple [a, b]) (.tuple #[ca, cb]) := fun ha hb => by
      refine .tuple _ _ _ rfl fun i v u h1 h2 => ?_
      match i with
      | 0 => simp at h1 h2; subst h1; subst h2; exact ha
      | 1 => simp at h1 h2; subst h1; subst h2; exact hb
      | i + 2 => simp at h1
    split at h
    · rename_i t' v
      obtain ⟨u, rfl, hv⟩ := hx.iface_inv
      split at h
      · rename_i ht
        simp only [beq_iff_eq] at ht
        subst ht
        cases h
        refine Fine.same r (cv := if ok then .tuple #[u, .bool true] else u) ?_ rfl ?_
        · unfold Instr.typeAssert
          simp only [Sem.run_bind, run_underlying hu, Result.andThen]
          cases d <;> first | exact absurd rfl (hne _) | (cases ok <;> simp)
        · cases ok with
          | true => exact two hv (.tt _ _)
          | false => exact hv
      · rename_i ht
        split at h
        · rename_i hok
          subst hok
          rw [Option.map_eq_some_iff] at h
          obtain ⟨z, hz', rfl⟩ := h
          obtain ⟨zv, g1, g2⟩ := hz z hz'
          refine Fine.same r (cv := .tuple #[zv, .bool false]) ?_ rfl (two (g2 _ _) (.tt _ _))
          unfold Instr.typeAssert
          simp only [Sem.run_bind, run_underlying hu, Result.andThen]
          have ht' : ¬ t' = t := by simpa using ht
          cases d <;> first | exact absurd rfl (hne _) | simp [ht', g1]
        · cases h
    · split at h
      · rename_i hok
        subst hok
        rw [Option.map_eq_some_iff] at h
        obtain ⟨z, hz', rfl⟩ := h
        obtain rfl := hx.nili_inv
        obtain ⟨zv, g1, g2⟩ := hz z hz'
        refine Fine.same r (cv := .tuple #[zv, .bool false]) ?_ rfl (two (g2 _ _) (.tt _ _))
        unfold Instr.typeAssert
        simp only [Sem.run_bind, run_underlying hu, Result.andThen]
        cases d <;> first | exact absurd rfl (hne _) | simp [g1]
      · cases h
    · cases h
  · cases h

theorem aunsafeSliceData_ok {t ty : TypeId} {x : AVal} {cx : Value} {out : Out} (r : Rel ρ F σ w) (hx : VRel F w ρ x cx) (h : aunsafeSliceData x σ = some out) (hcs : allP out.cs) : Fine P F w ρ σ out (Builtin.unsafeSliceData_ #[t] ty #[cx]) := by
  unfold aunsafeSliceData at h
  split at h
  · rename_i id es off len cap
    cases h
    have h0 := of_decide_eq_true hcs.cons.1
    rcases hx.slc_inv with ⟨_, c, b, hb, hl, _, _, rfl⟩ | ⟨rfl, base, _, _, rfl⟩
    · refine Fine.same r (cv := .pointer (some ⟨b, off * es, none⟩)) (Lib.run_unsafeSliceData_row w _ _ _ _ _ (by omega)) rfl ?_
      have := VRel.ptr (F := F) (w := w) ρ id es off 0 b hb
      simpa using this
    · omega
  · cases h

theorem freeze_heap {b n : Nat} {cs : Array Value} {T : TypeId} {fr : Nat × Nat} (h : w.heap[b]? = some (.cells cs T fr)) : ∃ fr', (w.freeze ⟨b, 0, none⟩ n).heap[b]? = some (.cells cs T fr') := by
  unfold World.freeze
  split
  · exact ⟨fr, h⟩
  · exact ⟨(if fr.1 == fr.2 then (0, 0 + n) else (min fr.1 0, max fr.2 (0 + n))), by simp only [Array.getElem?_modify, h, if_true, Option.map_some]⟩
theorem freeze_other {b n x : Nat} (h : x ≠ b) : (w.freeze ⟨b, 0, none⟩ n).heap[x]? = w.heap[x]? := by
  unfold World.freeze
  split
  · rfl
  · simp only [Array.getElem?_modify]
    rw [if_neg (fun e => h e.symm)]
theorem freeze_rest {b n : Nat} : (w.freeze ⟨b, 0, none⟩ n).heap.size = w.heap.size ∧ (w.freeze ⟨b, 0, none⟩ n).os = w.os ∧ (w.freeze ⟨b, 0, none⟩ n).tape = w.tape ∧ (w.freeze ⟨b, 0, none⟩ n).output = w.output := by
  unfold World.freeze
  split
  · exact ⟨rfl, rfl, rfl, rfl⟩
  · simp

theorem u8Row_spec {r : List AVal} (h : u8Row r = true) : ∃ n : Int, r = [.int .u8 n] ∧ 0 ≤ n ∧ n < 256 := by
  unfold u8Row at h
  split at h
  · exact ⟨_, rfl, (of_decide_eq_true h).1, (of_decide_eq_true h).2⟩
  · cases h

theorem aunsafeString_ok {pt it ty : TypeId} {a n : AVal} {ca cn : Value} {out : Out} (r : Rel ρ F σ w) (ha : VRel F w ρ a ca) (hn : VRel F w ρ n cn) (h : aunsafeString P pt a n σ = some out) (hcs : allP out.cs) : Fine P F w ρ σ out (Builtin.unsafeString_ #[pt, it] ty #[ca, cn]) := by
  unfold aunsafeString at h
  split at h
  · rename_i e id m hu
    split at h
    · rename_i T p rs ho
      split at h
      · rename_i hc
        simp only [Bool.and_eq_true, beq_iff_eq] at hc
        obtain ⟨rfl, hcell⟩ := hc
        cases h
        obtain ⟨h1, hcs⟩ := hcs.cons
        have h2 := hcs.cons.1
        obtain ⟨m0, m1, m2⟩ := of_decide_eq_true h1
        obtain ⟨b, hb, rfl⟩ := ha.ptr_inv
        obtain rfl := hn.int_inv
        have hid := obj_some ho rfl
        obtain ⟨cs, fr, g1, g2, g3, g4, g5⟩ := r.obj _ _ _ hid hb
        obtain ⟨k, rfl⟩ : ∃ k : Nat, m = (k : Int) := ⟨m.toNat, by omega⟩
        simp only [Int.toNat_natCast] at h2 ⊢
        have hk : k ≤ rs.length := by omega
        have hsh : w.shape? b = some (T, cs.size) := by simp [World.shape?, g1]
        have hall : ∀ row ∈ rs.take k, ∃ n : Int, row = [.int .u8 n] ∧ 0 ≤ n ∧ n < 256 := fun row hrow => u8Row_spec (List.all_eq_true.1 h2 row hrow)
        let l : List UInt8 := (rs.take k).map fun r => UInt8.ofNat (r.headD .any).toInt.toNat
        have hll : l.length = k := by simp [l]; omega
        have hcellj : ∀ j x, l[j]? = some x → w.cell? ((⟨b, 0, none⟩ : Addr).add j) = some (.int .u8 x.toNat) := fun j x hj => by
          simp only [l, List.getElem?_map, Option.map_eq_some_iff] at hj
          obtain ⟨row, hrow, rfl⟩ := hj
          obtain ⟨n, rfl, n0, n1⟩ := hall row (List.mem_of_getElem? hrow)
          have hrs : rs[j]? = some [.int .u8 n] := by
            rw [List.getElem?_take] at hrow
            split at hrow
            · exact hrow
            · cases hrow
          obtain ⟨cv, e1, e2⟩ := g5 j 0 _ _ hrs rfl
          obtain rfl := e2.int_inv
          rw [add_addr, cell_of_row w b _ cs T fr g1]
          simp only [Nat.zero_add]
          rw [Nat.mul_one, Nat.add_zero] at e1
          rw [e1]
          simp only [List.headD_cons, AVal.toInt]
          congr 2
          have : (UInt8.ofNat n.toNat).toNat = n.toNat := by rw [UInt8.toNat_ofNat']; omega
          rw [this]; omega
        have hrun := Lib.run_unsafeString_row (P := P) w pt it ty T hu hcell b cs.size hsh l (by intro e0; rw [e0] at hll; simp at hll; omega) (by rw [hll]; simp at g3; omega) (by rw [hll]; omega) hcellj
        rw [hll] at hrun
        obtain ⟨f1, f2, f3, f4⟩ := freeze_rest (w := w) (b := b) (n := k)
        obtain ⟨r1, t1⟩ := r.upd (A := .dead) hid rfl hb f1 f2 f3 f4 (fun x hx => freeze_other hx) (fun ca T fr h => by
          obtain ⟨fr', h'⟩ := freeze_heap (n := k) h; exact ⟨ca, fr', h', rfl⟩) trivial
        refine ⟨ρ, F, _, .string ⟨l.toArray⟩, by rw [show (0 * 1 + 0 : Nat) = 0 from rfl]; exact hrun, t1, r1, ?_⟩
        have : rowBytes (rs.take k) = ⟨l.toArray⟩ := rfl
        rw [this]; exact .str _ _
      · cases h
    · cases h
  · cases h

theorem aextern_ok {f : FuncId} {as : List AVal} {args : Array Value} {out : Out} (r : Rel ρ F σ w) (hp : PW F w ρ as args.toList) (h : aextern P f as σ = some out) (hcs : allP out.cs) :
    ∃ ρ' F' w' cv, (callFunc f args).run P w = .ok (.value cv) w' ∧ Tr σ out.σ ρ ρ' F F' w w' ∧ Rel ρ' F' out.σ w' ∧ VRel F' w' ρ' out.v cv := by
  have ext : ∀ {e : Array Value → Sem Value}, extOf P f = some e → (callFunc f args).run P w = ((e args).run P w).andThen fun v w' => .ok (.value v) w' := by
    intro e he
    unfold extOf at he
    split at he
    · rename_i fn hf
      split at he
      · cases he
      · rename_i hn
        split at he
        · rename_i hb
          split at he
          · rename_i hx
            exact run_callFunc_extern hf (by simpa using hn) hb hx he args w
          · cases he
        · cases he
    · cases he
  have one : ∀ {x : AVal}, as = [x] → ∃ u, args = #[u] ∧ VRel F w ρ x u := by
    rintro x rfl
    have h1 : args.size = 1 := by have := hp.1; simpa using this.symm
    obtain ⟨u, rfl⟩ : ∃ u, args = #[u] := Array.size_eq_one_iff.1 h1
    exact ⟨u, rfl, hp.2 0 x u rfl (by simp)⟩
  unfold aextern at h
  split at h
  · rename_i t id
    split at h
    · rename_i p ents ho
      obtain rfl := Option.some.inj h
      obtain ⟨u, rfl, hu⟩ := one rfl
      obtain ⟨v, rfl, hv⟩ := hu.iface_inv
      obtain ⟨b, hb, rfl⟩ := hv.map_inv
      obtain ⟨es, clock, g1, g2, g0, g3⟩ := objM_ok r ho hb
      have hA : ORel F (w.alloc (.map es clock)) (updMap ρ σ.length w.heap.size) w.heap.size (.mp p ents) := by
        have hF := alloc_F r (.map es clock)
        have hR := alloc_row w (.map es clock)
        have hm := upd_map r w.heap.size
        refine ⟨es, clock, heap_alloc_new' _ _, g2, g0, fun i k v e => ?_⟩
        obtain ⟨en, e1, e2, e3⟩ := g3 i k v e
        exact ⟨en, e1, e2.mono hF hR (inMap_mono p hm), e3.mono hF hR (inMap_mono p hm)⟩
      obtain ⟨r2, t2⟩ := r.alloc (.map es clock) _ hA
      refine ⟨_, F, _, .iface t (.map (some w.heap.size)), ?_, t2, r2, .iface _ _ _ _ (.map _ _ _ (by simp [updMap]))⟩
      rw [ext hcs.cons.1]
      have hg : (getObj b).run P w = .ok (.map es clock) w := by simp [getObj, Sem.run, g1]
      have hc : Extern.MapsClone.clone #[.iface t (.map (some b))] = (do
          let .map entries clock ← getObj b | stuck "maps.clone: a map expected"
          pure (.iface t (.map (some (← newObj (.map entries clock)))))) := rfl
      rw [hc]
      simp [hg, Result.andThen]
    · cases h
  · rename_i x _
    obtain rfl := Option.some.inj h
    obtain ⟨u, rfl, hu⟩ := one rfl
    refine ⟨ρ, F, w, u, ?_, Tr.refl _ _ _ _, r, hu⟩
    rw [ext hcs.cons.1]
    rfl
  · cases h

end
end Go.Abs
end

section
set_option linter.unusedVariables false
set_option linter.unusedSimpArgs false
namespace Go.Abs
open Go.MapKept (IsKey bytes_beq run_setObj_map run_checkKey run_findKey heap_set)

section
variable {P : Program} {F : FS} {w : World} {ρ : RMap} {σ : AState}

theorem run_getObj {b : Nat} {o : Obj} (h : w.heap[b]? = some o) (hn : ∀ cs T fr, o ≠ .cells cs T fr) : (getObj b).run P w = .ok o w := by
  cases o with
  | cells cs T fr => exact absurd rfl (hn cs T fr)
  | _ => simp [getObj, Sem.run, h]
theorem run_setObj {b : Nat} {o o' : Obj} (h : w.heap[b]? = some o) (hn : ∀ cs T fr, o ≠ .cells cs T fr) : (setObj b o').run P w = .ok () { w with heap := w.heap.setIfInBounds b o' } := by
  cases o with
  | cells cs T fr => exact absurd rfl (hn cs T fr)
  | _ => simp [setObj, Sem.run, h]
theorem heap_put {b : Nat} {o o' : Obj} (h : w.heap[b]? = some o) : ({ w with heap := w.heap.setIfInBounds b o' } : World).heap[b]? = some o' ∧ ∀ x, x ≠ b → ({ w with heap := w.heap.setIfInBounds b o' } : World).heap[x]? = w.heap[x]? := by
  have hb := (Array.getElem?_eq_some_iff.1 h).1
  refine ⟨?_, fun x hx => ?_⟩
  · show (w.heap.setIfInBounds b o')[b]? = _
    rw [Array.getElem?_setIfInBounds]; simp [hb]
  · show (w.heap.setIfInBounds b o')[x]? = _
    exact Array.getElem?_setIfInBounds_ne (fun e => hx e.symm)

theorem Rel.turn (r : Rel ρ F σ w) {id b : Nat} {o0 A : AObj} {o o' : Obj} (hid : σ[id]? = some o0) (hl : o0.live = true) (hρ : ρ id = some b) (hw : w.heap[b]? = some o) (hn : ∀ cs T fr, o ≠ .cells cs T fr)
    (hA : ORel F { w with heap := w.heap.setIfInBounds b o' } ρ b A) (hAg : A.isGh = false := by rfl) : Rel ρ F (σ.set id A) { w with heap := w.heap.setIfInBounds b o' } ∧ Tr σ (σ.set id A) ρ ρ F F w { w with heap := w.heap.setIfInBounds b o' } := by
  obtain ⟨g1, g2⟩ := heap_put (o' := o') hw
  exact r.upd hid hl hρ (by simp) rfl rfl rfl g2 (fun cs T fr h => by rw [hw] at h; cases h; exact absurd rfl (hn cs T fr)) hA hAg
theorem Rel.turnF (r : Rel ρ F σ w) {id b : Nat} {o0 : AObj} {o o' : Obj} (hid : σ[id]? = some o0) (hl : o0.live = true) (hρ : ρ id = some b) (hw : w.heap[b]? = some o) (hn : ∀ cs T fr, o ≠ .cells cs T fr) :
    (∀ x, F x → F x ∧ ({ w with heap := w.heap.setIfInBounds b o' } : World).heap[x]? = w.heap[x]?) ∧
    ∀ (x : Nat) (ca : Array Value) (T : TypeId) (fr : Nat × Nat), w.heap[x]? = some (.cells ca T fr) → ∃ cs' fr', ({ w with heap := w.heap.setIfInBounds b o' } : World).heap[x]? = some (.cells cs' T fr') ∧ cs'.size = ca.size := by
  obtain ⟨g1, g2⟩ := heap_put (o' := o') hw
  have hLive : Live F ρ σ b := ⟨id, o0, hid, hl, .inl hρ⟩
  refine ⟨fun x hx => ⟨hx, g2 x (fun e => (r.fr x hx).2 (e ▸ hLive))⟩, fun x ca T fr h => ?_⟩
  by_cases e : x = b
  · subst e; rw [hw] at h; cases h; exact absurd rfl (hn ca T fr)
  · exact ⟨ca, _, (g2 x e).trans h, rfl⟩

theorem arange_ok {t : TypeId} {x : AVal} {cx : Value} {out : Out} (r : Rel ρ F σ w) (hx : VRel F w ρ x cx) (h : arange P t x σ = some out) : Fine P F w ρ σ out (Instr.range t cx) := by
  unfold arange at h
  split at h
  · rename_i s hu
    cases h
    obtain rfl := hx.str_inv
    refine Fine.new (o := .stringIter s 0) (A := .siter (runesOf s)) r (by simp [Instr.range, run_underlying hu]; rfl) rfl ⟨s, 0, s.size, heap_alloc_new' _ _, rfl, by omega⟩ ?_
    exact .ptr _ _ 1 0 0 _ (by simp [updMap])
  · rename_i k e hu
    cases h
    obtain rfl := hx.nilm_inv
    refine Fine.new (o := .mapIter none 0 #[] 0) (A := .miter none 0 [] 0) r (by simp [Instr.range, run_underlying hu]; rfl) rfl (heap_alloc_new' _ _) ?_
    exact .ptr _ _ 1 0 0 _ (by simp [updMap])
  · rename_i k e id hu
    obtain ⟨b, hb, rfl⟩ := hx.map_inv
    split at h
    · rename_i p ents bs c ho
      cases h
      obtain ⟨es, hw, hsz, hbr, hpe⟩ := r.obj _ _ _ (obj_some ho rfl) hb
      have hg : (getObj b).run P w = .ok (.map es c) w := run_getObj hw (by simp)
      refine Fine.new (o := .mapIter (some b) c #[] c) (A := .miter (some id) c [] c) r (by simp [Instr.range, run_underlying hu, hg, Result.andThen]; rfl) rfl ?_ ?_
      · exact ⟨b, upd_map r _ _ _ hb, by rw [heap_alloc_new']⟩
      · exact .ptr _ _ 1 0 0 _ (by simp [updMap])
    · cases h
  · cases h

theorem decode_pos (s : ByteArray) (i : Nat) : 1 ≤ (Utf8.decode s i).2 := by
  unfold Utf8.decode
  dsimp only
  repeat' split
  all_goals first | exact Nat.le_refl 1 | exact Nat.le_add_left 1 _
theorem anext_str {r0 b pos : Nat} {s : ByteArray} (hw : w.heap[b]? = some (.stringIter s pos)) (t : TypeId) :
    (Instr.next (.pointer (some ⟨b, 0, none⟩)) true t).run P w = if pos < s.size then .ok (.tuple #[.bool true, goInt pos, .int .i32 (Utf8.decode s pos).1]) { w with heap := w.heap.setIfInBounds b (.stringIter s (pos + (Utf8.decode s pos).2)) } else .ok (.tuple #[.bool false]) w := by
  have hg : (getObj b).run P w = .ok (.stringIter s pos) w := run_getObj hw (by simp)
  have hs : ∀ o', (setObj b o').run P w = .ok () { w with heap := w.heap.setIfInBounds b o' } := fun o' => run_setObj hw (by simp)
  by_cases h : pos < s.size
  · simp [Instr.next, hg, hs, h, Result.andThen]
  · simp [Instr.next, hg, h, Result.andThen]

theorem tuple1 {a : AVal} {x : Value} (h1 : VRel F w ρ a x) : VRel F w ρ (.tuple [a]) (.tuple #[x]) :=
  .tuple _ _ _ rfl fun i v u e1 e2 => by
    match i with
    | 0 => simp at e1 e2; subst e1; subst e2; exact h1
    | i + 1 => simp at e1
theorem tuple3 {a b c : AVal} {x y z : Value} (h1 : VRel F w ρ a x) (h2 : VRel F w ρ b y) (h3 : VRel F w ρ c z) : VRel F w ρ (.tuple [a, b, c]) (.tuple #[x, y, z]) :=
  .tuple _ _ _ rfl fun i v u e1 e2 => by
    match i with
    | 0 => simp at e1 e2; subst e1; subst e2; exact h1
    | 1 => simp at e1 e2; subst e1; subst e2; exact h2
    | 2 => simp at e1 e2; subst e1; subst e2; exact h3
    | i + 3 => simp at e1
theorem left_ok {ρ : RMap} (seen : List Nat) : ∀ (ents : List (AVal × AVal)) (es : List MapEntry), PE F w ρ ents es →
    (∀ j k v, (j, k, v) ∈ leftOf seen ents (es.map (·.born)) → ∃ e ∈ es.filter (fun e => !seen.contains e.born), e.born = j) ∧
    (leftOf seen ents (es.map (·.born)) = [] → es.filter (fun e => !seen.contains e.born) = []) ∧
    (∀ j k v, leftOf seen ents (es.map (·.born)) = [(j, k, v)] → ∃ e, es.filter (fun e => !seen.contains e.born) = [e] ∧ e.born = j ∧ VRel F w ρ k e.key ∧ VRel F w ρ v e.val)
  | [], [], _ => ⟨fun j k v h => by simp [leftOf] at h, fun _ => rfl, fun j k v h => by simp [leftOf] at h⟩
  | [], e :: es, h => by have := h.1; simp at this
  | x :: ents, [], h => by have := h.1; simp at this
  | (k0, v0) :: ents, e :: es, h => by
    obtain ⟨e', h1, h3, h4⟩ := h.2 0 k0 v0 rfl
    simp only [List.getElem?_cons_zero, Option.some.injEq] at h1
    subst h1
    obtain ⟨i0, i1, i2⟩ := left_ok seen ents es h.tail
    rw [List.filter_cons]
    simp only [List.map_cons, leftOf]
    cases hc : seen.contains e.born with
    | true =>
      simp only [Bool.not_true, Bool.false_eq_true, if_false, if_true]
      exact ⟨i0, i1, i2⟩
    | false =>
      simp only [Bool.not_false, if_true, Bool.false_eq_true, if_false]
      refine ⟨fun j k v h => ?_, fun h => (by cases h), fun j k v h => ?_⟩
      · rcases List.mem_cons.1 h with h | h
        · cases h; exact ⟨e, by simp, rfl⟩
        · obtain ⟨e', g1, g2⟩ := i0 j k v h
          exact ⟨e', List.mem_cons_of_mem _ g1, g2⟩
      · simp only [List.cons.injEq, Prod.mk.injEq] at h
        obtain ⟨⟨rfl, rfl, rfl⟩, hr⟩ := h
        exact ⟨e, by rw [i1 hr], rfl, h3, h4⟩

theorem run_nextM {b m since last : Nat} {seen : List Nat} {es : Array MapEntry} {c : Nat} (hw : w.heap[b]? = some (.mapIter (some m) since seen.toArray last)) (hm : w.heap[m]? = some (.map es c))
    (hborn : ∀ e ∈ es.toList, e.born < c) (hs : since = c) (hl : last = c) (t : TypeId) :
    (es.toList.filter (fun e => !seen.contains e.born) = [] → (Instr.next (.pointer (some ⟨b, 0, none⟩)) false t).run P w = .ok (.tuple #[.bool false]) w) ∧
    (∀ e, es.toList.filter (fun e => !seen.contains e.born) = [e] →
      (Instr.next (.pointer (some ⟨b, 0, none⟩)) false t).run P w = .ok (.tuple #[.bool true, e.key, e.val]) { w with heap := w.heap.setIfInBounds b (.mapIter (some m) since (seen ++ [e.born]).toArray c) }) ∧
    (es.toList.filter (fun e => !seen.contains e.born) ≠ [] → ∃ e ∈ es.toList.filter (fun e => !seen.contains e.born), ∃ d,
      (Instr.next (.pointer (some ⟨b, 0, none⟩)) false t).run P w = .ok (.tuple #[.bool true, e.key, e.val]) { w with heap := w.heap.setIfInBounds b (.mapIter (some m) since (seen ++ [e.born]).toArray c), drawn := d }) := by
  have hg : (getObj b).run P w = .ok (.mapIter (some m) since seen.toArray last) w := run_getObj hw (by simp)
  have hg2 : (getObj m).run P w = .ok (.map es c) w := run_getObj hm (by simp)
  have hset : ∀ o', (setObj b o').run P w = .ok () { w with heap := w.heap.setIfInBounds b o' } := fun o' => run_setObj hw (by simp)
  have hguard : (!seen.toArray.isEmpty && !es.isEmpty && es.all (fun e => decide (e.born ≥ last))) = false := by
    cases hE : es.isEmpty with
    | true => simp
    | false =>
      have : ∃ e, e ∈ es := by
        have : 0 < es.size := by
          rcases Nat.eq_zero_or_pos es.size with h | h
          · simp [Array.isEmpty, h] at hE
          · exact h
        exact ⟨es[0], Array.getElem_mem this⟩
      obtain ⟨e, he⟩ := this
      have hb := hborn e (Array.mem_toList_iff.2 he)
      have : es.all (fun e => decide (e.born ≥ last)) = false := by
        rw [Bool.eq_false_iff]
        intro h
        have := Array.all_eq_true_iff_forall_mem.1 h e he
        simp only [decide_eq_true_eq] at this
        omega
      rw [this]; simp
  have hleft : es.filter (fun e => !seen.toArray.contains e.born) = (es.toList.filter (fun e => !seen.contains e.born)).toArray := by
    rw [← Array.toList_inj]
    simp
  have hnew : (es.filter (fun e => !seen.toArray.contains e.born)).filter (fun e => decide (e.born ≥ since)) = #[] := by
    rw [Array.filter_eq_empty_iff]
    intro e he
    have := hborn e (Array.mem_toList_iff.2 (Array.mem_filter.1 he).1)
    simp; omega
  have hold : (es.filter (fun e => !seen.toArray.contains e.born)).filter (fun e => decide (e.born < since)) = es.filter (fun e => !seen.toArray.contains e.born) := by
    rw [Array.filter_eq_self]
    intro e he
    have := hborn e (Array.mem_toList_iff.2 (Array.mem_filter.1 he).1)
    simp; omega
  refine ⟨fun h0 => ?_, fun e h1 => ?_, fun hne => ?_⟩
  · rw [h0] at hleft
    simp only [Instr.next, Sem.run_bind, hg, Result.andThen_ok, hg2, hguard, Bool.false_eq_true, if_false, hold, hnew, hleft]
    simp [choose, Sem.run, Question.forced, Result.andThen]
  · rw [h1] at hleft
    simp only [Instr.next, Sem.run_bind, hg, Result.andThen_ok, hg2, hguard, Bool.false_eq_true, if_false, hold, hnew, hleft]
    have hmem : e ∈ es.toList := (List.mem_filter.1 (by rw [h1]; simp : e ∈ es.toList.filter (fun e => !seen.contains e.born))).1
    have hlt : e.born < since := by have := hborn e hmem; omega
    have hge : ¬ since ≤ e.born := by omega
    simp [choose, Sem.run, Question.forced, Result.andThen, hset, hlt, hge]
  · generalize hL : es.toList.filter (fun e => !seen.contains e.born) = L at hne hleft ⊢
    rw [hleft] at hold hnew
    have hcand : ((if L.toArray.isEmpty then #[none] else #[]) ++ (L.toArray ++ #[]).map some) = (L.map some).toArray := by
      cases L with
      | nil => exact absurd rfl hne
      | cons => simp
    simp only [Instr.next, Sem.run_bind, hg, Result.andThen_ok, hg2, hguard, Bool.false_eq_true, if_false, hold, hnew, hleft, hcand]
    obtain ⟨n, w1, hch, hn, hw1⟩ : ∃ n w1, (choose (.mapNext (L.map some).toArray.size)).run P w = .ok n w1 ∧ n < L.length ∧ ∃ d, w1 = { w with drawn := d } := by
      have hpos : 0 < L.length := List.length_pos_iff.2 hne
      simp only [choose, Sem.run, List.size_toArray, List.length_map]
      cases hf : (Question.mapNext L.length).forced with
      | true =>
        refine ⟨0, w, by simp, hpos, w.drawn, rfl⟩
      | false =>
        refine ⟨(Question.mapNext L.length).cut (w.tape w.drawn (.mapNext L.length)), _, by simp; exact rfl, ?_, _, rfl⟩
        simp only [Question.cut]
        exact Nat.mod_lt _ hpos
    obtain ⟨d, rfl⟩ := hw1
    rw [hch]
    have hget : (L.map some).toArray[n]? = some (some L[n]) := by simp [hn]
    simp only [Result.andThen_ok, hget]
    refine ⟨L[n], List.getElem_mem hn, d, ?_⟩
    have hs2 : (setObj b (.mapIter (some m) since ((seen ++ [L[n].born]).toArray) c)).run P { w with drawn := d } = .ok () { w with heap := w.heap.setIfInBounds b (.mapIter (some m) since ((seen ++ [L[n].born]).toArray) c), drawn := d } := run_setObj (w := { w with drawn := d }) hw (by simp)
    simp [hs2]

theorem bornlt {es : Array MapEntry} {c : Nat} (h : BRL (bornL es) c) : ∀ e ∈ es.toList, e.born < c := by
  intro e he
  exact h.2 _ (List.mem_map.2 ⟨e, he, rfl⟩)

theorem anext_ok {it : AVal} {ci : Value} {isStr : Bool} {t : TypeId} {out : Out} (r : Rel ρ F σ w) (hx : VRel F w ρ it ci) (h : anext it isStr σ = some out) (hcs : allP out.cs) : Fine P F w ρ σ out (Instr.next ci isStr t) := by
  unfold anext at h
  split at h
  · rename_i r0 es0
    obtain ⟨b, hb, rfl⟩ := hx.ptr_inv
    rw [show 0 * es0 + 0 = 0 by omega]
    split at h
    · rename_i rest ho
      have hid := obj_some ho rfl
      obtain ⟨s, pos, n, hw, hrest, hsz⟩ := r.obj _ _ _ hid hb
      split at h
      · rename_i hs
        subst hs
        have hn := anext_str (P := P) (r0 := 0) hw t
        split at h
        · rename_i x rest
          cases h
          cases n with
          | zero => simp [runesF] at hrest
          | succ n =>
            unfold runesF at hrest
            split at hrest
            · rename_i hlt
              have hlt : pos < s.size := by simpa using hlt
              injection hrest with hx hr
              subst hx hr
              rw [if_pos hlt] at hn
              have hp := decode_pos s pos
              obtain ⟨r2, t2⟩ := r.turn (A := .siter (runesF s n (pos + (Utf8.decode s pos).2))) (o' := .stringIter s (pos + (Utf8.decode s pos).2)) hid rfl hb hw (by simp) ⟨s, pos + (Utf8.decode s pos).2, n, (heap_put hw).1, rfl, by omega⟩
              refine ⟨ρ, F, _, _, hn, t2, r2, tuple3 (.tt _ _) ?_ (.int _ _ _)⟩
              exact .int _ _ _
            · cases hrest
        · cases h
          have hlt : ¬ pos < s.size := fun c => by
            cases n with
            | zero => omega
            | succ n =>
              unfold runesF at hrest
              have c' : Nat.blt pos s.size = true := by rw [Nat.blt_eq]; exact c
              rw [c'] at hrest
              cases hrest
          rw [if_neg hlt] at hn
          exact Fine.same r hn rfl (tuple1 (.tt _ _))
      · cases h
    · rename_i since seen last ho
      have hw : w.heap[b]? = some (.mapIter none since seen.toArray last) := r.obj _ _ _ (obj_some ho rfl) hb
      split at h
      · cases h
      · rename_i hs
        cases h
        have hg : (getObj b).run P w = .ok (.mapIter none since seen.toArray last) w := run_getObj hw (by simp)
        have hs : isStr = false := by simpa using hs
        subst hs
        exact Fine.same r (cv := .tuple #[.bool false]) (by simp [Instr.next, hg, Result.andThen]) rfl (tuple1 (.tt _ _))
    · rename_i id since seen last ho
      have hid := obj_some ho rfl
      obtain ⟨m, hm, hw⟩ := r.obj _ _ _ hid hb
      split at h
      · cases h
      · rename_i hs
        have hs : isStr = false := by simpa using hs
        subst hs
        split at h
        · rename_i p ents bs c hom
          obtain ⟨es, hwm, hsz, hbr, hpe⟩ := r.obj _ _ _ (obj_some hom rfl) hm
          unfold anextM at h
          split at h
          · rename_i hc
            simp only [Bool.and_eq_true, beq_iff_eq] at hc
            have hn := run_nextM (P := P) hw hwm (bornlt hbr.1) (by omega) (by omega) t
            have hl := left_ok (F := F) (w := w) (ρ := inMap p ρ) seen ents es.toList ⟨by simpa using hsz, fun i k v h => by simpa using hpe i k v h⟩
            rw [show es.toList.map (·.born) = bs from hbr.2] at hl
            split at h
            · rename_i h0
              cases h
              exact Fine.same r (hn.1 (hl.2.1 h0)) rfl (tuple1 (.tt _ _))
            · rename_i i k v h1
              cases h
              obtain ⟨e, g1, rfl, g3, g4⟩ := hl.2.2 _ _ _ h1
              have hA : ORel F { w with heap := w.heap.setIfInBounds b (.mapIter (some m) since (seen ++ [e.born]).toArray c) } ρ b (.miter (some id) since (seen ++ [e.born]) c) := by
                refine ⟨m, hm, ?_⟩
                rw [(heap_put hw).1]
              obtain ⟨hF, hR⟩ := r.turnF (o' := .mapIter (some m) since (seen ++ [e.born]).toArray c) hid rfl hb hw (by simp)
              obtain ⟨r2, t2⟩ := r.turn hid rfl hb hw (by simp) hA
              have hin : ∀ id b, inMap p ρ id = some b → ρ id = some b := fun id b h => by
                unfold inMap at h; split at h
                · simp [noId] at h
                · exact h
              exact ⟨ρ, F, _, _, hn.2.1 _ g1, t2, r2, tuple3 (.tt _ _) (g3.mono hF hR hin) (g4.mono hF hR hin)⟩
            · cases h
          · cases h
        · cases h
    · cases h
  · cases h

theorem ent_ok {ρ : RMap} (b : Nat) : ∀ (ents : List (AVal × AVal)) (es : List MapEntry) {x : AVal}, PE F w ρ ents es → entAt b ents (es.map (·.born)) = some x →
    ∃ e k v, es.find? (fun e => e.born == b) = some e ∧ x = .tuple [k, v] ∧ VRel F w ρ k e.key ∧ VRel F w ρ v e.val
  | [], _, x, _, h => by simp [entAt] at h
  | y :: ents, [], x, h, _ => by have := h.1; simp at this
  | (k0, v0) :: ents, e :: es, x, h, hx => by
    obtain ⟨e', h1, h3, h4⟩ := h.2 0 k0 v0 rfl
    simp only [List.getElem?_cons_zero, Option.some.injEq] at h1
    subst h1
    simp only [List.map_cons, entAt] at hx
    split at hx
    · rename_i hb
      cases hx
      exact ⟨e, k0, v0, by simp [hb], rfl, h3, h4⟩
    · rename_i hb
      obtain ⟨e2, k, v, g1, g2⟩ := ent_ok b ents es h.tail hx
      exact ⟨e2, k, v, by rw [List.find?_cons]; simp only [hb]; exact g1, g2⟩

theorem aentry_ok {it : AVal} {ci : Value} {out : Out} (r : Rel ρ F σ w) (hx : VRel F w ρ it ci) (h : aentry it σ = some out) (hcs : allP out.cs) : Fine P F w ρ σ out (Instr.entry ci) := by
  unfold aentry at h
  split at h
  · rename_i r0 es0
    obtain ⟨b, hb, rfl⟩ := hx.ptr_inv
    rw [show 0 * es0 + 0 = 0 by omega]
    split at h
    · rename_i id since seen last ho
      obtain ⟨m, hm, hw⟩ := r.obj _ _ _ (obj_some ho rfl) hb
      split at h
      · rename_i p ents bs c hom
        obtain ⟨es, hwm, hsz, hbr, hpe⟩ := r.obj _ _ _ (obj_some hom rfl) hm
        · cases h
          have h1 := hcs.cons.1
          have hl : last = c := hcs.cons.2.cons.1
          obtain ⟨x, hx1⟩ := Option.isSome_iff_exists.1 h1
          rw [hx1]
          unfold entV at hx1
          rw [Option.bind_eq_some_iff] at hx1
          obtain ⟨i, hi, hx1⟩ := hx1
          rw [← hbr.2] at hx1
          obtain ⟨e, k, v, g1, g2, g3, g4⟩ := ent_ok (F := F) (w := w) (ρ := inMap p ρ) i ents es.toList ⟨by simpa using hsz, fun i k v h => by simpa using hpe i k v h⟩ hx1
          have hg : (getObj b).run P w = .ok (.mapIter (some m) since seen.toArray last) w := run_getObj hw (by simp)
          have hg2 : (getObj m).run P w = .ok (.map es c) w := run_getObj hwm (by simp)
          have hback : seen.toArray.back? = some i := by rw [List.back?_toArray, hi]
          have hfind : es.find? (fun e => e.born == i) = some e := by rw [← Array.find?_toList]; exact g1
          subst g2
          have hin : ∀ id b, inMap p ρ id = some b → ρ id = some b := fun id b h => by
            unfold inMap at h; split at h
            · simp [noId] at h
            · exact h
          refine Fine.same r (cv := .tuple #[e.key, e.val]) ?_ rfl (tuple2 (g3.weak hin) (g4.weak hin))
          simp [Instr.entry, hg, hg2, hback, hl, hfind, Result.andThen]
      · cases h
    · cases h
  · cases h

theorem adelete_ok {t u : TypeId} {ty : TypeId} {m k : AVal} {cm ck : Value} {out : Out} (r : Rel ρ F σ w) (hm : VRel F w ρ m cm) (hk : VRel F w ρ k ck) (h : adelete P t m k σ = some out) (hcs : allP out.cs) :
    Fine P F w ρ σ out (Builtin.delete_ #[t, u] ty #[cm, ck]) := by
  unfold adelete at h
  split at h
  · rename_i kt e id hu
    obtain ⟨b, hb, rfl⟩ := hm.map_inv
    split at h
    · rename_i hkk
      have hck := fun b => run_check (P := P) (w := w) hkk hk b
      have main : ∀ {o : AObj} {p : Bool} {ents : List (AVal × AVal)} {es : Array MapEntry} {clock : Nat} (A : AObj), A.isGh = false → obj σ id = o → o.live = true → (ents.all fun p => keyKind P kt p.1) = true → w.heap[b]? = some (.map es clock) → es.size = ents.length → BRL (bornL es) clock →
          (∀ (i : Nat) (k v : AVal), ents[i]? = some (k, v) → ∃ e, es[i]? = some e ∧ VRel F w (inMap p ρ) k e.key ∧ VRel F w (inMap p ρ) v e.val) →
          (∀ (w' : World) (es' : Array MapEntry), w'.heap[b]? = some (.map es' clock) → es'.size = (adel k ents).length → BRL (bornL es') clock → bornL es' = adelB k ents (bornL es) →
            (∀ (i : Nat) (k' v' : AVal), (adel k ents)[i]? = some (k', v') → ∃ e, es'[i]? = some e ∧ VRel F w' (inMap p ρ) k' e.key ∧ VRel F w' (inMap p ρ) v' e.val) → ORel F w' ρ b A) →
          Fine P F w ρ σ ⟨.tuple [], σ.set id A, out.cs⟩ (Builtin.delete_ #[t, u] ty #[.map (some b), ck]) := by
        intro o p ents es clock A hAg ho hl hall hw hsz hbr hpe hA
        have hid := obj_some ho hl
        have hset : ∀ (o : Obj), (setObj b o).run P w = .ok () { w with heap := w.heap.setIfInBounds b o } := fun o => run_setObj_map o hw
        have fin : ∀ es' : Array MapEntry, es'.size = (adel k ents).length → BRL (bornL es') clock → bornL es' = adelB k ents (bornL es) → (∀ (i : Nat) (k' v' : AVal), (adel k ents)[i]? = some (k', v') → ∃ e, es'[i]? = some e ∧ VRel F w (inMap p ρ) k' e.key ∧ VRel F w (inMap p ρ) v' e.val) →
            Rel ρ F (σ.set id A) { w with heap := w.heap.setIfInBounds b (.map es' clock) } ∧ Tr σ (σ.set id A) ρ ρ F F w { w with heap := w.heap.setIfInBounds b (.map es' clock) } := by
          intro es' h1 h0 h3 h2
          obtain ⟨hF, hR⟩ := r.turnF (o' := .map es' clock) hid hl hb hw (by simp)
          refine r.turn hid hl hb hw (by simp) (hA _ es' (heap_put hw).1 h1 h0 h3 fun i k' v' e1 => ?_) hAg
          obtain ⟨e, e2, e3, e4⟩ := h2 i k' v' e1
          exact ⟨e, e2, e3.mono hF hR (fun _ _ h => h), e4.mono hF hR (fun _ _ h => h)⟩
        have hblen : (bornL es).length = ents.length := by simp [bornL, hsz]
        rcases find_ok (P := P) (F := F) (w := w) (ρ := inMap p ρ) hkk hk ents es.toList ⟨by simpa using hsz, fun i k v h => by simpa using hpe i k v h⟩ hall with ⟨_, e1, _, e2, e3⟩ | ⟨_, j, e', _, e1, _, _, _, _, e2, e3, e4⟩
        · obtain ⟨r2, t2⟩ := fin es (by rw [e2]; exact hsz) hbr (e3 _ hblen).symm (by rw [e2]; exact hpe)
          refine ⟨ρ, F, _, .tuple #[], ?_, t2, r2, .tuple _ _ _ rfl fun i v u h _ => by simp at h⟩
          simp [Builtin.delete_, run_underlying hu, Go.MapKept.run_getObj_map hw, hck, e1, hset]
        · have hj : j < es.size := by omega
          have hlist : (es.eraseIdxIfInBounds j).toList = es.toList.eraseIdx j := by
            rw [Array.eraseIdxIfInBounds_eq, dif_pos hj, Array.toList_eraseIdx]
          obtain ⟨r2, t2⟩ := fin (es.eraseIdxIfInBounds j) (by
            rw [e3, ← Array.length_toList, hlist, List.length_eraseIdx, List.length_eraseIdx, Array.length_toList, hsz]) (by rw [bornL_erase es hj]; exact hbr.erase j) (by rw [bornL_erase es hj, e4 _ hblen]) (fun i k' v' hi => by
              rw [e3, List.getElem?_eraseIdx] at hi
              rw [← Array.getElem?_toList, hlist, List.getElem?_eraseIdx]
              split at hi
              · rename_i hij
                rw [if_pos hij, Array.getElem?_toList]
                exact hpe _ _ _ hi
              · rename_i hij
                rw [if_neg hij, Array.getElem?_toList]
                exact hpe _ _ _ hi)
          refine ⟨ρ, F, _, .tuple #[], ?_, t2, r2, .tuple _ _ _ rfl fun i v u h _ => by simp at h⟩
          simp [Builtin.delete_, run_underlying hu, Go.MapKept.run_getObj_map hw, hck, e1, hset]
      split at h
      · rename_i p ents ho
        cases h
        obtain ⟨es, clock, hw, hsz, hbr, hpe⟩ := r.obj _ _ _ (obj_some ho rfl) hb
        exact main (p := p) _ rfl ho rfl hcs.cons.1 hw hsz hbr hpe fun w' es' a1 a2 a3 a4 a5 => ⟨es', clock, a1, a2, a3, a5⟩
      · rename_i p ents bs c ho
        cases h
        obtain ⟨es, hw, hsz, ⟨hbr, rfl⟩, hpe⟩ := r.obj _ _ _ (obj_some ho rfl) hb
        exact main (p := p) _ rfl ho rfl hcs.cons.1 hw hsz hbr hpe fun w' es' a1 a2 a3 a4 a5 => ⟨es', a1, a2, ⟨a3, a4⟩, a5⟩
      · rename_i pre e0 post ho
        cases h
        obtain ⟨hpure, es, clock, hw, hsz, hbr, hpe⟩ := r.obj _ _ _ (obj_some ho rfl) hb
        have hnone : afind k pre = none := by simpa using hcs.cons.2.cons.1
        have hkq : keq k e0.1 = true := hcs.cons.2.cons.2.cons.1
        refine main (p := false) (ents := pre ++ [e0] ++ post) (.mq pre [] post) rfl ho rfl hcs.cons.1 hw hsz hbr hpe fun w' es' a1 a2 a3 a4 a5 => ?_
        rw [adel_mid hkq pre hnone] at a2 a5
        exact ⟨hpure, es', clock, a1, by simpa using a2, a3, by simpa [inMap] using a5⟩
      · cases h
    · cases h
  · cases h

end
end Go.Abs
end

section

end
