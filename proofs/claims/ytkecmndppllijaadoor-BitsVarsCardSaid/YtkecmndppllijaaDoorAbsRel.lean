import Derived.Test.YtkecmndppllijaaDoorAbsEval
import Derived.Below
set_option linter.unusedVariables false
set_option linter.unusedSectionVars false
namespace Go.Abs

abbrev RMap := Nat → Option Nat
def noId : RMap := fun _ => none

/-! ## A value of the machine, seen as one of ours -/
inductive VRel (F : Nat → Prop) (w : World) : RMap → AVal → Value → Prop
  | any (ρ : RMap) (v : Value) : VRel F w ρ .any v
  | tt (ρ : RMap) (b : Bool) : VRel F w ρ (.tt b) (.bool b)
  | bool (ρ : RMap) (b : Bool) : VRel F w ρ (.bool b) (.bool b)
  | int (ρ : RMap) (k : IntKind) (n : Int) : VRel F w ρ (.int k n) (.int k n)
  | str (ρ : RMap) (s : ByteArray) : VRel F w ρ (.str s) (.string s)
  | nilp (ρ : RMap) : VRel F w ρ .nilp (.pointer none)
  | ptr (ρ : RMap) (id es i j b : Nat) (h : ρ id = some b) : VRel F w ρ (.ptr id es i j) (.pointer (some ⟨b, i * es + j, none⟩))
  | slc (ρ : RMap) (id es off len : Nat) (cap : Option Nat) (c b : Nat) (h : ρ id = some b) (hl : len ≤ c) (hc : ∀ k, cap = some k → c = k)
      (hs : ∃ cs T fr, w.heap[b]? = some (.cells cs T fr) ∧ (off + c) * es ≤ cs.size) : VRel F w ρ (.slc false id es off len cap) (.slice (some ⟨b, off * es, none⟩) len c)
  | slcE (ρ : RMap) (n : Bool) (id es off : Nat) (cap : Option Nat) (base : Option Addr) (hb : base.isNone = n) (hc : ∀ k, cap = some k → k = 0) : VRel F w ρ (.slc n id es off 0 cap) (.slice base 0 0)
  | fnil (ρ : RMap) (es : Nat) (cap : Option Nat) (hc : ∀ k, cap = some k → k = 0) : VRel F w ρ (.fsl true es [] cap) (.slice none 0 0)
  | femp (ρ : RMap) (es : Nat) (a : Addr) (c : Nat) (cap : Option Nat) (hc : ∀ k, cap = some k → c = k) : VRel F w ρ (.fsl false es [] cap) (.slice (some a) 0 c)
  | fsl (ρ : RMap) (es : Nat) (rows : List (List AVal)) (b o c : Nat) (cap : Option Nat) (f : Nat → Nat → Value) (hF : F b) (hl : rows.length ≤ c) (hc : ∀ k, cap = some k → c = k)
      (hw : ∀ (i : Nat) (row : List AVal), rows[i]? = some row → row.length = es)
      (hg : ∀ (i j : Nat) (row : List AVal) (v : AVal), rows[i]? = some row → row[j]? = some v → w.cell? ⟨b, o + i * es + j, none⟩ = some (f i j))
      (hv : ∀ (i j : Nat) (row : List AVal) (v : AVal), rows[i]? = some row → row[j]? = some v → VRel F w noId v (f i j)) :
      VRel F w ρ (.fsl false es rows cap) (.slice (some ⟨b, o, none⟩) rows.length c)
  | fptr (ρ : RMap) (es : Nat) (rows : List (List AVal)) (i0 j0 b o : Nat) (f : Nat → Nat → Value) (hF : F b)
      (hw : ∀ (i : Nat) (row : List AVal), rows[i]? = some row → row.length = es)
      (hg : ∀ (i j : Nat) (row : List AVal) (v : AVal), rows[i]? = some row → row[j]? = some v → w.cell? ⟨b, o + i * es + j, none⟩ = some (f i j))
      (hv : ∀ (i j : Nat) (row : List AVal) (v : AVal), rows[i]? = some row → row[j]? = some v → VRel F w noId v (f i j)) :
      VRel F w ρ (.fptr es rows i0 j0) (.pointer (some ⟨b, o + i0 * es + j0, none⟩))
  | nilm (ρ : RMap) : VRel F w ρ .nilm (.map none)
  | map (ρ : RMap) (id b : Nat) (h : ρ id = some b) : VRel F w ρ (.map id) (.map (some b))
  | func (ρ : RMap) (f : FuncId) (cap : List AVal) (cv : Array Value) (hl : cap.length = cv.size)
      (h : ∀ (i : Nat) (v : AVal) (u : Value), cap[i]? = some v → cv[i]? = some u → VRel F w ρ v u) : VRel F w ρ (.func f cap) (.func (.func f) #[] cv)
  | nilf (ρ : RMap) : VRel F w ρ .nilf .nilFunc
  | agg (ρ : RMap) (cs : List AVal) (cv : Array Value) (hl : cs.length = cv.size)
      (h : ∀ (i : Nat) (v : AVal) (u : Value), cs[i]? = some v → cv[i]? = some u → VRel F w ρ v u) : VRel F w ρ (.agg cs) (.agg cv)
  | pagg (ρ : RMap) (cs : List AVal) (cv : Array Value) (hl : cs.length = cv.size)
      (h : ∀ (i : Nat) (v : AVal) (u : Value), cs[i]? = some v → cv[i]? = some u → VRel F w noId v u) : VRel F w ρ (.pagg cs) (.agg cv)
  | tuple (ρ : RMap) (cs : List AVal) (cv : Array Value) (hl : cs.length = cv.size)
      (h : ∀ (i : Nat) (v : AVal) (u : Value), cs[i]? = some v → cv[i]? = some u → VRel F w ρ v u) : VRel F w ρ (.tuple cs) (.tuple cv)
  | nili (ρ : RMap) : VRel F w ρ .nili .nilIface
  | iface (ρ : RMap) (t : TypeId) (v : AVal) (u : Value) (h : VRel F w ρ v u) : VRel F w ρ (.iface t v) (.iface t u)

theorem cell_heap {w w' : World} {a : Addr} (h : w'.heap[a.block]? = w.heap[a.block]?) : w'.cell? a = w.cell? a := by
  unfold World.cell?; rw [h]

theorem VRel.mono {F F' : Nat → Prop} {w w' : World} (hF : ∀ b, F b → F' b ∧ w'.heap[b]? = w.heap[b]?)
    (hrow : ∀ (b : Nat) (cs : Array Value) (T : TypeId) (fr : Nat × Nat), w.heap[b]? = some (.cells cs T fr) → ∃ cs' fr', w'.heap[b]? = some (.cells cs' T fr') ∧ cs'.size = cs.size) :
    ∀ {ρ : RMap} {v : AVal} {c : Value}, VRel F w ρ v c → ∀ {ρ' : RMap}, (∀ id b, ρ id = some b → ρ' id = some b) → VRel F' w' ρ' v c := by
  intro ρ v c h
  induction h with
  | any => intros; exact .any _ _
  | tt => intros; exact .tt _ _
  | bool => intros; exact .bool _ _
  | int => intros; exact .int _ _ _
  | str => intros; exact .str _ _
  | nilp => intros; exact .nilp _
  | ptr ρ id es i j b h => intro ρ' hρ; exact .ptr _ _ _ _ _ _ (hρ _ _ h)
  | slc ρ id es off len cap c b h hl hc hs =>
    intro ρ' hρ
    obtain ⟨cs, T, fr, h1, h2⟩ := hs
    obtain ⟨cs', fr', h3, h4⟩ := hrow _ _ _ _ h1
    exact .slc _ _ _ _ _ _ _ _ (hρ _ _ h) hl hc ⟨cs', T, fr', h3, by rw [h4]; exact h2⟩
  | slcE ρ n id es off cap base hb hc => intros; exact .slcE _ _ _ _ _ _ _ hb hc
  | fnil ρ es cap hc => intros; exact .fnil _ _ _ hc
  | femp ρ es a c cap hc => intros; exact .femp _ _ _ _ _ hc
  | fsl ρ es rows b o c cap f hFb hl hc hw hg hv ih =>
    intro ρ' hρ
    exact .fsl _ _ _ _ _ _ _ f (hF _ hFb).1 hl hc hw (fun i j row v h1 h2 => (cell_heap (hF _ hFb).2).trans (hg i j row v h1 h2))
      (fun i j row v h1 h2 => ih i j row v h1 h2 (fun _ _ h => h))
  | fptr ρ es rows i0 j0 b o f hFb hw hg hv ih =>
    intro ρ' hρ
    exact .fptr _ _ _ _ _ _ _ f (hF _ hFb).1 hw (fun i j row v h1 h2 => (cell_heap (hF _ hFb).2).trans (hg i j row v h1 h2))
      (fun i j row v h1 h2 => ih i j row v h1 h2 (fun _ _ h => h))
  | nilm => intros; exact .nilm _
  | map ρ id b h => intro ρ' hρ; exact .map _ _ _ (hρ _ _ h)
  | func ρ f cap cv hl h ih => intro ρ' hρ; exact .func _ _ _ _ hl fun i v u h1 h2 => ih i v u h1 h2 hρ
  | nilf => intros; exact .nilf _
  | agg ρ cs cv hl h ih => intro ρ' hρ; exact .agg _ _ _ hl fun i v u h1 h2 => ih i v u h1 h2 hρ
  | pagg ρ cs cv hl h ih => intro ρ' hρ; exact .pagg _ _ _ hl fun i v u h1 h2 => ih i v u h1 h2 (fun _ _ h => h)
  | tuple ρ cs cv hl h ih => intro ρ' hρ; exact .tuple _ _ _ hl fun i v u h1 h2 => ih i v u h1 h2 hρ
  | nili => intros; exact .nili _
  | iface ρ t v u h ih => intro ρ' hρ; exact .iface _ _ _ _ (ih hρ)

theorem VRel.weak {F : Nat → Prop} {w : World} {ρ ρ' : RMap} {v : AVal} {c : Value} (h : VRel F w ρ v c) (hρ : ∀ id b, ρ id = some b → ρ' id = some b) : VRel F w ρ' v c :=
  h.mono (fun _ h => ⟨h, rfl⟩) (fun _ cs _ _ h => ⟨cs, _, h, rfl⟩) hρ
theorem VRel.pure {F : Nat → Prop} {w : World} {ρ' : RMap} {v : AVal} {c : Value} (h : VRel F w noId v c) : VRel F w ρ' v c :=
  h.weak fun _ _ h => by simp [noId] at h

/-! ## A heap -/
def inMap (p : Bool) (ρ : RMap) : RMap := if p then noId else ρ

def ORel (F : Nat → Prop) (w : World) (ρ : RMap) (b : Nat) : AObj → Prop
  | .dead => True
  | .rows p es rs => ∃ cs T fr, w.heap[b]? = some (.cells cs T fr) ∧ (∀ o, o < cs.size → w.frozen? ⟨b, o, none⟩ = false) ∧ rs.length * es ≤ cs.size ∧
      (∀ (i : Nat) (row : List AVal), rs[i]? = some row → row.length = es) ∧
      ∀ (i j : Nat) (row : List AVal) (v : AVal), rs[i]? = some row → row[j]? = some v → ∃ cv, cs[i * es + j]? = some cv ∧ VRel F w (inMap p ρ) v cv
  | .trows T p es rs => ∃ cs fr, w.heap[b]? = some (.cells cs T fr) ∧ (∀ o, o < cs.size → w.frozen? ⟨b, o, none⟩ = false) ∧ rs.length * es ≤ cs.size ∧
      (∀ (i : Nat) (row : List AVal), rs[i]? = some row → row.length = es) ∧
      ∀ (i j : Nat) (row : List AVal) (v : AVal), rs[i]? = some row → row[j]? = some v → ∃ cv, cs[i * es + j]? = some cv ∧ VRel F w (inMap p ρ) v cv
  | .mp p ents => ∃ es clock, w.heap[b]? = some (.map es clock) ∧ es.size = ents.length ∧
      ∀ (i : Nat) (k v : AVal), ents[i]? = some (k, v) → ∃ e, es[i]? = some e ∧ VRel F w (inMap p ρ) k e.key ∧ VRel F w (inMap p ρ) v e.val

def Live (ρ : RMap) (σ : AState) (b : Nat) : Prop := ∃ id o, σ[id]? = some o ∧ o.live = true ∧ ρ id = some b

structure Rel (ρ : RMap) (F : Nat → Prop) (σ : AState) (w : World) : Prop where
  obj : ∀ id o b, σ[id]? = some o → ρ id = some b → ORel F w ρ b o
  inj : ∀ id id' o o' b, σ[id]? = some o → σ[id']? = some o' → o.live = true → o'.live = true → ρ id = some b → ρ id' = some b → id = id'
  fr : ∀ b, F b → b < w.heap.size ∧ ¬ Live ρ σ b
  lt : ∀ id b, ρ id = some b → b < w.heap.size
  dom : ∀ id, σ.length ≤ id → ρ id = none

/-- What a piece of work has turned. -/
structure Tr (σ σ' : AState) (ρ ρ' : RMap) (F F' : Nat → Prop) (w w' : World) : Prop where
  map : ∀ id b, ρ id = some b → ρ' id = some b
  frz : ∀ b, F b → F' b
  os : w'.os = w.os
  tape : w'.tape = w.tape
  output : w'.output = w.output
  size : w.heap.size ≤ w'.heap.size
  row : ∀ (b : Nat) (cs : Array Value) (T : TypeId) (fr : Nat × Nat), w.heap[b]? = some (.cells cs T fr) → ∃ cs' fr', w'.heap[b]? = some (.cells cs' T fr') ∧ cs'.size = cs.size
  keep : ∀ b, b < w.heap.size → ¬ Live ρ σ b → w'.heap[b]? = w.heap[b]?
  newF : ∀ b, F' b → F b ∨ w.heap.size ≤ b ∨ Live ρ σ b
  newρ : ∀ id b, ρ' id = some b → ρ id = some b ∨ (σ.length ≤ id ∧ (w.heap.size ≤ b ∨ Live ρ σ b))
  len : σ.length ≤ σ'.length
  live : ∀ id o', σ'[id]? = some o' → o'.live = true → id < σ.length → ∃ o, σ[id]? = some o ∧ o.live = true

theorem Tr.refl (σ : AState) (ρ : RMap) (F : Nat → Prop) (w : World) : Tr σ σ ρ ρ F F w w :=
  ⟨fun _ _ h => h, fun _ h => h, rfl, rfl, rfl, Nat.le_refl _, fun _ cs _ _ h => ⟨cs, _, h, rfl⟩, fun _ _ _ => rfl, fun _ h => .inl h, fun _ _ h => .inl h, Nat.le_refl _, fun _ o h1 h2 _ => ⟨o, h1, h2⟩⟩

theorem Tr.live' {σ σ' : AState} {ρ ρ' : RMap} {F F' : Nat → Prop} {w w' : World} (t : Tr σ σ' ρ ρ' F F' w w') (r : Rel ρ F σ w) {b : Nat} (h : Live ρ' σ' b) : Live ρ σ b ∨ w.heap.size ≤ b := by
  obtain ⟨id, o, h1, h2, h3⟩ := h
  rcases t.newρ _ _ h3 with h4 | ⟨h4, h5⟩
  · have hlt : id < σ.length := by
      rcases Nat.lt_or_ge id σ.length with h | h
      · exact h
      · rw [r.dom _ h] at h4; cases h4
    obtain ⟨o', h6, h7⟩ := t.live _ _ h1 h2 hlt
    exact .inl ⟨id, o', h6, h7, h4⟩
  · rcases h5 with h5 | h5
    · exact .inr h5
    · exact .inl h5

theorem Tr.trans {σ σ1 σ2 : AState} {ρ ρ1 ρ2 : RMap} {F F1 F2 : Nat → Prop} {w w1 w2 : World} (r : Rel ρ F σ w) (a : Tr σ σ1 ρ ρ1 F F1 w w1) (b : Tr σ1 σ2 ρ1 ρ2 F1 F2 w1 w2) :
    Tr σ σ2 ρ ρ2 F F2 w w2 := by
  refine ⟨fun id x h => b.map _ _ (a.map _ _ h), fun x h => b.frz _ (a.frz _ h), b.os.trans a.os, b.tape.trans a.tape, b.output.trans a.output, Nat.le_trans a.size b.size, ?_, ?_, ?_, ?_, Nat.le_trans a.len b.len, ?_⟩
  · intro x cs T fr h
    obtain ⟨cs1, fr1, h1, h2⟩ := a.row _ _ _ _ h
    obtain ⟨cs2, fr2, h3, h4⟩ := b.row _ _ _ _ h1
    exact ⟨cs2, fr2, h3, h4.trans h2⟩
  · intro x hx hn
    rw [b.keep x (Nat.lt_of_lt_of_le hx a.size) (fun hl => (a.live' r hl).elim hn (fun h => absurd hx (Nat.not_lt.2 h))), a.keep x hx hn]
  · intro x hx
    rcases b.newF x hx with h | h | h
    · exact a.newF x h
    · exact .inr (.inl (Nat.le_trans a.size h))
    · exact (a.live' r h).elim (fun h => .inr (.inr h)) (fun h => .inr (.inl h))
  · intro id x hx
    rcases b.newρ id x hx with h | ⟨h1, h2⟩
    · exact a.newρ id x h
    · refine .inr ⟨Nat.le_trans a.len h1, ?_⟩
      rcases h2 with h | h
      · exact .inl (Nat.le_trans a.size h)
      · exact (a.live' r h).elim .inr .inl
  · intro id o' h1 h2 h3
    obtain ⟨o, h4, h5⟩ := b.live id o' h1 h2 (Nat.lt_of_lt_of_le h3 a.len)
    exact a.live id o h4 h5 h3

theorem Rel.frz {ρ : RMap} {F : Nat → Prop} {σ : AState} {w : World} (r : Rel ρ F σ w) {σ' : AState} {ρ' : RMap} {F' : Nat → Prop} {w' : World} (t : Tr σ σ' ρ ρ' F F' w w') :
    ∀ b, F b → F' b ∧ w'.heap[b]? = w.heap[b]? := fun b h => ⟨t.frz b h, t.keep b (r.fr b h).1 (r.fr b h).2⟩

/-- A value that was seen so is seen so. -/
theorem VRel.tr {ρ ρ' : RMap} {F F' : Nat → Prop} {σ σ' : AState} {w w' : World} {v : AVal} {c : Value} (h : VRel F w ρ v c) (r : Rel ρ F σ w) (t : Tr σ σ' ρ ρ' F F' w w') : VRel F' w' ρ' v c :=
  h.mono (r.frz t) t.row t.map
theorem VRel.tr0 {ρ ρ' : RMap} {F F' : Nat → Prop} {σ σ' : AState} {w w' : World} {v : AVal} {c : Value} (h : VRel F w noId v c) (r : Rel ρ F σ w) (t : Tr σ σ' ρ ρ' F F' w w') : VRel F' w' noId v c :=
  h.mono (r.frz t) t.row (fun _ _ h => h)

/-! ## The temporaries -/
variable [Glob]
def GOk (F : Nat → Prop) (w : World) : Prop := ∀ g v, Glob.val g = some v → VRel F w noId v (.pointer (some ⟨g, 0, none⟩))
theorem GOk.tr {ρ ρ' : RMap} {F F' : Nat → Prop} {σ σ' : AState} {w w' : World} (h : GOk F w) (r : Rel ρ F σ w) (t : Tr σ σ' ρ ρ' F F' w w') : GOk F' w' := fun g v e => (h g v e).tr0 r t
structure ARel (F : Nat → Prop) (w : World) (ρ : RMap) (rg : Regs) (a : Act) : Prop where
  size : rg.length = a.tmps.size
  val : ∀ (i : Nat) (v : AVal) (u : Value), rg[i]? = some v → a.tmps[i]? = some u → VRel F w ρ v u
  defers : a.defers = []
  glob : GOk F w

theorem ARel.tr {ρ ρ' : RMap} {F F' : Nat → Prop} {σ σ' : AState} {w w' : World} {rg : Regs} {a : Act} (h : ARel F w ρ rg a) (r : Rel ρ F σ w) (t : Tr σ σ' ρ ρ' F F' w w') : ARel F' w' ρ' rg a :=
  ⟨h.size, fun i v u h1 h2 => (h.val i v u h1 h2).tr r t, h.defers, h.glob.tr r t⟩

theorem ARel.put {F : Nat → Prop} {w : World} {ρ : RMap} {rg : Regs} {a : Act} (h : ARel F w ρ rg a) (dst : Option Tmp) {v : AVal} {u : Value} (hv : VRel F w ρ v u) : ARel F w ρ (rput rg dst v) (a.put dst u) := by
  cases dst with
  | none => exact h
  | some d =>
    refine ⟨by simp [rput, Act.put, h.size], ?_, h.defers, h.glob⟩
    intro i x y h1 h2
    simp only [rput, Act.put] at h1 h2
    rw [List.getElem?_set] at h1
    rw [Array.getElem?_setIfInBounds] at h2
    by_cases hd : d = i
    · subst hd
      simp only [if_true] at h1 h2
      split at h1
      · split at h2
        · cases h1; cases h2; exact hv
        · cases h2
      · cases h1
    · simp only [hd, if_false] at h1 h2
      exact h.val i x y h1 h2

omit [Glob] in
theorem abs1_ok (F : Nat → Prop) (w : World) (ρ : RMap) (v : Value) : VRel F w ρ (abs1 v) v := by
  unfold abs1
  split <;> first | exact .tt _ _ | exact .int _ _ _ | exact .str _ _ | exact .nilp _ | exact .fnil _ _ _ (by intro k h; cases h; rfl) | exact .nilm _ | exact .nilf _ | exact .nili _ | exact .any _ _
omit [Glob] in
theorem abs0_ok (F : Nat → Prop) (w : World) (ρ : RMap) (v : Value) : VRel F w ρ (abs0 v) v := by
  unfold abs0
  split
  · rename_i cs
    refine .agg _ _ _ (by simp) fun i x u h1 h2 => ?_
    rw [List.getElem?_map, Array.getElem?_toList, h2] at h1
    cases h1
    exact abs1_ok _ _ _ _
  · exact abs1_ok _ _ _ _

theorem aev_ok {F : Nat → Prop} {w : World} {ρ : RMap} {rg : Regs} {a : Act} (h : ARel F w ρ rg a) (x : Operand) : VRel F w ρ (aev rg x) (a.eval x) := by
  cases x with
  | tmp t =>
    simp only [aev, Act.eval]
    by_cases ht : t < rg.length
    · have h1 : rg[t]? = some rg[t] := List.getElem?_eq_getElem ht
      have h2 : a.tmps[t]? = some (a.tmps[t]'(by rw [← h.size]; exact ht)) := Array.getElem?_eq_getElem _
      rw [List.getD_eq_getElem?_getD, h1, Array.getD_eq_getD_getElem?, h2]
      exact h.val t _ _ h1 h2
    · rw [List.getD_eq_getElem?_getD, List.getElem?_eq_none (Nat.not_lt.1 ht)]
      exact .any _ _
  | const v => exact abs0_ok _ _ _ _
  | global g =>
    simp only [aev, Act.eval]
    cases hg : Glob.val g with
    | none => exact .any _ _
    | some v => exact (h.glob g v hg).pure
  | func f => exact .func _ _ _ _ rfl fun i v u h _ => by simp at h

end Go.Abs
