import Derived.Test.YtkecmndppllijaaDoorAbsRel
import Derived.Deep.MidRow
set_option linter.unusedVariables false
set_option linter.unusedSimpArgs false
namespace Go.Abs

section
variable {P : Program} {F : Nat → Prop} {w : World} {ρ : RMap} {σ : AState}

/-- cells, pair by pair -/
def PW (F : Nat → Prop) (w : World) (ρ : RMap) (xs : List AVal) (ys : List Value) : Prop :=
  xs.length = ys.length ∧ ∀ (i : Nat) (x : AVal) (y : Value), xs[i]? = some x → ys[i]? = some y → VRel F w ρ x y

theorem PW.pure {xs : List AVal} {ys : List Value} (h : PW F w noId xs ys) : PW F w ρ xs ys := ⟨h.1, fun i x y h1 h2 => (h.2 i x y h1 h2).pure⟩
theorem PW.head {xs : List AVal} {ys : List Value} (h : PW F w ρ xs ys) (hne : 0 < xs.length) : VRel F w ρ (xs.headD .any) (ys.headD undef) := by
  obtain ⟨hl, h⟩ := h
  match xs, ys, hl with
  | x :: xs, y :: ys, _ => exact h 0 x y rfl rfl
theorem PW.tail {x : AVal} {xs : List AVal} {y : Value} {ys : List Value} (h : PW F w ρ (x :: xs) (y :: ys)) : PW F w ρ xs ys :=
  ⟨by simpa using h.1, fun i a b h1 h2 => h.2 (i + 1) a b (by simpa using h1) (by simpa using h2)⟩
theorem PW.cons {x : AVal} {xs : List AVal} {y : Value} {ys : List Value} (h : VRel F w ρ x y) (hs : PW F w ρ xs ys) : PW F w ρ (x :: xs) (y :: ys) := by
  refine ⟨by simp [hs.1], fun i a b h1 h2 => ?_⟩
  cases i with
  | zero => simp at h1 h2; subst h1; subst h2; exact h
  | succ i => exact hs.2 i a b (by simpa using h1) (by simpa using h2)
theorem PW.nil : PW F w ρ [] [] := ⟨rfl, fun i x y h1 _ => by simp at h1⟩
theorem PW.agg {xs : List AVal} {ys : List Value} (h : PW F w ρ xs ys) : VRel F w ρ (.agg xs) (.agg ys.toArray) :=
  .agg _ _ _ (by simpa using h.1) fun i v u h1 h2 => h.2 i v u h1 (by simpa using h2)
theorem PW.of_agg {xs : List AVal} {c : Value} (h : VRel F w ρ (.agg xs) c) : ∃ ys : Array Value, c = .agg ys ∧ PW F w ρ xs ys.toList := by
  cases h with
  | agg _ _ cv hl h => exact ⟨_, rfl, by simpa using hl, fun i x y h1 h2 => h i x y h1 (by simpa using h2)⟩

theorem PW.pagg {xs : List AVal} {ys : List Value} (h : PW F w noId xs ys) : VRel F w ρ (.pagg xs) (.agg ys.toArray) :=
  .pagg _ _ _ (by simpa using h.1) fun i v u h1 h2 => h.2 i v u h1 (by simpa using h2)
theorem PW.of_pagg {xs : List AVal} {c : Value} (h : VRel F w ρ (.pagg xs) c) : ∃ ys : Array Value, c = .agg ys ∧ PW F w noId xs ys.toList := by
  cases h with
  | pagg _ _ cv hl h => exact ⟨_, rfl, by simpa using hl, fun i x y h1 h2 => h i x y h1 (by simpa using h2)⟩

/-- What a value's cells are. -/
theorem PW.cells {v : AVal} {c : Value} (h : VRel F w ρ v c) (ho : v.cells.all oneCell = true) : PW F w ρ v.cells c.cells.toList ∧ ∀ u ∈ c.cells.toList, u.oneCell' = true := by
  have key : ∀ (x : AVal) (y : Value), oneCell x = true → VRel F w ρ x y → y.oneCell' = true ∧ y.cells = #[y] := by
    intro x y hx hy
    cases hy <;> simp_all [oneCell, Value.oneCell', Value.cells]
  cases v with
  | agg cs =>
    obtain ⟨ys, rfl, hp⟩ := PW.of_agg h
    refine ⟨hp, fun u hu => ?_⟩
    obtain ⟨i, hi⟩ := List.mem_iff_getElem?.1 hu
    have hlt : i < cs.length := by rw [hp.1]; exact (List.getElem?_eq_some_iff.1 hi).1
    have h1 := List.getElem?_eq_getElem hlt
    have := (List.all_eq_true.1 ho) (cs[i]) (by simp [AVal.cells])
    exact (key _ _ this (hp.2 i _ _ h1 hi)).1
  | _ =>
    have h1 := key _ _ (by simpa [AVal.cells] using ho) h
    rw [h1.2]
    exact ⟨⟨by simp [AVal.cells], fun i x y e1 e2 => by
      cases i with
      | zero => simp [AVal.cells] at e1 e2; subst e1; subst e2; exact h
      | succ i => simp [AVal.cells] at e1⟩, fun u hu => by simp at hu; subst hu; exact h1.1⟩

theorem VRel.slc_inv {n : Bool} {id es off len : Nat} {cap : Option Nat} {c : Value} (h : VRel F w ρ (.slc n id es off len cap) c) :
    (n = false ∧ ∃ cc b, ρ id = some b ∧ len ≤ cc ∧ (∀ k, cap = some k → cc = k) ∧ (∃ cs T fr, w.heap[b]? = some (.cells cs T fr) ∧ (off + cc) * es ≤ cs.size) ∧ c = .slice (some ⟨b, off * es, none⟩) len cc) ∨
    (len = 0 ∧ ∃ base : Option Addr, base.isNone = n ∧ (∀ k, cap = some k → k = 0) ∧ c = .slice base 0 0) := by
  cases h with
  | slc _ _ _ _ _ _ cc b h hl hc hs => exact .inl ⟨rfl, cc, b, h, hl, hc, hs, rfl⟩
  | slcE _ _ _ _ _ _ base hb hc => exact .inr ⟨rfl, base, hb, hc, rfl⟩
theorem VRel.ptr_inv {id es i j : Nat} {c : Value} (h : VRel F w ρ (.ptr id es i j) c) : ∃ b, ρ id = some b ∧ c = .pointer (some ⟨b, i * es + j, none⟩) := by
  cases h with
  | ptr _ _ _ _ _ b h => exact ⟨b, h, rfl⟩
theorem VRel.fptr_inv {es i0 j0 : Nat} {rows : List (List AVal)} {c : Value} (h : VRel F w ρ (.fptr es rows i0 j0) c) : ∃ (b o : Nat) (f : Nat → Nat → Value), F b ∧
      (∀ (i : Nat) (row : List AVal), rows[i]? = some row → row.length = es) ∧
      (∀ (i j : Nat) (row : List AVal) (v : AVal), rows[i]? = some row → row[j]? = some v → w.cell? ⟨b, o + i * es + j, none⟩ = some (f i j)) ∧
      (∀ (i j : Nat) (row : List AVal) (v : AVal), rows[i]? = some row → row[j]? = some v → VRel F w noId v (f i j)) ∧ c = .pointer (some ⟨b, o + i0 * es + j0, none⟩) := by
  cases h with
  | fptr _ _ _ _ _ b o f hF hw hg hv => exact ⟨b, o, f, hF, hw, hg, hv, rfl⟩
theorem VRel.fsl_inv {n : Bool} {es : Nat} {rows : List (List AVal)} {cap : Option Nat} {c : Value} (h : VRel F w ρ (.fsl n es rows cap) c) :
    (n = true ∧ rows = [] ∧ (∀ k, cap = some k → k = 0) ∧ c = .slice none 0 0) ∨
    (n = false ∧ ∃ (a : Addr) (cc : Nat), rows.length ≤ cc ∧ (∀ k, cap = some k → cc = k) ∧ c = .slice (some a) rows.length cc ∧ (rows = [] ∨ ∃ (b o : Nat) (f : Nat → Nat → Value), a = ⟨b, o, none⟩ ∧ F b ∧
      (∀ (i : Nat) (row : List AVal), rows[i]? = some row → row.length = es) ∧
      (∀ (i j : Nat) (row : List AVal) (v : AVal), rows[i]? = some row → row[j]? = some v → w.cell? ⟨b, o + i * es + j, none⟩ = some (f i j)) ∧
      (∀ (i j : Nat) (row : List AVal) (v : AVal), rows[i]? = some row → row[j]? = some v → VRel F w noId v (f i j)))) := by
  cases h with
  | fnil _ _ _ hc => exact .inl ⟨rfl, rfl, hc, rfl⟩
  | femp _ _ a c _ hc => exact .inr ⟨rfl, a, c, Nat.zero_le _, hc, rfl, .inl rfl⟩
  | fsl _ _ _ b o c _ f hF hl hc hw hg hv => exact .inr ⟨rfl, _, c, hl, hc, rfl, .inr ⟨b, o, f, rfl, hF, hw, hg, hv⟩⟩
theorem VRel.int_inv {k : IntKind} {n : Int} {c : Value} (h : VRel F w ρ (.int k n) c) : c = .int k n := by cases h; rfl
theorem VRel.str_inv {s : ByteArray} {c : Value} (h : VRel F w ρ (.str s) c) : c = .string s := by cases h; rfl
theorem VRel.bool_inv {b : Bool} {c : Value} (h : VRel F w ρ (.bool b) c) : c = .bool b := by cases h; rfl
theorem VRel.tt_inv {b : Bool} {c : Value} (h : VRel F w ρ (.tt b) c) : c = .bool b := by cases h; rfl
theorem VRel.map_inv {id : Nat} {c : Value} (h : VRel F w ρ (.map id) c) : ∃ b, ρ id = some b ∧ c = .map (some b) := by
  cases h with
  | map _ _ b h => exact ⟨b, h, rfl⟩
theorem VRel.nilm_inv {c : Value} (h : VRel F w ρ .nilm c) : c = .map none := by cases h; rfl
theorem VRel.nilp_inv {c : Value} (h : VRel F w ρ .nilp c) : c = .pointer none := by cases h; rfl
theorem VRel.nilf_inv {c : Value} (h : VRel F w ρ .nilf c) : c = .nilFunc := by cases h; rfl
theorem VRel.func_inv {f : FuncId} {cap : List AVal} {c : Value} (h : VRel F w ρ (.func f cap) c) : ∃ cv : Array Value, c = .func (.func f) #[] cv ∧ PW F w ρ cap cv.toList := by
  cases h with
  | func _ _ _ cv hl h => exact ⟨cv, rfl, by simpa using hl, fun i x y h1 h2 => h i x y h1 (by simpa using h2)⟩
theorem VRel.tuple_inv {cs : List AVal} {c : Value} (h : VRel F w ρ (.tuple cs) c) : ∃ cv : Array Value, c = .tuple cv ∧ PW F w ρ cs cv.toList := by
  cases h with
  | tuple _ _ cv hl h => exact ⟨cv, rfl, by simpa using hl, fun i x y h1 h2 => h i x y h1 (by simpa using h2)⟩

theorem reify_ok {k : Kind} {v : AVal} {c : Value} (h : VRel F w ρ v c) (hk : isKind k v = true) : VRel F w ρ (reify k v) c := by
  cases k <;> cases h <;> simp only [isKind] at hk <;> first | cases hk | skip
  all_goals first
    | exact .bool _ _
    | (simp only [beq_iff_eq] at hk; subst hk; exact .int _ _ _)
    | exact .str _ _
    | (simp only [reify]; constructor <;> assumption)
    | skip
  · exact .fnil _ _ _ (by simp)
  · exact .femp _ _ _ _ _ (by simp)
  · rename_i es es' rows b o c cap f hF hl hc hw hg hv
    have : es = es' := by
      simp only [Bool.or_eq_true, Bool.and_eq_true, Bool.false_eq_true, false_and, or_false, beq_iff_eq] at hk; exact hk
    subst this
    exact .fsl _ _ _ _ _ _ _ f hF hl (by simp) hw hg hv

theorem reifyL_ok : ∀ (ks : List Kind) (vs : List AVal) (cs : List Value), PW F w ρ vs cs → areKinds ks vs = true → PW F w ρ (reifyL ks vs) cs
  | [], vs, cs, h, hk => by
    cases vs with
    | nil => exact h
    | cons => simp [areKinds] at hk
  | k :: ks, vs, cs, h, hk => by
    match vs, cs, h with
    | [], _, _ => simp [areKinds] at hk
    | v :: vs, [], h => have := h.1; simp at this
    | v :: vs, c :: cs, h =>
      simp only [areKinds, Bool.and_eq_true] at hk
      exact .cons (reify_ok (h.2 0 v c rfl rfl) hk.1) (reifyL_ok ks vs cs h.tail hk.2)

theorem cellsOf_info {t : TypeId} {n : Nat} (h : P.cellsOf t = n) (hn : n ≠ 0) : (P.info? t).map (·.size) = some n := by
  unfold Program.cellsOf at h
  cases hi : P.info? t with
  | none => rw [hi] at h; simp at h; exact absurd h.symm hn
  | some i => rw [hi] at h; simpa using h

theorem isAggT_desc {t : TypeId} (h : isAggT P t = true) : ∃ d, P.underlying t = some d ∧ d.isRow = true := by
  unfold isAggT at h
  cases hu : P.underlying t with
  | none => rw [hu] at h; cases h
  | some d => rw [hu] at h; cases d <;> simp_all [TypeDesc.isRow]

theorem run_isAgg {t : TypeId} {d : TypeDesc} (h : P.underlying t = some d) (w : World) : (isAgg t).run P w = .ok (isAggT P t) w := by
  unfold isAgg isAggT
  rw [Sem.run_bind, run_underlying h w, h]
  cases d <;> simp

/-- A load of cells that lie in a row. -/
theorem run_loadVar_cells {t : TypeId} {b o : Nat} {cs : List Value} {d : TypeDesc} (hu : P.underlying t = some d) (hc : w.rangeAt b o cs) (hn : P.cellsOf t = cs.length) (h0 : cs.length ≠ 0) :
    (loadVar t ⟨b, o, none⟩).run P w = .ok (if isAggT P t then .agg cs.toArray else cs.headD undef) w := by
  cases ha : isAggT P t with
  | true =>
    obtain ⟨d', h1, h2⟩ := isAggT_desc ha
    rw [run_loadVar_mid w b o t cs d' hc h1 h2 (cellsOf_info hn h0)]
    rfl
  | false =>
    unfold loadVar
    rw [Sem.run_bind, run_isAgg hu w, ha]
    match cs, h0 with
    | c :: cs, _ =>
      have := hc 0 c rfl
      simp only [Nat.add_zero] at this
      simp [this]

theorem asType_ok {t : TypeId} {xs : List AVal} {ys : List Value} (h : PW F w ρ xs ys) (h0 : 0 < xs.length) :
    VRel F w ρ (asType P t xs) (if isAggT P t then .agg ys.toArray else ys.headD undef) := by
  unfold asType
  split
  · exact h.agg
  · exact h.head h0

theorem cells_of {v : AVal} {c : Value} (h : VRel F w ρ v c) (hv : isAggV v = false) : v.cells = [v] := by
  cases v <;> first | rfl | cases hv
theorem normT_ok (t : TypeId) {v : AVal} {c : Value} (h : VRel F w ρ v c) : VRel F w ρ (normT P t v) c := by
  unfold normT
  split
  · rename_i hk
    rw [Bool.and_eq_true, Bool.and_eq_true, beq_iff_eq] at hk
    obtain ⟨⟨hk, ha⟩, h0⟩ := hk
    unfold asType
    cases hv : isAggV v with
    | true =>
      rw [hv] at ha
      rw [if_pos ha]
      cases v with
      | agg cs =>
        obtain ⟨ys, rfl, hp⟩ := PW.of_agg h
        have := (reifyL_ok _ _ _ hp hk).agg
        simpa [AVal.cells] using this
      | _ => cases hv
    | false =>
      rw [hv] at ha
      rw [if_neg (by simp [ha])]
      rw [cells_of h hv] at hk ⊢
      exact (reifyL_ok _ _ [c] (.cons h .nil) hk).head (by
        have := (reifyL_ok _ _ [c] (.cons h .nil) hk).1
        rw [this]; simp)
  · exact h

theorem normTs_ok : ∀ (ts : List TypeId) (vs : List AVal) (cs : List Value), PW F w ρ vs cs → PW F w ρ (normTs P ts vs) cs
  | [], vs, cs, h => by cases vs <;> exact h
  | t :: ts, [], cs, h => h
  | t :: ts, v :: vs, [], h => by have := h.1; simp at this
  | t :: ts, v :: vs, c :: cs, h => .cons (normT_ok t (h.2 0 v c rfl rfl)) (normTs_ok ts vs cs h.tail)

/-- The cells of a part of a row. -/
theorem part_of {es i j n b o : Nat} {rs : List (List AVal)} {f : Nat → Nat → Value} (hi : i < rs.length) (hjn : j + n ≤ es)
    (hw : ∀ (i : Nat) (row : List AVal), rs[i]? = some row → row.length = es)
    (hg : ∀ (i j : Nat) (row : List AVal) (v : AVal), rs[i]? = some row → row[j]? = some v → w.cell? ⟨b, o + i * es + j, none⟩ = some (f i j))
    (hv : ∀ (i j : Nat) (row : List AVal) (v : AVal), rs[i]? = some row → row[j]? = some v → VRel F w ρ v (f i j)) :
    ∃ cs : List Value, cs.length = n ∧ w.rangeAt b (o + i * es + j) cs ∧ PW F w ρ (((rs.getD i []).drop j).take n) cs := by
  have hrow : rs[i]? = some rs[i] := List.getElem?_eq_getElem hi
  have hlen := hw i _ hrow
  have hD : rs.getD i [] = rs[i] := by rw [List.getD_eq_getElem?_getD, hrow]; rfl
  refine ⟨(List.range n).map fun k => f i (j + k), by simp, ?_, ?_⟩
  · intro k v hk
    simp only [List.getElem?_map, Option.map_eq_some_iff] at hk
    obtain ⟨k', hk', rfl⟩ := hk
    have hkn : k < n := by have := (List.getElem?_eq_some_iff.1 hk').1; simpa using this
    rw [List.getElem?_range hkn] at hk'
    cases hk'
    have hlt : j + k < (rs[i]).length := by omega
    have := hg i (j + k) _ _ hrow (List.getElem?_eq_getElem hlt)
    rw [show o + i * es + j + k = o + i * es + (j + k) by omega]
    exact this
  · rw [hD]
    refine ⟨by simp; omega, fun k x y h1 h2 => ?_⟩
    rw [List.getElem?_take] at h1
    split at h1
    · rename_i hkn
      rw [List.getElem?_drop] at h1
      simp only [List.getElem?_map, List.getElem?_range hkn, Option.map_some, Option.some.injEq] at h2
      subst h2
      exact hv i (j + k) _ x hrow h1
    · cases h1

/-- The rows of a live object. -/
theorem ORel.part {p : Bool} {es b i j n : Nat} {rs : List (List AVal)} (h : ORel F w ρ b (.rows p es rs)) (hi : i < rs.length) (hjn : j + n ≤ es) :
    ∃ cs : List Value, cs.length = n ∧ w.rangeAt b (i * es + j) cs ∧ PW F w (inMap p ρ) (((rs.getD i []).drop j).take n) cs := by
  obtain ⟨cs, T, fr, hb, _, hsz, hw, hv⟩ := h
  have key : ∀ (i j : Nat) (row : List AVal) (v : AVal), rs[i]? = some row → row[j]? = some v → w.cell? ⟨b, 0 + i * es + j, none⟩ = some (cs.getD (i * es + j) undef) ∧ VRel F w (inMap p ρ) v (cs.getD (i * es + j) undef) := by
    intro i j row v h1 h2
    obtain ⟨cv, h3, h4⟩ := hv i j row v h1 h2
    have : cs.getD (i * es + j) undef = cv := by rw [Array.getD_eq_getD_getElem?, h3]; rfl
    rw [this, cell_of_row w b _ cs T fr hb]
    exact ⟨by rw [Nat.zero_add]; exact h3, h4⟩
  have := part_of (w := w) (F := F) (ρ := inMap p ρ) (b := b) (o := 0) (f := fun i j => cs.getD (i * es + j) undef) hi hjn hw
    (fun i j row v h1 h2 => (key i j row v h1 h2).1) (fun i j row v h1 h2 => (key i j row v h1 h2).2)
  simpa using this

theorem ORel.width {p : Bool} {es b i : Nat} {rs : List (List AVal)} (h : ORel F w ρ b (.rows p es rs)) (hi : i < rs.length) : (rs.getD i []).length = es := by
  obtain ⟨cs, T, fr, hb, _, hsz, hw, hv⟩ := h
  rw [List.getD_eq_getElem?_getD, List.getElem?_eq_getElem hi]
  exact hw i _ (List.getElem?_eq_getElem hi)
theorem cellsAt_eq {rs : List (List AVal)} {i j n es : Nat} (h : (rs.getD i []).length = es) (hj : j + n ≤ es) : cellsAt rs i j n = ((rs.getD i []).drop j).take n := by
  apply List.ext_getElem?
  intro k
  simp only [cellsAt, List.getElem?_map, List.getElem?_take, List.getElem?_drop]
  by_cases hk : k < n
  · rw [List.getElem?_range hk, if_pos hk]
    generalize rs.getD i [] = row at h
    rw [Option.map_some, List.getD_eq_getElem?_getD, List.getElem?_eq_getElem (by omega)]; rfl
  · rw [if_neg hk, List.getElem?_eq_none (by simp; omega)]; rfl

theorem ORel.plain {b : Nat} {o : AObj} (h : ORel F w ρ b o) : ORel F w ρ b o.plain := by
  cases o with
  | trows T p es rs => obtain ⟨cs, fr, h⟩ := h; exact ⟨cs, T, fr, h⟩
  | _ => exact h
theorem plain_live (o : AObj) : o.plain.live = o.live := by cases o <;> rfl
theorem objP_some {σ : AState} {id : Nat} {o : AObj} (h : objP σ id = o) (hl : o.live = true) : ∃ o0, σ[id]? = some o0 ∧ o0.plain = o ∧ o0.live = true ∧ obj σ id = o0 := by
  unfold objP obj at h
  rw [List.getD_eq_getElem?_getD] at h
  cases he : σ[id]? with
  | none => rw [he] at h; simp [AObj.plain] at h; subst h; cases hl
  | some x => rw [he] at h; simp at h; exact ⟨x, rfl, h, by rw [← plain_live, h]; exact hl, by unfold obj; rw [List.getD_eq_getElem?_getD, he]; rfl⟩
theorem Rel.objP {σ : AState} (r : Rel ρ F σ w) {id b : Nat} {o : AObj} (h : Abs.objP σ id = o) (hl : o.live = true) (hb : ρ id = some b) : ORel F w ρ b o := by
  obtain ⟨o0, h1, rfl, _⟩ := objP_some h hl
  exact (r.obj _ _ _ h1 hb).plain
theorem obj_some {σ : AState} {id : Nat} {o : AObj} (h : obj σ id = o) (hl : o.live = true) : σ[id]? = some o := by
  unfold obj at h
  rw [List.getD_eq_getElem?_getD] at h
  cases he : σ[id]? with
  | none => rw [he] at h; simp at h; subst h; cases hl
  | some x => rw [he] at h; simp at h; rw [h]

end
end Go.Abs
