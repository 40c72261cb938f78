import Derived.Deep.MidRow
import Derived.WalkSpells
import Derived.Laws.Cover1
import Derived.LaidEqlPtr
import Derived.Laws.StructEq
import Derived.Test.YtpncnfhfjegibaaDoorAbsA
section
set_option linter.unusedVariables false
set_option linter.unusedSimpArgs false
namespace Go.Abs

section
variable {P : Program} {F : FS} {w : World} {ρ : RMap} {σ : AState}

def PW (F : FS) (w : World) (ρ : RMap) (xs : List AVal) (ys : List Value) : Prop :=
  xs.length = ys.length ∧ ∀ (i : Nat) (x : AVal) (y : Value), xs[i]? = some x → ys[i]? = some y → VRel F w ρ x y

theorem PW.pure {xs : List AVal} {ys : List Value} (h : PW F w noId xs ys) : PW F w ρ xs ys := ⟨h.1, fun i x y h1 h2 => (h.2 i x y h1 h2).pure⟩
theorem PW.head {xs : List AVal} {ys : List Value} (h : PW F w ρ xs ys) (hne : 0 < xs.length) : VRel F w ρ (xs.headD .any) (ys.headD undef) := by
  obtain ⟨hl, h⟩ := h
  match xs, ys, hl with
  | x :: xs, y :: ys, _ => exact h 0 x y rfl rfl
theorem PW.tail {x : AVal} {xs : List AVal} {y : Value} {ys : List Value} (h : PW F w ρ (x :: xs) (y :: ys)) : PW F w ρ xs ys :=
  ⟨by simpa using h.1, fun i a b h1 h2 => h.2 (i + 1) a b (by simpa using h1) (by simpa using h2)⟩
theorem PW.cons {x : AVal} {xs : List AVal} {y : Value} {ys : List Value} (h : VRel F w ρ x y) (hs : PW F w ρ xs ys) : PW F w ρ (x :: xs) (y :: ys) := by
  refine ⟨by simp [hs.1], fun i a b h1 h2 => ?_⟩
  cases i with
  | zero => simp at h1 h2; subst h1; subst h2; exact h
  | succ i => exact hs.2 i a b (by simpa using h1) (by simpa using h2)
theorem PW.nil : PW F w ρ [] [] := ⟨rfl, fun i x y h1 _ => by simp at h1⟩
theorem PW.agg {xs : List AVal} {ys : List Value} (h : PW F w ρ xs ys) : VRel F w ρ (.agg xs) (.agg ys.toArray) :=
  .agg _ _ _ (by simpa using h.1) fun i v u h1 h2 => h.2 i v u h1 (by simpa using h2)
theorem PW.of_agg {xs : List AVal} {c : Value} (h : VRel F w ρ (.agg xs) c) : ∃ ys : Array Value, c = .agg ys ∧ PW F w ρ xs ys.toList := by
  cases h with
  | agg _ _ cv hl h => exact ⟨_, rfl, by simpa using hl, fun i x y h1 h2 => h i x y h1 (by simpa using h2)⟩

theorem PW.pagg {xs : List AVal} {ys : List Value} (h : PW F w noId xs ys) : VRel F w ρ (.pagg xs) (.agg ys.toArray) :=
  .pagg _ _ _ (by simpa using h.1) fun i v u h1 h2 => h.2 i v u h1 (by simpa using h2)
theorem PW.of_pagg {xs : List AVal} {c : Value} (h : VRel F w ρ (.pagg xs) c) : ∃ ys : Array Value, c = .agg ys ∧ PW F w noId xs ys.toList := by
  cases h with
  | pagg _ _ cv hl h => exact ⟨_, rfl, by simpa using hl, fun i x y h1 h2 => h i x y h1 (by simpa using h2)⟩

theorem PW.cells {v : AVal} {c : Value} (h : VRel F w ρ v c) (ho : v.cells.all oneCell = true) : PW F w ρ v.cells c.cells.toList ∧ ∀ u ∈ c.cells.toList, u.oneCell' = true := by
  have key : ∀ (x : AVal) (y : Value), oneCell x = true → VRel F w ρ x y → y.oneCell' = true ∧ y.cells = #[y] := by
    intro x y hx hy
    cases hy <;> simp_all [oneCell, Value.oneCell', Value.cells]
  cases v with
  | agg cs =>
    obtain ⟨ys, rfl, hp⟩ := PW.of_agg h
    refine ⟨hp, fun u hu => ?_⟩
    obtain ⟨i, hi⟩ := List.mem_iff_getElem?.1 hu
    have hlt : i < cs.length := by rw [hp.1]; exact (List.getElem?_eq_some_iff.1 hi).1
    have h1 := List.getElem?_eq_getElem hlt
    have := (List.all_eq_true.1 ho) (cs[i]) (by simp [AVal.cells])
    exact (key _ _ this (hp.2 i _ _ h1 hi)).1
  | _ =>
    have h1 := key _ _ (by simpa [AVal.cells] using ho) h
    rw [h1.2]
    exact ⟨⟨by simp [AVal.cells], fun i x y e1 e2 => by
      cases i with
      | zero => simp [AVal.cells] at e1 e2; subst e1; subst e2; exact h
      | succ i => simp [AVal.cells] at e1⟩, fun u hu => by simp at hu; subst hu; exact h1.1⟩

theorem VRel.slc_inv {n : Bool} {id es off len : Nat} {cap : Option Nat} {c : Value} (h : VRel F w ρ (.slc n id es off len cap) c) :
    (n = false ∧ ∃ cc b, ρ id = some b ∧ len ≤ cc ∧ (∀ k, cap = some k → cc = k) ∧ (∃ cs T fr, w.heap[b]? = some (.cells cs T fr) ∧ (off + cc) * es ≤ cs.size) ∧ c = .slice (some ⟨b, off * es, none⟩) len cc) ∨
    (len = 0 ∧ ∃ base : Option Addr, base.isNone = n ∧ (∀ k, cap = some k → k = 0) ∧ c = .slice base 0 0) := by
  cases h with
  | slc _ _ _ _ _ _ cc b h hl hc hs => exact .inl ⟨rfl, cc, b, h, hl, hc, hs, rfl⟩
  | slcE _ _ _ _ _ _ base hb hc => exact .inr ⟨rfl, base, hb, hc, rfl⟩
theorem VRel.ptr_inv {id es i j : Nat} {c : Value} (h : VRel F w ρ (.ptr id es i j) c) : ∃ b, ρ id = some b ∧ c = .pointer (some ⟨b, i * es + j, none⟩) := by
  cases h with
  | ptr _ _ _ _ _ b h => exact ⟨b, h, rfl⟩
theorem VRel.fptr_inv {es i0 j0 : Nat} {rows : List (List AVal)} {c : Value} (h : VRel F w ρ (.fptr es rows i0 j0) c) : ∃ (b o : Nat) (f : Nat → Nat → Value), F b ∧
      (∀ (i : Nat) (row : List AVal), rows[i]? = some row → row.length = es) ∧
      (∀ (i j : Nat) (row : List AVal) (v : AVal), rows[i]? = some row → row[j]? = some v → w.cell? ⟨b, o + i * es + j, none⟩ = some (f i j)) ∧
      (∀ (i j : Nat) (row : List AVal) (v : AVal), rows[i]? = some row → row[j]? = some v → VRel F w noId v (f i j)) ∧ c = .pointer (some ⟨b, o + i0 * es + j0, none⟩) := by
  cases h with
  | fptr _ _ _ _ _ b o f hF hw hg hv => exact ⟨b, o, f, hF, hw, hg, hv, rfl⟩
theorem VRel.fsl_inv {n : Bool} {es : Nat} {rows : List (List AVal)} {cap : Option Nat} {c : Value} (h : VRel F w ρ (.fsl n es rows cap) c) :
    (n = true ∧ rows = [] ∧ (∀ k, cap = some k → k = 0) ∧ c = .slice none 0 0) ∨
    (n = false ∧ ∃ (a : Addr) (cc : Nat), rows.length ≤ cc ∧ (∀ k, cap = some k → cc = k) ∧ c = .slice (some a) rows.length cc ∧ (rows = [] ∨ ∃ (b o : Nat) (f : Nat → Nat → Value), a = ⟨b, o, none⟩ ∧ F b ∧
      (∀ (i : Nat) (row : List AVal), rows[i]? = some row → row.length = es) ∧
      (∀ (i j : Nat) (row : List AVal) (v : AVal), rows[i]? = some row → row[j]? = some v → w.cell? ⟨b, o + i * es + j, none⟩ = some (f i j)) ∧
      (∀ (i j : Nat) (row : List AVal) (v : AVal), rows[i]? = some row → row[j]? = some v → VRel F w noId v (f i j)))) := by
  cases h with
  | fnil _ _ _ hc => exact .inl ⟨rfl, rfl, hc, rfl⟩
  | femp _ _ a c _ hc => exact .inr ⟨rfl, a, c, Nat.zero_le _, hc, rfl, .inl rfl⟩
  | fsl _ _ _ b o c _ f hF hl hc hw hg hv => exact .inr ⟨rfl, _, c, hl, hc, rfl, .inr ⟨b, o, f, rfl, hF, hw, hg, hv⟩⟩
theorem VRel.int_inv {k : IntKind} {n : Int} {c : Value} (h : VRel F w ρ (.int k n) c) : c = .int k n := by cases h; rfl
theorem VRel.str_inv {s : ByteArray} {c : Value} (h : VRel F w ρ (.str s) c) : c = .string s := by cases h; rfl
theorem VRel.bool_inv {b : Bool} {c : Value} (h : VRel F w ρ (.bool b) c) : c = .bool b := by cases h; rfl
theorem VRel.tt_inv {b : Bool} {c : Value} (h : VRel F w ρ (.tt b) c) : c = .bool b := by cases h; rfl
theorem VRel.map_inv {id : Nat} {c : Value} (h : VRel F w ρ (.map id) c) : ∃ b, ρ id = some b ∧ c = .map (some b) := by
  cases h with
  | map _ _ b h => exact ⟨b, h, rfl⟩
theorem VRel.nilm_inv {c : Value} (h : VRel F w ρ .nilm c) : c = .map none := by cases h; rfl
theorem VRel.func_inv {f : FuncId} {cap : List AVal} {c : Value} (h : VRel F w ρ (.func f cap) c) : ∃ cv : Array Value, c = .func (.func f) #[] cv ∧ PW F w ρ cap cv.toList := by
  cases h with
  | func _ _ _ cv hl h => exact ⟨cv, rfl, by simpa using hl, fun i x y h1 h2 => h i x y h1 (by simpa using h2)⟩
theorem VRel.tuple_inv {cs : List AVal} {c : Value} (h : VRel F w ρ (.tuple cs) c) : ∃ cv : Array Value, c = .tuple cv ∧ PW F w ρ cs cv.toList := by
  cases h with
  | tuple _ _ cv hl h => exact ⟨cv, rfl, by simpa using hl, fun i x y h1 h2 => h i x y h1 (by simpa using h2)⟩

theorem reify_ok {k : Kind} {v : AVal} {c : Value} (h : VRel F w ρ v c) (hk : isKind k v = true) : VRel F w ρ (reify k v) c := by
  cases k <;> cases h <;> simp only [isKind] at hk <;> first | cases hk | skip
  all_goals first
    | exact .bool _ _
    | (simp only [beq_iff_eq] at hk; subst hk; exact .int _ _ _)
    | exact .str _ _
    | (simp only [reify]; constructor <;> assumption)
    | skip
  · exact .fnil _ _ _ (by simp)
  · exact .femp _ _ _ _ _ (by simp)
  · rename_i es es' rows b o c cap f hF hl hc hw hg hv
    have : es = es' := by
      simp only [Bool.or_eq_true, Bool.and_eq_true, Bool.false_eq_true, false_and, or_false, beq_iff_eq] at hk; exact hk
    subst this
    exact .fsl _ _ _ _ _ _ _ f hF hl (by simp) hw hg hv

theorem reifyL_ok : ∀ (ks : List Kind) (vs : List AVal) (cs : List Value), PW F w ρ vs cs → areKinds ks vs = true → PW F w ρ (reifyL ks vs) cs
  | [], vs, cs, h, hk => by
    cases vs with
    | nil => exact h
    | cons => simp [areKinds] at hk
  | k :: ks, vs, cs, h, hk => by
    match vs, cs, h with
    | [], _, _ => simp [areKinds] at hk
    | v :: vs, [], h => have := h.1; simp at this
    | v :: vs, c :: cs, h =>
      simp only [areKinds, Bool.and_eq_true] at hk
      exact .cons (reify_ok (h.2 0 v c rfl rfl) hk.1) (reifyL_ok ks vs cs h.tail hk.2)

theorem cellsOf_info {t : TypeId} {n : Nat} (h : P.cellsOf t = n) (hn : n ≠ 0) : (P.info? t).map (·.size) = some n := by
  unfold Program.cellsOf at h
  cases hi : P.info? t with
  | none => rw [hi] at h; simp at h; exact absurd h.symm hn
  | some i => rw [hi] at h; simpa using h

theorem isAggT_desc {t : TypeId} (h : isAggT P t = true) : ∃ d, P.underlying t = some d ∧ d.isRow = true := by
  unfold isAggT at h
  cases hu : P.underlying t with
  | none => rw [hu] at h; cases h
  | some d => rw [hu] at h; cases d <;> simp_all [TypeDesc.isRow]

theorem run_isAgg {t : TypeId} {d : TypeDesc} (h : P.underlying t = some d) (w : World) : (isAgg t).run P w = .ok (isAggT P t) w := by
  unfold isAgg isAggT
  rw [Sem.run_bind, run_underlying h w, h]
  cases d <;> simp

theorem run_loadVar_cells {t : TypeId} {b o : Nat} {cs : List Value} {d : TypeDesc} (hu : P.underlying t = some d) (hc : w.rangeAt b o cs) (hn : P.cellsOf t = cs.length) (h0 : cs.length ≠ 0) :
    (loadVar t ⟨b, o, none⟩).run P w = .ok (if isAggT P t then .agg cs.toArray else cs.headD undef) w := by
  cases ha : isAggT P t with
  | true =>
    obtain ⟨d', h1, h2⟩ := isAggT_desc ha
    rw [run_loadVar_mid w b o t cs d' hc h1 h2 (cellsOf_info hn h0)]
    rfl
  | false =>
    unfold loadVar
    rw [Sem.run_bind, run_isAgg hu w, ha]
    match cs, h0 with
    | c :: cs, _ =>
      have := hc 0 c rfl
      simp only [Nat.add_zero] at this
      simp [this]

theorem asType_ok {t : TypeId} {xs : List AVal} {ys : List Value} (h : PW F w ρ xs ys) (h0 : 0 < xs.length) :
    VRel F w ρ (asType P t xs) (if isAggT P t then .agg ys.toArray else ys.headD undef) := by
  unfold asType
  split
  · exact h.agg
  · exact h.head h0

theorem cells_of {v : AVal} {c : Value} (h : VRel F w ρ v c) (hv : isAggV v = false) : v.cells = [v] := by
  cases v <;> first | rfl | cases hv
theorem normT_ok (t : TypeId) {v : AVal} {c : Value} (h : VRel F w ρ v c) : VRel F w ρ (normT P t v) c := by
  unfold normT
  split
  · rename_i hk
    rw [Bool.and_eq_true, Bool.and_eq_true, beq_iff_eq] at hk
    obtain ⟨⟨hk, ha⟩, h0⟩ := hk
    unfold asType
    cases hv : isAggV v with
    | true =>
      rw [hv] at ha
      rw [if_pos ha]
      cases v with
      | agg cs =>
        obtain ⟨ys, rfl, hp⟩ := PW.of_agg h
        have := (reifyL_ok _ _ _ hp hk).agg
        simpa [AVal.cells] using this
      | _ => cases hv
    | false =>
      rw [hv] at ha
      rw [if_neg (by simp [ha])]
      rw [cells_of h hv] at hk ⊢
      exact (reifyL_ok _ _ [c] (.cons h .nil) hk).head (by
        have := (reifyL_ok _ _ [c] (.cons h .nil) hk).1
        rw [this]; simp)
  · exact h

theorem normTs_ok : ∀ (ts : List TypeId) (vs : List AVal) (cs : List Value), PW F w ρ vs cs → PW F w ρ (normTs P ts vs) cs
  | [], vs, cs, h => by cases vs <;> exact h
  | t :: ts, [], cs, h => h
  | t :: ts, v :: vs, [], h => by have := h.1; simp at this
  | t :: ts, v :: vs, c :: cs, h => .cons (normT_ok t (h.2 0 v c rfl rfl)) (normTs_ok ts vs cs h.tail)

theorem part_of {es i j n b o : Nat} {rs : List (List AVal)} {f : Nat → Nat → Value} (hi : i < rs.length) (hjn : j + n ≤ es)
    (hw : ∀ (i : Nat) (row : List AVal), rs[i]? = some row → row.length = es)
    (hg : ∀ (i j : Nat) (row : List AVal) (v : AVal), rs[i]? = some row → row[j]? = some v → w.cell? ⟨b, o + i * es + j, none⟩ = some (f i j))
    (hv : ∀ (i j : Nat) (row : List AVal) (v : AVal), rs[i]? = some row → row[j]? = some v → VRel F w ρ v (f i j)) :
    ∃ cs : List Value, cs.length = n ∧ w.rangeAt b (o + i * es + j) cs ∧ PW F w ρ (((rs.getD i []).drop j).take n) cs := by
  have hrow : rs[i]? = some rs[i] := List.getElem?_eq_getElem hi
  have hlen := hw i _ hrow
  have hD : rs.getD i [] = rs[i] := by rw [List.getD_eq_getElem?_getD, hrow]; rfl
  refine ⟨(List.range n).map fun k => f i (j + k), by simp, ?_, ?_⟩
  · intro k v hk
    simp only [List.getElem?_map, Option.map_eq_some_iff] at hk
    obtain ⟨k', hk', rfl⟩ := hk
    have hkn : k < n := by have := (List.getElem?_eq_some_iff.1 hk').1; simpa using this
    rw [List.getElem?_range hkn] at hk'
    cases hk'
    have hlt : j + k < (rs[i]).length := by omega
    have := hg i (j + k) _ _ hrow (List.getElem?_eq_getElem hlt)
    rw [show o + i * es + j + k = o + i * es + (j + k) by omega]
    exact this
  · rw [hD]
    refine ⟨by simp; omega, fun k x y h1 h2 => ?_⟩
    rw [List.getElem?_take] at h1
    split at h1
    · rename_i hkn
      rw [List.getElem?_drop] at h1
      simp only [List.getElem?_map, List.getElem?_range hkn, Option.map_some, Option.some.injEq] at h2
      subst h2
      exact hv i (j + k) _ x hrow h1
    · cases h1

theorem ORel.part {p : Bool} {es b i j n : Nat} {rs : List (List AVal)} (h : ORel F w ρ b (.rows p es rs)) (hi : i < rs.length) (hjn : j + n ≤ es) :
    ∃ cs : List Value, cs.length = n ∧ w.rangeAt b (i * es + j) cs ∧ PW F w (inMap p ρ) (((rs.getD i []).drop j).take n) cs := by
  obtain ⟨cs, T, fr, hb, _, hsz, hw, hv⟩ := h
  have key : ∀ (i j : Nat) (row : List AVal) (v : AVal), rs[i]? = some row → row[j]? = some v → w.cell? ⟨b, 0 + i * es + j, none⟩ = some (cs.getD (i * es + j) undef) ∧ VRel F w (inMap p ρ) v (cs.getD (i * es + j) undef) := by
    intro i j row v h1 h2
    obtain ⟨cv, h3, h4⟩ := hv i j row v h1 h2
    have : cs.getD (i * es + j) undef = cv := by rw [Array.getD_eq_getD_getElem?, h3]; rfl
    rw [this, cell_of_row w b _ cs T fr hb]
    exact ⟨by rw [Nat.zero_add]; exact h3, h4⟩
  have := part_of (w := w) (F := F) (ρ := inMap p ρ) (b := b) (o := 0) (f := fun i j => cs.getD (i * es + j) undef) hi hjn hw
    (fun i j row v h1 h2 => (key i j row v h1 h2).1) (fun i j row v h1 h2 => (key i j row v h1 h2).2)
  simpa using this

theorem ORel.width {p : Bool} {es b i : Nat} {rs : List (List AVal)} (h : ORel F w ρ b (.rows p es rs)) (hi : i < rs.length) : (rs.getD i []).length = es := by
  obtain ⟨cs, T, fr, hb, _, hsz, hw, hv⟩ := h
  rw [List.getD_eq_getElem?_getD, List.getElem?_eq_getElem hi]
  exact hw i _ (List.getElem?_eq_getElem hi)
theorem cellsAt_eq {rs : List (List AVal)} {i j n es : Nat} (h : (rs.getD i []).length = es) (hj : j + n ≤ es) : cellsAt rs i j n = ((rs.getD i []).drop j).take n := by
  apply List.ext_getElem?
  intro k
  simp only [cellsAt, List.getElem?_map, List.getElem?_take, List.getElem?_drop]
  by_cases hk : k < n
  · rw [List.getElem?_range hk, if_pos hk]
    generalize rs.getD i [] = row at h
    rw [Option.map_some, List.getD_eq_getElem?_getD, List.getElem?_eq_getElem (by omega)]; rfl
  · rw [if_neg hk, List.getElem?_eq_none (by simp; omega)]; rfl

theorem ORel.plain {b : Nat} {o : AObj} (h : ORel F w ρ b o) : ORel F w ρ b o.plain := by
  cases o with
  | trows T p es rs => obtain ⟨cs, fr, h⟩ := h; exact ⟨cs, T, fr, h⟩
  | _ => exact h
theorem plain_live (o : AObj) : o.plain.live = o.live := by cases o <;> rfl
theorem objP_some {σ : AState} {id : Nat} {o : AObj} (h : objP σ id = o) (hl : o.live = true) : ∃ o0, σ[id]? = some o0 ∧ o0.plain = o ∧ o0.live = true ∧ obj σ id = o0 := by
  unfold objP obj at h
  rw [List.getD_eq_getElem?_getD] at h
  cases he : σ[id]? with
  | none => rw [he] at h; simp [AObj.plain] at h; subst h; cases hl
  | some x => rw [he] at h; simp at h; exact ⟨x, rfl, h, by rw [← plain_live, h]; exact hl, by unfold obj; rw [List.getD_eq_getElem?_getD, he]; rfl⟩
theorem Rel.objP {σ : AState} (r : Rel ρ F σ w) {id b : Nat} {o : AObj} (h : Abs.objP σ id = o) (hl : o.live = true) (hb : ρ id = some b) : ORel F w ρ b o := by
  obtain ⟨o0, h1, rfl, _⟩ := objP_some h hl
  exact (r.obj _ _ _ h1 hb).plain
theorem obj_some {σ : AState} {id : Nat} {o : AObj} (h : obj σ id = o) (hl : o.live = true) : σ[id]? = some o := by
  unfold obj at h
  rw [List.getD_eq_getElem?_getD] at h
  cases he : σ[id]? with
  | none => rw [he] at h; simp at h; subst h; cases hl
  | some x => rw [he] at h; simp at h; rw [h]

end
end Go.Abs
end

section
set_option linter.unusedVariables false
set_option linter.unusedSimpArgs false
namespace Go.Abs

section
variable {P : Program} {F : FS} {w : World} {ρ : RMap} {σ : AState}

def allP (cs : List Prop) : Prop := ∀ p ∈ cs, p
theorem allP.append {a b : List Prop} (h : allP (a ++ b)) : allP a ∧ allP b := ⟨fun p hp => h p (by simp [hp]), fun p hp => h p (by simp [hp])⟩
theorem allP.cons {a : Prop} {b : List Prop} (h : allP (a :: b)) : a ∧ allP b := ⟨h a (by simp), fun p hp => h p (by simp [hp])⟩

def Fine (P : Program) (F : FS) (w : World) (ρ : RMap) (σ : AState) (out : Out) (s : Sem Value) : Prop :=
  ∃ ρ' F' w' cv, s.run P w = .ok cv w' ∧ Tr σ out.σ ρ ρ' F F' w w' ∧ Rel ρ' F' out.σ w' ∧ VRel F' w' ρ' out.v cv
def FineU (P : Program) (F : FS) (w : World) (ρ : RMap) (σ : AState) (out : Out) (s : Sem Unit) : Prop :=
  ∃ ρ' F' w', s.run P w = .ok () w' ∧ Tr σ out.σ ρ ρ' F F' w w' ∧ Rel ρ' F' out.σ w' ∧ out.v = aundef

theorem Fine.same {out : Out} {s : Sem Value} {cv : Value} (r : Rel ρ F σ w) (h : s.run P w = .ok cv w) (hσ : out.σ = σ) (hv : VRel F w ρ out.v cv) : Fine P F w ρ σ out s := by
  rw [Fine]; rw [hσ]; exact ⟨ρ, F, w, cv, h, Tr.refl _ _ _ _, r, hv⟩

theorem ORelG.move {G G' : Nat → List AObj → Prop} {F' : FS} {w' : World} {ρ' : RMap} {b : Nat} {o : AObj} (h : ORelG G F w ρ b o) (hb : w'.heap[b]? = w.heap[b]?)
    (hF : ∀ b, F b → F' b ∧ w'.heap[b]? = w.heap[b]?)
    (hrow : ∀ (b : Nat) (cs : Array Value) (T : TypeId) (fr : Nat × Nat), w.heap[b]? = some (.cells cs T fr) → ∃ cs' fr', w'.heap[b]? = some (.cells cs' T fr') ∧ cs'.size = cs.size)
    (hρ : ∀ id b, ρ id = some b → ρ' id = some b)
    (hgh : ∀ T, o = .gh T → G b T → G' b T) : ORelG G' F' w' ρ' b o := by
  have hm : ∀ p id x, inMap p ρ id = some x → inMap p ρ' id = some x := by
    intro p id x; unfold inMap; cases p
    · exact hρ id x
    · exact fun h => h
  cases o with
  | dead => trivial
  | rows p es rs =>
    obtain ⟨cs, T, fr, h1, h2, h3, h4, h5⟩ := h
    refine ⟨cs, T, fr, hb.trans h1, ?_, h3, h4, ?_⟩
    · intro o ho
      have := h2 o ho
      unfold World.frozen? at this ⊢
      simp only [hb, h1] at this ⊢
      exact this
    · intro i j row v e1 e2
      obtain ⟨cv, e3, e4⟩ := h5 i j row v e1 e2
      exact ⟨cv, e3, e4.mono hF hrow (hm p)⟩
  | trows T0 p es rs =>
    obtain ⟨cs, fr, h1, h2, h3, h4, h5⟩ := h
    refine ⟨cs, fr, hb.trans h1, ?_, h3, h4, ?_⟩
    · intro o ho
      have := h2 o ho
      unfold World.frozen? at this ⊢
      simp only [hb, h1] at this ⊢
      exact this
    · intro i j row v e1 e2
      obtain ⟨cv, e3, e4⟩ := h5 i j row v e1 e2
      exact ⟨cv, e3, e4.mono hF hrow (hm p)⟩
  | mp p ents =>
    obtain ⟨es, clock, h1, h2, h0, h3⟩ := h
    refine ⟨es, clock, hb.trans h1, h2, h0, ?_⟩
    intro i k v e1
    obtain ⟨e, e2, e3, e4⟩ := h3 i k v e1
    exact ⟨e, e2, e3.mono hF hrow (hm p), e4.mono hF hrow (hm p)⟩
  | mpn p ents bs c =>
    obtain ⟨es, h1, h2, h0, h3⟩ := h
    refine ⟨es, hb.trans h1, h2, h0, ?_⟩
    intro i k v e1
    obtain ⟨e, e2, e3, e4⟩ := h3 i k v e1
    exact ⟨e, e2, e3.mono hF hrow (hm p), e4.mono hF hrow (hm p)⟩
  | bag es rs0 =>
    obtain ⟨rs, hp, cs, T, fr, h1, h2, h3, h4, h5⟩ := h
    refine ⟨rs, hp, cs, T, fr, hb.trans h1, ?_, h3, h4, ?_⟩
    · intro o ho
      have := h2 o ho
      unfold World.frozen? at this ⊢
      simp only [hb, h1] at this ⊢
      exact this
    · intro i j row v e1 e2
      obtain ⟨cv, e3, e4⟩ := h5 i j row v e1 e2
      exact ⟨cv, e3, e4.mono hF hrow (hm true)⟩
  | siter rest =>
    obtain ⟨s, pos, n, h1, h2, h3⟩ := h
    exact ⟨s, pos, n, hb.trans h1, h2, h3⟩
  | miter m since seen last =>
    cases m with
    | none => exact hb.trans h
    | some id =>
      obtain ⟨x, h1, h2⟩ := h
      exact ⟨x, hρ _ _ h1, hb.trans h2⟩
  | gh T => exact hgh T rfl h
  | mq pre own post =>
    obtain ⟨hp, es, clock, h1, h2, h0, h3⟩ := h
    refine ⟨hp, es, clock, hb.trans h1, h2, h0, ?_⟩
    intro i k v e1
    obtain ⟨e, e2, e3, e4⟩ := h3 i k v e1
    exact ⟨e, e2, e3.mono hF hrow hρ, e4.mono hF hrow hρ⟩

theorem ORel.move {F' : FS} {w' : World} {ρ' : RMap} {b : Nat} {o : AObj} (h : ORel F w ρ b o) (hb : w'.heap[b]? = w.heap[b]?)
    (hF : ∀ b, F b → F' b ∧ w'.heap[b]? = w.heap[b]?)
    (hrow : ∀ (b : Nat) (cs : Array Value) (T : TypeId) (fr : Nat × Nat), w.heap[b]? = some (.cells cs T fr) → ∃ cs' fr', w'.heap[b]? = some (.cells cs' T fr') ∧ cs'.size = cs.size)
    (hρ : ∀ id b, ρ id = some b → ρ' id = some b)
    (hgh : o.isGh = true → (∀ x, F'.own b x ↔ F.own b x) ∧ (∀ x, F.own b x → w'.heap[x]? = w.heap[x]?) ∧ w.heap.size ≤ w'.heap.size := by intro h; cases h) : ORel F' w' ρ' b o := by
  refine ORelG.move h hb hF hrow hρ fun T e hG => ?_
  subst e
  obtain ⟨hO, hX, hS⟩ := hgh rfl
  obtain ⟨ρT, r, h0, h1, h2, h3⟩ := hG
  have hk : ∀ x, Live0 ρT T x → w'.heap[x]? = w.heap[x]? := fun x hx => by
    rcases h1 x hx with rfl | h
    · exact hb
    · exact hX x h
  refine ⟨ρT, ⟨fun id o x e1 e2 => ?_, r.inj, fun id x e => Nat.lt_of_lt_of_le (r.lt id x e) hS, r.dom⟩, h0, fun x hx => (h1 x hx).imp_right (hO x).2, fun x hx => Nat.lt_of_lt_of_le (h2 x ((hO x).1 hx)) hS, h3⟩
  cases hl : o.live with
  | false => cases o <;> simp [AObj.live] at hl; trivial
  | true => exact ORelG.move (r.obj id o x e1 e2) (hk x ⟨id, o, e1, hl, e2⟩) hF hrow (fun _ _ h => h) fun _ _ h => h

def updMap (ρ : RMap) (id b : Nat) : RMap := fun x => if x = id then some b else ρ x

theorem heap_alloc_lt (w : World) (o : Obj) {b : Nat} (h : b < w.heap.size) : (w.alloc o).heap[b]? = w.heap[b]? := by
  show (w.heap.push o)[b]? = _
  rw [Array.getElem?_push_lt h, Array.getElem?_eq_getElem h]
theorem heap_alloc_new' (w : World) (o : Obj) : (w.alloc o).heap[w.heap.size]? = some o := by
  show (w.heap.push o)[w.heap.size]? = _
  simp

theorem alloc_F (r : Rel ρ F σ w) (o : Obj) : ∀ b, F b → F b ∧ (w.alloc o).heap[b]? = w.heap[b]? := fun b hb => ⟨hb, heap_alloc_lt w o (r.fr b hb).1⟩
theorem alloc_row (w : World) (o : Obj) : ∀ (b : Nat) (cs : Array Value) (T : TypeId) (fr : Nat × Nat), w.heap[b]? = some (.cells cs T fr) → ∃ cs' fr', (w.alloc o).heap[b]? = some (.cells cs' T fr') ∧ cs'.size = cs.size :=
  fun b cs T fr h => ⟨cs, _, (heap_alloc_lt w o (Array.getElem?_eq_some_iff.1 h).1).trans h, rfl⟩
theorem upd_map (r : Rel ρ F σ w) (b : Nat) : ∀ id x, ρ id = some x → updMap ρ σ.length b id = some x := by
  intro id x h
  unfold updMap
  split
  · rename_i e; subst e; rw [r.dom _ (Nat.le_refl _)] at h; cases h
  · exact h

theorem Rel.alloc (r : Rel ρ F σ w) (o : Obj) (A : AObj) (hA : ORel F (w.alloc o) (updMap ρ σ.length w.heap.size) w.heap.size A) (hAg : A.isGh = false := by rfl) :
    Rel (updMap ρ σ.length w.heap.size) F (σ ++ [A]) (w.alloc o) ∧ Tr σ (σ ++ [A]) ρ (updMap ρ σ.length w.heap.size) F F w (w.alloc o) := by
  have hmap := upd_map r w.heap.size
  have hold : ∀ id o', id < σ.length → (σ ++ [A])[id]? = some o' → σ[id]? = some o' := fun id o' h1 h2 => by rwa [List.getElem?_append_left h1] at h2
  have hcase : ∀ id o', (σ ++ [A])[id]? = some o' → (id < σ.length ∧ σ[id]? = some o') ∨ (id = σ.length ∧ o' = A) := by
    intro id o' h
    rcases Nat.lt_or_ge id σ.length with h1 | h1
    · exact .inl ⟨h1, hold _ _ h1 h⟩
    · rw [List.getElem?_append_right h1] at h
      have : id - σ.length = 0 := by have := (List.getElem?_eq_some_iff.1 h).1; simp at this; omega
      rw [this] at h
      exact .inr ⟨by omega, by simpa using h.symm⟩
  have hval : ∀ id x, updMap ρ σ.length w.heap.size id = some x → (id ≠ σ.length ∧ ρ id = some x) ∨ (id = σ.length ∧ x = w.heap.size) := by
    intro id x h
    unfold updMap at h
    split at h
    · exact .inr ⟨by assumption, by simpa using h.symm⟩
    · exact .inl ⟨by assumption, h⟩
  have hown : ∀ id o' b, (σ ++ [A])[id]? = some o' → Own F (updMap ρ σ.length w.heap.size) id o' b → (id < σ.length ∧ σ[id]? = some o' ∧ Own F ρ id o' b) ∨ (id = σ.length ∧ b = w.heap.size) := by
    intro id o' b h1 h2
    rcases hcase id o' h1 with ⟨h3, h4⟩ | ⟨h3, h4⟩
    · refine .inl ⟨h3, h4, h2.to fun y hy => ?_⟩
      rcases hval id y hy with ⟨_, h5⟩ | ⟨h5, _⟩
      · exact h5
      · omega
    · subst h4
      rcases hval _ b (h2.root hAg) with ⟨h5, _⟩ | ⟨_, h5⟩
      · exact absurd h3 h5
      · exact .inr ⟨h3, h5⟩
  refine ⟨⟨?_, ?_, ?_, ?_, ?_⟩, ⟨hmap, fun _ h => h, rfl, rfl, rfl, by simp, alloc_row w o, fun b hb _ => heap_alloc_lt w o hb, fun _ h => .inl h, ?_, by simp, ?_, ?_⟩⟩
  · intro id o' b h1 h2
    rcases hcase id o' h1 with ⟨h3, h4⟩ | ⟨h3, h4⟩
    · rcases hval id b h2 with ⟨_, h5⟩ | ⟨h5, _⟩
      · exact (r.obj id o' b h4 h5).move (heap_alloc_lt w o (r.lt _ _ h5)) (alloc_F r o) (alloc_row w o) hmap fun hg => ⟨fun _ => Iff.rfl, fun x hx => heap_alloc_lt w o (r.ownLt h4 hg h5 x hx), by simp⟩
      · omega
    · subst h3; subst h4
      rcases hval _ b h2 with ⟨h5, _⟩ | ⟨_, h5⟩
      · exact absurd rfl h5
      · subst h5; exact hA
  · intro id id' o1 o2 b h1 h2 h3 h4 h5 h6
    rcases hown id o1 b h1 h5 with ⟨e1, e2, e3⟩ | ⟨e1, e2⟩ <;> rcases hown id' o2 b h2 h6 with ⟨g1, g2, g3⟩ | ⟨g1, g2⟩
    · exact r.injO _ _ _ _ _ e2 g2 h3 h4 e3 g3
    · exact absurd (r.ownB e2 e3) (by omega)
    · exact absurd (r.ownB g2 g3) (by omega)
    · omega
  · intro b hb
    refine ⟨Nat.lt_of_lt_of_le (r.fr b hb).1 (by simp), ?_⟩
    rintro ⟨id, o', h1, h2, h3⟩
    rcases hown id o' b h1 h3 with ⟨e1, e2, e3⟩ | ⟨e1, e2⟩
    · exact (r.fr b hb).2 ⟨id, o', e2, h2, e3⟩
    · exact absurd (r.fr b hb).1 (by omega)
  · intro id b h
    rcases hval id b h with ⟨_, e⟩ | ⟨_, e⟩
    · exact Nat.lt_of_lt_of_le (r.lt _ _ e) (by simp)
    · subst e; simp
  · intro id h
    simp only [List.length_append, List.length_singleton] at h
    unfold updMap
    rw [if_neg (by omega)]
    exact r.dom id (by omega)
  · intro id b h
    rcases hval id b h with ⟨_, e⟩ | ⟨e1, e2⟩
    · exact .inl e
    · exact .inr ⟨by omega, .inl (by omega)⟩
  · intro id o' h1 h2 h3
    exact ⟨o', hold _ _ h3 h1, h2⟩
  · refine .same rfl fun id o' b h1 h2 h3 => ?_
    rcases hcase id o' h1 with ⟨g1, g2⟩ | ⟨_, rfl⟩
    · rcases hval id b h3 with ⟨_, e⟩ | ⟨e, _⟩
      · exact ⟨id, g2, e⟩
      · omega
    · rw [hAg] at h2; cases h2

theorem Rel.upd (r : Rel ρ F σ w) {w' : World} {id b : Nat} {o0 A : AObj} (hid : σ[id]? = some o0) (hl : o0.live = true) (hρ : ρ id = some b) (hsz : w'.heap.size = w.heap.size)
    (hos : w'.os = w.os) (htp : w'.tape = w.tape) (hout : w'.output = w.output) (hother : ∀ x, x ≠ b → w'.heap[x]? = w.heap[x]?)
    (hrow : ∀ (cs : Array Value) (T : TypeId) (fr : Nat × Nat), w.heap[b]? = some (.cells cs T fr) → ∃ cs' fr', w'.heap[b]? = some (.cells cs' T fr') ∧ cs'.size = cs.size)
    (hA : ORel F w' ρ b A) (hAg : A.isGh = false := by rfl) : Rel ρ F (σ.set id A) w' ∧ Tr σ (σ.set id A) ρ ρ F F w w' := by
  have hidl : id < σ.length := (List.getElem?_eq_some_iff.1 hid).1
  have hLive : Live F ρ σ b := ⟨id, o0, hid, hl, .inl hρ⟩
  have hF : ∀ x, F x → F x ∧ w'.heap[x]? = w.heap[x]? := fun x hx => ⟨hx, hother x (fun e => (r.fr x hx).2 (e ▸ hLive))⟩
  have hR : ∀ (x : Nat) (cs : Array Value) (T : TypeId) (fr : Nat × Nat), w.heap[x]? = some (.cells cs T fr) → ∃ cs' fr', w'.heap[x]? = some (.cells cs' T fr') ∧ cs'.size = cs.size := by
    intro x cs T fr h
    by_cases e : x = b
    · subst e; exact hrow cs T fr h
    · exact ⟨cs, _, (hother x e).trans h, rfl⟩
  have hcase : ∀ x o', (σ.set id A)[x]? = some o' → (x = id ∧ o' = A) ∨ (x ≠ id ∧ σ[x]? = some o') := by
    intro x o' h
    rw [List.getElem?_set] at h
    by_cases e : id = x
    · subst e; simp only [if_true, hidl] at h; exact .inl ⟨rfl, by simpa using h.symm⟩
    · simp only [e, if_false] at h; exact .inr ⟨fun e' => e e'.symm, h⟩
  have hback : ∀ (x : Nat) (o' : AObj), (σ.set id A)[x]? = some o' → o'.live = true → ∃ o : AObj, σ[x]? = some o ∧ o.live = true := by
    intro x o' h1 h2
    rcases hcase x o' h1 with ⟨rfl, _⟩ | ⟨_, h⟩
    · exact ⟨o0, hid, hl⟩
    · exact ⟨o', h, h2⟩
  have hownb : ∀ (x : Nat) (o' : AObj) (z : Nat), (σ.set id A)[x]? = some o' → o'.live = true → Own F ρ x o' z → ∃ o : AObj, σ[x]? = some o ∧ o.live = true ∧ Own F ρ x o z := by
    intro x o' z h1 h2 h3
    rcases hcase x o' h1 with ⟨rfl, rfl⟩ | ⟨_, h⟩
    · exact ⟨o0, hid, hl, .inl (h3.root hAg)⟩
    · exact ⟨o', h, h2, h3⟩
  refine ⟨⟨?_, ?_, ?_, fun id b h => by rw [hsz]; exact r.lt id b h, fun id h => r.dom id (by simpa using h)⟩,
    ⟨fun _ _ h => h, fun _ h => h, hos, htp, hout, by rw [hsz]; exact Nat.le_refl _, hR, ?_, fun _ h => .inl h, fun _ _ h => .inl h, by simp, fun x o' h1 h2 _ => hback x o' h1 h2, .same rfl fun x o' y h1 h2 h3 => ?_⟩⟩
  · intro x o' y h1 h2
    rcases hcase x o' h1 with ⟨rfl, rfl⟩ | ⟨hne, h⟩
    · rw [hρ] at h2; cases h2; exact hA
    · by_cases e : y = b
      · subst e
        cases ho' : o'.live with
        | false => cases o' <;> simp [AObj.live] at ho'; trivial
        | true => exact absurd (r.inj _ _ _ _ _ h hid ho' hl h2 hρ) hne
      · exact (r.obj x o' y h h2).move (hother y e) hF hR (fun _ _ h => h) fun hg => ⟨fun _ => Iff.rfl, fun z hz => hother z (r.ownNe h hg h2 hid hl hρ hne z hz), by rw [hsz]; exact Nat.le_refl _⟩
  · intro x y o1 o2 z h1 h2 h3 h4 h5 h6
    obtain ⟨p1, e1, e2, e5⟩ := hownb x o1 z h1 h3 h5
    obtain ⟨p2, e3, e4, e6⟩ := hownb y o2 z h2 h4 h6
    exact r.injO _ _ _ _ _ e1 e3 e2 e4 e5 e6
  · intro x hx
    refine ⟨by rw [hsz]; exact (r.fr x hx).1, ?_⟩
    rintro ⟨y, o', h1, h2, h3⟩
    obtain ⟨o, e1, e2, e3⟩ := hownb y o' x h1 h2 h3
    exact (r.fr x hx).2 ⟨y, o, e1, e2, e3⟩
  · intro x hx hn
    exact hother x (fun e => hn (e ▸ hLive))
  · rcases hcase x o' h1 with ⟨rfl, rfl⟩ | ⟨_, h⟩
    · rw [hAg] at h2; cases h2
    · exact ⟨x, h, h3⟩

theorem Rel.kill (r : Rel ρ F σ w) (id : Nat) (G : Nat → Prop) (hG : ∀ b, G b → ∃ o, σ[id]? = some o ∧ o.live = true ∧ ρ id = some b) :
    Rel ρ (F.or G) (σ.set id .dead) w ∧ Tr σ (σ.set id .dead) ρ ρ F (F.or G) w w := by
  have hcase : ∀ x o', (σ.set id .dead)[x]? = some o' → (x = id ∧ o' = .dead) ∨ (x ≠ id ∧ σ[x]? = some o') := by
    intro x o' h
    rw [List.getElem?_set] at h
    by_cases e : id = x
    · subst e
      simp only [if_true] at h
      by_cases hl : id < σ.length
      · simp only [hl, if_true] at h; exact .inl ⟨rfl, by simpa using h.symm⟩
      · simp only [hl, if_false] at h; cases h
    · simp only [e, if_false] at h; exact .inr ⟨fun e' => e e'.symm, h⟩
  have hback : ∀ (x : Nat) (o' : AObj), (σ.set id .dead)[x]? = some o' → o'.live = true → x ≠ id ∧ σ[x]? = some o' := by
    intro x o' h1 h2
    rcases hcase x o' h1 with ⟨_, rfl⟩ | h
    · cases h2
    · exact h
  have hF : ∀ b, F b → (F.or G) b ∧ w.heap[b]? = w.heap[b]? := fun b h => ⟨.inl h, rfl⟩
  refine ⟨⟨?_, ?_, ?_, r.lt, fun id h => r.dom id (by simpa using h)⟩, ⟨fun _ _ h => h, fun _ h => .inl h, rfl, rfl, rfl, Nat.le_refl _, fun _ cs _ _ h => ⟨cs, _, h, rfl⟩, fun _ _ _ => rfl, ?_, fun _ _ h => .inl h, by simp, fun x o' h1 h2 _ => ⟨o', (hback x o' h1 h2).2, h2⟩, .same rfl fun x o' y h1 h2 h3 => ⟨x, (hback x o' h1 (AObj.isGh_live h2)).2, h3⟩⟩⟩
  · intro x o' y h1 h2
    rcases hcase x o' h1 with ⟨_, rfl⟩ | ⟨_, h⟩
    · trivial
    · exact (r.obj x o' y h h2).move rfl hF (fun _ cs _ _ h => ⟨cs, _, h, rfl⟩) (fun _ _ h => h) fun _ => ⟨fun _ => Iff.rfl, fun _ _ => rfl, Nat.le_refl _⟩
  · intro x y o1 o2 z h1 h2 h3 h4 h5 h6
    exact r.injO _ _ _ _ _ (hback x o1 h1 h3).2 (hback y o2 h2 h4).2 h3 h4 (h5.to fun _ h => h) (h6.to fun _ h => h)
  · intro x hx
    rcases hx with hx | hx
    · refine ⟨(r.fr x hx).1, ?_⟩
      rintro ⟨y, o', h1, h2, h3⟩
      exact (r.fr x hx).2 ⟨y, o', (hback y o' h1 h2).2, h2, h3.to fun _ h => h⟩
    · obtain ⟨o, e1, e2, e3⟩ := hG x hx
      refine ⟨r.lt _ _ e3, ?_⟩
      rintro ⟨y, o', h1, h2, h3⟩
      obtain ⟨h4, h5⟩ := hback y o' h1 h2
      exact h4 (r.injO _ _ _ _ _ h5 e1 h2 e2 (h3.to fun _ h => h) (.inl e3))
  · intro x hx
    rcases hx with hx | hx
    · exact .inl hx
    · obtain ⟨o, e1, e2, e3⟩ := hG x hx
      exact .inr (.inr ⟨id, o, e1, e2, .inl e3⟩)

end
end Go.Abs
end

section
set_option linter.unusedVariables false
set_option linter.unusedSimpArgs false
namespace Go.Abs

section
variable {P : Program} {F : FS} {w : World} {ρ : RMap} {σ : AState}

theorem pureCell_noId {v : AVal} {c : Value} (h : VRel F w ρ v c) (hp : pureCell v = true) : VRel F w noId v c := by
  cases h <;> simp only [pureCell, Bool.false_eq_true] at hp
  all_goals first
    | exact .tt _ _
    | exact .bool _ _
    | exact .int _ _ _
    | exact .str _ _
    | exact .nilp _
    | exact .nilm _
    | exact .nilf _
    | exact .nili _
    | (constructor <;> assumption)
    | skip

theorem inMap_noId {p : Bool} {v : AVal} {c : Value} (h : VRel F w (inMap p ρ) v c) (hp : (p || pureCell v) = true) : VRel F w noId v c := by
  cases p with
  | true => exact h
  | false => exact pureCell_noId h (by simpa using hp)

theorem freezeV_ok {v : AVal} {c : Value} {x : Frz} (r : Rel ρ F σ w) (hv : VRel F w ρ v c) (h : freezeV σ v = some x) (hcs : allP x.cs) :
    ∃ F', Rel ρ F' x.σ w ∧ Tr σ x.σ ρ ρ F F' w w ∧ ∃ u, x.v = [u] ∧ VRel F' w noId u c := by
  have hsame : ∀ v : AVal, (if pureCell v then some (⟨[v], σ, []⟩ : Frz) else none) = some x → VRel F w ρ v c → ∃ F', Rel ρ F' x.σ w ∧ Tr σ x.σ ρ ρ F F' w w ∧ ∃ u, x.v = [u] ∧ VRel F' w noId u c := by
    intro v h hv
    split at h
    · cases h; exact ⟨F, r, Tr.refl _ _ _ _, _, rfl, pureCell_noId hv (by assumption)⟩
    · cases h
  unfold freezeV at h
  split at h
  · rename_i isnil id es off len cap
    split at h
    · rename_i p es' rs ho
      split at h
      · rename_i hc
        cases h
        simp only [Bool.and_eq_true, beq_iff_eq, Bool.or_eq_true] at hc
        obtain ⟨he, hp⟩ := hc
        subst he
        have hlen : off + len ≤ rs.length := by have := hcs _ (by simp : (decide (off + len ≤ rs.length) = true) ∈ [decide (off + len ≤ rs.length) = true]); simpa using this
        obtain ⟨o0, hid, hpl, hlv, _⟩ := objP_some ho rfl
        rcases hv.slc_inv with ⟨rfl, c, b, hb, hl, hcp, hs, rfl⟩ | ⟨rfl, base, hbn, hcp, rfl⟩
        · obtain ⟨cs, T, fr, h1, h2, h3, h4, h5⟩ := r.objP ho rfl hb
          obtain ⟨r', t'⟩ := r.kill id (fun b' => ρ id = some b') (fun b' hb' => ⟨_, hid, hlv, hb'⟩)
          refine ⟨_, r', t', _, rfl, ?_⟩
          have hlr : ((rs.drop off).take len).length = len := by simp; omega
          have hget : ∀ (i : Nat) (row : List AVal), ((rs.drop off).take len)[i]? = some row → rs[off + i]? = some row := by
            intro i row h
            rw [List.getElem?_take] at h
            split at h
            · rwa [List.getElem?_drop] at h
            · cases h
          have := VRel.fsl (F := F.or fun b' => ρ id = some b') (w := w) noId es ((rs.drop off).take len) b (off * es) c none (fun i j => cs.getD ((off + i) * es + j) undef) (Or.inr hb) (by rw [hlr]; exact hl) (by simp)
            (fun i row h => h4 _ _ (hget i row h))
            (fun i j row v e1 e2 => by
              obtain ⟨cv, e3, _⟩ := h5 _ _ _ _ (hget i row e1) e2
              rw [cell_of_row w b _ cs T fr h1, show off * es + i * es + j = (off + i) * es + j by rw [Nat.add_mul], e3, Array.getD_eq_getD_getElem?, e3]; rfl)
            (fun i j row v e1 e2 => by
              obtain ⟨cv, e3, e4⟩ := h5 _ _ _ _ (hget i row e1) e2
              rw [Array.getD_eq_getD_getElem?, e3]
              refine VRel.mono (F := F) (w := w) (fun b hb => ⟨Or.inl hb, rfl⟩) (fun _ cs _ _ h => ⟨cs, _, h, rfl⟩) (inMap_noId e4 ?_) (fun _ _ h => h)
              rcases hp with hp | hp
              · simp [hp]
              · rw [List.all_eq_true] at hp
                have h6 := hp row (List.mem_of_getElem? (hget i row e1))
                rw [List.all_eq_true] at h6
                simp [h6 v (List.mem_of_getElem? e2)])
          rw [hlr] at this
          exact this
        · obtain ⟨r', t'⟩ := r.kill id (fun _ => False) (fun _ h => h.elim)
          refine ⟨_, r', t', _, rfl, ?_⟩
          rw [List.take_zero]
          cases base with
          | none => subst hbn; exact .fnil _ _ _ (by simp)
          | some a => subst hbn; exact .femp _ _ _ _ _ (by simp)
      · cases h
    · cases h
  · exact hsame _ h hv

theorem freezeL_ok : ∀ {σ : AState} {F : FS} (vs : List AVal) (cs : List Value) {x : Frz}, Rel ρ F σ w → PW F w ρ vs cs → freezeL σ vs = some x → allP x.cs →
    ∃ F', Rel ρ F' x.σ w ∧ Tr σ x.σ ρ ρ F F' w w ∧ PW F' w noId x.v cs
  | σ, F, [], cs, x, r, h, hx, _ => by
    simp only [freezeL, Option.some.injEq] at hx
    subst hx
    match cs, h with
    | [], _ => exact ⟨F, r, Tr.refl _ _ _ _, PW.nil⟩
    | _ :: _, h => have := h.1; simp at this
  | σ, F, v :: vs, cs, x, r, h, hx, hcs => by
    match cs, h with
    | [], h => have := h.1; simp at this
    | c :: cs, h =>
      simp only [freezeL] at hx
      rw [Option.bind_eq_some_iff] at hx
      obtain ⟨y, hy, hx⟩ := hx
      rw [Option.map_eq_some_iff] at hx
      obtain ⟨z, hz, hx⟩ := hx
      subst hx
      obtain ⟨F1, r1, t1, u, hu, hv⟩ := freezeV_ok r (h.2 0 v c rfl rfl) hy hcs.append.1
      have h' : PW F1 w ρ vs cs := ⟨h.tail.1, fun i a b e1 e2 => (h.tail.2 i a b e1 e2).tr r t1⟩
      obtain ⟨F2, r2, t2, hp⟩ := freezeL_ok vs cs r1 h' hz hcs.append.2
      refine ⟨F2, r2, Tr.trans r t1 t2, ?_⟩
      rw [show (y.v ++ z.v) = u :: z.v by rw [hu]; rfl]
      exact .cons (hv.tr0 r1 t2) hp

theorem aload_ok {t : TypeId} {a : AVal} {ca : Value} {out : Out} (r : Rel ρ F σ w) (ha : VRel F w ρ a ca) (h : aload P t a σ = some out) (hcs : allP out.cs) :
    Fine P F w ρ σ out (Instr.loadAt t ca) := by
  unfold aload at h
  cases hu : P.underlying t with
  | none => simp [hu] at h
  | some d =>
  simp only [hu, Option.isNone_some, Bool.false_eq_true, if_false] at h
  have hfin : ∀ {b o : Nat} {cs : List Value} {xs : List AVal}, ca = .pointer (some ⟨b, o, none⟩) → w.rangeAt b o cs → PW F w ρ xs cs → P.cellsOf t = cs.length → cs.length ≠ 0 → out.σ = σ → out.v = asType P t xs → Fine P F w ρ σ out (Instr.loadAt t ca) := by
    intro b o cs xs e1 e2 e3 e4 e5 e6 e7
    subst e1
    refine Fine.same r (cv := if isAggT P t then .agg cs.toArray else cs.headD undef) ?_ e6 ?_
    · simp only [Instr.loadAt, Instr.sureAddr, Sem.run_bind, Sem.run_pure, Result.andThen_ok]
      exact run_loadVar_cells hu e2 e4 e5
    · rw [e7]; exact asType_ok e3 (by rw [e3.1]; omega)
  have hfin2 : ∀ {b o : Nat} {cs : List Value} {xs : List AVal}, ca = .pointer (some ⟨b, o, none⟩) → w.rangeAt b o cs → PW F w noId xs cs → P.cellsOf t = cs.length → cs.length ≠ 0 → out.σ = σ → out.v = .pagg xs → d.isRow = true → Fine P F w ρ σ out (Instr.loadAt t ca) := by
    intro b o cs xs e1 e2 e3 e4 e5 e6 e7 e8
    subst e1
    have hagg : isAggT P t = true := by
      unfold isAggT; rw [hu]; cases d <;> first | rfl | cases e8
    refine Fine.same r (cv := if isAggT P t then .agg cs.toArray else cs.headD undef) ?_ e6 ?_
    · simp only [Instr.loadAt, Instr.sureAddr, Sem.run_bind, Sem.run_pure, Result.andThen_ok]
      exact run_loadVar_cells hu e2 e4 e5
    · rw [e7, hagg, if_pos rfl]; exact e3.pagg
  split at h
  · rename_i id es i j
    obtain ⟨b, hb, rfl⟩ := ha.ptr_inv
    split at h
    · rename_i es' rs ho
      split at h
      · rename_i hc
        simp only [Bool.and_eq_true, beq_iff_eq, decide_eq_true_eq] at hc
        obtain ⟨he, hn⟩ := hc
        subst he
        split at h
        · rename_i harr
          simp only [Bool.and_eq_true, beq_iff_eq] at harr
          obtain ⟨harr, hne⟩ := harr
          cases h
          obtain ⟨hi, hj⟩ := hcs.cons
          have hi : i < rs.length := by simpa using hi
          have hj : j + P.cellsOf t ≤ es := by have := hj.cons.1; simpa using this
          have ho := r.objP ho rfl hb
          obtain ⟨cs, hl, hr, hp⟩ := ho.part hi hj
          have hw := ho.width hi
          have hj0 : j = 0 := by omega
          subst hj0
          rw [List.drop_zero, List.take_of_length_le (by omega)] at hp
          refine hfin2 rfl hr hp hl.symm (by omega) rfl rfl ?_
          unfold isArr at harr
          rw [hu] at harr
          cases d <;> first | rfl | cases harr
        split at h
        · cases h
          obtain ⟨hi, hk⟩ := hcs.cons
          obtain ⟨hj, hk⟩ := hk.cons
          have hk := hk.cons.1
          have hi : i < rs.length := by simpa using hi
          have hj : j + P.cellsOf t ≤ es := by simpa using hj
          have ho := r.objP ho rfl hb
          obtain ⟨cs, hl, hr, hp⟩ := ho.part hi hj
          rw [← cellsAt_eq (ho.width hi) hj] at hp
          exact hfin rfl hr (reifyL_ok _ _ _ hp.pure hk) hl.symm (by omega) rfl rfl
        · cases h
      · cases h
    · rename_i es' rs ho
      split at h
      · rename_i hc
        simp only [Bool.and_eq_true, beq_iff_eq, decide_eq_true_eq] at hc
        obtain ⟨he, hn⟩ := hc
        subst he
        cases h
        obtain ⟨hi, hj⟩ := hcs.cons
        have hi : i < rs.length := by simpa using hi
        have hj : j + P.cellsOf t ≤ es := by have := hj.cons.1; simpa using this
        have ho := r.objP ho rfl hb
        obtain ⟨cs, hl, hr, hp⟩ := ho.part hi hj
        rw [← cellsAt_eq (ho.width hi) hj] at hp
        exact hfin rfl hr hp hl.symm (by omega) rfl rfl
      · cases h
    · cases h
  · rename_i es rs i j
    obtain ⟨b, o, f, hF, hw, hg, hv, rfl⟩ := ha.fptr_inv
    split at h
    · rename_i hn
      simp only [decide_eq_true_eq] at hn
      split at h
      · cases h
        obtain ⟨hi, hk⟩ := hcs.cons
        obtain ⟨hj, hk⟩ := hk.cons
        have hk := hk.cons.1
        have hi : i < rs.length := by simpa using hi
        have hj : j + P.cellsOf t ≤ es := by simpa using hj
        obtain ⟨cs, hl, hr, hp⟩ := part_of (ρ := noId) (n := P.cellsOf t) hi hj hw hg hv
        rw [← cellsAt_eq (by rw [List.getD_eq_getElem?_getD, List.getElem?_eq_getElem hi]; exact hw i _ (List.getElem?_eq_getElem hi)) hj] at hp
        exact hfin rfl hr (reifyL_ok _ _ _ hp.pure hk) hl.symm (by omega) rfl rfl
      · cases h
    · cases h
  · cases h

end
end Go.Abs
end

section
set_option linter.unusedVariables false
set_option linter.unusedSimpArgs false
namespace Go.Abs

def setA : Array Value → Nat → List Value → Array Value
  | cs, _, [] => cs
  | cs, o, v :: vs => setA (cs.setIfInBounds o v) (o + 1) vs

theorem setA_size : ∀ (vs : List Value) (cs : Array Value) (o : Nat), (setA cs o vs).size = cs.size
  | [], _, _ => rfl
  | v :: vs, cs, o => by rw [setA, setA_size vs]; simp
theorem setA_get : ∀ (vs : List Value) (cs : Array Value) (o k : Nat), o + vs.length ≤ cs.size → (setA cs o vs)[k]? = if o ≤ k ∧ k < o + vs.length then vs[k - o]? else cs[k]?
  | [], cs, o, k, _ => by rw [setA, if_neg (by simp)]
  | v :: vs, cs, o, k, h => by
    simp only [List.length_cons] at h
    rw [setA, setA_get vs _ (o + 1) k (by simp; omega), Array.getElem?_setIfInBounds]
    by_cases h1 : o = k
    · subst h1
      rw [if_neg (by omega), if_pos (by simp)]
      simp; omega
    · by_cases h2 : o + 1 ≤ k ∧ k < o + 1 + vs.length
      · rw [if_pos h2, if_pos (by simp; omega)]
        obtain ⟨m, rfl⟩ : ∃ m, k = o + 1 + m := ⟨k - (o + 1), by omega⟩
        rw [show o + 1 + m - (o + 1) = m by omega, show o + 1 + m - o = m + 1 by omega]
        rfl
      · rw [if_neg h2, if_neg h1, if_neg (by simp; omega)]

theorem setCells_length : ∀ (vs : List AVal) (row : List AVal) (j : Nat), (setCells row j vs).length = row.length
  | [], _, _ => rfl
  | v :: vs, row, j => by rw [setCells, setCells_length vs]; simp
theorem setCells_get : ∀ (vs : List AVal) (row : List AVal) (j k : Nat), j + vs.length ≤ row.length → (setCells row j vs)[k]? = if j ≤ k ∧ k < j + vs.length then vs[k - j]? else row[k]?
  | [], row, j, k, _ => by rw [setCells, if_neg (by simp)]
  | v :: vs, row, j, k, h => by
    simp only [List.length_cons] at h
    rw [setCells, setCells_get vs _ (j + 1) k (by simp; omega), List.getElem?_set]
    by_cases h1 : j = k
    · subst h1
      rw [if_neg (by omega), if_pos (by simp)]
      simp; omega
    · by_cases h2 : j + 1 ≤ k ∧ k < j + 1 + vs.length
      · rw [if_pos h2, if_pos (by simp; omega)]
        obtain ⟨m, rfl⟩ : ∃ m, k = j + 1 + m := ⟨k - (j + 1), by omega⟩
        rw [show j + 1 + m - (j + 1) = m by omega, show j + 1 + m - j = m + 1 by omega]
        rfl
      · rw [if_neg h2, if_neg h1, if_neg (by simp; omega)]

theorem setCell_heap (w : World) (b o : Nat) (v : Value) (x : Nat) : (w.setCell ⟨b, o, none⟩ v).heap[x]? = if x = b then (w.heap[b]?).map (fun | .cells c e f => .cells (c.setIfInBounds o v) e f | ob => ob) else w.heap[x]? := by
  simp only [World.setCell, Array.getElem?_modify, Option.isSome_none, Bool.false_eq_true, if_false]
  by_cases h : b = x
  · subst h; simp only [if_true]; rfl
  · rw [if_neg h, if_neg (fun e => h e.symm)]

theorem setCells_heap_same : ∀ (vs : List Value) (w : World) (b o : Nat) (cs : Array Value) (T : TypeId) (fr : Nat × Nat), w.heap[b]? = some (.cells cs T fr) →
    (w.setCells b o vs).heap[b]? = some (.cells (setA cs o vs) T fr)
  | [], _, _, _, _, _, _, h => h
  | v :: vs, w, b, o, cs, T, fr, h => by
    rw [World.setCells, setA]
    exact setCells_heap_same vs _ b (o + 1) _ T fr (by rw [setCell_heap]; simp [h])
theorem setCells_heap_other : ∀ (vs : List Value) (w : World) (b o x : Nat), x ≠ b → (w.setCells b o vs).heap[x]? = w.heap[x]?
  | [], _, _, _, _, _ => rfl
  | v :: vs, w, b, o, x, h => by rw [World.setCells, setCells_heap_other vs _ b _ x h, setCell_heap, if_neg h]
theorem setCells_rest : ∀ (vs : List Value) (w : World) (b o : Nat), (w.setCells b o vs).heap.size = w.heap.size ∧ (w.setCells b o vs).os = w.os ∧ (w.setCells b o vs).tape = w.tape ∧ (w.setCells b o vs).output = w.output
  | [], _, _, _ => ⟨rfl, rfl, rfl, rfl⟩
  | v :: vs, w, b, o => by
    obtain ⟨h1, h2, h3, h4⟩ := setCells_rest vs (w.setCell ⟨b, o, none⟩ v) b (o + 1)
    rw [World.setCells]
    exact ⟨h1.trans (by simp), h2, h3, h4⟩

section
variable {P : Program} {F : FS} {w : World} {ρ : RMap} {σ : AState}

theorem Rel.store {id es i j b : Nat} {p : Bool} {rs : List (List AVal)} {vs : List AVal} {cs : List Value} (r : Rel ρ F σ w) {o0 : AObj} (hid : σ[id]? = some o0) (hl : o0.live = true) (hb : ρ id = some b)
    (ho : ORel F w ρ b (.rows p es rs)) (hp : PW F w (inMap p ρ) vs cs) (hi : i < rs.length) (hj : j + vs.length ≤ es) :
    w.there b (i * es + j) cs.length ∧
    Rel ρ F (σ.set id (.rows p es (rs.set i (setCells (rs.getD i []) j vs)))) (w.setCells b (i * es + j) cs) ∧
    Tr σ (σ.set id (.rows p es (rs.set i (setCells (rs.getD i []) j vs)))) ρ ρ F F w (w.setCells b (i * es + j) cs) := by
  obtain ⟨ca, T, fr, h1, h2, h3, h4, h5⟩ := ho
  have hrow : rs[i]? = some rs[i] := List.getElem?_eq_getElem hi
  have hD : rs.getD i [] = rs[i] := by rw [List.getD_eq_getElem?_getD, hrow]; rfl
  have hlen := h4 i _ hrow
  have hin : i * es + es ≤ ca.size := by
    have : (i + 1) * es ≤ rs.length * es := Nat.mul_le_mul_right _ hi
    rw [Nat.add_mul, Nat.one_mul] at this
    omega
  have hcl : cs.length = vs.length := hp.1.symm
  have hfit : i * es + j + cs.length ≤ ca.size := by omega
  refine ⟨?_, ?_⟩
  · intro k hk
    refine ⟨?_, h2 _ (by omega)⟩
    rw [cell_of_row w b _ ca T fr h1, Array.getElem?_eq_getElem (by omega)]
    rfl
  · obtain ⟨g1, g2, g3, g4⟩ := setCells_rest cs w b (i * es + j)
    have hLive : Live F ρ σ b := ⟨id, o0, hid, hl, .inl hb⟩
    have hF : ∀ x, F x → F x ∧ (w.setCells b (i * es + j) cs).heap[x]? = w.heap[x]? := fun x hx => ⟨hx, setCells_heap_other _ _ _ _ _ (fun e => (r.fr x hx).2 (e ▸ hLive))⟩
    have hR : ∀ (x : Nat) (ca : Array Value) (T : TypeId) (fr : Nat × Nat), w.heap[x]? = some (.cells ca T fr) → ∃ cs' fr', (w.setCells b (i * es + j) cs).heap[x]? = some (.cells cs' T fr') ∧ cs'.size = ca.size := by
      intro x ca T fr h
      by_cases e : x = b
      · subst e; exact ⟨_, _, setCells_heap_same _ _ _ _ _ _ _ h, setA_size _ _ _⟩
      · exact ⟨ca, _, (setCells_heap_other _ _ _ _ _ e).trans h, rfl⟩
    refine r.upd hid hl hb g1 g2 g3 g4 (fun x hx => setCells_heap_other _ _ _ _ _ hx) (fun cs0 T fr h => hR b cs0 T fr h) ?_
    refine ⟨_, T, fr, setCells_heap_same _ _ _ _ _ _ _ h1, ?_, by rw [setA_size]; simpa using h3, ?_, ?_⟩
    · intro o ho
      rw [setA_size] at ho
      rw [World.frozen?_setCells]
      exact h2 o ho
    · intro i' row e
      rw [List.getElem?_set] at e
      by_cases hii : i = i'
      · simp only [hii, if_true] at e
        rw [if_pos (by omega)] at e
        cases e; rw [setCells_length]; subst hii; rw [hD]; exact hlen
      · rw [if_neg hii] at e; exact h4 i' row e
    · intro i' j' row v e1 e2
      rw [setA_get _ _ _ _ hfit]
      rw [List.getElem?_set] at e1
      by_cases hii : i = i'
      · subst hii
        simp only [if_true, hi] at e1
        cases e1
        rw [hD, setCells_get _ _ _ _ (by rw [hlen]; exact hj)] at e2
        by_cases hc : j ≤ j' ∧ j' < j + vs.length
        · rw [if_pos hc] at e2
          rw [if_pos (by omega), show i * es + j' - (i * es + j) = j' - j by omega]
          have hlt : j' - j < cs.length := by omega
          exact ⟨_, List.getElem?_eq_getElem hlt, (hp.2 _ _ _ e2 (List.getElem?_eq_getElem hlt)).mono hF hR (fun _ _ h => h)⟩
        · rw [if_neg hc] at e2
          rw [if_neg (by omega)]
          obtain ⟨cv, e3, e4⟩ := h5 i j' _ v hrow e2
          exact ⟨cv, e3, e4.mono hF hR (fun _ _ h => h)⟩
      · simp only [hii, if_false] at e1
        obtain ⟨cv, e3, e4⟩ := h5 i' j' row v e1 e2
        have hj' : j' < es := by rw [← h4 i' row e1]; exact (List.getElem?_eq_some_iff.1 e2).1
        rw [if_neg ?_]
        · exact ⟨cv, e3, e4.mono hF hR (fun _ _ h => h)⟩
        · rintro ⟨g1, g2⟩
          rcases Nat.lt_or_gt_of_ne hii with h | h
          · have := Nat.mul_le_mul_right es h
            rw [Nat.succ_mul] at this
            omega
          · have := Nat.mul_le_mul_right es h
            rw [Nat.succ_mul] at this
            omega

theorem run_storeAt {t : TypeId} {b o : Nat} {c : Value} (hth : w.there b o c.cells.toList.length) (hn : P.cellsOf t = c.cells.toList.length) (hi : P.info? t ≠ none) (h1 : ∀ u ∈ c.cells.toList, u.oneCell' = true) :
    (Instr.storeAt t (.pointer (some ⟨b, o, none⟩)) c).run P w = .ok () (w.setCells b o c.cells.toList) := by
  have := run_storeCells_cells (P := P) b o c.cells.toList 0 w (fun j hj => by simpa using (hth j hj).1) (fun j hj => by simpa using (hth j hj).2) h1
  simp only [Nat.add_zero] at this
  cases hq : P.info? t with
  | none => exact absurd hq hi
  | some i =>
    have hs : i.size = c.cells.size := by unfold Program.cellsOf at hn; rw [hq] at hn; simpa using hn
    simp [Instr.storeAt, Instr.sureAddr, storeVar, sizeOf, typeInfo, hq, hs, this]

theorem astore_ok {t : TypeId} {a v : AVal} {ca cv : Value} {out : Out} (r : Rel ρ F σ w) (ha : VRel F w ρ a ca) (hv : VRel F w ρ v cv) (h : astore P t a v σ = some out) (hcs : allP out.cs) :
    FineU P F w ρ σ out (Instr.storeAt t ca cv) := by
  unfold astore at h
  dsimp only at h
  split at h
  · rename_i id es i j
    obtain ⟨b, hb, rfl⟩ := ha.ptr_inv
    by_cases hc : (v.cells.length == P.cellsOf t && v.cells.all oneCell && (P.info? t).isSome) = true
    · rw [if_pos hc] at h
      simp only [Bool.and_eq_true, beq_iff_eq, decide_eq_true_eq] at hc
      obtain ⟨⟨hn, hone⟩, hinf⟩ := hc
      obtain ⟨hp, h1⟩ := PW.cells hv hone
      split at h
      · rename_i es' rs ho
        split at h
        · rename_i he
          simp only [beq_iff_eq] at he
          subst he
          cases h
          have hi : i < rs.length := by have := hcs.cons.1; simpa using this
          have hj : j + P.cellsOf t ≤ es := by have := hcs.cons.2.cons.1; simpa using this
          obtain ⟨o0, hid0, _, hlv0, _⟩ := objP_some ho rfl
          obtain ⟨g1, g2, g3⟩ := r.store hid0 hlv0 hb (r.objP ho rfl hb) hp hi (by rw [hn]; exact hj)
          exact ⟨ρ, F, _, run_storeAt g1 (by rw [← hp.1, hn]) (by intro e; rw [e] at hinf; cases hinf) h1, g3, g2, rfl⟩
        · cases h
      · rename_i es' rs ho
        split at h
        · rename_i he
          simp only [beq_iff_eq] at he
          subst he
          rw [Option.bind_eq_some_iff] at h
          obtain ⟨x, hx, h⟩ := h
          split at h
          · rename_i hlive
            cases h
            obtain ⟨hi, hcx⟩ := hcs.cons
            obtain ⟨hj, hcx⟩ := hcx.cons
            have hi : i < rs.length := by simpa using hi
            have hj : j + P.cellsOf t ≤ es := by simpa using hj
            obtain ⟨F', r', t', hp'⟩ := freezeL_ok _ _ r hp hx hcx
            obtain ⟨o0, ho0⟩ : ∃ o0, o0 = obj x.σ id := ⟨_, rfl⟩
            have hid := obj_some ho0.symm (by rw [ho0]; exact hlive)
            have hor : ORel F' w ρ b (.rows true es rs) := (r.objP ho rfl hb).move rfl (r.frz t') t'.row (fun _ _ h => h)
            have hl' : x.v.length = v.cells.length := by rw [hp'.1, hp.1]
            obtain ⟨g1, g2, g3⟩ := r'.store hid (by rw [ho0]; exact hlive) hb hor hp' hi (by rw [hl', hn]; exact hj)
            exact ⟨ρ, F', _, run_storeAt g1 (by rw [← hp.1, hn]) (by intro e; rw [e] at hinf; cases hinf) h1, Tr.trans r t' g3, g2, rfl⟩
          · cases h
        · cases h
      · cases h
    · rw [if_neg hc] at h; cases h
  · cases h

end
end Go.Abs
end

section
set_option linter.unusedVariables false
set_option linter.unusedSimpArgs false
namespace Go.Abs

section
variable {P : Program} {F : FS} {w : World} {ρ : RMap} {σ : AState}

theorem Fine.new {out : Out} {s : Sem Value} {cv : Value} {o : Obj} {A : AObj} (r : Rel ρ F σ w) (h : s.run P w = .ok cv (w.alloc o)) (hσ : out.σ = σ ++ [A])
    (hA : ORel F (w.alloc o) (updMap ρ σ.length w.heap.size) w.heap.size A) (hv : VRel F (w.alloc o) (updMap ρ σ.length w.heap.size) out.v cv) (hAg : A.isGh = false := by rfl) : Fine P F w ρ σ out s := by
  obtain ⟨r', t'⟩ := r.alloc o A hA hAg
  rw [Fine]; rw [hσ]; exact ⟨_, F, _, cv, h, t', r', hv⟩

theorem ORel.new {es : Nat} {p : Bool} {rs : List (List AVal)} {cs : Array Value} {T : TypeId} {F' : FS} {w' : World} {ρ' : RMap} {b : Nat} (hb : w'.heap[b]? = some (.cells cs T (0, 0))) (hsz : rs.length * es ≤ cs.size)
    (hw : ∀ (i : Nat) (row : List AVal), rs[i]? = some row → row.length = es)
    (hv : ∀ (i j : Nat) (row : List AVal) (v : AVal), rs[i]? = some row → row[j]? = some v → ∃ cv, cs[i * es + j]? = some cv ∧ VRel F' w' (inMap p ρ') v cv) : ORel F' w' ρ' b (.rows p es rs) :=
  ⟨cs, T, _, hb, fun o _ => by unfold World.frozen?; rw [hb]; simp, hsz, hw, hv⟩

theorem ORel.newT {es : Nat} {p : Bool} {rs : List (List AVal)} {cs : Array Value} {T : TypeId} {F' : FS} {w' : World} {ρ' : RMap} {b : Nat} (hb : w'.heap[b]? = some (.cells cs T (0, 0))) (hsz : rs.length * es ≤ cs.size)
    (hw : ∀ (i : Nat) (row : List AVal), rs[i]? = some row → row.length = es)
    (hv : ∀ (i j : Nat) (row : List AVal) (v : AVal), rs[i]? = some row → row[j]? = some v → ∃ cv, cs[i * es + j]? = some cv ∧ VRel F' w' (inMap p ρ') v cv) : ORel F' w' ρ' b (.trows T p es rs) :=
  ⟨cs, _, hb, fun o _ => by unfold World.frozen?; rw [hb]; simp, hsz, hw, hv⟩

theorem PW.alloc {xs : List AVal} {ys : List Value} (r : Rel ρ F σ w) (h : PW F w ρ xs ys) (o : Obj) : PW F (w.alloc o) (updMap ρ σ.length w.heap.size) xs ys :=
  ⟨h.1, fun i x y h1 h2 => (h.2 i x y h1 h2).mono (alloc_F r o) (alloc_row w o) (upd_map r _)⟩

theorem run_newVar {t : TypeId} {v : Value} : (newVar t v).run P w = .ok ⟨w.heap.size, 0, none⟩ (w.alloc (.cells v.cells t)) := by
  simp [newVar, newRow]

theorem plain_pure {ρ' : RMap} {v : AVal} {c : Value} (hv : plainCell v = true) (h : VRel F w ρ v c) : VRel F w ρ' v c := by
  cases h <;> simp [plainCell] at hv
  · exact .tt _ _
  · exact .bool _ _
  · exact .int _ _ _
  · exact .str _ _

theorem abox_fine {t : TypeId} {v : AVal} {cv : Value} {out : Out} {s : Sem Value} (r : Rel ρ F σ w) (hv : VRel F w ρ v cv) (h : abox v σ = some out)
    (hs : s.run P w = .ok (.pointer (some ⟨w.heap.size, 0, none⟩)) (w.alloc (.cells cv.cells t))) : Fine P F w ρ σ out s := by
  unfold abox at h
  dsimp only at h
  split at h
  · rename_i hone
    cases h
    obtain ⟨hp, h1⟩ := PW.cells hv hone
    have hp' := hp.alloc r (.cells cv.cells t)
    refine Fine.new r hs rfl (ORel.new (heap_alloc_new' _ _) (by simp; rw [hp.1]; simp) ?_ ?_) ?_
    · intro i row e
      cases i with
      | zero => simp at e; subst e; rfl
      | succ i => simp at e
    · intro i j row v' e1 e2
      cases i with
      | zero =>
        simp at e1; subst e1
        have hlt : j < cv.cells.toList.length := by rw [← hp.1]; exact (List.getElem?_eq_some_iff.1 e2).1
        have e3 := List.getElem?_eq_getElem hlt
        have hx := hp'.2 j _ _ e2 e3
        refine ⟨cv.cells.toList[j], by simp, ?_⟩
        unfold inMap
        split
        · rename_i hpl
          exact plain_pure (List.all_eq_true.1 hpl v' (List.mem_of_getElem? e2)) hx
        · exact hx
      | succ i => simp at e1
    · have := VRel.ptr (F := F) (w := w.alloc (.cells cv.cells t)) (updMap ρ σ.length w.heap.size) σ.length v.cells.length 0 0 w.heap.size (by simp [updMap])
      simp only [Nat.zero_mul, Nat.add_zero] at this
      exact this
  · cases h

theorem abox_ok {t : TypeId} {v : AVal} {cv : Value} {out : Out} (r : Rel ρ F σ w) (hv : VRel F w ρ v cv) (h : abox v σ = some out) : Fine P F w ρ σ out (Instr.box t cv) :=
  abox_fine (t := t) r hv h (by simp [Instr.box, run_newVar])

theorem zeroA_ok {t : TypeId} {z : AVal} (h : zeroA P t = some z) : ∃ zv, (zeroValue t).run P w = .ok zv w ∧ ∀ F ρ, VRel F w ρ z zv := by
  unfold zeroA at h
  rw [Option.bind_eq_some_iff] at h
  obtain ⟨i, hi, h⟩ := h
  rw [Option.map_eq_some_iff] at h
  obtain ⟨zv, hz, h⟩ := h
  subst h
  exact ⟨zv, by simp [zeroValue, typeInfo, hi, hz], fun F ρ => abs0_ok _ _ _ _⟩

theorem abox_fineT {t : TypeId} {v : AVal} {cv : Value} {s : Sem Value} (r : Rel ρ F σ w) (hv : VRel F w ρ v cv) (hone : v.cells.all oneCell = true)
    (hs : s.run P w = .ok (.pointer (some ⟨w.heap.size, 0, none⟩)) (w.alloc (.cells cv.cells t))) : Fine P F w ρ σ (Abs.new σ (.trows t false v.cells.length [v.cells]) fun id => .ptr id v.cells.length 0 0) s := by
  obtain ⟨hp, h1⟩ := PW.cells hv hone
  have hp' := hp.alloc r (.cells cv.cells t)
  refine Fine.new r hs rfl (ORel.newT (heap_alloc_new' _ _) (by simp; rw [hp.1]; simp) ?_ ?_) ?_
  · intro i row e
    cases i with
    | zero => simp at e; subst e; rfl
    | succ i => simp at e
  · intro i j row v' e1 e2
    cases i with
    | zero =>
      simp at e1; subst e1
      have hlt : j < cv.cells.toList.length := by rw [← hp.1]; exact (List.getElem?_eq_some_iff.1 e2).1
      have e3 := List.getElem?_eq_getElem hlt
      have hx := hp'.2 j _ _ e2 e3
      exact ⟨cv.cells.toList[j], by simp, hx⟩
    | succ i => simp at e1
  · have := VRel.ptr (F := F) (w := w.alloc (.cells cv.cells t)) (updMap ρ σ.length w.heap.size) σ.length v.cells.length 0 0 w.heap.size (by simp [updMap])
    simp only [Nat.zero_mul, Nat.add_zero] at this
    exact this

theorem aalloc_ok {t : TypeId} {out : Out} (r : Rel ρ F σ w) (h : aalloc P t σ = some out) : Fine P F w ρ σ out (Instr.alloc t true (.tuple #[])) := by
  unfold aalloc at h
  rw [Option.bind_eq_some_iff] at h
  obtain ⟨z, hz, h⟩ := h
  obtain ⟨zv, h1, h2⟩ := zeroA_ok (w := w) hz
  split at h
  · split at h
    · rename_i hone
      cases h
      exact abox_fineT (t := t) r (h2 F ρ) hone (by simp [Instr.alloc, h1, run_newVar])
    · cases h
  · exact abox_fine (t := t) r (h2 F ρ) h (by simp [Instr.alloc, h1, run_newVar])

theorem zip_setA : ∀ (l : List Value) (k off : Nat) (cells : Array Value), (l.zipIdx k).foldl (fun cs (p : Value × Nat) => cs.setIfInBounds (off + p.2) p.1) cells = setA cells (off + k) l
  | [], _, _, _ => rfl
  | v :: l, k, off, cells => by
    simp only [List.zipIdx_cons, List.foldl_cons]
    rw [zip_setA l (k + 1) off]
    rfl

theorem fill_setA (off : Nat) (cells : Array Value) (v : Array Value) : v.zipIdx.foldl (fun cs (p : Value × Nat) => cs.setIfInBounds (off + p.2) p.1) cells = setA cells off v.toList := by
  rw [← Array.foldl_toList, Array.toList_zipIdx, zip_setA]
  rfl

theorem PW.set {xs vs : List AVal} {ys : Array Value} {us : List Value} {off : Nat} (h : PW F w ρ xs ys.toList) (hv : PW F w ρ vs us) (hl : off + vs.length ≤ xs.length) : PW F w ρ (setCells xs off vs) (setA ys off us).toList := by
  have hs : xs.length = ys.size := by simpa using h.1
  refine ⟨by rw [setCells_length]; simp [setA_size, hs], fun i x y h1 h2 => ?_⟩
  rw [setCells_get _ _ _ _ hl] at h1
  rw [Array.getElem?_toList, setA_get _ _ _ _ (by rw [← hv.1, ← hs]; exact hl)] at h2
  rw [← hv.1] at h2
  split at h1
  · rename_i hc; rw [if_pos hc] at h2; exact hv.2 _ _ _ h1 h2
  · rename_i hc; rw [if_neg hc] at h2; exact h.2 i _ _ h1 (by simpa using h2)

def PParts (F : FS) (w : World) (ρ : RMap) : List (Nat × AVal) → List (Nat × Value) → Prop
  | [], [] => True
  | (i, v) :: xs, (j, u) :: ys => i = j ∧ VRel F w ρ v u ∧ PParts F w ρ xs ys
  | _, _ => False

theorem fillA_ok {place : Nat → Option (Nat × Nat)} : ∀ (parts : List (Nat × AVal)) (cparts : List (Nat × Value)) (xs : List AVal) (ys : Array Value) {cs : List AVal}, PW F w ρ xs ys.toList → PParts F w ρ parts cparts → fillA place xs parts = some cs →
    ∃ cv, Instr.fill place ys cparts = some cv ∧ PW F w ρ cs cv.toList
  | [], [], xs, ys, cs, h, _, hf => by simp only [fillA, Option.some.injEq] at hf; subst hf; exact ⟨ys, rfl, h⟩
  | (i, v) :: parts, (j, u) :: cparts, xs, ys, cs, h, hp, hf => by
    obtain ⟨rfl, hv, hps⟩ := hp
    simp only [fillA] at hf
    simp only [Instr.fill]
    cases hpl : place i with
    | none => rw [hpl] at hf; cases hf
    | some q =>
      obtain ⟨off, size⟩ := q
      rw [hpl] at hf
      dsimp only at hf ⊢
      split at hf
      · rename_i hc
        simp only [Bool.and_eq_true, beq_iff_eq, decide_eq_true_eq] at hc
        obtain ⟨⟨hone, hsz⟩, hle⟩ := hc
        obtain ⟨hcp, _⟩ := PW.cells hv hone
        have hus : u.cells.size = size := by rw [← hsz, hcp.1]; simp
        have hys : xs.length = ys.size := by simpa using h.1
        rw [if_neg (by simp [hus]; omega), fill_setA]
        exact fillA_ok parts cparts _ _ (h.set hcp (by rw [hsz]; exact hle)) hps hf
      · cases hf
  | [], _ :: _, _, _, _, _, hp, _ => hp.elim
  | _ :: _, [], _, _, _, _, hp, _ => hp.elim

theorem builtA_ok {t : TypeId} {parts : List (Nat × AVal)} {cparts : List (Nat × Value)} {cs : List AVal} (hp : PParts F w ρ parts cparts) (h : builtA P t parts = some cs) : ∃ cv, P.built t cparts = some cv ∧ PW F w ρ cs cv.toList := by
  unfold builtA at h
  unfold Program.built
  cases hi : P.info? t with
  | none => simp [hi] at h
  | some it =>
    cases hu : P.underlying t with
    | none => simp [hi, hu] at h
    | some d =>
      cases hz : it.zero with
      | none => cases d <;> simp [hi, hu, hz] at h
      | some z =>
        cases d <;> try (simp [hi, hu] at h; done)
        case array n e =>
          cases hie : P.info? e with
          | none => simp [hi, hu, hz, hie] at h
          | some ie =>
            simp only [hi, hu, hz, hie] at h ⊢
            split at h
            · rename_i hone
              exact fillA_ok _ _ _ _ (PW.cells (abs0_ok F w ρ z) hone).1 hp h
            · cases h
        case struct fields =>
          cases hm : fields.toList.mapM (fun f => (P.info? f.type).map fun i => (f.offset, i.size)) with
          | none => simp [hi, hu, hz, hm] at h
          | some places =>
            simp only [hi, hu, hz, hm] at h ⊢
            split at h
            · rename_i hone
              have := fillA_ok _ _ _ _ (PW.cells (abs0_ok F w ρ z) hone).1 hp h
              simpa using this
            · cases h

theorem abuild_ok {t : TypeId} {parts : List (Nat × AVal)} {cparts : Array (Nat × Value)} {out : Out} (r : Rel ρ F σ w) (hp : PParts F w ρ parts cparts.toList) (h : abuild P t parts σ = some out) : Fine P F w ρ σ out (Instr.build t cparts) := by
  unfold abuild at h
  rw [Option.map_eq_some_iff] at h
  obtain ⟨cs, hb, rfl⟩ := h
  obtain ⟨cv, h1, h2⟩ := builtA_ok hp hb
  refine Fine.same r (run_build w t cparts cv h1) rfl ?_
  have := h2.agg
  simpa using this

theorem cutRows_get : ∀ (es n : Nat) (cs : List AVal) (i : Nat) (row : List AVal), cs.length = n * es → (cutRows es n cs)[i]? = some row → i < n ∧ row = (cs.drop (i * es)).take es
  | es, 0, cs, i, row, _, h => by simp [cutRows] at h
  | es, n + 1, cs, i, row, hl, h => by
    rw [Nat.succ_mul] at hl
    cases i with
    | zero => simp [cutRows] at h; subst h; simp
    | succ i =>
      simp only [cutRows, List.getElem?_cons_succ] at h
      obtain ⟨h1, h2⟩ := cutRows_get es n _ i row (by simp; omega) h
      refine ⟨by omega, ?_⟩
      rw [h2, List.drop_drop, Nat.succ_mul, Nat.add_comm]
theorem cutRows_length : ∀ (es n : Nat) (cs : List AVal), (cutRows es n cs).length = n
  | _, 0, _ => rfl
  | es, n + 1, cs => by simp [cutRows, cutRows_length es n]

theorem replicate_flatten_get (n : Nat) (z : Array Value) (h0 : z.size ≠ 0) : ((Array.range (n * z.size)).map (z[· % z.size]!)).toList = (List.replicate n z.toList).flatten := by
  induction n with
  | zero => simp
  | succ n ih =>
    rw [List.replicate_succ', List.flatten_append, ← ih]
    apply List.ext_getElem?
    intro i
    simp only [Array.toList_map, Array.toList_range, List.flatten_cons, List.flatten_nil, List.append_nil]
    rw [List.getElem?_append]
    simp only [List.length_map, List.length_range, List.getElem?_map]
    have hs : (n + 1) * z.size = n * z.size + z.size := by rw [Nat.add_mul, Nat.one_mul]
    by_cases h1 : i < n * z.size
    · rw [if_pos h1, List.getElem?_range h1, List.getElem?_range (by omega)]
    · rw [if_neg h1]
      by_cases h2 : i < (n + 1) * z.size
      · rw [List.getElem?_range h2]
        have h3 : i - n * z.size < z.size := by omega
        have h4 : i % z.size = i - n * z.size := by
          obtain ⟨m, rfl⟩ : ∃ m, i = n * z.size + m := ⟨i - n * z.size, by omega⟩
          rw [Nat.add_comm, Nat.add_mul_mod_self_right, Nat.mod_eq_of_lt (by omega)]
          omega
        simp only [Option.map_some, h4]
        rw [Array.getElem?_toList, Array.getElem?_eq_getElem h3]
        simp [h3]
      · rw [List.getElem?_eq_none (by simpa using Nat.not_lt.1 h2), List.getElem?_eq_none (by simp; omega)]
        rfl

theorem PW.replicate {xs : List AVal} {ys : List Value} (h : PW F w ρ xs ys) : ∀ n, PW F w ρ (List.replicate n xs).flatten (List.replicate n ys).flatten
  | 0 => by simpa using PW.nil
  | n + 1 => by
    simp only [List.replicate_succ, List.flatten_cons]
    have ih := PW.replicate h n
    refine ⟨by simp only [List.length_append, h.1, ih.1], fun i x y h1 h2 => ?_⟩
    rw [List.getElem?_append] at h1 h2
    rw [h.1] at h1
    split at h1
    · rename_i hc; rw [if_pos hc] at h2; exact h.2 _ _ _ h1 h2
    · rename_i hc; rw [if_neg hc] at h2; exact ih.2 _ _ _ h1 h2

theorem rows_of_cells {es n : Nat} {cs : List AVal} {cv : Array Value} (hp : PW F w ρ cs cv.toList) (hl : cs.length = n * es) :
    (∀ (i : Nat) (row : List AVal), (cutRows es n cs)[i]? = some row → row.length = es) ∧
    ∀ (i j : Nat) (row : List AVal) (v : AVal), (cutRows es n cs)[i]? = some row → row[j]? = some v → ∃ u, cv[i * es + j]? = some u ∧ VRel F w ρ v u := by
  refine ⟨fun i row h => ?_, fun i j row v h1 h2 => ?_⟩
  · obtain ⟨h1, h2⟩ := cutRows_get _ _ _ _ _ hl h
    subst h2
    have : (i + 1) * es ≤ n * es := Nat.mul_le_mul_right _ h1
    rw [Nat.succ_mul] at this
    simp; omega
  · obtain ⟨h3, h4⟩ := cutRows_get _ _ _ _ _ hl h1
    subst h4
    rw [List.getElem?_take] at h2
    split at h2
    · rw [List.getElem?_drop] at h2
      have hlt : i * es + j < cv.toList.length := by rw [← hp.1]; exact (List.getElem?_eq_some_iff.1 h2).1
      have := List.getElem?_eq_getElem hlt
      exact ⟨_, by simp, hp.2 _ _ _ h2 this⟩
    · cases h2

theorem abuildSlice_ok {t : TypeId} {n : Nat} {parts : List (Nat × AVal)} {cparts : Array (Nat × Value)} {out : Out} (r : Rel ρ F σ w) (hp : PParts F w ρ parts cparts.toList) (h : abuildSlice P t n parts σ = some out) :
    Fine P F w ρ σ out (Instr.buildSlice t n cparts) := by
  unfold abuildSlice at h
  split at h
  · rename_i e hu
    split at h
    · rename_i ie hie
      split at h
      · rename_i z hz
        dsimp only at h
        split at h
        · rename_i hc
          simp only [Bool.and_eq_true, beq_iff_eq, decide_eq_true_eq] at hc
          obtain ⟨⟨⟨hone, hzl⟩, hmax⟩, hes⟩ := hc
          rw [Option.bind_eq_some_iff] at h
          obtain ⟨cs, hf, h⟩ := h
          split at h
          · rename_i hc2
            simp only [Bool.and_eq_true, beq_iff_eq] at hc2
            obtain ⟨_, hl⟩ := hc2
            cases h
            obtain ⟨hzp, _⟩ := PW.cells (abs0_ok F w ρ z) hone
            have hzs : z.cells.size = ie.size := by rw [← hzl, hzp.1]; simp
            have hini : ((Array.range (n * ie.size)).map (z.cells[· % z.cells.size]!)).toList = (List.replicate n z.cells.toList).flatten := by
              rw [← hzs]; exact replicate_flatten_get n z.cells (by rw [hzs]; exact hes)
            obtain ⟨cv, h1, h2⟩ := fillA_ok _ _ _ ((Array.range (n * ie.size)).map (z.cells[· % z.cells.size]!)) (by rw [hini]; exact hzp.replicate n) hp hf
            have hrun : (Instr.buildSlice t n cparts).run P w = .ok (.slice (some ⟨w.heap.size, 0, none⟩) n n) (w.alloc (.cells cv e)) := by
              have hne : ¬ (n * ie.size = 0) ∨ n * ie.size = 0 := by omega
              unfold Instr.buildSlice
              simp only [Sem.run_bind, run_underlying hu, Result.andThen_ok, sizeOf, typeInfo, run_program, hie, Sem.run_pure]
              rw [if_neg (by omega)]
              rcases hne with hne | hne
              · simp only [if_neg hne, zeroValue, typeInfo, Sem.run_bind, run_program, Result.andThen_ok, hie, hz, Sem.run_pure]
                simp only [h1]
                simp [newRow]
              · have hn0 : n = 0 := by
                  rcases Nat.mul_eq_zero.1 hne with h | h
                  · exact h
                  · exact absurd h hes
                subst hn0
                simp only [Nat.zero_mul, if_true, Sem.run_pure, Result.andThen_ok] at h1 ⊢
                simp only [Array.range_zero', Array.map_empty] at h1 ⊢
                simp only [h1]
                simp [newRow]
            have hp' := (h2.alloc r (.cells cv e))
            have hpp : PW F (w.alloc (.cells cv e)) (inMap (!(kindsOf P 20 e).any refKind && cs.all pureCell) (updMap ρ σ.length w.heap.size)) cs cv.toList := by
              cases hpb : (!(kindsOf P 20 e).any refKind && cs.all pureCell) with
              | false => exact hp'
              | true =>
                simp only [Bool.and_eq_true] at hpb
                exact ⟨hp'.1, fun i x y h1 h2 => pureCell_noId (hp'.2 i x y h1 h2) (List.all_eq_true.1 hpb.2 x (List.mem_of_getElem? h1))⟩
            obtain ⟨g1, g2⟩ := rows_of_cells hpp hl
            have hcvs : cv.size = n * ie.size := by rw [← hl, h2.1]; simp
            refine Fine.new r hrun rfl (ORel.new (heap_alloc_new' _ _) (by rw [cutRows_length, hcvs]; exact Nat.le_refl _) g1 g2) ?_
            have := VRel.slc (F := F) (w := w.alloc (.cells cv e)) (updMap ρ σ.length w.heap.size) σ.length ie.size 0 n (some n) n w.heap.size (by simp [updMap]) (Nat.le_refl _) (by simp) ⟨cv, e, _, heap_alloc_new' _ _, by rw [Nat.zero_add, hcvs]; exact Nat.le_refl _⟩
            simp only [Nat.zero_mul] at this
            exact this
          · cases h
        · cases h
      · cases h
    · cases h
  · cases h

end
end Go.Abs
end

section
set_option linter.unusedVariables false
set_option linter.unusedSimpArgs false
namespace Go.Abs

section
variable {P : Program} {F : FS} {w : World} {ρ : RMap} {σ : AState}

theorem run_sizeOf {t : TypeId} (h : P.cellsOf t ≠ 0) : (sizeOf t).run P w = .ok (P.cellsOf t) w := by
  cases hi : P.info? t with
  | none => unfold Program.cellsOf at h; rw [hi] at h; simp at h
  | some i => simp [sizeOf, typeInfo, hi, Program.cellsOf]

theorem run_fieldAt {s : TypeId} {fs : Array Field} {f : Field} {k : Nat} {a : Addr} (hu : P.underlying s = some (.struct fs)) (hf : fs[k]? = some f) (hn : P.cellsOf f.type ≠ 0) :
    (Instr.fieldAt s (.pointer (some a)) k).run P w = .ok (.pointer (some (a.add f.offset))) w := by
  simp [Instr.fieldAt, run_underlying hu, hf, Instr.sureAddr, fieldPlace, run_sizeOf hn, hn]

theorem add_addr (b o n : Nat) : (⟨b, o, none⟩ : Addr).add n = ⟨b, o + n, none⟩ := by unfold Addr.add; split <;> simp_all

theorem afieldAddr_ok {s : TypeId} {a : AVal} {ca : Value} {k : Nat} {out : Out} (r : Rel ρ F σ w) (ha : VRel F w ρ a ca) (h : afieldAddr P s a k σ = some out) : Fine P F w ρ σ out (Instr.fieldAt s ca k) := by
  unfold afieldAddr at h
  split at h
  · rename_i fs hu
    split at h
    · rename_i f hf
      split at h
      · cases h
      · rename_i hn
        have hn : P.cellsOf f.type ≠ 0 := by simpa using hn
        split at h
        · rename_i id es i j
          cases h
          obtain ⟨b, hb, rfl⟩ := ha.ptr_inv
          refine Fine.same r (run_fieldAt hu hf hn) rfl ?_
          rw [add_addr, Nat.add_assoc]
          exact .ptr _ _ _ _ _ _ hb
        · rename_i es rs i j
          cases h
          obtain ⟨b, o, g, hF, hw, hg, hv, rfl⟩ := ha.fptr_inv
          refine Fine.same r (run_fieldAt hu hf hn) rfl ?_
          rw [add_addr, Nat.add_assoc]
          exact .fptr _ _ _ _ _ _ _ g hF hw hg hv
        · cases h
    · cases h
  · cases h

theorem run_indexAt_arr {t e : TypeId} {len : Nat} {b o : Nat} {k : IntKind} {n : Int} (hu : P.underlying t = some (.array len e)) (h : 0 ≤ n ∧ n < (len : Int)) (hn : P.cellsOf e ≠ 0) :
    (Instr.indexAt t (.pointer (some ⟨b, o, none⟩)) (.int k n)).run P w = .ok (.pointer (some ⟨b, o + n.toNat * P.cellsOf e, none⟩)) w := by
  simp [Instr.indexAt, asIntOf, run_underlying hu, Instr.sureAddr, h, run_sizeOf hn, add_addr]
theorem run_indexAt_slc {t e : TypeId} {len c : Nat} {b o : Nat} {k : IntKind} {n : Int} (hu : P.underlying t = some (.slice e)) (h : 0 ≤ n ∧ n < (len : Int)) (hn : P.cellsOf e ≠ 0) :
    (Instr.indexAt t (.slice (some ⟨b, o, none⟩) len c) (.int k n)).run P w = .ok (.pointer (some ⟨b, o + n.toNat * P.cellsOf e, none⟩)) w := by
  simp [Instr.indexAt, asIntOf, run_underlying hu, h, run_sizeOf hn, add_addr]

theorem aindexAddr_ok {t : TypeId} {x ix : AVal} {cx ci : Value} {out : Out} (r : Rel ρ F σ w) (hx : VRel F w ρ x cx) (hi : VRel F w ρ ix ci) (h : aindexAddr P t x ix σ = some out) (hcs : allP out.cs) :
    Fine P F w ρ σ out (Instr.indexAt t cx ci) := by
  unfold aindexAddr at h
  split at h
  · rename_i k n
    obtain rfl := hi.int_inv
    split at h
    · rename_i len e id es i j hu
      obtain ⟨b, hb, rfl⟩ := hx.ptr_inv
      split at h
      · rename_i hn
        cases h
        have hc := of_decide_eq_true hcs.cons.1
        refine Fine.same r (run_indexAt_arr hu hc (by simpa using hn)) rfl ?_
        have := VRel.ptr (F := F) (w := w) ρ id es i (n.toNat * P.cellsOf e + j) b hb
        rw [show i * es + (n.toNat * P.cellsOf e + j) = i * es + j + n.toNat * P.cellsOf e by omega] at this
        exact this
      · cases h
    · rename_i len e es rs i j hu
      obtain ⟨b, o, g, hF, hw, hg, hv, rfl⟩ := hx.fptr_inv
      split at h
      · rename_i hn
        cases h
        have hc := of_decide_eq_true hcs.cons.1
        refine Fine.same r (run_indexAt_arr hu hc (by simpa using hn)) rfl ?_
        have := VRel.fptr (F := F) (w := w) ρ es rs i (n.toNat * P.cellsOf e + j) b o g hF hw hg hv
        rw [show o + i * es + (n.toNat * P.cellsOf e + j) = o + i * es + j + n.toNat * P.cellsOf e by omega] at this
        exact this
      · cases h
    · rename_i e isnil id es off len cap hu
      split at h
      · rename_i hes
        simp only [Bool.and_eq_true, beq_iff_eq, bne_iff_ne] at hes
        obtain ⟨rfl, hn⟩ := hes
        cases h
        have hc := of_decide_eq_true hcs.cons.1
        rcases hx.slc_inv with ⟨_, c, b, hb, hl, hcp, hs, rfl⟩ | ⟨rfl, _, _, _, _⟩
        · refine Fine.same r (run_indexAt_slc hu hc hn) rfl ?_
          rw [← Nat.add_mul, Nat.add_comm off]
          have := VRel.ptr (F := F) (w := w) ρ id (P.cellsOf e) (n.toNat + off) 0 b hb
          simpa using this
        · omega
      · cases h
    · rename_i e isnil es rs cap hu
      split at h
      · rename_i hes
        simp only [Bool.and_eq_true, beq_iff_eq, bne_iff_ne] at hes
        obtain ⟨rfl, hn⟩ := hes
        cases h
        have hc := of_decide_eq_true hcs.cons.1
        rcases hx.fsl_inv with ⟨_, rfl, _, _⟩ | ⟨_, a, c, hl, _, rfl, h | ⟨b, o, g, rfl, hF, hw, hg, hv⟩⟩
        · simp at hc; omega
        · subst h; simp at hc; omega
        · refine Fine.same r (run_indexAt_slc hu hc hn) rfl ?_
          have := VRel.fptr (F := F) (w := w) ρ (P.cellsOf e) rs n.toNat 0 b o g hF hw hg hv
          simpa using this
      · cases h
    · cases h
  · cases h

theorem byteAt_get {s : ByteArray} {n : Int} (h0 : 0 ≤ n) (h : n < (s.size : Int)) : ∃ b : UInt8, s[n.toNat]? = some b ∧ byteAt s n = (b.toNat : Int) := by
  have hlt : n.toNat < s.size := by omega
  refine ⟨s[n.toNat], by simp [hlt], ?_⟩
  unfold byteAt
  have : s.data.toList.getD n.toNat 0 = s[n.toNat] := by
    rw [List.getD_eq_getElem?_getD, Array.getElem?_toList, Array.getElem?_eq_getElem (by simpa using hlt)]
    rfl
  rw [this]

theorem run_part {t : TypeId} {cs : Array Value} {off : Nat} {d : TypeDesc} (hu : P.underlying t = some d) (hn : P.cellsOf t ≠ 0) (hl : off + P.cellsOf t ≤ cs.size) :
    (part t cs off).run P w = .ok (if isAggT P t then .agg (cs.toList.drop off |>.take (P.cellsOf t)).toArray else (cs.toList.drop off |>.take (P.cellsOf t)).headD undef) w := by
  unfold part
  rw [Sem.run_bind, run_isAgg hu]
  cases isAggT P t with
  | true =>
    simp only [Result.andThen_ok, if_true, Sem.run_bind, run_sizeOf hn, Sem.run_pure]
    congr 2
    apply Array.ext'
    simp [Array.toList_extract, List.extract_eq_take_drop]
  | false =>
    have hlt : off < cs.size := by omega
    obtain ⟨m, hm⟩ : ∃ m, P.cellsOf t = m + 1 := ⟨P.cellsOf t - 1, by omega⟩
    have : (cs.toList.drop off).take (P.cellsOf t) = cs[off] :: (cs.toList.drop (off + 1)).take m := by
      rw [hm, List.drop_eq_getElem_cons (by simpa using hlt)]; simp
    rw [this]
    simp [hlt]

theorem PW.part {xs : List AVal} {ys : Array Value} {off n : Nat} (h : PW F w ρ xs ys.toList) : PW F w ρ ((xs.drop off).take n) ((ys.toList.drop off).take n) := by
  refine ⟨by simp [h.1], fun i x y h1 h2 => ?_⟩
  rw [List.getElem?_take] at h1 h2
  split at h1
  · rename_i hc
    rw [if_pos hc, List.getElem?_drop] at h2
    rw [List.getElem?_drop] at h1
    exact h.2 _ _ _ h1 h2
  · cases h1

theorem aindex_ok {t : TypeId} {x ix : AVal} {cx ci : Value} {out : Out} (r : Rel ρ F σ w) (hx : VRel F w ρ x cx) (hi : VRel F w ρ ix ci) (h : aindex P t x ix σ = some out) (hcs : allP out.cs) :
    Fine P F w ρ σ out (Instr.index t cx ci) := by
  unfold aindex at h
  split at h
  · rename_i k n
    obtain rfl := hi.int_inv
    split at h
    · rename_i s hu
      cases h
      obtain rfl := hx.str_inv
      have hc := of_decide_eq_true hcs.cons.1
      obtain ⟨b, hb, he⟩ := byteAt_get hc.1 hc.2
      refine Fine.same r (cv := .int .u8 (b.toNat : Int)) ?_ rfl (by rw [he]; exact .int _ _ _)
      simp [Instr.index, asIntOf, run_underlying hu, hc.1, hb]
    · rename_i len e cs hu
      split at h
      · rename_i hq
        simp only [Bool.and_eq_true, bne_iff_ne, Option.isSome_iff_exists] at hq
        obtain ⟨hn, d, hd⟩ := hq
        obtain ⟨ys, rfl, hp⟩ := PW.of_agg hx
        have hy : cs.length = ys.size := by simpa using hp.1
        have hrun : (0 ≤ n ∧ n < (len : Int)) → len * P.cellsOf e ≤ cs.length → (Instr.index t (.agg ys) (.int k n)).run P w = .ok (if isAggT P e then .agg ((ys.toList.drop (n.toNat * P.cellsOf e)).take (P.cellsOf e)).toArray else ((ys.toList.drop (n.toNat * P.cellsOf e)).take (P.cellsOf e)).headD undef) w ∧ PW F w ρ (cellsAt [cs] 0 (n.toNat * P.cellsOf e) (P.cellsOf e)) ((ys.toList.drop (n.toNat * P.cellsOf e)).take (P.cellsOf e)) ∧ 0 < (cellsAt [cs] 0 (n.toNat * P.cellsOf e) (P.cellsOf e)).length := by
          intro hc hl
          have hfit : n.toNat * P.cellsOf e + P.cellsOf e ≤ ys.size := by
            have : (n.toNat + 1) * P.cellsOf e ≤ len * P.cellsOf e := Nat.mul_le_mul_right _ (by omega)
            rw [Nat.succ_mul] at this
            omega
          refine ⟨?_, ?_, by simp [cellsAt]; omega⟩
          · simp only [Instr.index, asIntOf, Sem.run_bind, Sem.run_pure, Result.andThen_ok, run_underlying hu]
            rw [if_pos hc]
            simp only [Sem.run_bind, run_sizeOf hn, Result.andThen_ok]
            exact run_part hd hn hfit
          · rw [cellsAt_eq (es := cs.length) rfl (by omega)]
            exact hp.part (off := n.toNat * P.cellsOf e) (n := P.cellsOf e)
        split at h
        · cases h
          obtain ⟨hc, hl⟩ := hcs.cons
          obtain ⟨h1, h2, h3⟩ := hrun (of_decide_eq_true hc) (of_decide_eq_true hl.cons.1)
          exact Fine.same r h1 rfl (asType_ok h2 h3)
        · cases h
          obtain ⟨hc, hl⟩ := hcs.cons
          obtain ⟨hl, hk⟩ := hl.cons
          have hk := hk.cons.1
          obtain ⟨h1, h2, h3⟩ := hrun (of_decide_eq_true hc) (of_decide_eq_true hl)
          have h4 := reifyL_ok _ _ _ h2 hk
          exact Fine.same r h1 rfl (asType_ok h4 (by rw [h4.1, ← h2.1]; exact h3))
      · cases h
    · rename_i len e cs hu
      split at h
      · rename_i hq
        simp only [Bool.and_eq_true, bne_iff_ne, Option.isSome_iff_exists] at hq
        obtain ⟨hn, d, hd⟩ := hq
        obtain ⟨ys, rfl, hp⟩ := PW.of_pagg hx
        have hy : cs.length = ys.size := by simpa using hp.1
        have hrun : (0 ≤ n ∧ n < (len : Int)) → len * P.cellsOf e ≤ cs.length → (Instr.index t (.agg ys) (.int k n)).run P w = .ok (if isAggT P e then .agg ((ys.toList.drop (n.toNat * P.cellsOf e)).take (P.cellsOf e)).toArray else ((ys.toList.drop (n.toNat * P.cellsOf e)).take (P.cellsOf e)).headD undef) w ∧ PW F w noId (cellsAt [cs] 0 (n.toNat * P.cellsOf e) (P.cellsOf e)) ((ys.toList.drop (n.toNat * P.cellsOf e)).take (P.cellsOf e)) ∧ 0 < (cellsAt [cs] 0 (n.toNat * P.cellsOf e) (P.cellsOf e)).length := by
          intro hc hl
          have hfit : n.toNat * P.cellsOf e + P.cellsOf e ≤ ys.size := by
            have : (n.toNat + 1) * P.cellsOf e ≤ len * P.cellsOf e := Nat.mul_le_mul_right _ (by omega)
            rw [Nat.succ_mul] at this
            omega
          refine ⟨?_, ?_, by simp [cellsAt]; omega⟩
          · simp only [Instr.index, asIntOf, Sem.run_bind, Sem.run_pure, Result.andThen_ok, run_underlying hu]
            rw [if_pos hc]
            simp only [Sem.run_bind, run_sizeOf hn, Result.andThen_ok]
            exact run_part hd hn hfit
          · rw [cellsAt_eq (es := cs.length) rfl (by omega)]
            exact hp.part (off := n.toNat * P.cellsOf e) (n := P.cellsOf e)
        cases h
        obtain ⟨hc, hl⟩ := hcs.cons
        obtain ⟨hl, hk⟩ := hl.cons
        have hk := hk.cons.1
        obtain ⟨h1, h2, h3⟩ := hrun (of_decide_eq_true hc) (of_decide_eq_true hl)
        have h4 := reifyL_ok _ _ _ h2 hk
        exact Fine.same r h1 rfl (asType_ok h4.pure (by rw [h4.1, ← h2.1]; exact h3))
      · cases h
    · cases h
  · cases h

theorem afield_ok {t : TypeId} {x : AVal} {cx : Value} {k : Nat} {out : Out} (r : Rel ρ F σ w) (hx : VRel F w ρ x cx) (h : afield P t x k σ = some out) : Fine P F w ρ σ out (Instr.field t cx k) := by
  unfold afield at h
  split at h
  · rename_i fs cs hu
    split at h
    · rename_i f hf
      split at h
      · rename_i hq
        simp only [Bool.and_eq_true, bne_iff_ne, Option.isSome_iff_exists] at hq
        obtain ⟨⟨hn, d, hd⟩, hl⟩ := hq
        have hl := of_decide_eq_true hl
        cases h
        obtain ⟨ys, rfl, hp⟩ := PW.of_agg hx
        have hy : cs.length = ys.size := by simpa using hp.1
        refine Fine.same r ?_ rfl (asType_ok (hp.part (off := f.offset) (n := P.cellsOf f.type)) (by simp; omega))
        simp only [Instr.field, Sem.run_bind, run_underlying hu, Result.andThen_ok, hf, asAgg, Sem.run_pure]
        exact run_part hd hn (by omega)
      · cases h
    · cases h
  · cases h

theorem aextract_ok {x : AVal} {cx : Value} {k : Nat} {out : Out} (r : Rel ρ F σ w) (hx : VRel F w ρ x cx) (h : aextract x k σ = some out) : Fine P F w ρ σ out (Instr.extract cx k) := by
  unfold aextract at h
  split at h
  · rename_i vs
    rw [Option.map_eq_some_iff] at h
    obtain ⟨v, hv, rfl⟩ := h
    obtain ⟨cv, rfl, hp⟩ := hx.tuple_inv
    have hlt : k < cv.size := by have := (List.getElem?_eq_some_iff.1 hv).1; rw [hp.1] at this; simpa using this
    have he : cv[k]? = some cv[k] := Array.getElem?_eq_getElem hlt
    exact Fine.same r (cv := cv[k]) (by simp [Instr.extract, he]) rfl (hp.2 k _ _ hv (by simp))
  · cases h

end
end Go.Abs
end

section
set_option linter.unusedVariables false
set_option linter.unusedSimpArgs false
namespace Go.Abs

section
variable {P : Program} {F : FS} {w : World} {ρ : RMap} {σ : AState}

theorem equal_eq (t : TypeId) (x y : Value) : Op.equal t x y = Op.equalIn (9999 + 1) t x y := by
  unfold Op.equal Op.maxDepth; rfl
theorem run_equal1 {t : TypeId} {x y : Value} {b : Bool} (h : ∀ d, (Op.equalIn (d + 1) t x y).run P w = .ok b w) : (Op.equal t x y).run P w = .ok b w := by
  rw [equal_eq]; exact h 9999
theorem eq_bool {t : TypeId} {a b : Bool} (hu : P.underlying t = some .bool) (d : Nat) : (Op.equalIn (d + 1) t (.bool a) (.bool b)).run P w = .ok (a == b) w := by simp [Op.equalIn, run_underlying hu]
theorem eq_nilp {t e : TypeId} {b : Option Addr} (hu : P.underlying t = some (.pointer e)) (d : Nat) : (Op.equalIn (d + 1) t (.pointer none) (.pointer b)).run P w = .ok b.isNone w := by simp [Op.equalIn, run_underlying hu]
theorem eq_pnil {t e : TypeId} {a : Addr} (hu : P.underlying t = some (.pointer e)) (d : Nat) : (Op.equalIn (d + 1) t (.pointer (some a)) (.pointer none)).run P w = .ok false w := by simp [Op.equalIn, run_underlying hu]
theorem eq_same {t e : TypeId} {a : Addr} (hu : P.underlying t = some (.pointer e)) (he : (P.info? e).isSome = true) (d : Nat) : (Op.equalIn (d + 1) t (.pointer (some a)) (.pointer (some a))).run P w = .ok true w := by
  obtain ⟨j, hj⟩ := Option.isSome_iff_exists.1 he
  simp [Op.equalIn, run_underlying hu, sizeOf, typeInfo, hj, run_sameAddr_same]
theorem eq_ff {t : TypeId} {a b : Array TypeId} {c : Bool} (hu : P.underlying t = some (.func a b c)) (d : Nat) : (Op.equalIn (d + 1) t .nilFunc .nilFunc).run P w = .ok true w := by simp [Op.equalIn, run_underlying hu]
theorem eq_fg {t : TypeId} {a b : Array TypeId} {c : Bool} {f : Fn} {x y : Array Value} (hu : P.underlying t = some (.func a b c)) (d : Nat) : (Op.equalIn (d + 1) t .nilFunc (.func f x y)).run P w = .ok false w := by simp [Op.equalIn, run_underlying hu]
theorem eq_gf {t : TypeId} {a b : Array TypeId} {c : Bool} {f : Fn} {x y : Array Value} (hu : P.underlying t = some (.func a b c)) (d : Nat) : (Op.equalIn (d + 1) t (.func f x y) .nilFunc).run P w = .ok false w := by simp [Op.equalIn, run_underlying hu]

def eqShape : Value → Bool
  | .bool _ | .pointer _ | .map _ | .slice _ _ _ | .nilFunc | .func _ _ _ => true
  | _ => false

theorem eqShape_guard {op : BinOp} {t : TypeId} {xo yo : Operand} {x y : Value} (h : eqShape x = true) : eqGuard op t xo yo x y = pure () := by
  cases x <;> simp only [eqShape, Bool.false_eq_true] at h <;> simp only [eqGuard_at_bool, eqGuard_at_pointer, eqGuard_at_map, eqGuard_at_slice, eqGuard_at_nilFunc, eqGuard_at_func]

theorem aequal_ok {t : TypeId} {x y : AVal} {cx cy : Value} {b : Bool} (h : aequal P t x y = some b) (hx : VRel F w ρ x cx) (hy : VRel F w ρ y cy) :
    (Op.equal t cx cy).run P w = .ok b w ∧ eqShape cx = true ∧ eqShape cy = true := by
  unfold aequal at h
  split at h
  all_goals first
    | (cases h; done)
    | (rename_i id es i j id' es' i' j' hu
       split at h
       · rename_i hc
         simp only [Bool.and_eq_true, beq_iff_eq] at hc
         obtain ⟨⟨⟨⟨rfl, rfl⟩, rfl⟩, rfl⟩, he⟩ := hc
         cases h
         obtain ⟨b1, hb1, rfl⟩ := hx.ptr_inv
         obtain ⟨b2, hb2, rfl⟩ := hy.ptr_inv
         rw [hb1] at hb2; cases hb2
         exact ⟨run_equal1 fun d => eq_same hu he d, rfl, rfl⟩
       · cases h)
    | skip
  all_goals (rename_i hu)
  all_goals (cases hx <;> cases hy <;> cases h <;> (try subst_vars) <;> refine ⟨run_equal1 fun d => ?_, rfl, rfl⟩)
  all_goals first
    | exact eq_bool hu d
    | exact eq_nilp hu d
    | exact eq_pnil hu d
    | exact run_equalIn_map_nil w d t _ _ _ hu
    | exact run_equalIn_nil_map w d t _ _ _ hu
    | exact Lib.run_equalIn_slice_nil w d t _ _ _ _ _ _ hu
    | exact run_equalIn_nil_slice w d t _ _ _ _ _ _ hu
    | exact eq_ff hu d
    | exact eq_fg hu d
    | exact eq_gf hu d

theorem binOp_eql_shape {t : TypeId} {x y : Value} (hx : eqShape x = true) (hy : eqShape y = true) : binOp .eql t x y = (Op.equal t x y >>= fun b => pure (.bool b)) := by
  cases x <;> simp only [eqShape, Bool.false_eq_true] at hx <;> cases y <;> simp only [eqShape, Bool.false_eq_true] at hy <;> rfl
theorem binOp_neq_shape {t : TypeId} {x y : Value} (hx : eqShape x = true) (hy : eqShape y = true) : binOp .neq t x y = (Op.equal t x y >>= fun b => pure (.bool (!b))) := by
  cases x <;> simp only [eqShape, Bool.false_eq_true] at hx <;> cases y <;> simp only [eqShape, Bool.false_eq_true] at hy <;> rfl

theorem aeqI_ok {t : TypeId} {x y : AVal} {cx cy : Value} {b : Bool} (h : aeqI P t x y = some b) (hx : VRel F w ρ x cx) (hy : VRel F w ρ y cy) :
    (Op.equal t cx cy).run P w = .ok b w ∧ (∀ (op : BinOp) (xo yo : Operand), (eqGuard op t xo yo cx cy).run P w = .ok () w) ∧ binOp .eql t cx cy = (Op.equal t cx cy >>= fun b => pure (.bool b)) ∧ binOp .neq t cx cy = (Op.equal t cx cy >>= fun b => pure (.bool (!b))) := by
  unfold aeqI at h
  split at h
  · rename_i hu
    cases h
    cases hx; cases hy
    exact ⟨run_equal1 fun d => by simp [Op.equalIn, run_underlying hu], fun op xo yo => by cases op <;> simp [eqGuard], rfl, rfl⟩
  · rename_i hu
    cases h
    cases hx; cases hy
    exact ⟨run_equal1 fun d => by simp [Op.equalIn, run_underlying hu], fun op xo yo => by cases op <;> simp [eqGuard], rfl, rfl⟩
  · rename_i ms hu
    split at h
    · rename_i hm
      cases h
      cases hx; cases hy
      refine ⟨run_equal1 fun d => by simp [Op.equalIn, run_underlying hu], fun op xo yo => ?_, rfl, rfl⟩
      have hg : (Op.eqGuardIn Op.maxDepth t .nilIface .nilIface).run P w = .ok false w := by
        have key : ∀ d, (Op.eqGuardIn (d + 1) t .nilIface .nilIface).run P w = .ok false w := fun d => by simp [Op.eqGuardIn, run_underlying hu, hm]
        exact key 9999
      cases op <;> simp only [eqGuard] <;> (try simp) <;> (repeat' split) <;> simp_all
    · cases h
  · cases h
theorem aeqAny_ok {t : TypeId} {x y : AVal} {cx cy : Value} {b : Bool} (h : aeqAny P t x y = some b) (hx : VRel F w ρ x cx) (hy : VRel F w ρ y cy) :
    (Op.equal t cx cy).run P w = .ok b w ∧ (∀ (op : BinOp) (xo yo : Operand), (eqGuard op t xo yo cx cy).run P w = .ok () w) ∧ binOp .eql t cx cy = (Op.equal t cx cy >>= fun b => pure (.bool b)) ∧ binOp .neq t cx cy = (Op.equal t cx cy >>= fun b => pure (.bool (!b))) := by
  unfold aeqAny at h
  split at h
  · rename_i b0 hb
    cases h
    obtain ⟨h1, h2, h3⟩ := aequal_ok hb hx hy
    exact ⟨h1, fun op xo yo => by rw [eqShape_guard h2]; simp, binOp_eql_shape h2 h3, binOp_neq_shape h2 h3⟩
  · exact aeqI_ok h hx hy

theorem asB_ok {v : AVal} {b : Bool} {c : Value} (h : asB v = some b) (hv : VRel F w ρ v c) : c = .bool b := by
  cases v <;> simp only [asB, Option.some.injEq, reduceCtorEq] at h
  · subst h; exact hv.tt_inv
  · subst h; exact hv.bool_inv
theorem PW.cut {xs : List AVal} {cx : Array Value} (hx : PW F w ρ xs cx.toList) (o n : Nat) : PW F w ρ ((xs.drop o).take n) (cx.extract o (o + n)).toList := by
  have hl : xs.length = cx.size := hx.1.trans Array.length_toList
  refine ⟨?_, fun i v u h1 h2 => ?_⟩
  · simp only [Array.length_toList, Array.size_extract, List.length_take, List.length_drop]; omega
  · rw [List.getElem?_take] at h1
    split at h1
    · rename_i hi
      rw [List.getElem?_drop] at h1
      rw [Array.getElem?_toList, Array.getElem?_extract] at h2
      split at h2
      · exact hx.2 _ v u h1 (by rw [Array.getElem?_toList]; exact h2)
      · cases h2
    · cases h1
theorem aeqFields_ok {nest : TypeId → List AVal → List AVal → Option Bool} {xs ys : List AVal} {cx cy : Array Value} (hx : PW F w ρ xs cx.toList) (hy : PW F w ρ ys cy.toList) (d : Nat)
    (hn : ∀ (t : TypeId) (xs ys : List AVal) (cx cy : Array Value) (b : Bool), PW F w ρ xs cx.toList → PW F w ρ ys cy.toList → nest t xs ys = some b → (Op.equalIn (d + 1) t (.agg cx) (.agg cy)).run P w = .ok b w) :
    ∀ (fs : List Field) {b : Bool}, aeqFields P nest xs ys fs = some b → (Op.eqFields (d + 1) cx cy fs).run P w = .ok b w
  | [], b, h => by
    unfold aeqFields at h
    cases h
    simp [Op.eqFields]
  | f :: fs, b, h => by
    have ih := @aeqFields_ok nest xs ys cx cy hx hy d hn fs
    unfold aeqFields at h
    split at h
    · cases h
    · rename_i hnm
      have hn' : f.name ≠ "_" := by simpa using hnm
      have get : ∀ {zs : List AVal} {cz : Array Value} {v : AVal}, PW F w ρ zs cz.toList → zs[f.offset]? = some v → ∃ cv, cz[f.offset]? = some cv ∧ VRel F w ρ v cv := by
        intro zs cz v hz hv
        have hlt : f.offset < cz.size := by
          have h1 := (List.getElem?_eq_some_iff.1 hv).1
          have h2 : zs.length = cz.size := hz.1.trans Array.length_toList
          omega
        refine ⟨cz[f.offset], Array.getElem?_eq_getElem hlt, hz.2 _ _ _ hv ?_⟩
        rw [Array.getElem?_toList, Array.getElem?_eq_getElem hlt]
      have fin : ∀ {a b : Value} {e r : Bool} (_ : (part f.type cx f.offset).run P w = .ok a w) (_ : (part f.type cy f.offset).run P w = .ok b w) (_ : (Op.equalIn (d + 1) f.type a b).run P w = .ok e w) (_ : (Op.eqFields (d + 1) cx cy fs).run P w = .ok r w),
          (Op.eqFields (d + 1) cx cy (f :: fs)).run P w = .ok (e && r) w := by
        intro a b e r h1 h2 h3 h4
        simp only [Op.eqFields]
        rw [if_pos hn']
        simp only [Sem.run_bind, h1, h2, h3, Result.andThen_ok, Sem.run_ite]
        cases e
        · simp
        · simp [h4]
      split at h
      · rename_i kk hu
        split at h
        · rename_i k a k' b' h1 h2
          split at h
          · rename_i hk
            simp only [beq_iff_eq] at hk
            subst hk
            obtain ⟨r, hr, rfl⟩ := Option.map_eq_some_iff.1 h
            obtain ⟨c1, g1, v1⟩ := get hx h1
            obtain ⟨c2, g2, v2⟩ := get hy h2
            obtain rfl := v1.int_inv
            obtain rfl := v2.int_inv
            exact fin (a := .int k a) (b := .int k b') (by simp [Go.part, isAgg, run_underlying hu, g1]) (by simp [Go.part, isAgg, run_underlying hu, g2]) (run_equalIn_int w d _ _ _ _ _ hu) (ih hr)
          · cases h
        · cases h
      · rename_i hu
        split at h
        · rename_i a b' h1 h2
          obtain ⟨r, hr, rfl⟩ := Option.map_eq_some_iff.1 h
          obtain ⟨u1, h1, k1⟩ := Option.bind_eq_some_iff.1 h1
          obtain ⟨u2, h2, k2⟩ := Option.bind_eq_some_iff.1 h2
          obtain ⟨c1, g1, v1⟩ := get hx h1
          obtain ⟨c2, g2, v2⟩ := get hy h2
          obtain rfl := asB_ok k1 v1
          obtain rfl := asB_ok k2 v2
          exact fin (a := .bool a) (b := .bool b') (by simp [Go.part, isAgg, run_underlying hu, g1]) (by simp [Go.part, isAgg, run_underlying hu, g2]) (run_equalIn_bool' w d _ _ _ hu) (ih hr)
        · cases h
      · rename_i hu
        split at h
        · rename_i a b' h1 h2
          obtain ⟨r, hr, rfl⟩ := Option.map_eq_some_iff.1 h
          obtain ⟨c1, g1, v1⟩ := get hx h1
          obtain ⟨c2, g2, v2⟩ := get hy h2
          obtain rfl := v1.str_inv
          obtain rfl := v2.str_inv
          exact fin (a := .string a) (b := .string b') (by simp [Go.part, isAgg, run_underlying hu, g1]) (by simp [Go.part, isAgg, run_underlying hu, g2]) (run_equalIn_string w d _ _ _ hu) (ih hr)
        · cases h
      · rename_i fs' hu
        split at h
        · rename_i it hit
          split at h
          · rename_i e he
            obtain ⟨r, hr, rfl⟩ := Option.map_eq_some_iff.1 h
            exact fin (a := .agg (cx.extract f.offset (f.offset + it.size))) (b := .agg (cy.extract f.offset (f.offset + it.size))) (by simp [Go.part, isAgg, run_underlying hu, sizeOf, typeInfo, hit]) (by simp [Go.part, isAgg, run_underlying hu, sizeOf, typeInfo, hit])
              (hn _ _ _ _ _ _ (hx.cut _ _) (hy.cut _ _) he) (ih hr)
          · cases h
        · cases h
      · cases h
theorem aeqNest_ok : ∀ (n d : Nat) (t : TypeId) (xs ys : List AVal) (cx cy : Array Value) (b : Bool), PW F w ρ xs cx.toList → PW F w ρ ys cy.toList → aeqNest P n t xs ys = some b → (Op.equalIn (d + n + 1) t (.agg cx) (.agg cy)).run P w = .ok b w
  | 0, d, t, xs, ys, cx, cy, b, hx, hy, h => by cases h
  | n + 1, d, t, xs, ys, cx, cy, b, hx, hy, h => by
    unfold aeqNest at h
    split at h
    · cases h
    · rename_i hc
      split at h
      · rename_i fs hu
        have hf : P.fieldsOf t = fs := by unfold Program.fieldsOf; rw [hu]
        rw [show d + (n + 1) + 1 = (d + n) + 1 + 1 by omega, run_equalIn_struct w _ t cx cy (by rw [hf]; exact hu) (by simpa using hc), hf]
        exact aeqFields_ok hx hy (d + n) (fun t xs ys cx cy b h1 h2 h3 => aeqNest_ok n d t xs ys cx cy b h1 h2 h3) _ h
      · cases h

theorem aeqAgg_ok {t : TypeId} {xs ys : List AVal} {cx cy : Array Value} (hx : PW F w ρ xs cx.toList) (hy : PW F w ρ ys cy.toList) {b : Bool} (h : aeqAgg P t xs ys = some b) :
    (Op.equalIn 10000 t (.agg cx) (.agg cy)).run P w = .ok b w ∧ P.eqGuardType P.depth t = false := by
  unfold aeqAgg at h
  split at h
  · cases h
  · rename_i hc
    exact ⟨aeqNest_ok 3 9996 t xs ys cx cy b hx hy h, by simpa using hc⟩

theorem abinOp_ok {op : BinOp} {t : TypeId} {x y : AVal} {cx cy : Value} {xo yo : Operand} {out : Out} (r : Rel ρ F σ w) (hx : VRel F w ρ x cx) (hy : VRel F w ρ y cy) (h : abinOp P op t x y σ = some out) (hcs : allP out.cs) :
    Fine P F w ρ σ out (do eqGuard op t xo yo cx cy; binOp op t cx cy) := by
  unfold abinOp at h
  split at h
  · rename_i xs ys
    have pw : ∀ {zs : List AVal} {cz : Value}, VRel F w ρ (.agg zs) cz → ∃ c : Array Value, cz = .agg c ∧ PW F w ρ zs c.toList := by
      intro zs cz hz
      cases hz with
      | agg _ _ cv hl hh => exact ⟨cv, rfl, by rw [Array.length_toList]; exact hl, fun i v u h1 h2 => hh i v u h1 (by rw [← Array.getElem?_toList]; exact h2)⟩
    obtain ⟨c1, rfl, p1⟩ := pw hx
    obtain ⟨c2, rfl, p2⟩ := pw hy
    split at h
    · obtain ⟨b, hb, rfl⟩ := Option.map_eq_some_iff.1 h
      obtain ⟨e1, e2⟩ := aeqAgg_ok p1 p2 hb
      refine Fine.same r (cv := .bool b) ?_ rfl (.bool _ _)
      rw [Sem.run_bind, run_eqGuard_agg w _ t xo yo c1 c2 e2, Result.andThen_ok, run_eql_struct w, e1]
      rfl
    · obtain ⟨b, hb, rfl⟩ := Option.map_eq_some_iff.1 h
      obtain ⟨e1, e2⟩ := aeqAgg_ok p1 p2 hb
      refine Fine.same r (cv := .bool (!b)) ?_ rfl (.bool _ _)
      rw [Sem.run_bind, run_eqGuard_agg w _ t xo yo c1 c2 e2, Result.andThen_ok, run_neq_struct w, e1]
      rfl
    · cases h
  · rename_i k a k' b
    obtain rfl := hx.int_inv
    obtain rfl := hy.int_inv
    have go : ∀ {v : AVal} {cv : Value}, (binOp op t (.int k a) (.int k' b)).run P w = .ok cv w → out.v = v → out.σ = σ → VRel F w ρ v cv → Fine P F w ρ σ out (do eqGuard op t xo yo (.int k a) (.int k' b); binOp op t (.int k a) (.int k' b)) := by
      intro v cv h1 h2 h3 h4
      refine Fine.same r (cv := cv) ?_ h3 (by rw [h2]; exact h4)
      simp only [eqGuard_at_int, Sem.run_bind, Sem.run_pure, Result.andThen_ok, h1]
    cases op <;> dsimp only at h
    all_goals first
      | (split at h
         · rename_i hk
           simp only [beq_iff_eq] at hk
           subst hk
           cases h
           first
             | (refine go ?_ rfl rfl (.int _ _ _); simp [binOp, Op.intArith]; done)
             | (refine go ?_ rfl rfl (.int _ _ _); simp [binOp]; rfl)
             | (have hb := of_decide_eq_true hcs.cons.1; refine go ?_ rfl rfl (.int _ _ _); simp [binOp, Op.intDiv, hb]; done)
             | (refine go ?_ rfl rfl (.bool _ _); simp [binOp, Op.intCmp]; done)
         · cases h)
      | (cases h
         have hb := of_decide_eq_true hcs.cons.1
         have hb' : ¬ b < 0 := by omega
         refine go ?_ rfl rfl (.int _ _ _); simp [binOp, Op.shift, hb']; done)
  · rename_i a b
    obtain rfl := hx.str_inv
    obtain rfl := hy.str_inv
    have go : ∀ {v : AVal} {cv : Value}, (binOp op t (.string a) (.string b)).run P w = .ok cv w → out.v = v → out.σ = σ → VRel F w ρ v cv → Fine P F w ρ σ out (do eqGuard op t xo yo (.string a) (.string b); binOp op t (.string a) (.string b)) := by
      intro v cv h1 h2 h3 h4
      refine Fine.same r (cv := cv) ?_ h3 (by rw [h2]; exact h4)
      simp only [eqGuard_at_string, Sem.run_bind, Sem.run_pure, Result.andThen_ok, h1]
    cases op <;> dsimp only at h <;> cases h
    · refine go ?_ rfl rfl (.str _ _); exact run_string_add_sum w a b (of_decide_eq_true hcs.cons.1)
    all_goals (refine go ?_ rfl rfl (.bool _ _); simp [binOp, Op.stringOp])
  · cases op <;> dsimp only at h
    all_goals first
      | (cases h; done)
      | skip
    · rw [Option.map_eq_some_iff] at h
      obtain ⟨b, hb, rfl⟩ := h
      obtain ⟨h1, h2, h3, h4⟩ := aeqAny_ok hb hx hy
      refine Fine.same r (cv := .bool b) ?_ rfl (.bool _ _)
      rw [h3]
      simp [h1, h2]
    · rw [Option.map_eq_some_iff] at h
      obtain ⟨b, hb, rfl⟩ := h
      obtain ⟨h1, h2, h3, h4⟩ := aeqAny_ok hb hx hy
      refine Fine.same r (cv := .bool (!b)) ?_ rfl (.bool _ _)
      rw [h4]
      simp [h1, h2]

theorem aunOp_ok {op : UnOp} {x : AVal} {cx : Value} {out : Out} (r : Rel ρ F σ w) (hx : VRel F w ρ x cx) (h : aunOp op x σ = some out) : Fine P F w ρ σ out (Op.unary op cx) := by
  unfold aunOp at h
  split at h
  · cases h; obtain rfl := hx.int_inv; exact Fine.same r rfl rfl (.int _ _ _)
  · cases h; obtain rfl := hx.int_inv; exact Fine.same r rfl rfl (.int _ _ _)
  · cases h; obtain rfl := hx.bool_inv; exact Fine.same r rfl rfl (.bool _ _)
  · cases h; obtain rfl := hx.tt_inv; exact Fine.same r rfl rfl (.tt _ _)
  · cases h

end
end Go.Abs
end
