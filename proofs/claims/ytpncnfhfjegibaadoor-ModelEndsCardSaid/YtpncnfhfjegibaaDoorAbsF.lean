import Derived.OpenShut
import Derived.ChangeOld
import Derived.SizedLaws
import Derived.ReadAgain
import Derived.ProofKit
import Derived.WalkKit
import Derived.ShutString
import Derived.Test.YtpncnfhfjegibaaDoorAbsE
section
set_option linter.unusedVariables false
set_option linter.unusedSectionVars false
set_option linter.unusedSimpArgs false
namespace Go.Abs

theorem wrapS {n : Int} (h0 : -9223372036854775808 ≤ n) (h1 : n ≤ 9223372036854775807) : IntKind.wrap .i64 n = n := by
  simp only [IntKind.wrap, IntKind.bits, IntKind.signed, Bool.true_and]
  split
  · rename_i h; simp at h; omega
  · rename_i h; simp at h; omega

section
variable {α : Type} {f : α → List AVal}
end

variable [Glob]
theorem Imp.bool {a b : Bool} (h : a = b) : Imp (.bool a) (.bool b) := by subst h; exact Imp.refl _
theorem Imp.boolt {a b : Bool} (h : a = b) : Imp (.bool a) (.tt b) := fun F w ρ c hc => by subst h; obtain rfl := hc.bool_inv; exact .tt _ _
theorem FOk.toN {P : Program} {f : FuncId} {as : List AVal} {σ σ' : AState} {v : AVal} (h : FOk P f as σ v σ') : FOkN P f as σ v σ' :=
  ⟨h.1, fun F w ρ args r hp => (h.2 F w ρ args r hp).mono fun e w' ⟨ρ', F', he, t, r'⟩ => ⟨ρ', F', he, t.toN r (Nat.le_refl _), r'⟩⟩
theorem FOk.weakCell {P : Program} {f : FuncId} {as : List AVal} {σ σ' : AState} {v v' : AVal} {id es' i j : Nat} {rs : List (List AVal)} (h : FOk P f as σ v σ') (ho : obj σ' id = .rows false es' rs) (hi : Imp ((rs.getD i []).getD j .any) v') :
    FOk P f as σ v (σ'.set id (.rows false es' (rs.set i ((rs.getD i []).set j v')))) :=
  ⟨h.1, fun F w ρ args r hp => (h.2 F w ρ args r hp).mono fun e w' ⟨ρ', F', he, t, r'⟩ => by
    obtain ⟨r2, t2⟩ := r'.weakCell ho hi
    exact ⟨ρ', F', he, Tr.trans r t t2, r2⟩⟩
theorem FOk.ext {P : Program} {f : FuncId} {as : List AVal} {σ σ' S : AState} {v : AVal} (h : FOk P f as σ v σ') (hS : S.take σ'.length = σ') : FOk P f as σ v S :=
  ⟨h.1, fun F w ρ args r hp => (h.2 F w ρ args r hp).mono fun e w' ⟨ρ', F', he, t, r'⟩ => by
    obtain ⟨r2, t2⟩ := r'.ext hS
    exact ⟨ρ', F', he, Tr.trans r t t2, r2⟩⟩
theorem FOk.fsl {P : Program} {f : FuncId} {as : List AVal} {σ σ' σ2 : AState} {b : Bool} {id es : Nat} {rs : List (List AVal)} (h : FOk P f as σ (.slc b id es 0 rs.length none) σ') (hid : σ'.getD id .dead = .rows true es rs)
    (hh : (List.range σ2.length).map (fun j => (σ'.set id .dead)[j]?) = σ2.map fun o => some (renO (old (List.range σ2.length)) o))
    (ok : (okMove σ.length (List.range σ2.length) (σ'.set id .dead).length [.any] σ2 && (σ2.drop σ.length).all AObj.live) = true) :
    FOk P f as σ (.fsl b es rs none) σ2 := by
  have h2 := h.freeze (x := (.fsl b es rs none, ⟨[.fsl b es rs none], σ'.set id .dead, [decide (0 + rs.length ≤ rs.length) = true]⟩)) (by
    unfold freezeA freezeV
    have : objP σ' id = .rows true es rs := by unfold objP obj; rw [hid]; rfl
    simp [this]) (allP_of ⟨by simp, trivial⟩)
  refine h2.toN.move (List.range σ2.length) rfl hh ?_
  rw [Bool.and_eq_true] at ok ⊢
  refine ⟨?_, ok.2⟩
  have h1 := ok.1
  unfold okMove at h1 ⊢
  simp only [Bool.and_eq_true] at h1 ⊢
  exact ⟨⟨h1.1.1, by simp [inScopeL, inScope]⟩, h1.2⟩

def freezeAL : AState → List AVal → Option (List AVal × AState × List Prop)
  | σ, [] => some ([], σ, [])
  | σ, v :: vs => (freezeA σ v).bind fun x => (freezeAL x.2.σ vs).map fun y => (x.1 :: y.1, y.2.1, x.2.cs ++ y.2.2)
theorem freezeAL_ok {ρ : RMap} {w : World} : ∀ {σ : AState} {F : FS} (vs : List AVal) (cs : List Value) {x : List AVal × AState × List Prop}, Rel ρ F σ w → PW F w ρ vs cs → freezeAL σ vs = some x → allP x.2.2 →
    ∃ F', Rel ρ F' x.2.1 w ∧ Tr σ x.2.1 ρ ρ F F' w w ∧ PW F' w noId x.1 cs
  | σ, F, [], cs, x, r, h, hx, _ => by
    simp only [freezeAL, Option.some.injEq] at hx
    subst hx
    match cs, h with
    | [], _ => exact ⟨F, r, Tr.refl _ _ _ _, PW.nil⟩
    | _ :: _, h => have := h.1; simp at this
  | σ, F, v :: vs, cs, x, r, h, hx, hcs => by
    match cs, h with
    | [], h => have := h.1; simp at this
    | c :: cs, h =>
      simp only [freezeAL] at hx
      rw [Option.bind_eq_some_iff] at hx
      obtain ⟨y, hy, hx⟩ := hx
      rw [Option.map_eq_some_iff] at hx
      obtain ⟨z, hz, hx⟩ := hx
      subst hx
      obtain ⟨F1, r1, t1, hv⟩ := freezeA_ok r (h.2 0 v c rfl rfl) hy hcs.append.1
      have h' : PW F1 w ρ vs cs := ⟨h.tail.1, fun i a b e1 e2 => (h.tail.2 i a b e1 e2).tr r t1⟩
      obtain ⟨F2, r2, t2, hp⟩ := freezeAL_ok vs cs r1 h' hz hcs.append.2
      exact ⟨F2, r2, Tr.trans r t1 t2, .cons (hv.tr0 r1 t2) hp⟩
theorem FOk.freezeT {P : Program} {f : FuncId} {as : List AVal} {σ σ' : AState} {vs : List AVal} (h : FOk P f as σ (.tuple vs) σ') {x : List AVal × AState × List Prop} (hx : freezeAL σ' vs = some x) (hcs : allP x.2.2) : FOk P f as σ (.tuple x.1) x.2.1 :=
  ⟨h.1, fun F w ρ args r hp => (h.2 F w ρ args r hp).mono fun e w' ⟨ρ', F', he, t, r'⟩ => by
    obtain ⟨y, he, hy⟩ := he.value rfl
    cases hy with
    | tuple _ _ cv hl hh =>
      have pw : PW F' w' ρ' vs cv.toList := ⟨by rw [Array.length_toList]; exact hl, fun i v u h1 h2 => hh i v u h1 (by rw [← Array.getElem?_toList]; exact h2)⟩
      obtain ⟨F2, r2, t2, hv⟩ := freezeAL_ok _ _ r' pw hx hcs
      have hv2 : VRel F2 w' ρ' (.tuple x.1) (.tuple cv) := .tuple _ _ _ (by rw [hv.1, Array.length_toList]) fun i v u h1 h2 => (hv.2 i v u h1 (by rw [Array.getElem?_toList]; exact h2)).pure
      exact ⟨ρ', F2, .inl ⟨_, he, hv2⟩, Tr.trans r t t2, r2⟩⟩
theorem Rel.killAll {ρ : RMap} {F : FS} {σ : AState} {w : World} (r : Rel ρ F σ w) (n : Nat) (hn : n ≤ σ.length) :
    Rel (fun id => if id < n then ρ id else none) F (List.replicate n .dead) w := by
  have hdead : ∀ {id : Nat} {o : AObj}, (List.replicate n AObj.dead)[id]? = some o → o = .dead := fun {id o} h => by
    rw [List.getElem?_replicate] at h; split at h
    · cases h; rfl
    · cases h
  have hsome : ∀ {id b}, (if id < n then ρ id else none) = some b → ρ id = some b := fun {id b} h => by
    split at h
    · exact h
    · cases h
  refine ⟨fun id o b h _ => by rw [hdead h]; trivial, fun id id' o o' b h _ h3 => (by rw [hdead h] at h3; cases h3), fun b hb => ⟨(r.fr b hb).1, fun ⟨id, o, h1, h2, _⟩ => (by rw [hdead h1] at h2; cases h2)⟩, fun id b h => r.lt id b (hsome h), fun id h => ?_⟩
  rw [List.length_replicate] at h
  rw [if_neg (by omega)]
theorem FOk.pan {P : Program} {f : FuncId} {as : List AVal} {σ σ' : AState} {t : TypeId} (h : FOk P f as σ (.pan t) σ') : FOk P f as σ (.pan t) (List.replicate σ.length .dead) :=
  ⟨h.1, fun F w ρ args r hp => (h.2 F w ρ args r hp).mono fun e w' ⟨ρ', F', he, tr, r'⟩ => by
    rcases he with ⟨v, _, hv⟩ | ⟨t', ht, rfl⟩
    · cases hv
    cases ht
    have hdead : ∀ {id : Nat} {o : AObj}, (List.replicate σ.length AObj.dead)[id]? = some o → o = .dead := fun {id o} h => by
      rw [List.getElem?_replicate] at h; split at h
      · cases h; rfl
      · cases h
    refine ⟨_, F', .inr ⟨t, rfl, rfl⟩, ⟨fun id b h => ?_, tr.frz, tr.os, tr.tape, tr.output, tr.size, tr.row, tr.keep, tr.newF, fun id b h => ?_, by simp, fun id o h1 h2 _ => (by rw [hdead h1] at h2; cases h2), ⟨tr.gho.keepO, fun id o b x h1 h2 _ _ => (by rw [hdead h1] at h2; cases h2)⟩⟩, r'.killAll σ.length tr.len⟩
    · rcases Nat.lt_or_ge id σ.length with hl | hl
      · rw [if_pos hl]; exact tr.map id b h
      · rw [r.dom id hl] at h; cases h
    · try dsimp only at h
      split at h
      · rename_i hl
        rcases tr.newρ id b h with h1 | ⟨h1, _⟩
        · exact .inl h1
        · omega
      · cases h⟩
theorem FOk.lift {P : Program} {f : FuncId} {as : List AVal} {σ σ' : AState} {v : AVal} (h : FOk P f as σ v σ') (i : Nat) (hi : (obj σ' i).live = true) :
    FOk P f as σ (ren (liftE i σ'.length) v) (liftH i σ') :=
  ⟨h.1, fun F w ρ args r hp => (h.2 F w ρ args r hp).mono fun e w' ⟨ρ', F', he, t, r'⟩ => by
    obtain ⟨r2, t2, hE⟩ := r'.lift hi
    exact ⟨_, F', he.mono (fun x hx => VRel.ren hx hE) (fun t h => by rw [h]; rfl), Tr.trans r t t2, r2⟩⟩
end Go.Abs
end

section
set_option linter.unusedVariables false
set_option linter.unusedSimpArgs false
open Go.RowKit Go.ChangeShapes Go.WideShapes
namespace Go.Abs

inductive K where
  | bool
  | int (k : IntKind)
  | str
  | sl (bytes : Nat) (es : List K)

mutual
def okK : K → AVal → Prop
  | .bool, v => ∃ b, v = .bool b
  | .int k, v => ∃ n, v = .int k n ∧ (Lit.int k n).wf = true
  | .str, v => ∃ s, v = .str s ∧ s.size ≤ reachBytes
  | .sl b ks, v => ∃ n rows, v = .fsl n ks.length rows none ∧ (n = true → rows = []) ∧ rows.length * b ≤ reachBytes ∧ rows.length ≤ maxLen ∧ ∀ row ∈ rows, okKs ks row
def okKs : List K → List AVal → Prop
  | [], vs => vs = []
  | k :: ks, vs => ∃ v us, vs = v :: us ∧ okK k v ∧ okKs ks us
end

theorem okKs_len : ∀ {ks : List K} {vs : List AVal}, okKs ks vs → vs.length = ks.length
  | [], vs, h => by simp only [okKs] at h; subst h; rfl
  | k :: ks, vs, h => by
    simp only [okKs] at h
    obtain ⟨v, us, rfl, _, h⟩ := h
    simp [okKs_len h]
theorem okKs_app : ∀ {a b : List K} {xs ys : List AVal}, okKs a xs → okKs b ys → okKs (a ++ b) (xs ++ ys)
  | [], b, xs, ys, h, h' => by simp only [okKs] at h; subst h; exact h'
  | k :: a, b, xs, ys, h, h' => by
    simp only [okKs] at h
    obtain ⟨v, us, rfl, h1, h2⟩ := h
    simp only [List.cons_append, okKs]
    exact ⟨v, us ++ ys, rfl, h1, okKs_app h2 h'⟩

section
variable (P : Program)
def fieldsK (r : TypeId → Option (List K)) : List Field → Nat → Option (List K)
  | [], _ => some []
  | f :: fs, off => (r f.type).bind fun ks => if f.offset == off && P.cellsOf f.type == ks.length then (fieldsK r fs (off + ks.length)).map (ks ++ ·) else none
def kOf : Nat → TypeId → Option (List K)
  | 0, _ => none
  | d + 1, t =>
    match P.underlying t with
    | some .bool => some [.bool]
    | some (.int k) => some [.int k]
    | some .string => some [.str]
    | some (.slice e) => (kOf d e).bind fun ks => if ks.length == P.cellsOf e && P.cellsOf e != 0 then some [.sl (P.bytesOf e) ks] else none
    | some (.struct fs) => (fieldsK P (kOf d) fs.toList 0).bind fun ks => if P.cellsOf t == ks.length then some ks else none
    | some (.array n e) => (kOf d e).bind fun ks => if ks.length == P.cellsOf e && P.cellsOf t == n * ks.length then some (List.replicate n ks).flatten else none
    | _ => none
end

section
variable {H : Type} {enc : TypeId × Value → H} {P : Program} {w : World} {base : Nat} {spare : Nat → Bool} {held : Bool}

theorem cells_get {a : Addr} {n : Nat} {cs : List Value} (h : w.cells? base a n = some cs) : cs.length = n ∧ ∀ j, j < n → ∃ v, cs[j]? = some v ∧ w.cell? (a.add j) = some v := by
  unfold World.cells? at h
  split at h
  · have hl := mapM_some_length h
    refine ⟨by simpa using hl, fun j hj => ?_⟩
    have := mapM_some_get h j j (by simp [hj])
    have hlt : j < cs.length := by rw [hl]; simpa using hj
    exact ⟨cs[j], List.getElem?_eq_getElem hlt, by rw [this, List.getElem?_eq_getElem hlt]⟩
  · cases h

def old' (w : World) : FS := FS.of fun b => b < w.heap.size

abbrev ReadsAs (w : World) (ks : List K) (cells : List AVal) (cs : List Value) : Prop := PW (old' w) w noId cells cs ∧ okKs ks cells

theorem fields_read {r : TypeId → Option (List K)} {tr : TypeId → List Value → Option (DataW H × List MemPlace)}
    (ih : ∀ t cs x ks, tr t cs = some x → r t = some ks → (∀ n ∈ x.1.weights P t, n ≤ reachBytes) → ∃ cells, ReadsAs w ks cells cs) :
    ∀ (fs : List Field) (off : Nat) (cs : List Value) (ks : List K) (xs : List (DataW H × List MemPlace)), fs.mapM (fun f => tr f.type ((cs.drop f.offset).take (P.cellsOf f.type))) = some xs → fieldsK P r fs off = some ks →
      off + ks.length = cs.length → (∀ n ∈ DataW.weightsEach P (fs.map (·.type)) (xs.map (·.1)), n ≤ reachBytes) → ∃ cells, ReadsAs w ks cells (cs.drop off)
  | [], off, cs, ks, xs, _, h2, h3, _ => by
    cases h2
    simp only [List.length_nil, Nat.add_zero] at h3
    exact ⟨[], ⟨by simp; omega, fun i x y h => by simp at h⟩, by simp [okKs]⟩
  | f :: fs, off, cs, ks, xs, h1, h2, h3, h4 => by
    rw [List.mapM_cons] at h1
    simp only [Option.bind_eq_bind, Option.bind_eq_some_iff, Option.pure_def, Option.some.injEq] at h1
    obtain ⟨x, hx, ys, hy, rfl⟩ := h1
    simp only [fieldsK, Option.bind_eq_some_iff] at h2
    obtain ⟨k1, hk1, h2⟩ := h2
    split at h2
    · rename_i hc
      simp only [Bool.and_eq_true, beq_iff_eq] at hc
      obtain ⟨ho, hl⟩ := hc
      rw [Option.map_eq_some_iff] at h2
      obtain ⟨k2, hk2, rfl⟩ := h2
      simp only [List.length_append] at h3
      simp only [List.map_cons, DataW.weightsEach, List.mem_append] at h4
      obtain ⟨c1, p1, o1⟩ := ih _ _ _ _ hx hk1 (fun n hn => h4 n (.inl hn))
      obtain ⟨c2, p2, o2⟩ := fields_read ih fs (off + k1.length) cs k2 ys hy hk2 (by omega) (fun n hn => h4 n (.inr hn))
      refine ⟨c1 ++ c2, ⟨?_, ?_⟩, okKs_app o1 o2⟩
      · have l1 := p1.1; have l2 := p2.1
        have l3 := okKs_len o1
        simp only [List.length_append, List.length_drop, List.length_take] at *
        omega
      · intro i a b ha hb
        have l3 := okKs_len o1
        rw [List.getElem?_append] at ha
        rw [List.getElem?_drop] at hb
        split at ha
        · rename_i hi
          refine p1.2 i a b ha ?_
          rw [ho, hl, List.getElem?_take, if_pos (by omega), List.getElem?_drop]; exact hb
        · rename_i hi
          refine p2.2 (i - c1.length) a b ha ?_
          rw [List.getElem?_drop, show off + k1.length + (i - c1.length) = off + i by omega]; exact hb
    · cases h2

theorem array_read {ks : List K} {e : TypeId} {c : Nat} {tr : TypeId → List Value → Option (DataW H × List MemPlace)} (hc : c = ks.length)
    (ih : ∀ cs x, tr e cs = some x → (∀ n ∈ x.1.weights P e, n ≤ reachBytes) → ∃ cells, ReadsAs w ks cells cs) :
    ∀ (n i : Nat) (cs : List Value) (xs : List (DataW H × List MemPlace)), (List.range' i n).mapM (fun i => tr e ((cs.drop (i * c)).take c)) = some xs → (i + n) * c = cs.length →
      (∀ m ∈ DataW.weightsAll P e (xs.map (·.1)), m ≤ reachBytes) → ∃ cells, ReadsAs w (List.replicate n ks).flatten cells (cs.drop (i * c))
  | 0, i, cs, xs, _, h3, _ => by
    rw [Nat.add_zero] at h3
    exact ⟨[], ⟨by simp [← h3], fun i x y h => by simp at h⟩, by simp [okKs]⟩
  | n + 1, i, cs, xs, h1, h3, h4 => by
    rw [List.range'_succ, List.mapM_cons] at h1
    simp only [Option.bind_eq_bind, Option.bind_eq_some_iff, Option.pure_def, Option.some.injEq] at h1
    obtain ⟨x, hx, ys, hy, rfl⟩ := h1
    simp only [List.map_cons, DataW.weightsAll, List.mem_append] at h4
    obtain ⟨c1, p1, o1⟩ := ih _ _ hx (fun n hn => h4 n (.inl hn))
    obtain ⟨c2, p2, o2⟩ := array_read hc ih n (i + 1) cs ys hy (by rw [← h3]; congr 1; omega) (fun n hn => h4 n (.inr hn))
    have hfit : i * c + c ≤ cs.length := by
      rw [← h3]
      have : (i + 1) * c ≤ (i + (n + 1)) * c := Nat.mul_le_mul_right _ (by omega)
      rw [Nat.succ_mul] at this; exact this
    refine ⟨c1 ++ c2, ⟨?_, ?_⟩, by rw [List.replicate_succ, List.flatten_cons]; exact okKs_app o1 o2⟩
    · have l2 := p2.1
      have l3 := okKs_len o1
      rw [Nat.succ_mul, List.length_drop] at l2
      rw [List.length_append, List.length_drop, l2, l3, ← hc]
      omega
    · intro j a b ha hb
      have l3 := okKs_len o1
      rw [List.getElem?_append] at ha
      rw [List.getElem?_drop] at hb
      split at ha
      · rename_i hi
        refine p1.2 j a b ha ?_
        rw [List.getElem?_take, if_pos (by omega), List.getElem?_drop]; exact hb
      · rename_i hi
        refine p2.2 (j - c1.length) a b ha ?_
        rw [List.getElem?_drop, Nat.succ_mul, show i * c + c + (j - c1.length) = i * c + j by omega]; exact hb

theorem weightsAll_mem {e : TypeId} : ∀ {ds : List (DataW H)} {d : DataW H} {n : Nat}, d ∈ ds → n ∈ d.weights P e → n ∈ DataW.weightsAll P e ds
  | d' :: ds, d, n, h, hn => by
    simp only [DataW.weightsAll, List.mem_append]
    rcases List.mem_cons.1 h with rfl | h
    · exact .inl hn
    · exact .inr (weightsAll_mem h hn)

theorem trod_struct' {t : TypeId} {fs : Array Field} (hu : P.underlying t = some (.struct fs)) (fuel : Nat) (cs : List Value) : DataW.trod enc P w base spare held (fuel + 1) t cs =
    if cs.length = P.cellsOf t then (fs.toList.mapM fun f => DataW.trod enc P w base spare held fuel f.type ((cs.drop f.offset).take (P.cellsOf f.type))).map fun xs => (.agg (xs.map (·.1)), xs.flatMap (·.2)) else none := by
  simp only [DataW.trod, hu]
theorem trod_array' {t e : TypeId} {n : Nat} (hu : P.underlying t = some (.array n e)) (fuel : Nat) (cs : List Value) : DataW.trod enc P w base spare held (fuel + 1) t cs =
    if cs.length = P.cellsOf t then ((List.range n).mapM fun i => DataW.trod enc P w base spare held fuel e ((cs.drop (i * P.cellsOf e)).take (P.cellsOf e))).map fun xs => (.agg (xs.map (·.1)), xs.flatMap (·.2)) else none := by
  simp only [DataW.trod, hu]

theorem trod_read : ∀ (fuel dep : Nat) (t : TypeId) (cs : List Value) (x : DataW H × List MemPlace) (ks : List K), DataW.trod enc P w base spare held fuel t cs = some x → kOf P dep t = some ks → (∀ n ∈ x.1.weights P t, n ≤ reachBytes) →
    ∃ cells, ReadsAs w ks cells cs
  | 0, dep, t, cs, x, ks, h, _, _ => by simp [DataW.trod] at h
  | fuel + 1, 0, t, cs, x, ks, h, hk, _ => by cases hk
  | fuel + 1, dep + 1, t, cs, x, ks, h, hk, hw => by
    have ih := fun (t : TypeId) (cs : List Value) (x : DataW H × List MemPlace) (ks : List K) => trod_read fuel dep t cs x ks
    unfold kOf at hk
    have h0 := h
    unfold DataW.trod at h
    have one : ∀ {k : K} {v : AVal} {c : Value}, VRel (old' w) w noId v c → okK k v → ∃ cells, ReadsAs w [k] cells [c] := fun {k v c} h1 h2 => ⟨[v], .cons h1 .nil, by simp only [okKs]; exact ⟨v, [], rfl, h2, rfl⟩⟩
    split at hk
    · rename_i hu
      cases hk
      rw [hu] at h
      split at h <;> simp_all
      exact one (.bool _ _) (by simp [okK])
    · rename_i k hu
      cases hk
      rw [hu] at h
      split at h <;> simp_all
      obtain ⟨⟨rfl, hwf⟩, rfl⟩ := h
      exact one (.int _ _ _) (by simp [okK, hwf])
    · rename_i hu
      cases hk
      rw [hu] at h
      split at h <;> simp_all
      obtain ⟨hs, rfl⟩ := h
      rename_i s
      refine one (.str _ s) ?_
      simp only [okK]
      exact ⟨s, rfl, hw _ (by simp [DataW.weights])⟩
    · rename_i e hu
      rw [Option.bind_eq_some_iff] at hk
      obtain ⟨ke, hke, hk⟩ := hk
      split at hk
      · rename_i hc
        cases hk
        simp only [Bool.and_eq_true, beq_iff_eq, bne_iff_ne] at hc
        obtain ⟨hl, hn0⟩ := hc
        rw [hu] at h
        split at h <;> try (simp at h; done)
        all_goals first
          | (rename_i e1; cases e1; done)
          | skip
        · rename_i e1 e2
          exact one (v := .fsl true ke.length [] none) (.fnil _ _ _ (by simp)) (by simp only [okK]; exact ⟨true, [], rfl, by simp, by simp, by simp, by simp⟩)
        · rename_i e' a len cap e1
          cases e1
          dsimp only at h
          split at h
          · rename_i hcap
            rw [Option.bind_eq_some_iff] at h
            obtain ⟨elems, hel, h⟩ := h
            rw [Option.map_eq_some_iff] at h
            obtain ⟨rest, hrest, rfl⟩ := h
            have hlen : elems.length = len := by simpa using mapM_some_length hel
            simp only [DataW.weights, hu, List.mem_cons, List.mem_append, List.length_map] at hw
            have hsz := hw _ (.inl rfl)
            rcases Nat.eq_zero_or_pos len with h0 | h0
            · subst h0
              exact one (v := .fsl false ke.length [] none) (.femp _ _ _ _ _ (by simp)) (by simp [okK])
            · have hget : ∀ i, i < len → ∃ (c : List AVal) (u : List Value), w.cells? base (a.add (i * P.cellsOf e)) (P.cellsOf e) = some u ∧ ReadsAs w ke c u := by
                intro i hi
                have := mapM_some_get hel i i (by simp [hi])
                have hlt : i < elems.length := by omega
                rw [List.getElem?_eq_getElem hlt, Option.bind_eq_some_iff] at this
                obtain ⟨u, hu1, hu2⟩ := this
                obtain ⟨c, hc⟩ := ih _ _ _ _ hu2 hke (fun n hn => hw n (.inr (.inl (weightsAll_mem (List.mem_map.2 ⟨_, List.getElem_mem hlt, rfl⟩) hn))))
                exact ⟨c, u, hu1, hc⟩
              have hspot : a.spot = none ∧ a.block < w.heap.size := by
                obtain ⟨c, u, h1, _⟩ := hget 0 h0
                obtain ⟨_, h2⟩ := cells_get h1
                obtain ⟨v, _, h3⟩ := h2 0 (by omega)
                simp only [Nat.zero_mul, Addr.add, if_true] at h3
                unfold World.cell? at h3
                split at h3
                · rename_i hb
                  refine ⟨?_, (Array.getElem?_eq_some_iff.1 hb).1⟩
                  split at h3
                  · cases h3
                  · rename_i hs; cases hs' : a.spot with
                    | none => rfl
                    | some s => simp [hs'] at hs
                · cases h3
              obtain ⟨b, off, sp⟩ := a
              obtain ⟨hsp, hb⟩ := hspot
              dsimp only at hsp hb
              subst hsp
              let g : Nat → List AVal × List Value := fun i => if hi : i < len then (Classical.choose (hget i hi), Classical.choose (Classical.choose_spec (hget i hi))) else ([], [])
              have hg : ∀ i, i < len → w.cells? base ((⟨b, off, none⟩ : Addr).add (i * P.cellsOf e)) (P.cellsOf e) = some (g i).2 ∧ ReadsAs w ke (g i).1 (g i).2 := fun i hi => by
                have := Classical.choose_spec (Classical.choose_spec (hget i hi))
                simp only [g, hi, dif_pos]
                exact this
              have hrow : ∀ (i : Nat) (row : List AVal), ((List.range len).map fun i => (g i).1)[i]? = some row → i < len ∧ row = (g i).1 := fun i row h => by
                simp only [List.getElem?_map, Option.map_eq_some_iff] at h
                obtain ⟨k, hk, rfl⟩ := h
                have hi : i < len := by have := (List.getElem?_eq_some_iff.1 hk).1; simpa using this
                rw [List.getElem?_range hi] at hk
                cases hk
                exact ⟨hi, rfl⟩
              have hcell : ∀ i j, i < len → j < P.cellsOf e → (g i).2[j]? = some ((g i).2.getD j undef) ∧ w.cell? ⟨b, off + i * P.cellsOf e + j, none⟩ = some ((g i).2.getD j undef) := fun i j hi hj => by
                obtain ⟨_, h2⟩ := cells_get (hg i hi).1
                obtain ⟨v, h3, h4⟩ := h2 j hj
                rw [add_addr, add_addr] at h4
                rw [List.getD_eq_getElem?_getD, h3]
                exact ⟨rfl, h4⟩
              have hwd : ∀ (i : Nat) (row : List AVal), ((List.range len).map fun i => (g i).1)[i]? = some row → row.length = ke.length := fun i row h => by
                obtain ⟨hi, rfl⟩ := hrow i row h
                exact okKs_len (hg i hi).2.2
              refine one (v := .fsl false ke.length ((List.range len).map fun i => (g i).1) none) ?_ ?_
              · have := VRel.fsl (F := old' w) (w := w) noId ke.length ((List.range len).map fun i => (g i).1) b off cap none (fun i j => (g i).2.getD j undef) hb (by simpa using hcap.2.1) (by simp) hwd
                  (fun i j row v h1 h2 => ?_) (fun i j row v h1 h2 => ?_)
                · simpa using this
                · obtain ⟨hi, rfl⟩ := hrow i row h1
                  have hj : j < P.cellsOf e := by rw [← hl, ← hwd i _ h1]; exact (List.getElem?_eq_some_iff.1 h2).1
                  rw [hl]; exact (hcell i j hi hj).2
                · obtain ⟨hi, rfl⟩ := hrow i row h1
                  have hj : j < P.cellsOf e := by rw [← hl, ← hwd i _ h1]; exact (List.getElem?_eq_some_iff.1 h2).1
                  exact (hg i hi).2.1.2 j v _ h2 (hcell i j hi hj).1
              · simp only [okK]
                refine ⟨false, _, rfl, by simp, ?_, by simp; omega, fun row hr => ?_⟩
                · simp only [List.length_map, List.length_range]
                  exact Nat.le_trans (Nat.mul_le_mul_right _ (by omega)) hsz
                · obtain ⟨i, hi⟩ := List.mem_iff_getElem?.1 hr
                  obtain ⟨hi', rfl⟩ := hrow i row hi
                  exact (hg i hi').2.2
          · cases h
      · cases hk
    · rename_i fs hu
      rw [Option.bind_eq_some_iff] at hk
      obtain ⟨ke, hke, hk⟩ := hk
      split at hk
      · rename_i hc
        cases hk
        simp only [beq_iff_eq] at hc
        have h := (trod_struct' (w := w) (enc := enc) hu fuel cs).symm.trans h0
        split at h
        · rename_i hl
          rw [Option.map_eq_some_iff] at h
          obtain ⟨xs, hp, rfl⟩ := h
          simp only [DataW.weights, hu] at hw
          have := fields_read (P := P) (w := w) ih fs.toList 0 cs _ _ hp hke (by omega) hw
          simpa using this
        · cases h
      · cases hk
    · rename_i n e hu
      rw [Option.bind_eq_some_iff] at hk
      obtain ⟨ke, hke, hk⟩ := hk
      split at hk
      · rename_i hc
        cases hk
        simp only [Bool.and_eq_true, beq_iff_eq] at hc
        have h := (trod_array' (w := w) (enc := enc) hu fuel cs).symm.trans h0
        split at h
        · rename_i hl
          rw [Option.map_eq_some_iff] at h
          obtain ⟨xs, hp, rfl⟩ := h
          simp only [DataW.weights, hu] at hw
          rw [List.range_eq_range'] at hp
          have := array_read (P := P) (w := w) (ks := ke) (e := e) (c := P.cellsOf e) hc.1.symm (fun cs x h1 h2 => ih _ _ _ _ h1 hke h2) n 0 cs _ hp (by rw [Nat.zero_add, ← hc.1]; omega) hw
          simpa using this
        · cases h
      · cases hk
    · cases hk

end
end Go.Abs
end

section
set_option linter.unusedVariables false
set_option linter.unusedSectionVars false
set_option linter.unusedSimpArgs false
open Go.ChangeShapes Go.WideShapes Go.ChangeAt Go.RowKit
namespace Go.Abs
variable [Glob]

section
variable {H : Type} {enc : TypeId × Value → H} {P : Program} {w : World}

def okArg (P : Program) (t : TypeId) (ks : List K) (a : AVal) : Prop := if isAggT P t then ∃ cells, a = .agg cells ∧ okKs ks cells else okKs ks [a]
def okArgs (P : Program) : List TypeId → List (List K) → List AVal → Prop
  | [], [], as => as = []
  | t :: ts, ks :: kss, as => ∃ a bs, as = a :: bs ∧ okArg P t ks a ∧ okArgs P ts kss bs
  | _, _, _ => False
def kinds (P : Program) (d : Nat) : List TypeId → Option (List (List K))
  | [] => some []
  | t :: ts => (kOf P d t).bind fun ks => (kinds P d ts).map (ks :: ·)

theorem cells_one {b0 : Nat} {d : Nat} {t : TypeId} {ks : List K} {v : Value} (hk : kOf P d t = some ks) (ha : isAggT P t = false) (hv : Value.okWide P w .any b0 t v) : v.cells.toList = [v] := by
  cases d with
  | zero => cases hk
  | succ d =>
    have key : ∀ cs, v ≠ .agg cs := by
      rintro cs rfl
      unfold kOf at hk
      unfold isAggT at ha
      unfold Value.okWide Cell.okWide Cell.ok at hv
      cases hu : P.underlying t with
      | none => simp [hu] at hk
      | some u => rw [hu] at hk ha hv; cases u <;> simp_all
    cases v <;> first | rfl | exact absurd rfl (key _)
theorem cells_agg {b0 : Nat} {t : TypeId} {v : Value} (ha : isAggT P t = true) (hv : Value.okWide P w .any b0 t v) : ∃ cs, v = .agg cs := by
  unfold isAggT at ha
  unfold Value.okWide at hv
  cases hu : P.underlying t with
  | none => simp [hu] at ha
  | some u =>
    rw [hu] at ha hv
    cases u <;> simp at ha hv
    · obtain ⟨cs, h, _⟩ := hv; exact ⟨cs, h⟩
    · obtain ⟨cs, h, _⟩ := hv; exact ⟨cs, h⟩

theorem args_read {base b0 d : Nat} {spare : Nat → Bool} {held : Bool} : ∀ {ts : List TypeId} {vs : List Value} {ds : List (DataW H)} {ps : List MemPlace} {kss : List (List K)}, DataW.TrodAll enc P w base spare held ts vs ds ps →
    (∀ (j : Nat) t v, ts[j]? = some t → vs[j]? = some v → Value.okWide P w .any b0 t v) → (∀ n ∈ DataW.weightsEach P ts ds, n ≤ reachBytes) → kinds P d ts = some kss → ∃ as, PW (old' w) w noId as vs ∧ okArgs P ts kss as
  | [], vs, ds, ps, kss, h, _, _, hk => by
    obtain ⟨rfl, _, _⟩ := trodAll_nil h
    cases hk
    exact ⟨[], .nil, rfl⟩
  | t :: ts, vs, ds, ps, kss, h, hv, hw, hk => by
    obtain ⟨v, vs, d0, ds, p, q, rfl, rfl, rfl, ⟨fuel, h1⟩, h2⟩ := trodAll_cons h
    simp only [kinds, Option.bind_eq_some_iff, Option.map_eq_some_iff] at hk
    obtain ⟨ks, hks, kss, hkss, rfl⟩ := hk
    simp only [DataW.weightsEach, List.mem_append] at hw
    obtain ⟨bs, p2, o2⟩ := args_read h2 (fun j t v e1 e2 => hv (j + 1) t v (by simpa using e1) (by simpa using e2)) (fun n hn => hw n (.inr hn)) hkss
    obtain ⟨cells, p1, o1⟩ := trod_read fuel d t _ _ _ h1 hks (fun n hn => hw n (.inl hn))
    have hv0 := hv 0 t v rfl rfl
    cases ha : isAggT P t with
    | true =>
      obtain ⟨cs, rfl⟩ := cells_agg ha hv0
      refine ⟨.agg cells :: bs, .cons (by have := p1.agg; simpa [Value.cells] using this) p2, ?_⟩
      exact ⟨_, _, rfl, by unfold okArg; rw [if_pos ha]; exact ⟨_, rfl, o1⟩, o2⟩
    | false =>
      rw [cells_one hks ha hv0] at p1
      match cells, p1 with
      | [a], p1 => exact ⟨a :: bs, .cons (p1.2 0 a v rfl rfl) p2, _, _, rfl, by unfold okArg; rw [if_neg (by simp [ha])]; exact o1, o2⟩
      | [], p1 => have := p1.1; simp at this
      | a :: b :: c, p1 => have := p1.1; simp at this

theorem carry_all {base : Nat} {spare : Nat → Bool} {held : Bool} {w' : World} : ∀ {ts : List TypeId} {vs : List Value} {ds : List (DataW H)} {ps : List MemPlace}, DataW.TrodAll enc P w base spare held ts vs ds ps →
    (∀ p ∈ ps, w.sameAt w' p) → DataW.TrodAll enc P w' base spare held ts vs ds ps
  | [], vs, ds, ps, h, _ => by obtain ⟨rfl, rfl, rfl⟩ := trodAll_nil h; exact trodAll_mk0
  | t :: ts, vs, ds, ps, h, hs => by
    obtain ⟨v, vs, d0, ds, p, q, rfl, rfl, rfl, ⟨fuel, h1⟩, h2⟩ := trodAll_cons h
    exact trodAll_cons_mk ⟨fuel, DataW.trod_carry fuel _ _ _ h1 (fun x hx => hs x (List.mem_append_left _ hx))⟩ (carry_all h2 (fun x hx => hs x (List.mem_append_right _ hx)))

theorem law_calls {f : FuncId} {fn : Func} {s : ChangeSpec} {W : World} {base dep : Nat} {args : Array Value} {ds gs : List (DataW H)} {before : List MemPlace} {kss : List (List K)} {tb : TypeId}
    (hk : kinds P dep fn.params.toList = some kss)
    (hs : s.vars = []) (hfn : ∀ ds : List (DataW H), ds.length = fn.params.toList.length → (s.fn H (ds ++ [])).results = [.lit (.bool true)] ∧ (s.fn H (ds ++ [])).args = ds ∧ (s.fn H (ds ++ [])).vars = [])
    (hr : fn.resultTypes.toList = [tb]) (htb : P.underlying tb = some .bool) (hsz : fn.resultTypes.size = 1)
    (hlaid : laidOutB P = true) (hmaps : mapsRowed P = true) (hslc : ((List.range P.types.size).all fun t => match P.underlying t with | some (.slice e) => decide (0 < P.cellsOf e) | _ => true) = true) (hpt : fn.params.toList.all (fun t => decide (t < P.types.size)) = true)
    (law : ∀ as, okArgs P fn.params.toList kss as → ∃ σ', FOk P f as [] (.bool true) σ')
    (hg : GOk (FS.of fun b => b < W.heap.size) W) (hval : ∀ (j : Nat) t v, fn.params[j]? = some t → args[j]? = some v → Value.okWide P W .any base t v)
    (hW : DataW.Whole enc P fn.params.toList s.vars false W args.toList ds gs before)
    (hwt : (DataW.weightsEach P (fn.params.toList ++ s.plain.varTypes P) (ds ++ gs)).all (· ≤ reachBytes) = true) :
    Calls P f args W fun e W' => ∃ v, e = .returned v ∧ s.post enc P fn false true false false W args v W' := by
  have hW' := hW
  have hlt := hW.lt
  obtain ⟨p, q, hA, hV, rfl, hfz, hnd⟩ := hW
  rw [hs] at hV
  obtain ⟨rfl, rfl⟩ := trodVars_none hV
  have hdl : ds.length = fn.params.toList.length := by
    have key : ∀ {ts : List TypeId} {vs : List Value} {ds : List (DataW H)} {ps : List MemPlace}, DataW.TrodAll enc P W 0 (fun _ => true) true ts vs ds ps → ds.length = ts.length := by
      intro ts
      induction ts with
      | nil => intro vs ds ps h; obtain ⟨_, rfl, _⟩ := trodAll_nil h; rfl
      | cons t ts ih => intro vs ds ps h; obtain ⟨v, vs, d0, ds, p, q, rfl, rfl, rfl, _, h2⟩ := trodAll_cons h; simp [ih h2]
    exact key hA
  have hw2 : ∀ n ∈ DataW.weightsEach P fn.params.toList ds, n ≤ reachBytes := by
    intro n hn
    have key : ∀ (ts ts' : List TypeId) (ds ds' : List (DataW H)), n ∈ DataW.weightsEach P ts ds → n ∈ DataW.weightsEach P (ts ++ ts') (ds ++ ds') := by
      intro ts
      induction ts with
      | nil => intro ts' ds ds' h; cases ds <;> simp [DataW.weightsEach] at h
      | cons t ts ih =>
        intro ts' ds ds' h
        cases ds with
        | nil => simp [DataW.weightsEach] at h
        | cons d ds =>
          simp only [DataW.weightsEach, List.mem_append, List.cons_append] at h ⊢
          rcases h with h | h
          · exact .inl h
          · exact .inr (ih ts' ds ds' h)
    have := List.all_eq_true.1 hwt n (key _ _ _ _ hn)
    simpa using this
  obtain ⟨as, hp, hok⟩ := args_read hA (fun j t v e1 e2 => hval j t v (by simpa using e1) (by simpa using e2)) hw2 hk
  obtain ⟨σ', hlaw⟩ := law as hok
  have hcall := hlaw.law (Imp.boolt rfl) rfl W args hg hp
  refine hcall.mono fun e W' ⟨he, bel⟩ => ?_
  subst he
  obtain ⟨g1, g2, g3⟩ := hfn ds hdl
  have K := kids_rows hlaid hmaps
  have hA2 : DataW.TrodAll enc P W' 0 (fun b => decide (b < W.heap.size)) true fn.params.toList args.toList ds p :=
    carry_all (hA.respare K (slices_full_of P hslc) (fun t ht => by have := List.all_eq_true.1 hpt t ht; simpa using this) (fun x hx => by have := hlt x (by simp [hx]); simpa using this)) (fun x hx => bel.same (hlt x (by simp [hx])))
  refine ⟨_, rfl, ds, [], p ++ [], [], p, [], hW', ?_, ?_, ?_, bel.frame _, fun h => by cases h⟩
  · rw [g1, hr, hsz]
    exact trodAll_mk1 (shut_bool htb _)
  · rw [g2]; exact hA2
  · rw [g3, hs]; rfl

end
end Go.Abs
end
