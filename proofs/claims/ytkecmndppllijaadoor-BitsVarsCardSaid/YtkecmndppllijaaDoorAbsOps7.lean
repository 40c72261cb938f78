import Derived.Test.YtkecmndppllijaaDoorAbsOps6
import Derived.LaidEqlPtr
import Derived.Laws.StructEq
set_option linter.unusedVariables false
set_option linter.unusedSimpArgs false
namespace Go.Abs

section
variable {P : Program} {F : Nat → Prop} {w : World} {ρ : RMap} {σ : AState}

theorem equal_eq (t : TypeId) (x y : Value) : Op.equal t x y = Op.equalIn (9999 + 1) t x y := by
  unfold Op.equal Op.maxDepth; rfl
theorem run_equal1 {t : TypeId} {x y : Value} {b : Bool} (h : ∀ d, (Op.equalIn (d + 1) t x y).run P w = .ok b w) : (Op.equal t x y).run P w = .ok b w := by
  rw [equal_eq]; exact h 9999
theorem eq_bool {t : TypeId} {a b : Bool} (hu : P.underlying t = some .bool) (d : Nat) : (Op.equalIn (d + 1) t (.bool a) (.bool b)).run P w = .ok (a == b) w := by simp [Op.equalIn, run_underlying hu]
theorem eq_nilp {t e : TypeId} {b : Option Addr} (hu : P.underlying t = some (.pointer e)) (d : Nat) : (Op.equalIn (d + 1) t (.pointer none) (.pointer b)).run P w = .ok b.isNone w := by simp [Op.equalIn, run_underlying hu]
theorem eq_pnil {t e : TypeId} {a : Addr} (hu : P.underlying t = some (.pointer e)) (d : Nat) : (Op.equalIn (d + 1) t (.pointer (some a)) (.pointer none)).run P w = .ok false w := by simp [Op.equalIn, run_underlying hu]
theorem eq_same {t e : TypeId} {a : Addr} (hu : P.underlying t = some (.pointer e)) (he : (P.info? e).isSome = true) (d : Nat) : (Op.equalIn (d + 1) t (.pointer (some a)) (.pointer (some a))).run P w = .ok true w := by
  obtain ⟨j, hj⟩ := Option.isSome_iff_exists.1 he
  simp [Op.equalIn, run_underlying hu, sizeOf, typeInfo, hj, run_sameAddr_same]
theorem eq_ff {t : TypeId} {a b : Array TypeId} {c : Bool} (hu : P.underlying t = some (.func a b c)) (d : Nat) : (Op.equalIn (d + 1) t .nilFunc .nilFunc).run P w = .ok true w := by simp [Op.equalIn, run_underlying hu]
theorem eq_fg {t : TypeId} {a b : Array TypeId} {c : Bool} {f : Fn} {x y : Array Value} (hu : P.underlying t = some (.func a b c)) (d : Nat) : (Op.equalIn (d + 1) t .nilFunc (.func f x y)).run P w = .ok false w := by simp [Op.equalIn, run_underlying hu]
theorem eq_gf {t : TypeId} {a b : Array TypeId} {c : Bool} {f : Fn} {x y : Array Value} (hu : P.underlying t = some (.func a b c)) (d : Nat) : (Op.equalIn (d + 1) t (.func f x y) .nilFunc).run P w = .ok false w := by simp [Op.equalIn, run_underlying hu]

/-- The shapes of values that may be held against each other. -/
def eqShape : Value → Bool
  | .bool _ | .pointer _ | .map _ | .slice _ _ _ | .nilFunc | .func _ _ _ => true
  | _ => false

theorem eqShape_guard {op : BinOp} {t : TypeId} {xo yo : Operand} {x y : Value} (h : eqShape x = true) : eqGuard op t xo yo x y = pure () := by
  cases x <;> simp only [eqShape, Bool.false_eq_true] at h <;> simp only [eqGuard_at_bool, eqGuard_at_pointer, eqGuard_at_map, eqGuard_at_slice, eqGuard_at_nilFunc, eqGuard_at_func]

theorem aequal_ok {t : TypeId} {x y : AVal} {cx cy : Value} {b : Bool} (h : aequal P t x y = some b) (hx : VRel F w ρ x cx) (hy : VRel F w ρ y cy) :
    (Op.equal t cx cy).run P w = .ok b w ∧ eqShape cx = true ∧ eqShape cy = true := by
  unfold aequal at h
  split at h
  all_goals first
    | (cases h; done)
    | (rename_i id es i j id' es' i' j' hu
       split at h
       · rename_i hc
         simp only [Bool.and_eq_true, beq_iff_eq] at hc
         obtain ⟨⟨⟨⟨rfl, rfl⟩, rfl⟩, rfl⟩, he⟩ := hc
         cases h
         obtain ⟨b1, hb1, rfl⟩ := hx.ptr_inv
         obtain ⟨b2, hb2, rfl⟩ := hy.ptr_inv
         rw [hb1] at hb2; cases hb2
         exact ⟨run_equal1 fun d => eq_same hu he d, rfl, rfl⟩
       · cases h)
    | skip
  all_goals (rename_i hu)
  all_goals (cases hx <;> cases hy <;> cases h <;> (try subst_vars) <;> refine ⟨run_equal1 fun d => ?_, rfl, rfl⟩)
  all_goals first
    | exact eq_bool hu d
    | exact eq_nilp hu d
    | exact eq_pnil hu d
    | exact run_equalIn_map_nil w d t _ _ _ hu
    | exact run_equalIn_nil_map w d t _ _ _ hu
    | exact Lib.run_equalIn_slice_nil w d t _ _ _ _ _ _ hu
    | exact run_equalIn_nil_slice w d t _ _ _ _ _ _ hu
    | exact eq_ff hu d
    | exact eq_fg hu d
    | exact eq_gf hu d

theorem binOp_eql_shape {t : TypeId} {x y : Value} (hx : eqShape x = true) (hy : eqShape y = true) : binOp .eql t x y = (Op.equal t x y >>= fun b => pure (.bool b)) := by
  cases x <;> simp only [eqShape, Bool.false_eq_true] at hx <;> cases y <;> simp only [eqShape, Bool.false_eq_true] at hy <;> rfl
theorem binOp_neq_shape {t : TypeId} {x y : Value} (hx : eqShape x = true) (hy : eqShape y = true) : binOp .neq t x y = (Op.equal t x y >>= fun b => pure (.bool (!b))) := by
  cases x <;> simp only [eqShape, Bool.false_eq_true] at hx <;> cases y <;> simp only [eqShape, Bool.false_eq_true] at hy <;> rfl

theorem aeqFields_ok {xs ys : List AVal} {cx cy : Array Value} (hx : PW F w ρ xs cx.toList) (hy : PW F w ρ ys cy.toList) (d : Nat) : ∀ (fs : List Field) {b : Bool}, aeqFields P xs ys fs = some b → (Op.eqFields (d + 1) cx cy fs).run P w = .ok b w
  | [], b, h => by
    unfold aeqFields at h
    cases h
    simp [Op.eqFields]
  | f :: fs, b, h => by
    have ih := @aeqFields_ok xs ys cx cy hx hy d fs
    unfold aeqFields at h
    split at h
    · cases h
    · rename_i hn
      have hn' : f.name ≠ "_" := by simpa using hn
      have get : ∀ {zs : List AVal} {cz : Array Value} {v : AVal}, PW F w ρ zs cz.toList → zs[f.offset]? = some v → ∃ cv, cz[f.offset]? = some cv ∧ VRel F w ρ v cv := by
        intro zs cz v hz hv
        have hlt : f.offset < cz.size := by
          have h1 := (List.getElem?_eq_some_iff.1 hv).1
          have h2 : zs.length = cz.size := hz.1.trans Array.length_toList
          omega
        refine ⟨cz[f.offset], Array.getElem?_eq_getElem hlt, hz.2 _ _ _ hv ?_⟩
        rw [Array.getElem?_toList, Array.getElem?_eq_getElem hlt]
      have fin : ∀ {a b : Value} {e r : Bool} (_ : (part f.type cx f.offset).run P w = .ok a w) (_ : (part f.type cy f.offset).run P w = .ok b w) (_ : (Op.equalIn (d + 1) f.type a b).run P w = .ok e w) (_ : (Op.eqFields (d + 1) cx cy fs).run P w = .ok r w),
          (Op.eqFields (d + 1) cx cy (f :: fs)).run P w = .ok (e && r) w := by
        intro a b e r h1 h2 h3 h4
        simp only [Op.eqFields]
        rw [if_pos hn']
        simp only [Sem.run_bind, h1, h2, h3, Result.andThen_ok, Sem.run_ite]
        cases e
        · simp
        · simp [h4]
      split at h
      · rename_i kk k a k' b' hu h1 h2
        split at h
        · rename_i hk
          simp only [beq_iff_eq] at hk
          subst hk
          obtain ⟨r, hr, rfl⟩ := Option.map_eq_some_iff.1 h
          obtain ⟨c1, g1, v1⟩ := get hx h1
          obtain ⟨c2, g2, v2⟩ := get hy h2
          obtain rfl := v1.int_inv
          obtain rfl := v2.int_inv
          exact fin (a := .int k a) (b := .int k b') (by simp [Go.part, isAgg, run_underlying hu, g1]) (by simp [Go.part, isAgg, run_underlying hu, g2]) (run_equalIn_int w d _ _ _ _ _ hu) (ih hr)
        · cases h
      · rename_i a b' hu h1 h2
        obtain ⟨r, hr, rfl⟩ := Option.map_eq_some_iff.1 h
        obtain ⟨c1, g1, v1⟩ := get hx h1
        obtain ⟨c2, g2, v2⟩ := get hy h2
        obtain rfl := v1.bool_inv
        obtain rfl := v2.bool_inv
        exact fin (a := .bool a) (b := .bool b') (by simp [Go.part, isAgg, run_underlying hu, g1]) (by simp [Go.part, isAgg, run_underlying hu, g2]) (run_equalIn_bool' w d _ _ _ hu) (ih hr)
      · rename_i a b' hu h1 h2
        obtain ⟨r, hr, rfl⟩ := Option.map_eq_some_iff.1 h
        obtain ⟨c1, g1, v1⟩ := get hx h1
        obtain ⟨c2, g2, v2⟩ := get hy h2
        obtain rfl := v1.str_inv
        obtain rfl := v2.str_inv
        exact fin (a := .string a) (b := .string b') (by simp [Go.part, isAgg, run_underlying hu, g1]) (by simp [Go.part, isAgg, run_underlying hu, g2]) (run_equalIn_string w d _ _ _ hu) (ih hr)
      · cases h

theorem aeqAgg_ok {t : TypeId} {xs ys : List AVal} {cx cy : Array Value} (hx : PW F w ρ xs cx.toList) (hy : PW F w ρ ys cy.toList) {b : Bool} (h : aeqAgg P t xs ys = some b) :
    (Op.equalIn 10000 t (.agg cx) (.agg cy)).run P w = .ok b w ∧ P.eqGuardType P.depth t = false := by
  unfold aeqAgg at h
  split at h
  · cases h
  · rename_i hc
    rw [Bool.not_eq_true, Bool.or_eq_false_iff] at hc
    split at h
    · rename_i fs hu
      have hf : P.fieldsOf t = fs := by unfold Program.fieldsOf; rw [hu]
      refine ⟨?_, hc.2⟩
      rw [show (10000 : Nat) = 9998 + 1 + 1 from rfl, run_equalIn_struct w _ t cx cy (by rw [hf]; exact hu) hc.1, hf]
      exact aeqFields_ok hx hy 9998 _ h
    · cases h

theorem abinOp_ok {op : BinOp} {t : TypeId} {x y : AVal} {cx cy : Value} {xo yo : Operand} {out : Out} (r : Rel ρ F σ w) (hx : VRel F w ρ x cx) (hy : VRel F w ρ y cy) (h : abinOp P op t x y σ = some out) (hcs : allP out.cs) :
    Fine P F w ρ σ out (do eqGuard op t xo yo cx cy; binOp op t cx cy) := by
  unfold abinOp at h
  split at h
  · rename_i xs ys
    have pw : ∀ {zs : List AVal} {cz : Value}, VRel F w ρ (.agg zs) cz → ∃ c : Array Value, cz = .agg c ∧ PW F w ρ zs c.toList := by
      intro zs cz hz
      cases hz with
      | agg _ _ cv hl hh => exact ⟨cv, rfl, by rw [Array.length_toList]; exact hl, fun i v u h1 h2 => hh i v u h1 (by rw [← Array.getElem?_toList]; exact h2)⟩
    obtain ⟨c1, rfl, p1⟩ := pw hx
    obtain ⟨c2, rfl, p2⟩ := pw hy
    split at h
    · obtain ⟨b, hb, rfl⟩ := Option.map_eq_some_iff.1 h
      obtain ⟨e1, e2⟩ := aeqAgg_ok p1 p2 hb
      refine Fine.same r (cv := .bool b) ?_ rfl (.bool _ _)
      rw [Sem.run_bind, run_eqGuard_agg w _ t xo yo c1 c2 e2, Result.andThen_ok, run_eql_struct w, e1]
      rfl
    · obtain ⟨b, hb, rfl⟩ := Option.map_eq_some_iff.1 h
      obtain ⟨e1, e2⟩ := aeqAgg_ok p1 p2 hb
      refine Fine.same r (cv := .bool (!b)) ?_ rfl (.bool _ _)
      rw [Sem.run_bind, run_eqGuard_agg w _ t xo yo c1 c2 e2, Result.andThen_ok, run_neq_struct w, e1]
      rfl
    · cases h
  · rename_i k a k' b
    obtain rfl := hx.int_inv
    obtain rfl := hy.int_inv
    have go : ∀ {v : AVal} {cv : Value}, (binOp op t (.int k a) (.int k' b)).run P w = .ok cv w → out.v = v → out.σ = σ → VRel F w ρ v cv → Fine P F w ρ σ out (do eqGuard op t xo yo (.int k a) (.int k' b); binOp op t (.int k a) (.int k' b)) := by
      intro v cv h1 h2 h3 h4
      refine Fine.same r (cv := cv) ?_ h3 (by rw [h2]; exact h4)
      simp only [eqGuard_at_int, Sem.run_bind, Sem.run_pure, Result.andThen_ok, h1]
    cases op <;> dsimp only at h
    all_goals first
      | (split at h
         · rename_i hk
           simp only [beq_iff_eq] at hk
           subst hk
           cases h
           first
             | (refine go ?_ rfl rfl (.int _ _ _); simp [binOp, Op.intArith]; done)
             | (refine go ?_ rfl rfl (.int _ _ _); simp [binOp]; rfl)
             | (have hb := of_decide_eq_true hcs.cons.1; refine go ?_ rfl rfl (.int _ _ _); simp [binOp, Op.intDiv, hb]; done)
             | (refine go ?_ rfl rfl (.bool _ _); simp [binOp, Op.intCmp]; done)
         · cases h)
      | (cases h
         have hb := of_decide_eq_true hcs.cons.1
         have hb' : ¬ b < 0 := by omega
         refine go ?_ rfl rfl (.int _ _ _); simp [binOp, Op.shift, hb']; done)
  · rename_i a b
    obtain rfl := hx.str_inv
    obtain rfl := hy.str_inv
    have go : ∀ {v : AVal} {cv : Value}, (binOp op t (.string a) (.string b)).run P w = .ok cv w → out.v = v → out.σ = σ → VRel F w ρ v cv → Fine P F w ρ σ out (do eqGuard op t xo yo (.string a) (.string b); binOp op t (.string a) (.string b)) := by
      intro v cv h1 h2 h3 h4
      refine Fine.same r (cv := cv) ?_ h3 (by rw [h2]; exact h4)
      simp only [eqGuard_at_string, Sem.run_bind, Sem.run_pure, Result.andThen_ok, h1]
    cases op <;> dsimp only at h <;> cases h
    · refine go ?_ rfl rfl (.str _ _); exact run_string_add_sum w a b (of_decide_eq_true hcs.cons.1)
    all_goals (refine go ?_ rfl rfl (.bool _ _); simp [binOp, Op.stringOp])
  · cases op <;> dsimp only at h
    all_goals first
      | (cases h; done)
      | skip
    · rw [Option.map_eq_some_iff] at h
      obtain ⟨b, hb, rfl⟩ := h
      obtain ⟨h1, h2, h3⟩ := aequal_ok hb hx hy
      refine Fine.same r (cv := .bool b) ?_ rfl (.bool _ _)
      rw [eqShape_guard h2, binOp_eql_shape h2 h3]
      simp [h1]
    · rw [Option.map_eq_some_iff] at h
      obtain ⟨b, hb, rfl⟩ := h
      obtain ⟨h1, h2, h3⟩ := aequal_ok hb hx hy
      refine Fine.same r (cv := .bool (!b)) ?_ rfl (.bool _ _)
      rw [eqShape_guard h2, binOp_neq_shape h2 h3]
      simp [h1]

theorem aunOp_ok {op : UnOp} {x : AVal} {cx : Value} {out : Out} (r : Rel ρ F σ w) (hx : VRel F w ρ x cx) (h : aunOp op x σ = some out) : Fine P F w ρ σ out (Op.unary op cx) := by
  unfold aunOp at h
  split at h
  · cases h; obtain rfl := hx.int_inv; exact Fine.same r rfl rfl (.int _ _ _)
  · cases h; obtain rfl := hx.int_inv; exact Fine.same r rfl rfl (.int _ _ _)
  · cases h; obtain rfl := hx.bool_inv; exact Fine.same r rfl rfl (.bool _ _)
  · cases h; obtain rfl := hx.tt_inv; exact Fine.same r rfl rfl (.tt _ _)
  · cases h

end
end Go.Abs
