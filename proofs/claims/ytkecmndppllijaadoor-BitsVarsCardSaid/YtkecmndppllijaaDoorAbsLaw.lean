import Derived.Test.YtkecmndppllijaaDoorAbsRead
import Derived.WalkKit
import Derived.ShutString
set_option linter.unusedVariables false
set_option linter.unusedSectionVars false
set_option linter.unusedSimpArgs false
open Go.ChangeShapes Go.WideShapes Go.ChangeAt Go.RowKit
namespace Go.Abs
variable [Glob]

section
variable {H : Type} {enc : TypeId × Value → H} {P : Program} {w : World}

def okArg (P : Program) (t : TypeId) (ks : List K) (a : AVal) : Prop := if isAggT P t then ∃ cells, a = .agg cells ∧ okKs ks cells else okKs ks [a]
def okArgs (P : Program) : List TypeId → List (List K) → List AVal → Prop
  | [], [], as => as = []
  | t :: ts, ks :: kss, as => ∃ a bs, as = a :: bs ∧ okArg P t ks a ∧ okArgs P ts kss bs
  | _, _, _ => False
def kinds (P : Program) (d : Nat) : List TypeId → Option (List (List K))
  | [] => some []
  | t :: ts => (kOf P d t).bind fun ks => (kinds P d ts).map (ks :: ·)

theorem cells_one {b0 : Nat} {d : Nat} {t : TypeId} {ks : List K} {v : Value} (hk : kOf P d t = some ks) (ha : isAggT P t = false) (hv : Value.okWide P w .any b0 t v) : v.cells.toList = [v] := by
  cases d with
  | zero => cases hk
  | succ d =>
    have key : ∀ cs, v ≠ .agg cs := by
      rintro cs rfl
      unfold kOf at hk
      unfold isAggT at ha
      unfold Value.okWide Cell.okWide Cell.ok at hv
      cases hu : P.underlying t with
      | none => simp [hu] at hk
      | some u => rw [hu] at hk ha hv; cases u <;> simp_all
    cases v <;> first | rfl | exact absurd rfl (key _)
theorem cells_agg {b0 : Nat} {t : TypeId} {v : Value} (ha : isAggT P t = true) (hv : Value.okWide P w .any b0 t v) : ∃ cs, v = .agg cs := by
  unfold isAggT at ha
  unfold Value.okWide at hv
  cases hu : P.underlying t with
  | none => simp [hu] at ha
  | some u =>
    rw [hu] at ha hv
    cases u <;> simp at ha hv
    · obtain ⟨cs, h, _⟩ := hv; exact ⟨cs, h⟩
    · obtain ⟨cs, h, _⟩ := hv; exact ⟨cs, h⟩

theorem args_read {base b0 d : Nat} {spare : Nat → Bool} {held : Bool} : ∀ {ts : List TypeId} {vs : List Value} {ds : List (DataW H)} {ps : List MemPlace} {kss : List (List K)}, DataW.TrodAll enc P w base spare held ts vs ds ps →
    (∀ (j : Nat) t v, ts[j]? = some t → vs[j]? = some v → Value.okWide P w .any b0 t v) → (∀ n ∈ DataW.weightsEach P ts ds, n ≤ reachBytes) → kinds P d ts = some kss → ∃ as, PW (old' w) w noId as vs ∧ okArgs P ts kss as
  | [], vs, ds, ps, kss, h, _, _, hk => by
    obtain ⟨rfl, _, _⟩ := trodAll_nil h
    cases hk
    exact ⟨[], .nil, rfl⟩
  | t :: ts, vs, ds, ps, kss, h, hv, hw, hk => by
    obtain ⟨v, vs, d0, ds, p, q, rfl, rfl, rfl, ⟨fuel, h1⟩, h2⟩ := trodAll_cons h
    simp only [kinds, Option.bind_eq_some_iff, Option.map_eq_some_iff] at hk
    obtain ⟨ks, hks, kss, hkss, rfl⟩ := hk
    simp only [DataW.weightsEach, List.mem_append] at hw
    obtain ⟨bs, p2, o2⟩ := args_read h2 (fun j t v e1 e2 => hv (j + 1) t v (by simpa using e1) (by simpa using e2)) (fun n hn => hw n (.inr hn)) hkss
    obtain ⟨cells, p1, o1⟩ := trod_read fuel d t _ _ _ h1 hks (fun n hn => hw n (.inl hn))
    have hv0 := hv 0 t v rfl rfl
    cases ha : isAggT P t with
    | true =>
      obtain ⟨cs, rfl⟩ := cells_agg ha hv0
      refine ⟨.agg cells :: bs, .cons (by have := p1.agg; simpa [Value.cells] using this) p2, ?_⟩
      exact ⟨_, _, rfl, by unfold okArg; rw [if_pos ha]; exact ⟨_, rfl, o1⟩, o2⟩
    | false =>
      rw [cells_one hks ha hv0] at p1
      match cells, p1 with
      | [a], p1 => exact ⟨a :: bs, .cons (p1.2 0 a v rfl rfl) p2, _, _, rfl, by unfold okArg; rw [if_neg (by simp [ha])]; exact o1, o2⟩
      | [], p1 => have := p1.1; simp at this
      | a :: b :: c, p1 => have := p1.1; simp at this

theorem carry_all {base : Nat} {spare : Nat → Bool} {held : Bool} {w' : World} : ∀ {ts : List TypeId} {vs : List Value} {ds : List (DataW H)} {ps : List MemPlace}, DataW.TrodAll enc P w base spare held ts vs ds ps →
    (∀ p ∈ ps, w.sameAt w' p) → DataW.TrodAll enc P w' base spare held ts vs ds ps
  | [], vs, ds, ps, h, _ => by obtain ⟨rfl, rfl, rfl⟩ := trodAll_nil h; exact trodAll_mk0
  | t :: ts, vs, ds, ps, h, hs => by
    obtain ⟨v, vs, d0, ds, p, q, rfl, rfl, rfl, ⟨fuel, h1⟩, h2⟩ := trodAll_cons h
    exact trodAll_cons_mk ⟨fuel, DataW.trod_carry fuel _ _ _ h1 (fun x hx => hs x (List.mem_append_left _ hx))⟩ (carry_all h2 (fun x hx => hs x (List.mem_append_right _ hx)))

/-- A law: from what it does to what its row asks. -/
theorem law_calls {f : FuncId} {fn : Func} {s : ChangeSpec} {W : World} {base dep : Nat} {args : Array Value} {ds gs : List (DataW H)} {before : List MemPlace} {kss : List (List K)} {tb : TypeId}
    (hk : kinds P dep fn.params.toList = some kss)
    (hs : s.vars = []) (hfn : ∀ ds : List (DataW H), ds.length = fn.params.toList.length → (s.fn H (ds ++ [])).results = [.lit (.bool true)] ∧ (s.fn H (ds ++ [])).args = ds ∧ (s.fn H (ds ++ [])).vars = [])
    (hr : fn.resultTypes.toList = [tb]) (htb : P.underlying tb = some .bool) (hsz : fn.resultTypes.size = 1)
    (hlaid : laidOutB P = true) (hmaps : mapsRowed P = true) (hslc : ((List.range P.types.size).all fun t => match P.underlying t with | some (.slice e) => decide (0 < P.cellsOf e) | _ => true) = true) (hpt : fn.params.toList.all (fun t => decide (t < P.types.size)) = true)
    (law : ∀ as, okArgs P fn.params.toList kss as → ∃ σ', FOk P f as [] (.bool true) σ')
    (hg : GOk (fun b => b < W.heap.size) W) (hval : ∀ (j : Nat) t v, fn.params[j]? = some t → args[j]? = some v → Value.okWide P W .any base t v)
    (hW : DataW.Whole enc P fn.params.toList s.vars false W args.toList ds gs before)
    (hwt : (DataW.weightsEach P (fn.params.toList ++ s.plain.varTypes P) (ds ++ gs)).all (· ≤ reachBytes) = true) :
    Calls P f args W fun e W' => ∃ v, e = .returned v ∧ s.post enc P fn false true false false W args v W' := by
  have hW' := hW
  have hlt := hW.lt
  obtain ⟨p, q, hA, hV, rfl, hfz, hnd⟩ := hW
  rw [hs] at hV
  obtain ⟨rfl, rfl⟩ := trodVars_none hV
  have hdl : ds.length = fn.params.toList.length := by
    have key : ∀ {ts : List TypeId} {vs : List Value} {ds : List (DataW H)} {ps : List MemPlace}, DataW.TrodAll enc P W 0 (fun _ => true) true ts vs ds ps → ds.length = ts.length := by
      intro ts
      induction ts with
      | nil => intro vs ds ps h; obtain ⟨_, rfl, _⟩ := trodAll_nil h; rfl
      | cons t ts ih => intro vs ds ps h; obtain ⟨v, vs, d0, ds, p, q, rfl, rfl, rfl, _, h2⟩ := trodAll_cons h; simp [ih h2]
    exact key hA
  have hw2 : ∀ n ∈ DataW.weightsEach P fn.params.toList ds, n ≤ reachBytes := by
    intro n hn
    have key : ∀ (ts ts' : List TypeId) (ds ds' : List (DataW H)), n ∈ DataW.weightsEach P ts ds → n ∈ DataW.weightsEach P (ts ++ ts') (ds ++ ds') := by
      intro ts
      induction ts with
      | nil => intro ts' ds ds' h; cases ds <;> simp [DataW.weightsEach] at h
      | cons t ts ih =>
        intro ts' ds ds' h
        cases ds with
        | nil => simp [DataW.weightsEach] at h
        | cons d ds =>
          simp only [DataW.weightsEach, List.mem_append, List.cons_append] at h ⊢
          rcases h with h | h
          · exact .inl h
          · exact .inr (ih ts' ds ds' h)
    have := List.all_eq_true.1 hwt n (key _ _ _ _ hn)
    simpa using this
  obtain ⟨as, hp, hok⟩ := args_read hA (fun j t v e1 e2 => hval j t v (by simpa using e1) (by simpa using e2)) hw2 hk
  obtain ⟨σ', hlaw⟩ := law as hok
  have hcall := hlaw.law (Imp.boolt rfl) W args hg hp
  refine hcall.mono fun e W' ⟨he, bel⟩ => ?_
  subst he
  obtain ⟨g1, g2, g3⟩ := hfn ds hdl
  have K := kids_rows hlaid hmaps
  have hA2 : DataW.TrodAll enc P W' 0 (fun b => decide (b < W.heap.size)) true fn.params.toList args.toList ds p :=
    carry_all (hA.respare K (slices_full_of P hslc) (fun t ht => by have := List.all_eq_true.1 hpt t ht; simpa using this) (fun x hx => by have := hlt x (by simp [hx]); simpa using this)) (fun x hx => bel.same (hlt x (by simp [hx])))
  refine ⟨_, rfl, ds, [], p ++ [], [], p, [], hW', ?_, ?_, ?_, bel.frame _, fun h => by cases h⟩
  · rw [g1, hr, hsz]
    exact trodAll_mk1 (shut_bool htb _)
  · rw [g2]; exact hA2
  · rw [g3, hs]; rfl

end
end Go.Abs
