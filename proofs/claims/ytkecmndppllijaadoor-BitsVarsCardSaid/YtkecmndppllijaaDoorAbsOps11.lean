import Derived.Test.YtkecmndppllijaaDoorAbsOps10
import Derived.MapKept
set_option linter.unusedVariables false
set_option linter.unusedSimpArgs false
namespace Go.Abs
open Go.MapKept (IsKey bytes_beq run_setObj_map run_checkKey run_findKey heap_set)

section
variable {P : Program} {F : Nat → Prop} {w : World} {ρ : RMap} {σ : AState}

theorem keyKind_desc {kt : TypeId} {k : AVal} (h : keyKind P kt k = true) : ∃ d, P.underlying kt = some d := by
  unfold keyKind at h
  cases hu : P.underlying kt with
  | none => rw [hu] at h; cases h
  | some d => exact ⟨d, rfl⟩

theorem keyKind_isKey {kt : TypeId} {d : TypeDesc} {k : AVal} {c : Value} (hd : P.underlying kt = some d) (h : keyKind P kt k = true) (hk : VRel F w ρ k c) : IsKey d c := by
  unfold keyKind at h
  rw [hd] at h
  cases d <;> cases hk <;> simp_all [IsKey]

theorem keq_ok {kt : TypeId} {d : TypeDesc} {k k' : AVal} {c c' : Value} {ρ' : RMap} (hd : P.underlying kt = some d) (h : keyKind P kt k = true) (h' : keyKind P kt k' = true) (hk : VRel F w ρ k c) (hk' : VRel F w ρ' k' c') :
    Instr.sameNow d c c' = some (keq k k') ∧ (keq k k' = true ↔ c = c') := by
  unfold keyKind at h h'
  rw [hd] at h h'
  cases d <;> cases hk <;> simp only [Bool.false_eq_true] at h <;> cases hk' <;> simp only [Bool.false_eq_true] at h' <;> simp_all [Instr.sameNow, keq, bytes_beq]

/-- entries, pair by pair -/
def PE (F : Nat → Prop) (w : World) (ρ : RMap) (ents : List (AVal × AVal)) (es : List MapEntry) : Prop :=
  es.length = ents.length ∧ ∀ (i : Nat) (k v : AVal), ents[i]? = some (k, v) → ∃ e, es[i]? = some e ∧ VRel F w ρ k e.key ∧ VRel F w ρ v e.val

theorem PE.tail {x : AVal × AVal} {ents : List (AVal × AVal)} {e : MapEntry} {es : List MapEntry} (h : PE F w ρ (x :: ents) (e :: es)) : PE F w ρ ents es :=
  ⟨by simpa using h.1, fun i k v h1 => by simpa using h.2 (i + 1) k v (by simpa using h1)⟩

theorem find_ok {kt : TypeId} {d : TypeDesc} {k : AVal} {c : Value} {ρ' : RMap} (hd : P.underlying kt = some d) (hk : keyKind P kt k = true) (hkc : VRel F w ρ' k c) :
    ∀ (ents : List (AVal × AVal)) (es : List MapEntry) (i : Nat), PE F w ρ ents es → (ents.all fun p => keyKind P kt p.1) = true →
      (afind k ents = none ∧ Instr.findNow d c es i = some none ∧ (∀ u, aput k u ents = ents ++ [(k, u)])) ∨
      ∃ v j e, afind k ents = some v ∧ Instr.findNow d c es i = some (some (i + j, e.val)) ∧ es[j]? = some e ∧ VRel F w ρ v e.val ∧ e.key = c ∧ (∀ u, aput k u ents = ents.set j (k, u))
  | [], [], i, _, _ => .inl ⟨rfl, rfl, fun _ => rfl⟩
  | [], e :: es, _, h, _ => by have := h.1; simp at this
  | x :: ents, [], _, h, _ => by have := h.1; simp at this
  | (k', v') :: ents, e :: es, i, h, ha => by
    simp only [List.all_cons, Bool.and_eq_true] at ha
    obtain ⟨e', h1, h2, h3⟩ := h.2 0 k' v' rfl
    simp only [List.getElem?_cons_zero, Option.some.injEq] at h1
    subst h1
    obtain ⟨h4, h5⟩ := keq_ok hd hk ha.1 hkc h2
    cases hq : keq k k' with
    | true =>
      refine .inr ⟨v', 0, e, by simp [afind, hq], ?_, rfl, h3, (h5.1 hq).symm, fun u => by simp [aput, hq]⟩
      simp [Instr.findNow, h4, hq]
    | false =>
      rcases find_ok hd hk hkc ents es (i + 1) h.tail ha.2 with ⟨g1, g2, g3⟩ | ⟨v, j, e', g1, g2, g3, g4, g5, g6⟩
      · exact .inl ⟨by simp [afind, hq, g1], by simp [Instr.findNow, h4, hq, g2], fun u => by simp [aput, hq, g3]⟩
      · exact .inr ⟨v, j + 1, e', by simp [afind, hq, g1], by simp [Instr.findNow, h4, hq, g2]; omega, by simpa using g3, g4, g5, fun u => by simp [aput, hq, g6]⟩

theorem run_lookup {t kt e : TypeId} {d : TypeDesc} {c : Value} {ok : Bool} {r : Nat} {es : Array MapEntry} {clock : Nat} (hu : P.underlying t = some (.map kt e)) (hd : P.underlying kt = some d) (hk : IsKey d c) (hb : w.heap[r]? = some (.map es clock)) {zv : Value} (hz : (zeroValue e).run P w = .ok zv w) :
    (Instr.findNow d c es.toList 0 = some none → (Instr.lookup t (.map (some r)) c ok).run P w = .ok (if ok then .tuple #[zv, .bool false] else zv) w) ∧
    ∀ j v, Instr.findNow d c es.toList 0 = some (some (j, v)) → (Instr.lookup t (.map (some r)) c ok).run P w = .ok (if ok then .tuple #[v, .bool true] else v) w := by
  have hc := fun b => run_checkKey (P := P) (w := w) hd hk b 9999
  refine ⟨fun h => ?_, fun j v h => ?_⟩
  · simp [Instr.lookup, run_underlying hu, Go.MapKept.run_getObj_map hb, hc, run_findKey hd h, hz]
  · simp [Instr.lookup, run_underlying hu, Go.MapKept.run_getObj_map hb, hc, run_findKey hd h]

theorem tuple2 {a b : AVal} {x y : Value} (h1 : VRel F w ρ a x) (h2 : VRel F w ρ b y) : VRel F w ρ (.tuple [a, b]) (.tuple #[x, y]) :=
  .tuple _ _ _ rfl fun i v u e1 e2 => by
    match i with
    | 0 => simp at e1 e2; subst e1; subst e2; exact h1
    | 1 => simp at e1 e2; subst e1; subst e2; exact h2
    | i + 2 => simp at e1

theorem reify_type {e : TypeId} {v : AVal} {c : Value} (h : VRel F w noId v c) (hok : okCells P e v = true) : VRel F w ρ (asType P e (reifyL (kindsOf P 20 e) v.cells)) c := by
  unfold okCells at hok
  simp only [Bool.and_eq_true, decide_eq_true_eq] at hok
  obtain ⟨⟨⟨hk, hone⟩, hv⟩, h0⟩ := hok
  obtain ⟨hp, _⟩ := PW.cells h hone
  have hr := reifyL_ok _ _ _ hp hk
  have hlen : 0 < (reifyL (kindsOf P 20 e) v.cells).length := by rw [hr.1, ← hp.1]; exact h0
  unfold asType
  cases v with
  | agg cs =>
    obtain ⟨ys, rfl, hp'⟩ := PW.of_agg h
    have hv : isAggT P e = true := by simpa using hv
    rw [hv]
    have := hr.pure (ρ := ρ) |>.agg
    simpa [Value.cells] using this
  | any => simp [AVal.cells, oneCell] at hone
  | tuple vs => simp [AVal.cells, oneCell] at hone
  | pagg vs => simp [AVal.cells, oneCell] at hone
  | _ =>
    have hv : isAggT P e = false := by simpa using hv
    rw [hv]
    have e1 : c.cells = #[c] := by cases h <;> rfl
    have := (hr.pure (ρ := ρ)).head hlen
    rw [e1] at this
    simpa using this

theorem alookup_ok {t : TypeId} {x k : AVal} {cx ck : Value} {ok : Bool} {out : Out} (r : Rel ρ F σ w) (hx : VRel F w ρ x cx) (hk : VRel F w ρ k ck) (h : alookup P t x k ok σ = some out) (hcs : allP out.cs) :
    Fine P F w ρ σ out (Instr.lookup t cx ck ok) := by
  unfold alookup at h
  split at h
  · rename_i kt e hu
    split at h
    · rename_i hkk
      obtain ⟨d, hd⟩ := keyKind_desc hkk
      have hik := keyKind_isKey hd hkk hk
      split at h
      · rename_i z hz
        obtain ⟨zv, hz1, hz2⟩ := zeroA_ok (w := w) hz
        split at h
        · cases h
          obtain rfl := hx.nilm_inv
          have hc := fun b => run_checkKey (P := P) (w := w) hd hik b 9999
          refine Fine.same r (cv := if ok then .tuple #[zv, .bool false] else zv) ?_ rfl ?_
          · simp [Instr.lookup, run_underlying hu, hc, Instr.findKey, hd, run_underlying hd, Instr.findNow, hz1]
          · cases ok
            · exact hz2 _ _
            · exact tuple2 (hz2 _ _) (.tt _ _)
        · rename_i id
          obtain ⟨b, hb, rfl⟩ := hx.map_inv
          split at h
          · rename_i ents ho
            cases h
            obtain ⟨h1, h2⟩ := hcs.cons
            have h2 := h2.cons.1
            obtain ⟨es, clock, hw, hsz, hpe⟩ := r.obj _ _ _ (obj_some ho rfl) hb
            obtain ⟨g1, g2⟩ := run_lookup (P := P) (w := w) (ok := ok) hu hd hik hw hz1
            rcases find_ok (F := F) (w := w) (ρ := noId) hd hkk hk ents es.toList 0 ⟨by simpa using hsz, fun i k v h => by have := hpe i k v h; simpa [inMap] using this⟩ h2 with ⟨e1, e2, _⟩ | ⟨v, j, e', e1, e2, e3, e4, _⟩
            · refine Fine.same r (g1 e2) rfl ?_
              rw [e1] at h1 ⊢
              have := reify_type (ρ := ρ) (hz2 F noId) h1
              cases ok
              · exact this
              · exact tuple2 this (.bool _ _)
            · refine Fine.same r (g2 _ _ e2) rfl ?_
              rw [e1] at h1 ⊢
              have := reify_type (ρ := ρ) e4 h1
              cases ok
              · exact this
              · exact tuple2 this (.bool _ _)
          · rename_i ents ho
            cases h
            have h2 := hcs.cons.1
            obtain ⟨es, clock, hw, hsz, hpe⟩ := r.obj _ _ _ (obj_some ho rfl) hb
            obtain ⟨g1, g2⟩ := run_lookup (P := P) (w := w) (ok := ok) hu hd hik hw hz1
            rcases find_ok (F := F) (w := w) (ρ := ρ) hd hkk hk ents es.toList 0 ⟨by simpa using hsz, fun i k v h => by simpa [inMap] using hpe i k v h⟩ h2 with ⟨e1, e2, _⟩ | ⟨v, j, e', e1, e2, e3, e4, _⟩
            · refine Fine.same r (g1 e2) rfl ?_
              rw [e1]
              cases ok
              · exact hz2 _ _
              · exact tuple2 (hz2 _ _) (.bool _ _)
            · refine Fine.same r (g2 _ _ e2) rfl ?_
              rw [e1]
              cases ok
              · exact e4
              · exact tuple2 e4 (.bool _ _)
          · cases h
        · cases h
      · cases h
    · cases h
  · cases h

theorem sameBits_refl {d : TypeDesc} {c : Value} (h : IsKey d c) (n : Nat) : Instr.sameBits n c c = true := by
  cases d <;> cases c <;> simp_all [IsKey] <;> cases n <;> simp [Instr.sameBits, bytes_beq]

/-- A map is written. -/
theorem Rel.mapput {id b : Nat} {p : Bool} {ents : List (AVal × AVal)} {kt : TypeId} {t e : TypeId} {k v : AVal} {ck cv : Value} {o0 : AObj} (r : Rel ρ F σ w) (hid : σ[id]? = some o0) (hl : o0.live = true) (hb : ρ id = some b)
    (ho : ORel F w ρ b (.mp p ents)) (hu : P.underlying t = some (.map kt e)) (hkk : keyKind P kt k = true) (hk : VRel F w ρ k ck) (hv : VRel F w (inMap p ρ) v cv) (hall : (ents.all fun p => keyKind P kt p.1) = true) :
    ∃ w', (Instr.mapUpdate t (.map (some b)) ck cv).run P w = .ok () w' ∧ Rel ρ F (σ.set id (.mp p (aput k v ents))) w' ∧ Tr σ (σ.set id (.mp p (aput k v ents))) ρ ρ F F w w' := by
  obtain ⟨d, hd⟩ := keyKind_desc hkk
  have hik := keyKind_isKey hd hkk hk
  obtain ⟨es, clock, hw, hsz, hpe⟩ := ho
  have hkp : VRel F w (inMap p ρ) k ck := by
    unfold keyKind at hkk; rw [hd] at hkk
    unfold inMap
    cases p
    · exact hk
    · refine pureCell_noId hk ?_
      cases d <;> cases k <;> simp_all [pureCell]
  have hck := run_checkKey (P := P) (w := w) hd hik false 9999
  have hset : ∀ (o : Obj), (setObj b o).run P w = .ok () { w with heap := w.heap.setIfInBounds b o } := fun o => run_setObj_map o hw
  have fin : ∀ (es' : Array MapEntry) (clock' : Nat), es'.size = (aput k v ents).length → (∀ (i : Nat) (k' v' : AVal), (aput k v ents)[i]? = some (k', v') → ∃ e, es'[i]? = some e ∧ VRel F w (inMap p ρ) k' e.key ∧ VRel F w (inMap p ρ) v' e.val) →
      Rel ρ F (σ.set id (.mp p (aput k v ents))) { w with heap := w.heap.setIfInBounds b (.map es' clock') } ∧ Tr σ (σ.set id (.mp p (aput k v ents))) ρ ρ F F w { w with heap := w.heap.setIfInBounds b (.map es' clock') } := by
    intro es' clock' h1 h2
    obtain ⟨g1, g2⟩ := heap_set (o' := .map es' clock') hw
    have hLive : Live ρ σ b := ⟨id, o0, hid, hl, hb⟩
    have hF : ∀ x, F x → F x ∧ ({ w with heap := w.heap.setIfInBounds b (.map es' clock') } : World).heap[x]? = w.heap[x]? := fun x hx => ⟨hx, g2 x (fun e => (r.fr x hx).2 (e ▸ hLive))⟩
    have hR : ∀ (x : Nat) (ca : Array Value) (T : TypeId) (fr : Nat × Nat), w.heap[x]? = some (.cells ca T fr) → ∃ cs' fr', ({ w with heap := w.heap.setIfInBounds b (.map es' clock') } : World).heap[x]? = some (.cells cs' T fr') ∧ cs'.size = ca.size := by
      intro x ca T fr h
      by_cases e : x = b
      · subst e; rw [hw] at h; cases h
      · exact ⟨ca, _, (g2 x e).trans h, rfl⟩
    refine r.upd hid hl hb (by simp) rfl rfl rfl g2 (fun cs T fr h => hR b cs T fr h) ⟨es', clock', g1, h1, ?_⟩
    intro i k' v' e1
    obtain ⟨e, e2, e3, e4⟩ := h2 i k' v' e1
    exact ⟨e, e2, e3.mono hF hR (fun _ _ h => h), e4.mono hF hR (fun _ _ h => h)⟩
  rcases find_ok (F := F) (w := w) (ρ := inMap p ρ) hd hkk hk ents es.toList 0 ⟨by simpa using hsz, fun i k v h => by simpa using hpe i k v h⟩ hall with ⟨e1, e2, e3⟩ | ⟨v0, j, e', e1, e2, e3, e4, e5, e6⟩
  · refine ⟨_, ?_, fin (es.push { key := ck, val := cv, born := clock }) (clock + 1) (by rw [e3]; simp [hsz]) ?_⟩
    · simp [Instr.mapUpdate, run_underlying hu, Go.MapKept.run_getObj_map hw, hck, run_findKey hd e2, hset]
    · intro i k' v' h
      rw [e3, List.getElem?_append] at h
      split at h
      · obtain ⟨e, g1, g2, g3⟩ := hpe i k' v' h
        have hlt := (Array.getElem?_eq_some_iff.1 g1).1
        exact ⟨e, by rw [Array.getElem?_push_lt hlt, ← g1, Array.getElem?_eq_getElem hlt], g2, g3⟩
      · have hi : i - ents.length = 0 := by have := (List.getElem?_eq_some_iff.1 h).1; simp at this; omega
        rw [hi] at h
        simp only [List.getElem?_cons_zero, Option.some.injEq, Prod.mk.injEq] at h
        obtain ⟨rfl, rfl⟩ := h
        have hlen : i = es.size := by omega
        exact ⟨{ key := ck, val := cv, born := clock }, by rw [hlen]; simp, hkp, hv⟩
  · have hj : j < es.size := by have := (List.getElem?_eq_some_iff.1 e3).1; simpa using this
    have hje : es[j]? = some e' := by simpa using e3
    refine ⟨_, ?_, fin (es.modify j fun e => { e with key := ck, val := cv }) clock (by rw [e6]; simp [hsz]) ?_⟩
    · have hsb : Instr.sameBits 10000 ck ck = true := sameBits_refl hik _
      rw [Nat.zero_add] at e2
      simp [Instr.mapUpdate, run_underlying hu, Go.MapKept.run_getObj_map hw, hck, run_findKey hd e2, hset, hje, e5, Instr.keyThatStays, hsb]
    · intro i k' v' h
      rw [e6, List.getElem?_set] at h
      rw [Array.getElem?_modify]
      by_cases hij : j = i
      · subst hij
        simp only [if_true] at h
        rw [if_pos (by omega)] at h
        simp only [Option.some.injEq, Prod.mk.injEq] at h
        obtain ⟨rfl, rfl⟩ := h
        exact ⟨_, by rw [if_pos rfl, hje]; rfl, hkp, hv⟩
      · rw [if_neg hij] at h
        obtain ⟨e, g1, g2, g3⟩ := hpe i k' v' h
        exact ⟨e, by rw [if_neg hij]; exact g1, g2, g3⟩

theorem freezeA_ok {v : AVal} {c : Value} {x : AVal × Frz} (r : Rel ρ F σ w) (hv : VRel F w ρ v c) (h : freezeA σ v = some x) (hcs : allP x.2.cs) :
    ∃ F', Rel ρ F' x.2.σ w ∧ Tr σ x.2.σ ρ ρ F F' w w ∧ VRel F' w noId x.1 c := by
  unfold freezeA at h
  split at h
  · rename_i cs
    rw [Option.map_eq_some_iff] at h
    obtain ⟨y, hy, rfl⟩ := h
    obtain ⟨ys, rfl, hp⟩ := PW.of_agg hv
    obtain ⟨F', r', t', hp'⟩ := freezeL_ok _ _ r hp hy hcs
    exact ⟨F', r', t', by simpa using hp'.agg⟩
  · rw [Option.map_eq_some_iff] at h
    obtain ⟨y, hy, rfl⟩ := h
    obtain ⟨F', r', t', u, hu, hu'⟩ := freezeV_ok r hv hy hcs
    exact ⟨F', r', t', by rw [hu]; exact hu'⟩

theorem amapUpdate_ok {t : TypeId} {m k v : AVal} {cm ck cv : Value} {out : Out} (r : Rel ρ F σ w) (hm : VRel F w ρ m cm) (hk : VRel F w ρ k ck) (hv : VRel F w ρ v cv) (h : amapUpdate P t m k v σ = some out) (hcs : allP out.cs) :
    FineU P F w ρ σ out (Instr.mapUpdate t cm ck cv) := by
  unfold amapUpdate at h
  split at h
  · rename_i kt e id hu
    obtain ⟨b, hb, rfl⟩ := hm.map_inv
    split at h
    · rename_i hkk
      split at h
      · rename_i ents ho
        cases h
        have hall := hcs.cons.1
        obtain ⟨w', h1, h2, h3⟩ := r.mapput (obj_some ho rfl) rfl hb (r.obj _ _ _ (obj_some ho rfl) hb) hu hkk hk hv hall
        exact ⟨ρ, F, w', h1, h3, h2, rfl⟩
      · rename_i ents ho
        rw [Option.bind_eq_some_iff] at h
        obtain ⟨x, hx, h⟩ := h
        split at h
        · rename_i hlive
          cases h
          obtain ⟨hall, hcx⟩ := hcs.cons
          obtain ⟨F', r', t', hv'⟩ := freezeA_ok r hv hx hcx
          obtain ⟨o0, ho0⟩ : ∃ o0, o0 = obj x.2.σ id := ⟨_, rfl⟩
          have hid := obj_some ho0.symm (by rw [ho0]; exact hlive)
          have hor : ORel F' w ρ b (.mp true ents) := (r.obj _ _ _ (obj_some ho rfl) hb).move rfl (r.frz t') t'.row (fun _ _ h => h)
          obtain ⟨w', h1, h2, h3⟩ := r'.mapput hid (by rw [ho0]; exact hlive) hb hor hu hkk (hk.tr r t') hv' hall
          exact ⟨ρ, F', w', h1, Tr.trans r t' h3, h2, rfl⟩
        · cases h
      · cases h
    · cases h
  · cases h

end
end Go.Abs
