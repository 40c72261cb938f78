import Derived.Test.YtkecmndppllijaaDoorAbsOps12
import Derived.Lib.Builder
import Derived.Lib.UnsafeStr
set_option linter.unusedVariables false
set_option linter.unusedSimpArgs false
namespace Go.Abs

section
variable {P : Program} {F : Nat → Prop} {w : World} {ρ : RMap} {σ : AState}

theorem liesAt_self {e : TypeId} (hc : P.cellsOf e ≠ 0) (count : Nat) (hn : 1 ≤ count) : liesAt P P.depth e count 0 e 1 = true := by
  have hd : P.depth = (2 * (P.types.size + Made.depth) + 1) + 1 := rfl
  rw [hd]
  simp only [liesAt, Bool.or_eq_true]
  left
  rw [hd]
  simp [rowAt, hn, sameLayout, hc]

theorem aconvert_ok2 {src dst : TypeId} {x : AVal} {cx : Value} {out : Out} (r : Rel ρ F σ w) (hx : VRel F w ρ x cx) (h : aconvert P src dst x σ = some out) (hcs : allP out.cs) :
    Fine P F w ρ σ out (convert src dst cx) := by
  by_cases hp : (∃ t id es, P.underlying src = some (.pointer t) ∧ P.underlying dst = some .unsafePointer ∧ x = .ptr id es 0 0) ∨ (∃ u id es, P.underlying src = some .unsafePointer ∧ P.underlying dst = some (.pointer u) ∧ x = .ptr id es 0 0)
  · rcases hp with ⟨t, id, es, h1, h2, rfl⟩ | ⟨u, id, es, h1, h2, rfl⟩
    · unfold aconvert at h
      simp only [h1, h2] at h
      split at h
      · rename_i T p es' rs ho
        split at h
        · rename_i hc
          cases h
          simp only [Bool.and_eq_true, beq_iff_eq, decide_eq_true_eq] at hc
          obtain ⟨rfl, hn⟩ := hc
          have h0 := of_decide_eq_true hcs.cons.1
          obtain ⟨b, hb, rfl⟩ := hx.ptr_inv
          obtain ⟨cs, fr, g1, g2, g3, _⟩ := r.obj _ _ _ (obj_some ho rfl) hb
          have hsh : w.shape? b = some (T, cs.size) := by simp [World.shape?, g1]
          cases hi : P.info? t with
          | none => simp [Program.cellsOf, hi] at hn
          | some j =>
            have hj : j.size ≠ 0 := by simpa [Program.cellsOf, hi] using hn
            exact Fine.same r (cv := .pointer (some ⟨b, 0 * es + 0, none⟩)) (Lib.run_to_unsafe w _ h1 h2 hi hj hsh (by simp; omega)) rfl (.ptr _ _ _ _ _ _ hb)
        · cases h
      · cases h
    · unfold aconvert at h
      simp only [h1, h2] at h
      split at h
      · rename_i T p es' rs ho
        split at h
        · rename_i hc
          cases h
          simp only [Bool.and_eq_true, beq_iff_eq, decide_eq_true_eq] at hc
          obtain ⟨⟨⟨rfl, rfl⟩, hcell⟩, hn⟩ := hc
          have h0 := of_decide_eq_true hcs.cons.1
          obtain ⟨b, hb, rfl⟩ := hx.ptr_inv
          obtain ⟨cs, fr, g1, g2, g3, _⟩ := r.obj _ _ _ (obj_some ho rfl) hb
          have hsh : w.shape? b = some (T, cs.size) := by simp [World.shape?, g1]
          cases hi : P.info? T with
          | none => simp [Program.cellsOf, hi] at hcell; omega
          | some j =>
            have hpos : 0 < es := Nat.pos_of_ne_zero hn
            have hcount : 1 ≤ cs.size / es := by
              rw [Nat.le_div_iff_mul_le hpos]
              exact Nat.le_trans (Nat.mul_le_mul_right es h0) g3
            refine Fine.same r (cv := .pointer (some ⟨b, 0 * es + 0, none⟩)) (Lib.run_from_unsafe w _ h1 h2 hi hsh ?_) rfl (.ptr _ _ _ _ _ _ hb)
            simp only [Nat.zero_mul, Nat.add_zero]
            rw [hcell]
            exact liesAt_self (by rw [hcell]; exact hn) _ hcount
        · cases h
      · cases h
  · exact aconvert_ok r hx h hcs hp

theorem VRel.iface_inv {t : TypeId} {v : AVal} {c : Value} (h : VRel F w ρ (.iface t v) c) : ∃ u, c = .iface t u ∧ VRel F w ρ v u := by
  cases h with
  | iface _ _ _ u h => exact ⟨u, rfl, h⟩
theorem VRel.nili_inv {c : Value} (h : VRel F w ρ .nili c) : c = .nilIface := by cases h; rfl
theorem atypeAssert_ok {xt t : TypeId} {ok : Bool} {x : AVal} {cx : Value} {out : Out} (r : Rel ρ F σ w) (hx : VRel F w ρ x cx) (h : atypeAssert P t ok x σ = some out) : Fine P F w ρ σ out (Instr.typeAssert cx xt t ok) := by
  unfold atypeAssert at h
  split at h
  · cases h
  · rename_i d hd hu
    have hne : ∀ m, d ≠ .interface m := fun m e => hd m e
    have hz : ∀ z, zeroA P t = some z → ∃ zv, (zeroValue t).run P w = .ok zv w ∧ ∀ F ρ, VRel F w ρ z zv := fun z h => zeroA_ok h
    have two : ∀ {a b : AVal} {ca cb : Value}, VRel F w ρ a ca → VRel F w ρ b cb → VRel F w ρ (.tuple [a, b]) (.tuple #[ca, cb]) := fun ha hb => by
      refine .tuple _ _ _ rfl fun i v u h1 h2 => ?_
      match i with
      | 0 => simp at h1 h2; subst h1; subst h2; exact ha
      | 1 => simp at h1 h2; subst h1; subst h2; exact hb
      | i + 2 => simp at h1
    split at h
    · rename_i t' v
      obtain ⟨u, rfl, hv⟩ := hx.iface_inv
      split at h
      · rename_i ht
        simp only [beq_iff_eq] at ht
        subst ht
        cases h
        refine Fine.same r (cv := if ok then .tuple #[u, .bool true] else u) ?_ rfl ?_
        · unfold Instr.typeAssert
          simp only [Sem.run_bind, run_underlying hu, Result.andThen]
          cases d <;> first | exact absurd rfl (hne _) | (cases ok <;> simp)
        · cases ok with
          | true => exact two hv (.tt _ _)
          | false => exact hv
      · rename_i ht
        split at h
        · rename_i hok
          subst hok
          rw [Option.map_eq_some_iff] at h
          obtain ⟨z, hz', rfl⟩ := h
          obtain ⟨zv, g1, g2⟩ := hz z hz'
          refine Fine.same r (cv := .tuple #[zv, .bool false]) ?_ rfl (two (g2 _ _) (.tt _ _))
          unfold Instr.typeAssert
          simp only [Sem.run_bind, run_underlying hu, Result.andThen]
          have ht' : ¬ t' = t := by simpa using ht
          cases d <;> first | exact absurd rfl (hne _) | simp [ht', g1]
        · cases h
    · split at h
      · rename_i hok
        subst hok
        rw [Option.map_eq_some_iff] at h
        obtain ⟨z, hz', rfl⟩ := h
        obtain rfl := hx.nili_inv
        obtain ⟨zv, g1, g2⟩ := hz z hz'
        refine Fine.same r (cv := .tuple #[zv, .bool false]) ?_ rfl (two (g2 _ _) (.tt _ _))
        unfold Instr.typeAssert
        simp only [Sem.run_bind, run_underlying hu, Result.andThen]
        cases d <;> first | exact absurd rfl (hne _) | simp [g1]
      · cases h
    · cases h
  · cases h

theorem aunsafeSliceData_ok {t ty : TypeId} {x : AVal} {cx : Value} {out : Out} (r : Rel ρ F σ w) (hx : VRel F w ρ x cx) (h : aunsafeSliceData x σ = some out) (hcs : allP out.cs) : Fine P F w ρ σ out (Builtin.unsafeSliceData_ #[t] ty #[cx]) := by
  unfold aunsafeSliceData at h
  split at h
  · rename_i id es off len cap
    cases h
    have h0 := of_decide_eq_true hcs.cons.1
    rcases hx.slc_inv with ⟨_, c, b, hb, hl, _, _, rfl⟩ | ⟨rfl, base, _, _, rfl⟩
    · refine Fine.same r (cv := .pointer (some ⟨b, off * es, none⟩)) (Lib.run_unsafeSliceData_row w _ _ _ _ _ (by omega)) rfl ?_
      have := VRel.ptr (F := F) (w := w) ρ id es off 0 b hb
      simpa using this
    · omega
  · cases h

theorem freeze_heap {b n : Nat} {cs : Array Value} {T : TypeId} {fr : Nat × Nat} (h : w.heap[b]? = some (.cells cs T fr)) : ∃ fr', (w.freeze ⟨b, 0, none⟩ n).heap[b]? = some (.cells cs T fr') := by
  unfold World.freeze
  split
  · exact ⟨fr, h⟩
  · exact ⟨(if fr.1 == fr.2 then (0, 0 + n) else (min fr.1 0, max fr.2 (0 + n))), by simp only [Array.getElem?_modify, h, if_true, Option.map_some]⟩
theorem freeze_other {b n x : Nat} (h : x ≠ b) : (w.freeze ⟨b, 0, none⟩ n).heap[x]? = w.heap[x]? := by
  unfold World.freeze
  split
  · rfl
  · simp only [Array.getElem?_modify]
    rw [if_neg (fun e => h e.symm)]
theorem freeze_rest {b n : Nat} : (w.freeze ⟨b, 0, none⟩ n).heap.size = w.heap.size ∧ (w.freeze ⟨b, 0, none⟩ n).os = w.os ∧ (w.freeze ⟨b, 0, none⟩ n).tape = w.tape ∧ (w.freeze ⟨b, 0, none⟩ n).output = w.output := by
  unfold World.freeze
  split
  · exact ⟨rfl, rfl, rfl, rfl⟩
  · simp

theorem u8Row_spec {r : List AVal} (h : u8Row r = true) : ∃ n : Int, r = [.int .u8 n] ∧ 0 ≤ n ∧ n < 256 := by
  unfold u8Row at h
  split at h
  · exact ⟨_, rfl, (of_decide_eq_true h).1, (of_decide_eq_true h).2⟩
  · cases h

theorem aunsafeString_ok {pt it ty : TypeId} {a n : AVal} {ca cn : Value} {out : Out} (r : Rel ρ F σ w) (ha : VRel F w ρ a ca) (hn : VRel F w ρ n cn) (h : aunsafeString P pt a n σ = some out) (hcs : allP out.cs) : Fine P F w ρ σ out (Builtin.unsafeString_ #[pt, it] ty #[ca, cn]) := by
  unfold aunsafeString at h
  split at h
  · rename_i e id m hu
    split at h
    · rename_i T p rs ho
      split at h
      · rename_i hc
        simp only [Bool.and_eq_true, beq_iff_eq] at hc
        obtain ⟨rfl, hcell⟩ := hc
        cases h
        obtain ⟨h1, hcs⟩ := hcs.cons
        have h2 := hcs.cons.1
        obtain ⟨m0, m1, m2⟩ := of_decide_eq_true h1
        obtain ⟨b, hb, rfl⟩ := ha.ptr_inv
        obtain rfl := hn.int_inv
        have hid := obj_some ho rfl
        obtain ⟨cs, fr, g1, g2, g3, g4, g5⟩ := r.obj _ _ _ hid hb
        obtain ⟨k, rfl⟩ : ∃ k : Nat, m = (k : Int) := ⟨m.toNat, by omega⟩
        simp only [Int.toNat_natCast] at h2 ⊢
        have hk : k ≤ rs.length := by omega
        have hsh : w.shape? b = some (T, cs.size) := by simp [World.shape?, g1]
        have hall : ∀ row ∈ rs.take k, ∃ n : Int, row = [.int .u8 n] ∧ 0 ≤ n ∧ n < 256 := fun row hrow => u8Row_spec (List.all_eq_true.1 h2 row hrow)
        let l : List UInt8 := (rs.take k).map fun r => UInt8.ofNat (r.headD .any).toInt.toNat
        have hll : l.length = k := by simp [l]; omega
        have hcellj : ∀ j x, l[j]? = some x → w.cell? ((⟨b, 0, none⟩ : Addr).add j) = some (.int .u8 x.toNat) := fun j x hj => by
          simp only [l, List.getElem?_map, Option.map_eq_some_iff] at hj
          obtain ⟨row, hrow, rfl⟩ := hj
          obtain ⟨n, rfl, n0, n1⟩ := hall row (List.mem_of_getElem? hrow)
          have hrs : rs[j]? = some [.int .u8 n] := by
            rw [List.getElem?_take] at hrow
            split at hrow
            · exact hrow
            · cases hrow
          obtain ⟨cv, e1, e2⟩ := g5 j 0 _ _ hrs rfl
          obtain rfl := e2.int_inv
          rw [add_addr, cell_of_row w b _ cs T fr g1]
          simp only [Nat.zero_add]
          rw [Nat.mul_one, Nat.add_zero] at e1
          rw [e1]
          simp only [List.headD_cons, AVal.toInt]
          congr 2
          have : (UInt8.ofNat n.toNat).toNat = n.toNat := by rw [UInt8.toNat_ofNat']; omega
          rw [this]; omega
        have hrun := Lib.run_unsafeString_row (P := P) w pt it ty T hu hcell b cs.size hsh l (by intro e0; rw [e0] at hll; simp at hll; omega) (by rw [hll]; simp at g3; omega) (by rw [hll]; omega) hcellj
        rw [hll] at hrun
        obtain ⟨f1, f2, f3, f4⟩ := freeze_rest (w := w) (b := b) (n := k)
        obtain ⟨r1, t1⟩ := r.upd (A := .dead) hid rfl hb f1 f2 f3 f4 (fun x hx => freeze_other hx) (fun ca T fr h => by
          obtain ⟨fr', h'⟩ := freeze_heap (n := k) h; exact ⟨ca, fr', h', rfl⟩) trivial
        refine ⟨ρ, F, _, .string ⟨l.toArray⟩, by rw [show (0 * 1 + 0 : Nat) = 0 from rfl]; exact hrun, t1, r1, ?_⟩
        have : rowBytes (rs.take k) = ⟨l.toArray⟩ := rfl
        rw [this]; exact .str _ _
      · cases h
    · cases h
  · cases h

/-- A function without a body. -/
theorem aextern_ok {f : FuncId} {as : List AVal} {args : Array Value} {out : Out} (r : Rel ρ F σ w) (hp : PW F w ρ as args.toList) (h : aextern P f as σ = some out) (hcs : allP out.cs) :
    ∃ ρ' F' w' cv, (callFunc f args).run P w = .ok (.value cv) w' ∧ Tr σ out.σ ρ ρ' F F' w w' ∧ Rel ρ' F' out.σ w' ∧ VRel F' w' ρ' out.v cv := by
  have ext : ∀ {e : Array Value → Sem Value}, extOf P f = some e → (callFunc f args).run P w = ((e args).run P w).andThen fun v w' => .ok (.value v) w' := by
    intro e he
    unfold extOf at he
    split at he
    · rename_i fn hf
      split at he
      · cases he
      · rename_i hn
        split at he
        · rename_i hb
          split at he
          · rename_i hx
            exact run_callFunc_extern hf (by simpa using hn) hb hx he args w
          · cases he
        · cases he
    · cases he
  have one : ∀ {x : AVal}, as = [x] → ∃ u, args = #[u] ∧ VRel F w ρ x u := by
    rintro x rfl
    have h1 : args.size = 1 := by have := hp.1; simpa using this.symm
    obtain ⟨u, rfl⟩ : ∃ u, args = #[u] := Array.size_eq_one_iff.1 h1
    exact ⟨u, rfl, hp.2 0 x u rfl (by simp)⟩
  unfold aextern at h
  split at h
  · rename_i t id
    cases ho : Abs.obj σ id with
    | mp p ents =>
      rw [ho] at h
      dsimp only at h
      obtain rfl := Option.some.inj h
      obtain ⟨u, rfl, hu⟩ := one rfl
      obtain ⟨v, rfl, hv⟩ := hu.iface_inv
      obtain ⟨b, hb, rfl⟩ := hv.map_inv
      obtain ⟨es, clock, g1, g2, g3⟩ := r.obj _ _ _ (obj_some ho rfl) hb
      have hA : ORel F (w.alloc (.map es clock)) (updMap ρ σ.length w.heap.size) w.heap.size (.mp p ents) := by
        have hF := alloc_F r (.map es clock)
        have hR := alloc_row w (.map es clock)
        have hm := upd_map r w.heap.size
        refine ⟨es, clock, heap_alloc_new' _ _, g2, fun i k v e => ?_⟩
        obtain ⟨en, e1, e2, e3⟩ := g3 i k v e
        exact ⟨en, e1, e2.mono hF hR (inMap_mono p hm), e3.mono hF hR (inMap_mono p hm)⟩
      obtain ⟨r2, t2⟩ := r.alloc (.map es clock) _ hA
      refine ⟨_, F, _, .iface t (.map (some w.heap.size)), ?_, t2, r2, .iface _ _ _ _ (.map _ _ _ (by simp [updMap]))⟩
      rw [ext hcs.cons.1]
      have hg : (getObj b).run P w = .ok (.map es clock) w := by simp [getObj, Sem.run, g1]
      have hc : Extern.MapsClone.clone #[.iface t (.map (some b))] = (do
          let .map entries clock ← getObj b | stuck "maps.clone: a map expected"
          pure (.iface t (.map (some (← newObj (.map entries clock)))))) := rfl
      rw [hc]
      simp [hg, Result.andThen]
    | dead => rw [ho] at h; dsimp only at h; exact absurd h (by simp)
    | rows _ _ _ => rw [ho] at h; dsimp only at h; exact absurd h (by simp)
    | trows _ _ _ _ => rw [ho] at h; dsimp only at h; exact absurd h (by simp)
  · rename_i x _
    obtain rfl := Option.some.inj h
    obtain ⟨u, rfl, hu⟩ := one rfl
    refine ⟨ρ, F, w, u, ?_, Tr.refl _ _ _ _, r, hu⟩
    rw [ext hcs.cons.1]
    rfl
  · cases h

end
end Go.Abs
