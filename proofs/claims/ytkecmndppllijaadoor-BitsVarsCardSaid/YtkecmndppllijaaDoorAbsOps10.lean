import Derived.Test.YtkecmndppllijaaDoorAbsOps9
set_option linter.unusedVariables false
set_option linter.unusedSimpArgs false
namespace Go.Abs

section
variable {P : Program} {F : Nat → Prop} {w : World} {ρ : RMap} {σ : AState}

theorem alen_ok {t ty : TypeId} {x : AVal} {cx : Value} {out : Out} (r : Rel ρ F σ w) (hx : VRel F w ρ x cx) (h : alen P t x σ = some out) : Fine P F w ρ σ out (Builtin.len_ #[t] ty #[cx]) := by
  unfold alen at h
  split at h
  · rename_i s hu
    cases h; obtain rfl := hx.str_inv
    exact Fine.same r (by simp [Builtin.len_, run_underlying hu]; rfl) rfl (.int _ _ _)
  · rename_i n e hu
    cases h
    exact Fine.same r (by simp [Builtin.len_, run_underlying hu]; rfl) rfl (.int _ _ _)
  · rename_i e _ _ _ _ len _ hu
    cases h
    rcases hx.slc_inv with ⟨_, c, b, _, _, _, _, rfl⟩ | ⟨rfl, base, _, _, rfl⟩
    · exact Fine.same r (by simp [Builtin.len_, run_underlying hu]; rfl) rfl (.int _ _ _)
    · exact Fine.same r (by simp [Builtin.len_, run_underlying hu]; rfl) rfl (.int _ _ _)
  · rename_i e _ _ rs _ hu
    cases h
    rcases hx.fsl_inv with ⟨_, rfl, _, rfl⟩ | ⟨_, a, c, _, _, rfl, _⟩
    · exact Fine.same r (by simp [Builtin.len_, run_underlying hu]; rfl) rfl (.int _ _ _)
    · exact Fine.same r (by simp [Builtin.len_, run_underlying hu]; rfl) rfl (.int _ _ _)
  · rename_i k e hu
    cases h; obtain rfl := hx.nilm_inv
    exact Fine.same r (by simp [Builtin.len_, run_underlying hu]; rfl) rfl (.int _ _ _)
  · rename_i k e id hu
    split at h
    · rename_i p ents ho
      cases h
      obtain ⟨b, hb, rfl⟩ := hx.map_inv
      obtain ⟨es, clock, h1, h2, _⟩ := r.obj _ _ _ (obj_some ho rfl) hb
      refine Fine.same r (cv := goInt es.size) ?_ rfl (by unfold goInt; rw [h2]; exact .int _ _ _)
      have hg : (getObj b).run P w = .ok (.map es clock) w := by simp [getObj, Sem.run, h1]
      simp [Builtin.len_, run_underlying hu, hg]
    · cases h
  · cases h

theorem amakeSlice_ok {t : TypeId} {l c : AVal} {cl cc : Value} {out : Out} (r : Rel ρ F σ w) (hl : VRel F w ρ l cl) (hc : VRel F w ρ c cc) (h : amakeSlice P t l c σ = some out) (hcs : allP out.cs) :
    Fine P F w ρ σ out (Instr.makeSlice t cl cc) := by
  unfold amakeSlice at h
  split at h
  · rename_i e n m hu
    rw [Option.bind_eq_some_iff] at h
    obtain ⟨z', hz', h⟩ := h
    dsimp only at h
    split at h
    · rename_i hq
      simp only [Bool.and_eq_true, beq_iff_eq, decide_eq_true_eq] at hq
      obtain ⟨⟨hzl, hpure⟩, hes⟩ := hq
      cases h
      obtain rfl := hl.int_inv
      obtain rfl := hc.int_inv
      obtain ⟨i, z, hi, hiz, hsz, hby, hza⟩ := info_of_cells hes (by rw [hz']; rfl)
      rw [hz'] at hza; cases hza
      obtain ⟨h0, hlm, hbb, h63⟩ := of_decide_eq_true hcs.cons.1
      have hrun := run_make (P := P) w t e i z hu hi hiz .i64 .i64 n m h0 hlm (by rw [hby, Int.mul_comm]; exact hbb) h63
      have hone : ∀ v : AVal, pureCell v = true → oneCell v = true := by intro v hv; cases v <;> simp_all [pureCell, oneCell]
      have hall : (abs0 z).cells.all oneCell = true := by
        rw [List.all_eq_true] at hpure ⊢
        exact fun v hv => hone v (hpure v hv)
      obtain ⟨hzp, _⟩ := PW.cells (abs0_ok F w noId z) hall
      have hzs : z.cells.size = P.cellsOf e := by rw [← hzl, hzp.1]; simp
      have hmc : (madeCells z.cells (m.toNat * i.size)).toList = (List.replicate m.toNat z.cells.toList).flatten := by
        rw [hsz, ← hzs]; exact replicate_flatten_get m.toNat z.cells (by rw [hzs]; exact hes)
      have hPW := (hzp.replicate m.toNat)
      rw [← hmc] at hPW
      have hp' : PW F (w.alloc (.cells (madeCells z.cells (m.toNat * i.size)) e)) noId (List.replicate m.toNat (abs0 z).cells).flatten (madeCells z.cells (m.toNat * i.size)).toList :=
        ⟨hPW.1, fun k x y h1 h2 => (hPW.2 k x y h1 h2).mono (alloc_F r _) (alloc_row w _) (fun _ _ h => h)⟩
      refine Fine.new (A := .rows (!(kindsOf P 20 e).any refKind) (P.cellsOf e) (List.replicate n.toNat (abs0 z).cells)) r hrun rfl ?_ ?_
      · refine ORel.new (heap_alloc_new' _ _) ?_ ?_ ?_
        · rw [size_madeCells, List.length_replicate, hsz]
          exact Nat.mul_le_mul_right _ (by omega)
        · intro k row hk
          rw [List.getElem?_replicate] at hk
          split at hk
          · cases hk; exact hzl
          · cases hk
        · intro k j row v h1 h2
          rw [List.getElem?_replicate] at h1
          split at h1
          · rename_i hk
            cases h1
            have hj : j < P.cellsOf e := by rw [← hzl]; exact (List.getElem?_eq_some_iff.1 h2).1
            have hlt : k * P.cellsOf e + j < m.toNat * P.cellsOf e := mul_add_lt (by omega) hj
            have hget : (madeCells z.cells (m.toNat * i.size))[k * P.cellsOf e + j]? = some (z.cells[j]'(by rw [hzs]; exact hj)) := by
              unfold madeCells
              rw [Array.getElem?_map, Array.getElem?_range, if_pos (by rw [hsz]; exact hlt)]
              simp only [Option.map_some]
              have hjz : j < z.cells.size := by rw [hzs]; exact hj
              have e1 : (k * P.cellsOf e + j) % z.cells.size = j := by rw [hzs]; exact (mul_add_div hj).2
              rw [e1, getElem!_pos z.cells j hjz]
            refine ⟨_, hget, ?_⟩
            have := hzp.2 j v (z.cells[j]'(by rw [hzs]; exact hj)) h2 (by simp [hzs, hj])
            exact ((this.mono (alloc_F r _) (alloc_row w _) (ρ' := noId) (fun _ _ h => h))).pure
          · cases h1
      · have := VRel.slc (F := F) (w := w.alloc (.cells (madeCells z.cells (m.toNat * i.size)) e)) (updMap ρ σ.length w.heap.size) σ.length (P.cellsOf e) 0 n.toNat (some m.toNat) m.toNat w.heap.size (by simp [updMap]) (by omega) (by simp)
          ⟨_, e, _, heap_alloc_new' _ _, by rw [Nat.zero_add, size_madeCells, hsz]; exact Nat.le_refl _⟩
        simp only [Nat.zero_mul] at this
        exact this
    · cases h
  · cases h

theorem amakeMap_ok {t : TypeId} {out : Out} (r : Rel ρ F σ w) (h : amakeMap P t none σ = some out) : Fine P F w ρ σ out (Instr.makeMap t none) := by
  unfold amakeMap at h
  split at h
  · cases h
    refine Fine.new (o := .map #[] 0) (A := .mp _ []) r (by simp [Instr.makeMap]; rfl) rfl ⟨#[], 0, heap_alloc_new' _ _, rfl, fun i k v h => by simp at h⟩ (.map _ _ _ (by simp [updMap]))
  · cases h

/-! ### cutting -/
def ORelO (F : Nat → Prop) (w : World) (ρ : RMap) (a : Option AVal) (c : Option Value) : Prop :=
  match a, c with
  | none, none => True
  | some x, some y => VRel F w ρ x y
  | _, _ => False

theorem bound_cases {d : Nat} {a : Option AVal} {c : Option Value} {v : Int} (h : ORelO F w ρ a c) (e : abound d a = some v) : (a = none ∧ c = none ∧ v = d) ∨ (a ≠ none ∧ ∃ k, c = some (.int k v)) := by
  cases a with
  | none =>
    cases c with
    | none => simp only [abound, Option.some.injEq] at e; exact .inl ⟨rfl, rfl, e.symm⟩
    | some y => exact h.elim
  | some x =>
    cases c with
    | none => exact h.elim
    | some y =>
      cases x <;> simp only [abound] at e <;> first | (cases e; done) | skip
      simp only [Option.some.injEq] at e; subst e
      exact .inr ⟨by simp, _, congrArg some (VRel.int_inv h)⟩

theorem run_bounds {isSlice : Bool} {len cap : Nat} {lo hi mx : Option AVal} {clo chi cmx : Option Value} {l h : Int} {m : Int} (hlo : ORelO F w ρ lo clo) (hhi : ORelO F w ρ hi chi) (hmx : ORelO F w ρ mx cmx)
    (el : abound 0 lo = some l) (eh : abound len hi = some h) (em : abound cap mx = some m) (hm : mx ≠ none → hi ≠ none) (h0 : 0 ≤ l ∧ l ≤ h ∧ h ≤ m ∧ m ≤ (cap : Int)) :
    (Instr.sliceBounds isSlice len cap clo chi cmx).run P w = .ok (l.toNat, h.toNat, m.toNat) w := by
  obtain ⟨h1, h2, h3, h4⟩ := h0
  have hhn : ((h.toNat : Nat) : Int) = h := by omega
  have hmn : ((m.toNat : Nat) : Int) = m := by omega
  have s1 : ∀ k code, (Instr.sliceBound (.int k m) cap code).run P w = .ok m.toNat w := fun k code => run_sliceBound w k m cap code (by omega) h4
  have s2 : ∀ k code, (Instr.sliceBound (.int k h) m.toNat code).run P w = .ok h.toNat w := fun k code => run_sliceBound w k h _ code (by omega) (by omega)
  have s3 : ∀ k code, (Instr.sliceBound (.int k l) h.toNat code).run P w = .ok l.toNat w := fun k code => run_sliceBound w k l _ code h1 (by omega)
  rcases bound_cases hmx em with ⟨e1, rfl, e2⟩ | ⟨e1, km, rfl⟩ <;> rcases bound_cases hhi eh with ⟨e3, rfl, e4⟩ | ⟨e3, kh, rfl⟩ <;> rcases bound_cases hlo el with ⟨e5, rfl, e6⟩ | ⟨e5, kl, rfl⟩
  all_goals first
    | (exact absurd e3 (hm e1))
    | skip
  all_goals (try subst e2); (try subst e4); (try subst e6)
  all_goals (try simp only [Int.toNat_natCast] at s1 s2 s3)
  all_goals (unfold Instr.sliceBounds; simp [s1, s2, s3])

theorem aslice_ok {t : TypeId} {x : AVal} {cx : Value} {lo hi mx : Option AVal} {clo chi cmx : Option Value} {out : Out} (r : Rel ρ F σ w) (hx : VRel F w ρ x cx) (hlo : ORelO F w ρ lo clo) (hhi : ORelO F w ρ hi chi) (hmx : ORelO F w ρ mx cmx)
    (h : aslice P t x lo hi mx σ = some out) (hcs : allP out.cs) : Fine P F w ρ σ out (Instr.sliceAt t cx clo chi cmx) := by
  unfold aslice at h
  split at h
  · rename_i s hu
    split at h
    · rename_i l hh e1 e2
      cases h
      obtain rfl := hx.str_inv
      have hc := of_decide_eq_true hcs.cons.1
      have hcm : cmx = none := by
        cases cmx with
        | none => rfl
        | some y => exact hmx.elim
      subst hcm
      have hb := run_bounds (P := P) (isSlice := false) (len := s.size) (cap := s.size) hlo hhi hmx e1 e2 (by rfl : abound s.size none = some (s.size : Int)) (by simp) ⟨hc.1, hc.2.1, hc.2.2, by omega⟩
      exact Fine.same r (by simp [Instr.sliceAt, run_underlying hu, Instr.slice, hb]) rfl (.str _ _)
    · cases h
  · rename_i e isnil id es off len cap hu
    split at h
    · rename_i hbeq
      simp only [Bool.and_eq_true, beq_iff_eq, bne_iff_ne] at hbeq
      obtain ⟨hbe, hes⟩ := hbeq
      subst hbe
      have key : ∀ (l hh : Int) (ncap : Option Nat), abound 0 lo = some l → abound len hi = some hh → (mx ≠ none → hi ≠ none) → 0 ≤ l → l ≤ hh →
          (∀ c : Nat, len ≤ c → (∀ k, cap = some k → c = k) → ∃ m' : Int, abound c mx = some m' ∧ hh ≤ m' ∧ m' ≤ (c : Int) ∧ (∀ k, ncap = some k → m'.toNat - l.toNat = k)) →
          out.v = .slc isnil id (P.cellsOf e) (l.toNat + off) (hh.toNat - l.toNat) ncap → out.σ = σ → Fine P F w ρ σ out (Instr.sliceAt t cx clo chi cmx) := by
        intro l hh ncap e1 e2 e3 g0 g1 gc ov oσ
        have run : ∀ (base : Option Addr) (c : Nat) (m' : Int), abound c mx = some m' → hh ≤ m' → m' ≤ (c : Int) →
            (Instr.sliceAt t (.slice base len c) clo chi cmx).run P w = .ok (.slice (if m'.toNat = l.toNat then base else base.map (·.add (l.toNat * P.cellsOf e))) (hh.toNat - l.toNat) (m'.toNat - l.toNat)) w := by
          intro base c m' e4 g3 g4
          have hrb := run_bounds (P := P) (isSlice := true) (len := len) (cap := c) hlo hhi hmx e1 e2 e4 e3 ⟨g0, g1, g3, g4⟩
          simp only [Instr.sliceAt, Sem.run_bind, run_underlying hu, Result.andThen_ok, Instr.slice, hrb, run_sizeOf hes, Sem.run_pure]
        rcases hx.slc_inv with ⟨rfl, c, b, hb, hlc, hcp, ⟨cs, T, fr, hw, hfit⟩, rfl⟩ | ⟨rfl, base, hbn, hcp, rfl⟩
        · obtain ⟨m', e4, g3, g4, g5⟩ := gc c hlc hcp
          refine Fine.same r (run _ c m' e4 g3 g4) oσ ?_
          rw [ov, Nat.add_comm l.toNat off]
          by_cases hml : m'.toNat = l.toNat
          · rw [if_pos hml, hml, Nat.sub_self, show hh.toNat - l.toNat = 0 by omega]
            exact .slcE _ _ _ _ _ _ _ rfl (fun k hk => by have := g5 k hk; omega)
          · rw [if_neg hml, Option.map_some, add_addr, ← Nat.add_mul]
            refine .slc _ _ _ _ _ _ _ _ hb (by omega) g5 ⟨cs, T, fr, hw, Nat.le_trans (Nat.mul_le_mul_right _ ?_) hfit⟩
            omega
        · obtain ⟨m', e4, g3, g4, g5⟩ := gc 0 (Nat.le_refl _) (fun k hk => (hcp k hk).symm)
          have hl0 : l.toNat = 0 := by omega
          have hm0 : m'.toNat = 0 := by omega
          refine Fine.same r (run _ 0 m' e4 g3 g4) oσ ?_
          rw [ov, if_pos (by omega), hm0, hl0, show hh.toNat = 0 by omega]
          exact .slcE _ _ _ _ _ _ _ hbn (fun k hk => by have := g5 k hk; omega)
      split at h
      · rename_i l hh e1 e2
        cases h
        have hc := of_decide_eq_true hcs.cons.1
        exact key l hh none e1 e2 (by simp) hc.1 hc.2.1 (fun c h1 h2 => ⟨c, rfl, by omega, by omega, by simp⟩) rfl rfl
      · rename_i l hh c' e1 e2
        cases h
        have hc := of_decide_eq_true hcs.cons.1
        exact key l hh _ e1 e2 (by simp) hc.1 hc.2.1 (fun c h1 h2 => ⟨c, rfl, by have := h2 _ rfl; omega, by omega, by intro k hk; cases hk; have := h2 _ rfl; subst this; simp⟩) rfl rfl
      · rename_i l hh k m e1 e2
        split at h
        · rename_i hhi0
          cases h
          have hc := of_decide_eq_true hcs.cons.1
          exact key l hh _ e1 e2 (fun _ => by rw [← Option.isSome_iff_ne_none]; exact hhi0) hc.1 hc.2.1 (fun c h1 h2 => ⟨m, rfl, hc.2.2.1, by omega, by intro k hk; cases hk; rfl⟩) rfl rfl
        · cases h
      · cases h
    · cases h
  · rename_i e isnil es rs cap hu
    split at h
    · rename_i hbeq
      simp only [Bool.and_eq_true, beq_iff_eq, bne_iff_ne] at hbeq
      obtain ⟨hbe, hes⟩ := hbeq
      subst hbe
      have key : ∀ (l hh : Int) (ncap : Option Nat), abound 0 lo = some l → abound rs.length hi = some hh → (mx ≠ none → hi ≠ none) → 0 ≤ l → l ≤ hh → hh ≤ (rs.length : Int) →
          (∀ c : Nat, rs.length ≤ c → ∃ m' : Int, abound c mx = some m' ∧ hh ≤ m' ∧ m' ≤ (c : Int) ∧ (∀ k, ncap = some k → m'.toNat - l.toNat = k)) →
          out.v = .fsl isnil (P.cellsOf e) ((rs.take hh.toNat).drop l.toNat) ncap → out.σ = σ → Fine P F w ρ σ out (Instr.sliceAt t cx clo chi cmx) := by
        intro l hh ncap e1 e2 e3 g0 g1 g2 gc ov oσ
        have run : ∀ (base : Option Addr) (c : Nat) (m' : Int), abound c mx = some m' → hh ≤ m' → m' ≤ (c : Int) →
            (Instr.sliceAt t (.slice base rs.length c) clo chi cmx).run P w = .ok (.slice (if m'.toNat = l.toNat then base else base.map (·.add (l.toNat * P.cellsOf e))) (hh.toNat - l.toNat) (m'.toNat - l.toNat)) w := by
          intro base c m' e4 g3 g4
          have hrb := run_bounds (P := P) (isSlice := true) (len := rs.length) (cap := c) hlo hhi hmx e1 e2 e4 e3 ⟨g0, g1, g3, g4⟩
          simp only [Instr.sliceAt, Sem.run_bind, run_underlying hu, Result.andThen_ok, Instr.slice, hrb, run_sizeOf hes, Sem.run_pure]
        have hlen : ((rs.take hh.toNat).drop l.toNat).length = hh.toNat - l.toNat := by simp; omega
        rcases hx.fsl_inv with ⟨rfl, rfl, hcp, rfl⟩ | ⟨rfl, a, c, hl, hcp, rfl, hrest⟩
        · obtain ⟨m', e4, g3, g4, g5⟩ := gc 0 (Nat.le_refl _)
          simp only [List.length_nil] at g2
          refine Fine.same r (run _ 0 m' e4 g3 g4) oσ ?_
          rw [ov, if_pos (by omega), show m'.toNat - l.toNat = 0 by omega, show hh.toNat - l.toNat = 0 by omega, List.take_nil, List.drop_nil]
          exact .fnil _ _ _ (fun k hk => by have := g5 k hk; omega)
        · obtain ⟨m', e4, g3, g4, g5⟩ := gc c hl
          refine Fine.same r (run _ c m' e4 g3 g4) oσ ?_
          rw [ov]
          by_cases he0 : (rs.take hh.toNat).drop l.toNat = []
          · have h0 : hh.toNat - l.toNat = 0 := by rw [← hlen, he0]; rfl
            rw [he0, h0]
            by_cases hml : m'.toNat = l.toNat
            · rw [if_pos hml]; exact .femp _ _ _ _ _ g5
            · rw [if_neg hml]; exact .femp _ _ _ _ _ g5
          · have hne : hh.toNat - l.toNat ≠ 0 := by
              intro h0; apply he0; exact List.eq_nil_of_length_eq_zero (by rw [hlen, h0])
            rcases hrest with h0 | ⟨b, o, f, rfl, hF, hw, hg, hv⟩
            · subst h0; simp at he0
            · have hget : ∀ (i : Nat) (row : List AVal), ((rs.take hh.toNat).drop l.toNat)[i]? = some row → rs[l.toNat + i]? = some row := by
                intro i row hr
                rw [List.getElem?_drop, List.getElem?_take] at hr
                split at hr
                · exact hr
                · cases hr
              rw [if_neg (by omega), Option.map_some, add_addr]
              have := VRel.fsl (F := F) (w := w) ρ (P.cellsOf e) ((rs.take hh.toNat).drop l.toNat) b (o + l.toNat * P.cellsOf e) (m'.toNat - l.toNat) ncap (fun i j => f (l.toNat + i) j) hF (by rw [hlen]; omega) g5
                (fun i row hr => hw _ _ (hget i row hr))
                (fun i j row v h1 h2 => by
                  have := hg _ _ _ _ (hget i row h1) h2
                  rw [Nat.add_mul, ← Nat.add_assoc] at this
                  exact this)
                (fun i j row v h1 h2 => hv _ _ _ _ (hget i row h1) h2)
              rw [hlen] at this
              exact this
      split at h
      · rename_i l hh e1 e2
        cases h
        have hc := of_decide_eq_true hcs.cons.1
        exact key l hh none e1 e2 (by simp) hc.1 hc.2.1 hc.2.2 (fun c h1 => ⟨c, rfl, by omega, by omega, by simp⟩) rfl rfl
      · rename_i l hh k m e1 e2
        split at h
        · rename_i hhi0
          cases h
          have hc := of_decide_eq_true hcs.cons.1
          exact key l hh _ e1 e2 (fun _ => by rw [← Option.isSome_iff_ne_none]; exact hhi0) hc.1 hc.2.1 (by omega) (fun c h1 => ⟨m, rfl, hc.2.2.1, by omega, by intro k hk; cases hk; rfl⟩) rfl rfl
        · cases h
      · cases h
    · cases h
  · cases h
  · cases h

end
end Go.Abs
