import Derived.Test.YtpkbeinnflbemaaL06S
set_option linter.unusedVariables false
set_option linter.unusedSimpArgs false
set_option maxRecDepth 100000
namespace Go.L06
open Go Go.Abs Go.Proofs

theorem kindOf_cases (x : Op) (L : Lg) : x.kindOf L = 1 ∨ x.kindOf L = 2 ∨ x.kindOf L = 3 ∨ x.kindOf L = 0 := by
  unfold Op.kindOf
  split
  · simp
  · split
    · simp
    · split <;> simp
theorem kindOf_add {x : Op} {L : Lg} (h : x.kindOf L = 1) : L.why x.e = 0 := by
  unfold Op.kindOf at h
  split at h
  · rename_i hc; exact hc.2
  · split at h
    · simp at h
    · split at h <;> simp at h
theorem kindOf_cmp {x : Op} {L : Lg} (h : x.kindOf L = 3) : (L.term x.n).2 = 0 := by
  unfold Op.kindOf at h
  split at h
  · simp at h
  · split at h
    · simp at h
    · split at h
      · rename_i hc; exact hc.2
      · simp at h

def EndsP (b : Bool) (X : List (List AVal)) (i : Int) (L : Lg) : Prop :=
  (∃ (L' : Lg) (j : Int), L'.ok ∧ LoopRun Try.prog 0 (loopNo Try.f6 0) (rgP b X i) (plH L) (.exit 0) (rgP b X j) (plH L'))
  ∨ LoopRun Try.prog 0 (loopNo Try.f6 0) (rgP b X i) (plH L) .ret (mkR 84 [(6, .bool true)]) []
def NextP (b : Bool) (X : List (List AVal)) (i : Nat) (e : AExit) (rg : Regs) (σ : AState) : Prop :=
  (e = .normal ∧ i < X.length ∧ ∃ L' : Lg, L'.ok ∧ rg = rgP b X ((i + 1 : Nat) : Int) ∧ σ = plH L') ∨ (e = .exit 0 ∧ ∃ L' : Lg, L'.ok ∧ rg = rgP b X (i : Int) ∧ σ = plH L') ∨ (e = .ret ∧ rg = mkR 84 [(6, .bool true)] ∧ σ = [])

theorem pl_step (b : Bool) (xs : List Op) (i : Nat) (L : Lg) (v : L.ok) : pl_T L b (xs.map Op.row) (i : Int) (NextP b (xs.map Op.row) i) := by
  have stop : NextP b (xs.map Op.row) i (.exit 0) (rgP b (xs.map Op.row) i) (plH L) := .inr (.inl ⟨rfl, L, v, rfl, rfl⟩)
  unfold pl_T
  by_cases hi : i < xs.length
  · have g : (xs.map Op.row).getD (Int.toNat (i : Int)) [] = (xs.getD i zop).row := by rw [Int.toNat_natCast]; exact getD_map (f := Op.row) xs _ zop hi
    generalize hx : xs.getD i zop = x at g
    have hl : (xs.map Op.row).length = xs.length := List.length_map _
    rw [g, hl]
    refine ⟨fun h1 => ⟨fun h2 => ⟨decide_eq_true (by omega), rfl, decide_eq_true (by omega), fun h3 => .inr (.inr ⟨rfl, rfl, rfl⟩), fun h3 => ⟨rfl, v, ?_⟩⟩, fun h2 => stop⟩, fun h1 => stop⟩
    have w : IntKind.wrap .i64 ((i : Int) + 1) = ((i + 1 : Nat) : Int) := by have := of_decide_eq_true h2; rw [wrapS (by omega) (by omega)]; omega
    rw [w]
    have hiX : i < (xs.map Op.row).length := by rw [hl]; exact hi
    refine ⟨fun k => .inl ⟨rfl, hiX, _, add_ok v (kindOf_add k), rfl, rfl⟩, fun k => .inl ⟨rfl, hiX, _, cut_okL v _, rfl, rfl⟩, fun k => .inl ⟨rfl, hiX, _, cmp_okL v (kindOf_cmp k), rfl, rfl⟩, fun k => .inl ⟨rfl, hiX, L, v, rfl, rfl⟩, ?_⟩
    exact kindOf_cases _ _
  · have hl : (xs.map Op.row).length = xs.length := List.length_map _
    rw [hl]
    exact ⟨fun h1 => absurd (of_decide_eq_true h1) (by omega), fun _ => stop⟩

theorem pl_rounds (b : Bool) (xs : List Op) : ∀ (d i : Nat) (L : Lg), xs.length - i ≤ d → L.ok → EndsP b (xs.map Op.row) i L
  | d, i, L, hi, v => by
    obtain ⟨e, rg, σ, t, hq⟩ := pl_wp L b (xs.map Op.row) (i : Int) (pl_step b xs i L v)
    rcases hq with ⟨rfl, hl, L', v', rfl, rfl⟩ | ⟨rfl, L', v', rfl, rfl⟩ | ⟨rfl, rfl, rfl⟩
    · rw [List.length_map] at hl
      match d with
      | 0 => omega
      | d + 1 =>
        rcases pl_rounds b xs d (i + 1) L' (by omega) v' with ⟨L2, j, v2, r⟩ | r
        · exact .inl ⟨L2, j, v2, .more t r⟩
        · exact .inr (.more t r)
    · exact .inl ⟨L', i, v', .done t (by simp)⟩
    · exact .inr (.done t (by simp))

def okNew (a m : Int) : Prop := 0 ≤ a ∧ a ≤ 1099511627776 ∧ 0 ≤ m ∧ m ≤ 1099511627776
instance (a m : Int) : Decidable (okNew a m) := by unfold okNew; exact inferInstance
theorem newn_1 (a : Int) (m : Int)
    (h1 : decide (a < 0) = true) :
    FOk Try.prog 8 ([AVal.int IntKind.i64 a, AVal.int IntKind.i64 m]) ([]) (AVal.tuple [AVal.nilp, AVal.int IntKind.i64 1]) ([]) :=
  (evalF_ok followed Try.func8 (by kernel_rfl) (show evalF Try.prog Try.f8 ([AVal.int IntKind.i64 a, AVal.int IntKind.i64 m]) ([]) ([Dec.br true]) = .ok (FRes.mk (AVal.tuple [AVal.nilp, AVal.int IntKind.i64 1]) ([]) ((decide (a < 0) = true) :: [])) by kernel_rfl) (allP_of ⟨h1, trivial⟩)).move ([]) (by kernel_rfl) (by kernel_rfl) (by kernel_rfl)

theorem newn_2 (a : Int) (m : Int)
    (h1 : decide (a > 1099511627776) = true)
    (h2 : decide (a < 0) = false) :
    FOk Try.prog 8 ([AVal.int IntKind.i64 a, AVal.int IntKind.i64 m]) ([]) (AVal.tuple [AVal.nilp, AVal.int IntKind.i64 1]) ([]) :=
  (evalF_ok followed Try.func8 (by kernel_rfl) (show evalF Try.prog Try.f8 ([AVal.int IntKind.i64 a, AVal.int IntKind.i64 m]) ([]) ([Dec.br false, Dec.br true]) = .ok (FRes.mk (AVal.tuple [AVal.nilp, AVal.int IntKind.i64 1]) ([]) ((decide (a > 1099511627776) = true) :: ((decide (a < 0) = false) :: []))) by kernel_rfl) (allP_of ⟨h1, ⟨h2, trivial⟩⟩)).move ([]) (by kernel_rfl) (by kernel_rfl) (by kernel_rfl)

theorem newn_3 (a : Int) (m : Int)
    (h1 : decide (m < 0) = true)
    (h2 : decide (a > 1099511627776) = false)
    (h3 : decide (a < 0) = false) :
    FOk Try.prog 8 ([AVal.int IntKind.i64 a, AVal.int IntKind.i64 m]) ([]) (AVal.tuple [AVal.nilp, AVal.int IntKind.i64 1]) ([]) :=
  (evalF_ok followed Try.func8 (by kernel_rfl) (show evalF Try.prog Try.f8 ([AVal.int IntKind.i64 a, AVal.int IntKind.i64 m]) ([]) ([Dec.br false, Dec.br false, Dec.br true]) = .ok (FRes.mk (AVal.tuple [AVal.nilp, AVal.int IntKind.i64 1]) ([]) ((decide (m < 0) = true) :: ((decide (a > 1099511627776) = false) :: ((decide (a < 0) = false) :: [])))) by kernel_rfl) (allP_of ⟨h1, ⟨h2, ⟨h3, trivial⟩⟩⟩)).move ([]) (by kernel_rfl) (by kernel_rfl) (by kernel_rfl)

theorem newn_4 (a : Int) (m : Int)
    (h1 : decide (m > 1099511627776) = true)
    (h2 : decide (m < 0) = false)
    (h3 : decide (a > 1099511627776) = false)
    (h4 : decide (a < 0) = false) :
    FOk Try.prog 8 ([AVal.int IntKind.i64 a, AVal.int IntKind.i64 m]) ([]) (AVal.tuple [AVal.nilp, AVal.int IntKind.i64 1]) ([]) :=
  (evalF_ok followed Try.func8 (by kernel_rfl) (show evalF Try.prog Try.f8 ([AVal.int IntKind.i64 a, AVal.int IntKind.i64 m]) ([]) ([Dec.br false, Dec.br false, Dec.br false, Dec.br true]) = .ok (FRes.mk (AVal.tuple [AVal.nilp, AVal.int IntKind.i64 1]) ([]) ((decide (m > 1099511627776) = true) :: ((decide (m < 0) = false) :: ((decide (a > 1099511627776) = false) :: ((decide (a < 0) = false) :: []))))) by kernel_rfl) (allP_of ⟨h1, ⟨h2, ⟨h3, ⟨h4, trivial⟩⟩⟩⟩)).move ([]) (by kernel_rfl) (by kernel_rfl) (by kernel_rfl)

theorem newn_5 (a : Int) (m : Int)
    (h1 : decide (m > 1099511627776) = false)
    (h2 : decide (m < 0) = false)
    (h3 : decide (a > 1099511627776) = false)
    (h4 : decide (a < 0) = false) :
    FOk Try.prog 8 ([AVal.int IntKind.i64 a, AVal.int IntKind.i64 m]) ([]) (AVal.tuple [AVal.ptr 0 4 0 0, AVal.int IntKind.i64 0]) ([AObj.rows false 4 [[AVal.int IntKind.i64 a, AVal.int IntKind.i64 m, AVal.fsl true 0 [] (some 0), AVal.tt true]]]) :=
  (evalF_ok followed Try.func8 (by kernel_rfl) (show evalF Try.prog Try.f8 ([AVal.int IntKind.i64 a, AVal.int IntKind.i64 m]) ([]) ([Dec.br false, Dec.br false, Dec.br false, Dec.br false]) = .ok (FRes.mk (AVal.tuple [AVal.ptr 0 4 0 0, AVal.int IntKind.i64 0]) ([AObj.rows false 4 [[AVal.int IntKind.i64 a, AVal.int IntKind.i64 m, AVal.fsl true 0 [] (some 0), AVal.tt true]]]) ((decide (m > 1099511627776) = false) :: ((decide (m < 0) = false) :: ((decide (a > 1099511627776) = false) :: ((decide (a < 0) = false) :: []))))) by kernel_rfl) (allP_of ⟨h1, ⟨h2, ⟨h3, ⟨h4, trivial⟩⟩⟩⟩)).move ([0]) (by kernel_rfl) (by kernel_rfl) (by kernel_rfl)

def newn_T (a : Int) (m : Int) (Q : AVal → AState → Prop) : Prop := ((decide (a < 0) = true) → Q (AVal.tuple [AVal.nilp, AVal.int IntKind.i64 1]) ([])) ∧ ((decide (a < 0) = false) → ((decide (a > 1099511627776) = true) → Q (AVal.tuple [AVal.nilp, AVal.int IntKind.i64 1]) ([])) ∧ ((decide (a > 1099511627776) = false) → ((decide (m < 0) = true) → Q (AVal.tuple [AVal.nilp, AVal.int IntKind.i64 1]) ([])) ∧ ((decide (m < 0) = false) → ((decide (m > 1099511627776) = true) → Q (AVal.tuple [AVal.nilp, AVal.int IntKind.i64 1]) ([])) ∧ ((decide (m > 1099511627776) = false) → Q (AVal.tuple [AVal.ptr 0 4 0 0, AVal.int IntKind.i64 0]) ([AObj.rows false 4 [[AVal.int IntKind.i64 a, AVal.int IntKind.i64 m, AVal.fsl true 0 [] (some 0), AVal.tt true]]])))))
theorem newn_wp (a : Int) (m : Int) {Q : AVal → AState → Prop} (h : newn_T a m Q) : ∃ r σ', FOk Try.prog 8 ([AVal.int IntKind.i64 a, AVal.int IntKind.i64 m]) ([]) r σ' ∧ Q r σ' :=
  brE (fun (c0 : decide (a < 0) = true) => ⟨_, _, newn_1 a m (c0), (h.1 c0)⟩) (fun (c0 : decide (a < 0) = false) => brE (fun (c1 : decide (a > 1099511627776) = true) => ⟨_, _, newn_2 a m (c1) (c0), ((h.2 c0).1 c1)⟩) (fun (c1 : decide (a > 1099511627776) = false) => brE (fun (c2 : decide (m < 0) = true) => ⟨_, _, newn_3 a m (c2) (c1) (c0), (((h.2 c0).2 c1).1 c2)⟩) (fun (c2 : decide (m < 0) = false) => brE (fun (c3 : decide (m > 1099511627776) = true) => ⟨_, _, newn_4 a m (c3) (c2) (c1) (c0), ((((h.2 c0).2 c1).2 c2).1 c3)⟩) (fun (c3 : decide (m > 1099511627776) = false) => ⟨_, _, newn_5 a m (c3) (c2) (c1) (c0), ((((h.2 c0).2 c1).2 c2).2 c3)⟩))))


theorem rnewn_1 (a : Int) (m : Int)
    (h1 : decide (a < 0) = true) :
    FOk Try.prog 18 ([AVal.int IntKind.i64 a, AVal.int IntKind.i64 m]) ([]) (AVal.tuple [AVal.agg [AVal.int IntKind.i64 0, AVal.int IntKind.i64 0, AVal.fsl true 2 [] none], AVal.int IntKind.i64 1]) ([]) :=
  (evalF_ok followed Try.func18 (by kernel_rfl) (show evalF Try.prog Try.f18 ([AVal.int IntKind.i64 a, AVal.int IntKind.i64 m]) ([]) ([Dec.br true]) = .ok (FRes.mk (AVal.tuple [AVal.agg [AVal.int IntKind.i64 0, AVal.int IntKind.i64 0, AVal.fsl true 2 [] none], AVal.int IntKind.i64 1]) ([AObj.rows false 3 [[AVal.int IntKind.i64 0, AVal.int IntKind.i64 0, AVal.fsl true 0 [] (some 0)]]]) (tr 4 ++ ((decide (a < 0) = true) :: []))) by kernel_rfl) (allP_of (trC 4 ⟨h1, trivial⟩))).move ([]) (by kernel_rfl) (by kernel_rfl) (by kernel_rfl)

theorem rnewn_2 (a : Int) (m : Int)
    (h1 : decide (a > 1099511627776) = true)
    (h2 : decide (a < 0) = false) :
    FOk Try.prog 18 ([AVal.int IntKind.i64 a, AVal.int IntKind.i64 m]) ([]) (AVal.tuple [AVal.agg [AVal.int IntKind.i64 0, AVal.int IntKind.i64 0, AVal.fsl true 2 [] none], AVal.int IntKind.i64 1]) ([]) :=
  (evalF_ok followed Try.func18 (by kernel_rfl) (show evalF Try.prog Try.f18 ([AVal.int IntKind.i64 a, AVal.int IntKind.i64 m]) ([]) ([Dec.br false, Dec.br true]) = .ok (FRes.mk (AVal.tuple [AVal.agg [AVal.int IntKind.i64 0, AVal.int IntKind.i64 0, AVal.fsl true 2 [] none], AVal.int IntKind.i64 1]) ([AObj.rows false 3 [[AVal.int IntKind.i64 0, AVal.int IntKind.i64 0, AVal.fsl true 0 [] (some 0)]]]) (tr 4 ++ ((decide (a > 1099511627776) = true) :: ((decide (a < 0) = false) :: [])))) by kernel_rfl) (allP_of (trC 4 ⟨h1, ⟨h2, trivial⟩⟩))).move ([]) (by kernel_rfl) (by kernel_rfl) (by kernel_rfl)

theorem rnewn_3 (a : Int) (m : Int)
    (h1 : decide (m < 0) = true)
    (h2 : decide (a > 1099511627776) = false)
    (h3 : decide (a < 0) = false) :
    FOk Try.prog 18 ([AVal.int IntKind.i64 a, AVal.int IntKind.i64 m]) ([]) (AVal.tuple [AVal.agg [AVal.int IntKind.i64 0, AVal.int IntKind.i64 0, AVal.fsl true 2 [] none], AVal.int IntKind.i64 1]) ([]) :=
  (evalF_ok followed Try.func18 (by kernel_rfl) (show evalF Try.prog Try.f18 ([AVal.int IntKind.i64 a, AVal.int IntKind.i64 m]) ([]) ([Dec.br false, Dec.br false, Dec.br true]) = .ok (FRes.mk (AVal.tuple [AVal.agg [AVal.int IntKind.i64 0, AVal.int IntKind.i64 0, AVal.fsl true 2 [] none], AVal.int IntKind.i64 1]) ([AObj.rows false 3 [[AVal.int IntKind.i64 0, AVal.int IntKind.i64 0, AVal.fsl true 0 [] (some 0)]]]) (tr 4 ++ ((decide (m < 0) = true) :: ((decide (a > 1099511627776) = false) :: ((decide (a < 0) = false) :: []))))) by kernel_rfl) (allP_of (trC 4 ⟨h1, ⟨h2, ⟨h3, trivial⟩⟩⟩))).move ([]) (by kernel_rfl) (by kernel_rfl) (by kernel_rfl)

theorem rnewn_4 (a : Int) (m : Int)
    (h1 : decide (m > 1099511627776) = true)
    (h2 : decide (m < 0) = false)
    (h3 : decide (a > 1099511627776) = false)
    (h4 : decide (a < 0) = false) :
    FOk Try.prog 18 ([AVal.int IntKind.i64 a, AVal.int IntKind.i64 m]) ([]) (AVal.tuple [AVal.agg [AVal.int IntKind.i64 0, AVal.int IntKind.i64 0, AVal.fsl true 2 [] none], AVal.int IntKind.i64 1]) ([]) :=
  (evalF_ok followed Try.func18 (by kernel_rfl) (show evalF Try.prog Try.f18 ([AVal.int IntKind.i64 a, AVal.int IntKind.i64 m]) ([]) ([Dec.br false, Dec.br false, Dec.br false, Dec.br true]) = .ok (FRes.mk (AVal.tuple [AVal.agg [AVal.int IntKind.i64 0, AVal.int IntKind.i64 0, AVal.fsl true 2 [] none], AVal.int IntKind.i64 1]) ([AObj.rows false 3 [[AVal.int IntKind.i64 0, AVal.int IntKind.i64 0, AVal.fsl true 0 [] (some 0)]]]) (tr 4 ++ ((decide (m > 1099511627776) = true) :: ((decide (m < 0) = false) :: ((decide (a > 1099511627776) = false) :: ((decide (a < 0) = false) :: [])))))) by kernel_rfl) (allP_of (trC 4 ⟨h1, ⟨h2, ⟨h3, ⟨h4, trivial⟩⟩⟩⟩))).move ([]) (by kernel_rfl) (by kernel_rfl) (by kernel_rfl)

theorem rnewn_5 (a : Int) (m : Int)
    (h1 : decide (m > 1099511627776) = false)
    (h2 : decide (m < 0) = false)
    (h3 : decide (a > 1099511627776) = false)
    (h4 : decide (a < 0) = false) :
    FOk Try.prog 18 ([AVal.int IntKind.i64 a, AVal.int IntKind.i64 m]) ([]) (AVal.tuple [AVal.agg [AVal.int IntKind.i64 a, AVal.int IntKind.i64 m, AVal.fsl true 2 [] none], AVal.int IntKind.i64 0]) ([]) :=
  (evalF_ok followed Try.func18 (by kernel_rfl) (show evalF Try.prog Try.f18 ([AVal.int IntKind.i64 a, AVal.int IntKind.i64 m]) ([]) ([Dec.br false, Dec.br false, Dec.br false, Dec.br false]) = .ok (FRes.mk (AVal.tuple [AVal.agg [AVal.int IntKind.i64 a, AVal.int IntKind.i64 m, AVal.fsl true 2 [] none], AVal.int IntKind.i64 0]) ([AObj.rows false 3 [[AVal.int IntKind.i64 a, AVal.int IntKind.i64 m, AVal.fsl true 0 [] (some 0)]]]) (tr 4 ++ ((decide (m > 1099511627776) = false) :: ((decide (m < 0) = false) :: ((decide (a > 1099511627776) = false) :: ((decide (a < 0) = false) :: [])))))) by kernel_rfl) (allP_of (trC 4 ⟨h1, ⟨h2, ⟨h3, ⟨h4, trivial⟩⟩⟩⟩))).move ([]) (by kernel_rfl) (by kernel_rfl) (by kernel_rfl)

def rnewn_T (a : Int) (m : Int) (Q : AVal → AState → Prop) : Prop := ((decide (a < 0) = true) → Q (AVal.tuple [AVal.agg [AVal.int IntKind.i64 0, AVal.int IntKind.i64 0, AVal.fsl true 2 [] none], AVal.int IntKind.i64 1]) ([])) ∧ ((decide (a < 0) = false) → ((decide (a > 1099511627776) = true) → Q (AVal.tuple [AVal.agg [AVal.int IntKind.i64 0, AVal.int IntKind.i64 0, AVal.fsl true 2 [] none], AVal.int IntKind.i64 1]) ([])) ∧ ((decide (a > 1099511627776) = false) → ((decide (m < 0) = true) → Q (AVal.tuple [AVal.agg [AVal.int IntKind.i64 0, AVal.int IntKind.i64 0, AVal.fsl true 2 [] none], AVal.int IntKind.i64 1]) ([])) ∧ ((decide (m < 0) = false) → ((decide (m > 1099511627776) = true) → Q (AVal.tuple [AVal.agg [AVal.int IntKind.i64 0, AVal.int IntKind.i64 0, AVal.fsl true 2 [] none], AVal.int IntKind.i64 1]) ([])) ∧ ((decide (m > 1099511627776) = false) → Q (AVal.tuple [AVal.agg [AVal.int IntKind.i64 a, AVal.int IntKind.i64 m, AVal.fsl true 2 [] none], AVal.int IntKind.i64 0]) ([])))))
theorem rnewn_wp (a : Int) (m : Int) {Q : AVal → AState → Prop} (h : rnewn_T a m Q) : ∃ r σ', FOk Try.prog 18 ([AVal.int IntKind.i64 a, AVal.int IntKind.i64 m]) ([]) r σ' ∧ Q r σ' :=
  brE (fun (c0 : decide (a < 0) = true) => ⟨_, _, rnewn_1 a m (c0), (h.1 c0)⟩) (fun (c0 : decide (a < 0) = false) => brE (fun (c1 : decide (a > 1099511627776) = true) => ⟨_, _, rnewn_2 a m (c1) (c0), ((h.2 c0).1 c1)⟩) (fun (c1 : decide (a > 1099511627776) = false) => brE (fun (c2 : decide (m < 0) = true) => ⟨_, _, rnewn_3 a m (c2) (c1) (c0), (((h.2 c0).2 c1).1 c2)⟩) (fun (c2 : decide (m < 0) = false) => brE (fun (c3 : decide (m > 1099511627776) = true) => ⟨_, _, rnewn_4 a m (c3) (c2) (c1) (c0), ((((h.2 c0).2 c1).2 c2).1 c3)⟩) (fun (c3 : decide (m > 1099511627776) = false) => ⟨_, _, rnewn_5 a m (c3) (c2) (c1) (c0), ((((h.2 c0).2 c1).2 c2).2 c3)⟩))))


theorem new_yes (a m : Int) (h : okNew a m) : FOk Try.prog 8 [.int .i64 a, .int .i64 m] [] (.tuple [logP, .int .i64 0]) (Lg.o ⟨a, m, true, []⟩) := new_ok a m h.1 h.2.1 h.2.2.1 h.2.2.2
theorem new_no (a m : Int) (h : ¬ okNew a m) : FOk Try.prog 8 [.int .i64 a, .int .i64 m] [] (.tuple [.nilp, .int .i64 1]) [] := by
  refine FOk.wp (newn_wp a m ?_)
  unfold newn_T
  unfold okNew at h
  simp only [decide_eq_true_eq, decide_eq_false_iff_not, and_self, implies_true, true_and]
  intro h1 h2 h3 h4
  omega
theorem rnew_yes (a m : Int) (h : okNew a m) : FOk Try.prog 18 [.int .i64 a, .int .i64 m] [] (.tuple [.agg [.int .i64 a, .int .i64 m, .fsl true 2 [] none], .int .i64 0]) [] := by
  obtain ⟨h1, h2, h3, h4⟩ := h
  refine FOk.wp (rnewn_wp a m ?_)
  unfold rnewn_T
  simp only [decide_eq_true_eq, decide_eq_false_iff_not]
  refine ⟨fun _ => by omega, fun _ => ⟨fun _ => by omega, fun _ => ⟨fun _ => by omega, fun _ => ⟨fun _ => by omega, fun _ => by first | trivial | exact ⟨rfl, rfl⟩⟩⟩⟩⟩
theorem rnew_no (a m : Int) (h : ¬ okNew a m) : FOk Try.prog 18 [.int .i64 a, .int .i64 m] [] (.tuple [.agg [.int .i64 0, .int .i64 0, .fsl true 2 [] none], .int .i64 1]) [] := by
  refine FOk.wp (rnewn_wp a m ?_)
  unfold rnewn_T
  unfold okNew at h
  simp only [decide_eq_true_eq, decide_eq_false_iff_not, and_self, implies_true, true_and]
  intro h1 h2 h3 h4
  omega
end Go.L06
