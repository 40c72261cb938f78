import Derived.Test.YtpfnoilcmoaplaaProg
import Derived.Test.YtpfnoilcmoaplaaAbsRow
set_option linter.unusedVariables false
set_option maxRecDepth 100000
namespace Go.L11
open Go Go.Abs Go.Proofs

theorem followed : Try.prog.follows .mixedOrders = true := by kernel_rfl

/-- a table, at its own two places -/
abbrev Tab (ents : List (AVal × AVal)) : AState := [.rows false 1 [[.map 1]], .mp true ents]
abbrev idv (s q : Int) : AVal := .agg [.int .i64 s, .int .i64 q]
abbrev rep (e a : Int) (b : Bool) (rs : List (List AVal)) : AVal := .agg [.int .i64 e, .int .i64 a, .fsl b 2 rs none]

theorem new_1 :
    FOk Try.prog 9 ([]) ([]) (AVal.ptr 1 1 0 0) (sweep [true, true] ([AObj.mp true [], AObj.rows false 1 [[AVal.map 0]]])) :=
  (evalF_ok followed Try.func9 (by kernel_rfl) (show evalF Try.prog Try.f9 ([]) ([]) ([]) = .ok (FRes.mk (AVal.ptr 1 1 0 0) ([AObj.mp true [], AObj.rows false 1 [[AVal.map 0]]]) []) by kernel_rfl) (allP_of (trivial))).gc [true, true] rfl


theorem given_1 (s : Int) (q : Int) (ents : List (AVal × AVal))
    (h1 : decide (q ≥ 1) = true)
    (h2 : decide (s ≤ 2147483647) = true)
    (h3 : decide (s ≥ 0) = true) :
    FOk Try.prog 21 ([AVal.ptr 0 1 0 0, AVal.agg [AVal.int IntKind.i64 s, AVal.int IntKind.i64 q]]) ([AObj.rows false 1 [[AVal.map 1]], AObj.mp true ents]) (AVal.bool (decide (q ≤ 2147483647))) (sweep [true, true] ([AObj.rows false 1 [[AVal.map 1]], AObj.mp true ents, AObj.rows false 2 [[AVal.int IntKind.i64 s, AVal.int IntKind.i64 q]]])) :=
  (evalF_ok followed Try.func21 (by kernel_rfl) (show evalF Try.prog Try.f21 ([AVal.ptr 0 1 0 0, AVal.agg [AVal.int IntKind.i64 s, AVal.int IntKind.i64 q]]) ([AObj.rows false 1 [[AVal.map 1]], AObj.mp true ents]) ([Dec.br true, Dec.br true, Dec.br true, Dec.br true, Dec.br true]) = .ok (FRes.mk (AVal.bool (decide (q ≤ 2147483647))) ([AObj.rows false 1 [[AVal.map 1]], AObj.mp true ents, AObj.rows false 2 [[AVal.int IntKind.i64 s, AVal.int IntKind.i64 q]]]) [true = true,
    decide (q ≥ 1) = true,
    true = true,
    decide (s ≤ 2147483647) = true,
    true = true,
    decide (s ≥ 0) = true,
    true = true,
    true = true,
    true = true,
    true = true]) by kernel_rfl) (allP_of (⟨rfl, h1, rfl, h2, rfl, h3, rfl, rfl, rfl, rfl, trivial⟩))).gc [true, true] rfl

theorem given_2 (s : Int) (q : Int) (ents : List (AVal × AVal))
    (h1 : decide (q ≥ 1) = false)
    (h2 : decide (s ≤ 2147483647) = true)
    (h3 : decide (s ≥ 0) = true) :
    FOk Try.prog 21 ([AVal.ptr 0 1 0 0, AVal.agg [AVal.int IntKind.i64 s, AVal.int IntKind.i64 q]]) ([AObj.rows false 1 [[AVal.map 1]], AObj.mp true ents]) (AVal.tt false) (sweep [true, true] ([AObj.rows false 1 [[AVal.map 1]], AObj.mp true ents, AObj.rows false 2 [[AVal.int IntKind.i64 s, AVal.int IntKind.i64 q]]])) :=
  (evalF_ok followed Try.func21 (by kernel_rfl) (show evalF Try.prog Try.f21 ([AVal.ptr 0 1 0 0, AVal.agg [AVal.int IntKind.i64 s, AVal.int IntKind.i64 q]]) ([AObj.rows false 1 [[AVal.map 1]], AObj.mp true ents]) ([Dec.br true, Dec.br true, Dec.br true, Dec.br true, Dec.br false]) = .ok (FRes.mk (AVal.tt false) ([AObj.rows false 1 [[AVal.map 1]], AObj.mp true ents, AObj.rows false 2 [[AVal.int IntKind.i64 s, AVal.int IntKind.i64 q]]]) [decide (q ≥ 1) = false,
    true = true,
    decide (s ≤ 2147483647) = true,
    true = true,
    decide (s ≥ 0) = true,
    true = true,
    true = true,
    true = true,
    true = true]) by kernel_rfl) (allP_of (⟨h1, rfl, h2, rfl, h3, rfl, rfl, rfl, rfl, trivial⟩))).gc [true, true] rfl

theorem given_3 (s : Int) (q : Int) (ents : List (AVal × AVal))
    (h1 : decide (s ≤ 2147483647) = false)
    (h2 : decide (s ≥ 0) = true) :
    FOk Try.prog 21 ([AVal.ptr 0 1 0 0, AVal.agg [AVal.int IntKind.i64 s, AVal.int IntKind.i64 q]]) ([AObj.rows false 1 [[AVal.map 1]], AObj.mp true ents]) (AVal.tt false) (sweep [true, true] ([AObj.rows false 1 [[AVal.map 1]], AObj.mp true ents, AObj.rows false 2 [[AVal.int IntKind.i64 s, AVal.int IntKind.i64 q]]])) :=
  (evalF_ok followed Try.func21 (by kernel_rfl) (show evalF Try.prog Try.f21 ([AVal.ptr 0 1 0 0, AVal.agg [AVal.int IntKind.i64 s, AVal.int IntKind.i64 q]]) ([AObj.rows false 1 [[AVal.map 1]], AObj.mp true ents]) ([Dec.br true, Dec.br true, Dec.br true, Dec.br false]) = .ok (FRes.mk (AVal.tt false) ([AObj.rows false 1 [[AVal.map 1]], AObj.mp true ents, AObj.rows false 2 [[AVal.int IntKind.i64 s, AVal.int IntKind.i64 q]]]) [decide (s ≤ 2147483647) = false,
    true = true,
    decide (s ≥ 0) = true,
    true = true,
    true = true,
    true = true,
    true = true]) by kernel_rfl) (allP_of (⟨h1, rfl, h2, rfl, rfl, rfl, rfl, trivial⟩))).gc [true, true] rfl

theorem given_4 (s : Int) (q : Int) (ents : List (AVal × AVal))
    (h1 : decide (s ≥ 0) = false) :
    FOk Try.prog 21 ([AVal.ptr 0 1 0 0, AVal.agg [AVal.int IntKind.i64 s, AVal.int IntKind.i64 q]]) ([AObj.rows false 1 [[AVal.map 1]], AObj.mp true ents]) (AVal.tt false) (sweep [true, true] ([AObj.rows false 1 [[AVal.map 1]], AObj.mp true ents, AObj.rows false 2 [[AVal.int IntKind.i64 s, AVal.int IntKind.i64 q]]])) :=
  (evalF_ok followed Try.func21 (by kernel_rfl) (show evalF Try.prog Try.f21 ([AVal.ptr 0 1 0 0, AVal.agg [AVal.int IntKind.i64 s, AVal.int IntKind.i64 q]]) ([AObj.rows false 1 [[AVal.map 1]], AObj.mp true ents]) ([Dec.br true, Dec.br true, Dec.br false]) = .ok (FRes.mk (AVal.tt false) ([AObj.rows false 1 [[AVal.map 1]], AObj.mp true ents, AObj.rows false 2 [[AVal.int IntKind.i64 s, AVal.int IntKind.i64 q]]]) [decide (s ≥ 0) = false,
    true = true,
    true = true,
    true = true,
    true = true]) by kernel_rfl) (allP_of (⟨h1, rfl, rfl, rfl, rfl, trivial⟩))).gc [true, true] rfl


theorem clone_1 (b : Bool) (rs : List (List AVal))
    (h1 : b = true) :
    FOk Try.prog 29 ([AVal.fsl b 2 rs none]) ([]) (AVal.fsl true 0 [] (some 0)) (sweep [false, true] ([])) :=
  (evalF_ok followed Try.func29 (by kernel_rfl) (show evalF Try.prog Try.f29 ([AVal.fsl b 2 rs none]) ([]) ([Dec.br true]) = .ok (FRes.mk (AVal.fsl true 0 [] (some 0)) ([]) [b = true]) by kernel_rfl) (allP_of (⟨h1, trivial⟩))).gc [false, true] rfl

theorem clone_2 (b : Bool) (rs : List (List AVal))
    (h1 : decide ((0 + List.length rs) * 32 ≤ 140737488355328 ∧ 0 + List.length rs ≤ 9223372036854775807) = true)
    (h2 : (List.all rs fun r => List.all r oneCell) = true)
    (h3 : b = false) :
    FOk Try.prog 29 ([AVal.fsl b 2 rs none]) ([]) (AVal.slc false 1 2 0 (0 + List.length rs) none) (sweep [false, true] ([AObj.dead, AObj.rows true 2 rs])) :=
  (evalF_ok followed Try.func29 (by kernel_rfl) (show evalF Try.prog Try.f29 ([AVal.fsl b 2 rs none]) ([]) ([Dec.br false]) = .ok (FRes.mk (AVal.slc false 1 2 0 (0 + List.length rs) none) ([AObj.dead, AObj.rows true 2 rs]) [true = true,
    decide ((0 + List.length rs) * 32 ≤ 140737488355328 ∧ 0 + List.length rs ≤ 9223372036854775807) = true,
    (List.all rs fun r => List.all r oneCell) = true,
    b = false]) by kernel_rfl) (allP_of (⟨rfl, h1, h2, h3, trivial⟩))).gc [false, true] rfl



/-- may an id be? -/
def mayB (s q : Int) : Bool := decide (0 ≤ s ∧ s ≤ 2147483647 ∧ 1 ≤ q ∧ q ≤ 2147483647)

theorem given_ok (s q : Int) (ents : List (AVal × AVal)) : FOk Try.prog 21 [.ptr 0 1 0 0, idv s q] (Tab ents) (.bool (mayB s q)) (Tab ents) := by
  by_cases h0 : 0 ≤ s
  · by_cases h1 : s ≤ 2147483647
    · by_cases h2 : 1 ≤ q
      · have := given_1 s q ents (by simpa using h2) (by simpa using h1) (by simpa using h0)
        have e : mayB s q = decide (q ≤ 2147483647) := by simp [mayB, h0, h1, h2]
        rw [e]; exact this
      · exact (given_2 s q ents (by simpa using h2) (by simpa using h1) (by simpa using h0)).imp (Imp.ttb (by simp [mayB, h2]))
    · exact (given_3 s q ents (by simpa using h1) (by simpa using h0)).imp (Imp.ttb (by simp [mayB, h1]))
  · exact (given_4 s q ents (by simpa using h0)).imp (Imp.ttb (by simp [mayB, h0]))

/-- posts: whether nil, so many, each of two texts -/
structure Posts (b : Bool) (rs : List (List AVal)) : Prop where
  nil : b = true → rs = []
  len : rs.length ≤ 1048576
  kind : (rs.all fun r => areKinds [.str, .str] r) = true
theorem Posts.one {b : Bool} {rs : List (List AVal)} (h : Posts b rs) : (rs.all fun r => r.all oneCell) = true := by
  rw [List.all_eq_true]
  intro r hr
  have := List.all_eq_true.1 h.kind r hr
  match r, this with
  | [x, y], h =>
    cases x <;> simp [areKinds, isKind] at h
    cases y <;> simp at h
    rfl
  | [], h => simp [areKinds] at h
  | [x], h => simp [areKinds] at h
  | x :: y :: z :: r, h => simp [areKinds] at h

theorem clone_ok (b : Bool) (rs : List (List AVal)) (h : Posts b rs) : FOk Try.prog 29 [.fsl b 2 rs none] [] (.fsl b 2 rs none) [] := by
  cases b with
  | true =>
    obtain rfl := h.nil rfl
    refine (clone_1 true [] rfl).imp fun F w ρ c hc => ?_
    cases hc with
    | fnil _ _ _ _ => exact .fnil _ _ _ (by simp)
  | false =>
    have h1 := clone_2 false rs (by have := h.len; simp; omega) h.one rfl
    have h2 := h1.freeze (x := (.fsl false 2 ((rs.drop 0).take (0 + rs.length)) none, ⟨[.fsl false 2 ((rs.drop 0).take (0 + rs.length)) none], [.dead, .dead], [decide (0 + (0 + rs.length) ≤ rs.length) = true]⟩)) rfl
      (allP_of ⟨by simp, trivial⟩)
    have h3 := h2.gc [] rfl
    simpa [sweep] using h3

theorem own_1 (e : Int) (a : Int) (b : Bool) (rs : List (List AVal))
    (h1 : FOk Try.prog 29 [AVal.fsl b 2 rs none] [] (AVal.fsl b 2 rs none) []) :
    FOk Try.prog 22 ([rep e a b rs]) ([]) (AVal.agg [AVal.int IntKind.i64 e, AVal.int IntKind.i64 a, AVal.fsl b 2 rs none]) (sweep [] ([AObj.rows false 3 [[AVal.int IntKind.i64 e, AVal.int IntKind.i64 a, AVal.fsl b 2 rs none]], AObj.rows false 3 [[AVal.int IntKind.i64 e, AVal.int IntKind.i64 a, AVal.fsl b 2 rs none]]])) :=
  (evalF_ok followed Try.func22 (by kernel_rfl) (show evalF Try.prog Try.f22 ([rep e a b rs]) ([]) ([Dec.use [] [AVal.fsl b 2 rs none] [] (AVal.fsl b 2 rs none) []]) = .ok (FRes.mk (AVal.agg [AVal.int IntKind.i64 e, AVal.int IntKind.i64 a, AVal.fsl b 2 rs none]) ([AObj.rows false 3 [[AVal.int IntKind.i64 e, AVal.int IntKind.i64 a, AVal.fsl b 2 rs none]], AObj.rows false 3 [[AVal.int IntKind.i64 e, AVal.int IntKind.i64 a, AVal.fsl b 2 rs none]]]) [true = true,
    true = true,
    true = true,
    true = true,
    Owed.use (owed Try.prog) 29 [] [AVal.fsl b 2 rs none] [AObj.rows false 3 [[AVal.int IntKind.i64 e, AVal.int IntKind.i64 a, AVal.fsl b 2 rs none]], AObj.rows false 3 [[AVal.int IntKind.i64 0, AVal.int IntKind.i64 0, AVal.fsl true 0 [] (some 0)]]] [AVal.fsl b 2 rs none] [] (AVal.fsl b 2 rs none) [],
    true = true]) by kernel_rfl) (allP_of (⟨rfl, rfl, rfl, rfl, ⟨h1, rfl, rfl, rfl⟩, rfl, trivial⟩))).gc [] rfl



/-- what a session asked last, and was answered -/
abbrev last (q e a : Int) (b : Bool) (rs : List (List AVal)) : AVal := .agg [.int .i64 q, .int .i64 e, .int .i64 a, .fsl b 2 rs none]
abbrev zlast : AVal := .agg [.int .i64 0, .int .i64 0, .int .i64 0, .fsl true 0 [] (some 0)]

theorem putA_1 (s : Int) (q : Int) (e : Int) (a : Int) (b : Bool) (rs : List (List AVal)) (ents : List (AVal × AVal)) (q0 : Int) (e0 : Int) (a0 : Int) (b0 : Bool) (rs0 : List (List AVal)) (th : Bool)
    (h1 : (!mayB s q) = true)
    (h2 : FOk Try.prog 21 [AVal.ptr 0 1 0 0, AVal.agg [AVal.int IntKind.i64 s, AVal.int IntKind.i64 q]] [AObj.rows false 1 [[AVal.map 1]], AObj.mp true ents] (AVal.bool (mayB s q)) [AObj.rows false 1 [[AVal.map 1]], AObj.mp true ents]) :
    FOk Try.prog 11 ([AVal.ptr 0 1 0 0, idv s q, rep e a b rs]) (Tab ents) (AVal.int IntKind.i64 1) (sweep [true, true] ([AObj.rows false 1 [[AVal.map 1]], AObj.mp true ents, AObj.rows false 2 [[AVal.int IntKind.i64 s, AVal.int IntKind.i64 q]], AObj.rows false 3 [[AVal.int IntKind.i64 e, AVal.int IntKind.i64 a, AVal.fsl b 2 rs none]]])) :=
  (evalF_ok followed Try.func11 (by kernel_rfl) (show evalF Try.prog Try.f11 ([AVal.ptr 0 1 0 0, idv s q, rep e a b rs]) (Tab ents) ([Dec.use [0, 1] [AVal.ptr 0 1 0 0, idv s q] (Tab ents) (AVal.bool (mayB s q)) (Tab ents), Dec.br true]) = .ok (FRes.mk (AVal.int IntKind.i64 1) ([AObj.rows false 1 [[AVal.map 1]], AObj.mp true ents, AObj.rows false 2 [[AVal.int IntKind.i64 s, AVal.int IntKind.i64 q]], AObj.rows false 3 [[AVal.int IntKind.i64 e, AVal.int IntKind.i64 a, AVal.fsl b 2 rs none]]]) [(!mayB s q) = true,
    Owed.use (owed Try.prog) 21 [0, 1] [AVal.ptr 0 1 0 0, AVal.agg [AVal.int IntKind.i64 s, AVal.int IntKind.i64 q]] [AObj.rows false 1 [[AVal.map 1]], AObj.mp true ents, AObj.rows false 2 [[AVal.int IntKind.i64 s, AVal.int IntKind.i64 q]], AObj.rows false 3 [[AVal.int IntKind.i64 e, AVal.int IntKind.i64 a, AVal.fsl b 2 rs none]]] [AVal.ptr 0 1 0 0, AVal.agg [AVal.int IntKind.i64 s, AVal.int IntKind.i64 q]] [AObj.rows false 1 [[AVal.map 1]], AObj.mp true ents] (AVal.bool (mayB s q)) [AObj.rows false 1 [[AVal.map 1]], AObj.mp true ents],
    true = true]) by kernel_rfl) (allP_of (⟨h1, ⟨h2, rfl, rfl, rfl⟩, rfl, trivial⟩))).gc [true, true] rfl

theorem putA_2 (s : Int) (q : Int) (e : Int) (a : Int) (b : Bool) (rs : List (List AVal)) (ents : List (AVal × AVal)) (q0 : Int) (e0 : Int) (a0 : Int) (b0 : Bool) (rs0 : List (List AVal)) (th : Bool)
    (h1 : decide ((↑(List.length rs) : Int) > 64) = true)
    (h2 : (!mayB s q) = false)
    (h3 : FOk Try.prog 21 [AVal.ptr 0 1 0 0, AVal.agg [AVal.int IntKind.i64 s, AVal.int IntKind.i64 q]] [AObj.rows false 1 [[AVal.map 1]], AObj.mp true ents] (AVal.bool (mayB s q)) [AObj.rows false 1 [[AVal.map 1]], AObj.mp true ents]) :
    FOk Try.prog 11 ([AVal.ptr 0 1 0 0, idv s q, rep e a b rs]) (Tab ents) (AVal.int IntKind.i64 1) (sweep [true, true] ([AObj.rows false 1 [[AVal.map 1]], AObj.mp true ents, AObj.rows false 2 [[AVal.int IntKind.i64 s, AVal.int IntKind.i64 q]], AObj.rows false 3 [[AVal.int IntKind.i64 e, AVal.int IntKind.i64 a, AVal.fsl b 2 rs none]]])) :=
  (evalF_ok followed Try.func11 (by kernel_rfl) (show evalF Try.prog Try.f11 ([AVal.ptr 0 1 0 0, idv s q, rep e a b rs]) (Tab ents) ([Dec.use [0, 1] [AVal.ptr 0 1 0 0, idv s q] (Tab ents) (AVal.bool (mayB s q)) (Tab ents), Dec.br false, Dec.br true]) = .ok (FRes.mk (AVal.int IntKind.i64 1) ([AObj.rows false 1 [[AVal.map 1]], AObj.mp true ents, AObj.rows false 2 [[AVal.int IntKind.i64 s, AVal.int IntKind.i64 q]], AObj.rows false 3 [[AVal.int IntKind.i64 e, AVal.int IntKind.i64 a, AVal.fsl b 2 rs none]]]) [decide ((↑(List.length rs) : Int) > 64) = true,
    true = true,
    (!mayB s q) = false,
    Owed.use (owed Try.prog) 21 [0, 1] [AVal.ptr 0 1 0 0, AVal.agg [AVal.int IntKind.i64 s, AVal.int IntKind.i64 q]] [AObj.rows false 1 [[AVal.map 1]], AObj.mp true ents, AObj.rows false 2 [[AVal.int IntKind.i64 s, AVal.int IntKind.i64 q]], AObj.rows false 3 [[AVal.int IntKind.i64 e, AVal.int IntKind.i64 a, AVal.fsl b 2 rs none]]] [AVal.ptr 0 1 0 0, AVal.agg [AVal.int IntKind.i64 s, AVal.int IntKind.i64 q]] [AObj.rows false 1 [[AVal.map 1]], AObj.mp true ents] (AVal.bool (mayB s q)) [AObj.rows false 1 [[AVal.map 1]], AObj.mp true ents],
    true = true]) by kernel_rfl) (allP_of (⟨h1, rfl, h2, ⟨h3, rfl, rfl, rfl⟩, rfl, trivial⟩))).gc [true, true] rfl

theorem putA_3 (s : Int) (q : Int) (e : Int) (a : Int) (b : Bool) (rs : List (List AVal)) (ents : List (AVal × AVal)) (q0 : Int) (e0 : Int) (a0 : Int) (b0 : Bool) (rs0 : List (List AVal)) (th : Bool)
    (h1 : decide (q0 ≥ q) = true)
    (h2 : AVal.tuple [AVal.agg [AVal.int IntKind.i64 (AVal.toInt (List.headD (AVal.cells (Option.getD (afind (AVal.int IntKind.i64 s) ents) (AVal.agg [AVal.int IntKind.i64 0, AVal.int IntKind.i64 0, AVal.int IntKind.i64 0, AVal.fsl true 0 [] (some 0)]))) AVal.any)), AVal.int IntKind.i64 (AVal.toInt (List.headD (List.tail (AVal.cells (Option.getD (afind (AVal.int IntKind.i64 s) ents) (AVal.agg [AVal.int IntKind.i64 0, AVal.int IntKind.i64 0, AVal.int IntKind.i64 0, AVal.fsl true 0 [] (some 0)])))) AVal.any)), AVal.int IntKind.i64 (AVal.toInt (List.headD (List.tail (List.tail (AVal.cells (Option.getD (afind (AVal.int IntKind.i64 s) ents) (AVal.agg [AVal.int IntKind.i64 0, AVal.int IntKind.i64 0, AVal.int IntKind.i64 0, AVal.fsl true 0 [] (some 0)]))))) AVal.any)), AVal.fsl (AVal.toNil (List.headD (List.tail (List.tail (List.tail (AVal.cells (Option.getD (afind (AVal.int IntKind.i64 s) ents) (AVal.agg [AVal.int IntKind.i64 0, AVal.int IntKind.i64 0, AVal.int IntKind.i64 0, AVal.fsl true 0 [] (some 0)])))))) AVal.any)) 2 (AVal.toRows (List.headD (List.tail (List.tail (List.tail (AVal.cells (Option.getD (afind (AVal.int IntKind.i64 s) ents) (AVal.agg [AVal.int IntKind.i64 0, AVal.int IntKind.i64 0, AVal.int IntKind.i64 0, AVal.fsl true 0 [] (some 0)])))))) AVal.any)) none], AVal.bool (Option.isSome (afind (AVal.int IntKind.i64 s) ents))] = AVal.tuple [AVal.agg [AVal.int IntKind.i64 q0, AVal.int IntKind.i64 e0, AVal.int IntKind.i64 a0, AVal.fsl b0 2 rs0 none], AVal.bool th])
    (h3 : okCells Try.prog 63 (Option.getD (afind (AVal.int IntKind.i64 s) ents) (AVal.agg [AVal.int IntKind.i64 0, AVal.int IntKind.i64 0, AVal.int IntKind.i64 0, AVal.fsl true 0 [] (some 0)])) = true)
    (h4 : (List.all ents fun p => keyKind Try.prog 3 (Prod.fst p)) = true)
    (h5 : decide ((↑(List.length rs) : Int) > 64) = false)
    (h6 : (!mayB s q) = false)
    (h7 : FOk Try.prog 21 [AVal.ptr 0 1 0 0, AVal.agg [AVal.int IntKind.i64 s, AVal.int IntKind.i64 q]] [AObj.rows false 1 [[AVal.map 1]], AObj.mp true ents] (AVal.bool (mayB s q)) [AObj.rows false 1 [[AVal.map 1]], AObj.mp true ents]) :
    FOk Try.prog 11 ([AVal.ptr 0 1 0 0, idv s q, rep e a b rs]) (Tab ents) (AVal.int IntKind.i64 110) (sweep [true, true] ([AObj.rows false 1 [[AVal.map 1]], AObj.mp true ents, AObj.rows false 2 [[AVal.int IntKind.i64 s, AVal.int IntKind.i64 q]], AObj.rows false 3 [[AVal.int IntKind.i64 e, AVal.int IntKind.i64 a, AVal.fsl b 2 rs none]], AObj.rows false 4 [[AVal.int IntKind.i64 q0, AVal.int IntKind.i64 e0, AVal.int IntKind.i64 a0, AVal.fsl b0 2 rs0 none]]])) :=
  (evalF_ok followed Try.func11 (by kernel_rfl) (show evalF Try.prog Try.f11 ([AVal.ptr 0 1 0 0, idv s q, rep e a b rs]) (Tab ents) ([Dec.use [0, 1] [AVal.ptr 0 1 0 0, idv s q] (Tab ents) (AVal.bool (mayB s q)) (Tab ents), Dec.br false, Dec.br false, Dec.rw (AVal.tuple [last q0 e0 a0 b0 rs0, AVal.bool th]), Dec.br true]) = .ok (FRes.mk (AVal.int IntKind.i64 110) ([AObj.rows false 1 [[AVal.map 1]], AObj.mp true ents, AObj.rows false 2 [[AVal.int IntKind.i64 s, AVal.int IntKind.i64 q]], AObj.rows false 3 [[AVal.int IntKind.i64 e, AVal.int IntKind.i64 a, AVal.fsl b 2 rs none]], AObj.rows false 4 [[AVal.int IntKind.i64 q0, AVal.int IntKind.i64 e0, AVal.int IntKind.i64 a0, AVal.fsl b0 2 rs0 none]]]) [decide (q0 ≥ q) = true,
    true = true,
    true = true,
    true = true,
    true = true,
    true = true,
    true = true,
    true = true,
    true = true,
    true = true,
    true = true,
    true = true,
    AVal.tuple [AVal.agg [AVal.int IntKind.i64 (AVal.toInt (List.headD (AVal.cells (Option.getD (afind (AVal.int IntKind.i64 s) ents) (AVal.agg [AVal.int IntKind.i64 0, AVal.int IntKind.i64 0, AVal.int IntKind.i64 0, AVal.fsl true 0 [] (some 0)]))) AVal.any)), AVal.int IntKind.i64 (AVal.toInt (List.headD (List.tail (AVal.cells (Option.getD (afind (AVal.int IntKind.i64 s) ents) (AVal.agg [AVal.int IntKind.i64 0, AVal.int IntKind.i64 0, AVal.int IntKind.i64 0, AVal.fsl true 0 [] (some 0)])))) AVal.any)), AVal.int IntKind.i64 (AVal.toInt (List.headD (List.tail (List.tail (AVal.cells (Option.getD (afind (AVal.int IntKind.i64 s) ents) (AVal.agg [AVal.int IntKind.i64 0, AVal.int IntKind.i64 0, AVal.int IntKind.i64 0, AVal.fsl true 0 [] (some 0)]))))) AVal.any)), AVal.fsl (AVal.toNil (List.headD (List.tail (List.tail (List.tail (AVal.cells (Option.getD (afind (AVal.int IntKind.i64 s) ents) (AVal.agg [AVal.int IntKind.i64 0, AVal.int IntKind.i64 0, AVal.int IntKind.i64 0, AVal.fsl true 0 [] (some 0)])))))) AVal.any)) 2 (AVal.toRows (List.headD (List.tail (List.tail (List.tail (AVal.cells (Option.getD (afind (AVal.int IntKind.i64 s) ents) (AVal.agg [AVal.int IntKind.i64 0, AVal.int IntKind.i64 0, AVal.int IntKind.i64 0, AVal.fsl true 0 [] (some 0)])))))) AVal.any)) none], AVal.bool (Option.isSome (afind (AVal.int IntKind.i64 s) ents))] = AVal.tuple [AVal.agg [AVal.int IntKind.i64 q0, AVal.int IntKind.i64 e0, AVal.int IntKind.i64 a0, AVal.fsl b0 2 rs0 none], AVal.bool th],
    okCells Try.prog 63 (Option.getD (afind (AVal.int IntKind.i64 s) ents) (AVal.agg [AVal.int IntKind.i64 0, AVal.int IntKind.i64 0, AVal.int IntKind.i64 0, AVal.fsl true 0 [] (some 0)])) = true,
    (List.all ents fun p => keyKind Try.prog 3 (Prod.fst p)) = true,
    true = true,
    true = true,
    true = true,
    true = true,
    true = true,
    true = true,
    true = true,
    true = true,
    true = true,
    decide ((↑(List.length rs) : Int) > 64) = false,
    true = true,
    (!mayB s q) = false,
    Owed.use (owed Try.prog) 21 [0, 1] [AVal.ptr 0 1 0 0, AVal.agg [AVal.int IntKind.i64 s, AVal.int IntKind.i64 q]] [AObj.rows false 1 [[AVal.map 1]], AObj.mp true ents, AObj.rows false 2 [[AVal.int IntKind.i64 s, AVal.int IntKind.i64 q]], AObj.rows false 3 [[AVal.int IntKind.i64 e, AVal.int IntKind.i64 a, AVal.fsl b 2 rs none]]] [AVal.ptr 0 1 0 0, AVal.agg [AVal.int IntKind.i64 s, AVal.int IntKind.i64 q]] [AObj.rows false 1 [[AVal.map 1]], AObj.mp true ents] (AVal.bool (mayB s q)) [AObj.rows false 1 [[AVal.map 1]], AObj.mp true ents],
    true = true]) by kernel_rfl) (allP_of (⟨h1, rfl, rfl, rfl, rfl, rfl, rfl, rfl, rfl, rfl, rfl, rfl, h2, h3, h4, rfl, rfl, rfl, rfl, rfl, rfl, rfl, rfl, rfl, h5, rfl, h6, ⟨h7, rfl, rfl, rfl⟩, rfl, trivial⟩))).gc [true, true] rfl

theorem putA_4 (s : Int) (q : Int) (e : Int) (a : Int) (b : Bool) (rs : List (List AVal)) (ents : List (AVal × AVal)) (q0 : Int) (e0 : Int) (a0 : Int) (b0 : Bool) (rs0 : List (List AVal)) (th : Bool)
    (h1 : decide ((↑(List.length ents) : Int) ≥ 64) = true)
    (h2 : (!th) = true)
    (h3 : decide (q0 ≥ q) = false)
    (h4 : AVal.tuple [AVal.agg [AVal.int IntKind.i64 (AVal.toInt (List.headD (AVal.cells (Option.getD (afind (AVal.int IntKind.i64 s) ents) (AVal.agg [AVal.int IntKind.i64 0, AVal.int IntKind.i64 0, AVal.int IntKind.i64 0, AVal.fsl true 0 [] (some 0)]))) AVal.any)), AVal.int IntKind.i64 (AVal.toInt (List.headD (List.tail (AVal.cells (Option.getD (afind (AVal.int IntKind.i64 s) ents) (AVal.agg [AVal.int IntKind.i64 0, AVal.int IntKind.i64 0, AVal.int IntKind.i64 0, AVal.fsl true 0 [] (some 0)])))) AVal.any)), AVal.int IntKind.i64 (AVal.toInt (List.headD (List.tail (List.tail (AVal.cells (Option.getD (afind (AVal.int IntKind.i64 s) ents) (AVal.agg [AVal.int IntKind.i64 0, AVal.int IntKind.i64 0, AVal.int IntKind.i64 0, AVal.fsl true 0 [] (some 0)]))))) AVal.any)), AVal.fsl (AVal.toNil (List.headD (List.tail (List.tail (List.tail (AVal.cells (Option.getD (afind (AVal.int IntKind.i64 s) ents) (AVal.agg [AVal.int IntKind.i64 0, AVal.int IntKind.i64 0, AVal.int IntKind.i64 0, AVal.fsl true 0 [] (some 0)])))))) AVal.any)) 2 (AVal.toRows (List.headD (List.tail (List.tail (List.tail (AVal.cells (Option.getD (afind (AVal.int IntKind.i64 s) ents) (AVal.agg [AVal.int IntKind.i64 0, AVal.int IntKind.i64 0, AVal.int IntKind.i64 0, AVal.fsl true 0 [] (some 0)])))))) AVal.any)) none], AVal.bool (Option.isSome (afind (AVal.int IntKind.i64 s) ents))] = AVal.tuple [AVal.agg [AVal.int IntKind.i64 q0, AVal.int IntKind.i64 e0, AVal.int IntKind.i64 a0, AVal.fsl b0 2 rs0 none], AVal.bool th])
    (h5 : okCells Try.prog 63 (Option.getD (afind (AVal.int IntKind.i64 s) ents) (AVal.agg [AVal.int IntKind.i64 0, AVal.int IntKind.i64 0, AVal.int IntKind.i64 0, AVal.fsl true 0 [] (some 0)])) = true)
    (h6 : (List.all ents fun p => keyKind Try.prog 3 (Prod.fst p)) = true)
    (h7 : decide ((↑(List.length rs) : Int) > 64) = false)
    (h8 : (!mayB s q) = false)
    (h9 : FOk Try.prog 21 [AVal.ptr 0 1 0 0, AVal.agg [AVal.int IntKind.i64 s, AVal.int IntKind.i64 q]] [AObj.rows false 1 [[AVal.map 1]], AObj.mp true ents] (AVal.bool (mayB s q)) [AObj.rows false 1 [[AVal.map 1]], AObj.mp true ents]) :
    FOk Try.prog 11 ([AVal.ptr 0 1 0 0, idv s q, rep e a b rs]) (Tab ents) (AVal.int IntKind.i64 2) (sweep [true, true] ([AObj.rows false 1 [[AVal.map 1]], AObj.mp true ents, AObj.rows false 2 [[AVal.int IntKind.i64 s, AVal.int IntKind.i64 q]], AObj.rows false 3 [[AVal.int IntKind.i64 e, AVal.int IntKind.i64 a, AVal.fsl b 2 rs none]], AObj.rows false 4 [[AVal.int IntKind.i64 q0, AVal.int IntKind.i64 e0, AVal.int IntKind.i64 a0, AVal.fsl b0 2 rs0 none]]])) :=
  (evalF_ok followed Try.func11 (by kernel_rfl) (show evalF Try.prog Try.f11 ([AVal.ptr 0 1 0 0, idv s q, rep e a b rs]) (Tab ents) ([Dec.use [0, 1] [AVal.ptr 0 1 0 0, idv s q] (Tab ents) (AVal.bool (mayB s q)) (Tab ents), Dec.br false, Dec.br false, Dec.rw (AVal.tuple [last q0 e0 a0 b0 rs0, AVal.bool th]), Dec.br false, Dec.br true, Dec.br true]) = .ok (FRes.mk (AVal.int IntKind.i64 2) ([AObj.rows false 1 [[AVal.map 1]], AObj.mp true ents, AObj.rows false 2 [[AVal.int IntKind.i64 s, AVal.int IntKind.i64 q]], AObj.rows false 3 [[AVal.int IntKind.i64 e, AVal.int IntKind.i64 a, AVal.fsl b 2 rs none]], AObj.rows false 4 [[AVal.int IntKind.i64 q0, AVal.int IntKind.i64 e0, AVal.int IntKind.i64 a0, AVal.fsl b0 2 rs0 none]]]) [decide ((↑(List.length ents) : Int) ≥ 64) = true,
    true = true,
    (!th) = true,
    decide (q0 ≥ q) = false,
    true = true,
    true = true,
    true = true,
    true = true,
    true = true,
    true = true,
    true = true,
    true = true,
    true = true,
    true = true,
    true = true,
    AVal.tuple [AVal.agg [AVal.int IntKind.i64 (AVal.toInt (List.headD (AVal.cells (Option.getD (afind (AVal.int IntKind.i64 s) ents) (AVal.agg [AVal.int IntKind.i64 0, AVal.int IntKind.i64 0, AVal.int IntKind.i64 0, AVal.fsl true 0 [] (some 0)]))) AVal.any)), AVal.int IntKind.i64 (AVal.toInt (List.headD (List.tail (AVal.cells (Option.getD (afind (AVal.int IntKind.i64 s) ents) (AVal.agg [AVal.int IntKind.i64 0, AVal.int IntKind.i64 0, AVal.int IntKind.i64 0, AVal.fsl true 0 [] (some 0)])))) AVal.any)), AVal.int IntKind.i64 (AVal.toInt (List.headD (List.tail (List.tail (AVal.cells (Option.getD (afind (AVal.int IntKind.i64 s) ents) (AVal.agg [AVal.int IntKind.i64 0, AVal.int IntKind.i64 0, AVal.int IntKind.i64 0, AVal.fsl true 0 [] (some 0)]))))) AVal.any)), AVal.fsl (AVal.toNil (List.headD (List.tail (List.tail (List.tail (AVal.cells (Option.getD (afind (AVal.int IntKind.i64 s) ents) (AVal.agg [AVal.int IntKind.i64 0, AVal.int IntKind.i64 0, AVal.int IntKind.i64 0, AVal.fsl true 0 [] (some 0)])))))) AVal.any)) 2 (AVal.toRows (List.headD (List.tail (List.tail (List.tail (AVal.cells (Option.getD (afind (AVal.int IntKind.i64 s) ents) (AVal.agg [AVal.int IntKind.i64 0, AVal.int IntKind.i64 0, AVal.int IntKind.i64 0, AVal.fsl true 0 [] (some 0)])))))) AVal.any)) none], AVal.bool (Option.isSome (afind (AVal.int IntKind.i64 s) ents))] = AVal.tuple [AVal.agg [AVal.int IntKind.i64 q0, AVal.int IntKind.i64 e0, AVal.int IntKind.i64 a0, AVal.fsl b0 2 rs0 none], AVal.bool th],
    okCells Try.prog 63 (Option.getD (afind (AVal.int IntKind.i64 s) ents) (AVal.agg [AVal.int IntKind.i64 0, AVal.int IntKind.i64 0, AVal.int IntKind.i64 0, AVal.fsl true 0 [] (some 0)])) = true,
    (List.all ents fun p => keyKind Try.prog 3 (Prod.fst p)) = true,
    true = true,
    true = true,
    true = true,
    true = true,
    true = true,
    true = true,
    true = true,
    true = true,
    true = true,
    decide ((↑(List.length rs) : Int) > 64) = false,
    true = true,
    (!mayB s q) = false,
    Owed.use (owed Try.prog) 21 [0, 1] [AVal.ptr 0 1 0 0, AVal.agg [AVal.int IntKind.i64 s, AVal.int IntKind.i64 q]] [AObj.rows false 1 [[AVal.map 1]], AObj.mp true ents, AObj.rows false 2 [[AVal.int IntKind.i64 s, AVal.int IntKind.i64 q]], AObj.rows false 3 [[AVal.int IntKind.i64 e, AVal.int IntKind.i64 a, AVal.fsl b 2 rs none]]] [AVal.ptr 0 1 0 0, AVal.agg [AVal.int IntKind.i64 s, AVal.int IntKind.i64 q]] [AObj.rows false 1 [[AVal.map 1]], AObj.mp true ents] (AVal.bool (mayB s q)) [AObj.rows false 1 [[AVal.map 1]], AObj.mp true ents],
    true = true]) by kernel_rfl) (allP_of (⟨h1, rfl, h2, h3, rfl, rfl, rfl, rfl, rfl, rfl, rfl, rfl, rfl, rfl, rfl, h4, h5, h6, rfl, rfl, rfl, rfl, rfl, rfl, rfl, rfl, rfl, h7, rfl, h8, ⟨h9, rfl, rfl, rfl⟩, rfl, trivial⟩))).gc [true, true] rfl

theorem putA_5 (s : Int) (q : Int) (e : Int) (a : Int) (b : Bool) (rs : List (List AVal)) (ents : List (AVal × AVal)) (q0 : Int) (e0 : Int) (a0 : Int) (b0 : Bool) (rs0 : List (List AVal)) (th : Bool)
    (h1 : (List.all ents fun p => keyKind Try.prog 3 (Prod.fst p)) = true)
    (h2 : FOk Try.prog 22 [AVal.agg [AVal.int IntKind.i64 e, AVal.int IntKind.i64 a, AVal.fsl b 2 rs none]] [] (AVal.agg [AVal.int IntKind.i64 e, AVal.int IntKind.i64 a, AVal.fsl b 2 rs none]) [])
    (h3 : decide ((↑(List.length ents) : Int) ≥ 64) = false)
    (h4 : (!th) = true)
    (h5 : decide (q0 ≥ q) = false)
    (h6 : AVal.tuple [AVal.agg [AVal.int IntKind.i64 (AVal.toInt (List.headD (AVal.cells (Option.getD (afind (AVal.int IntKind.i64 s) ents) (AVal.agg [AVal.int IntKind.i64 0, AVal.int IntKind.i64 0, AVal.int IntKind.i64 0, AVal.fsl true 0 [] (some 0)]))) AVal.any)), AVal.int IntKind.i64 (AVal.toInt (List.headD (List.tail (AVal.cells (Option.getD (afind (AVal.int IntKind.i64 s) ents) (AVal.agg [AVal.int IntKind.i64 0, AVal.int IntKind.i64 0, AVal.int IntKind.i64 0, AVal.fsl true 0 [] (some 0)])))) AVal.any)), AVal.int IntKind.i64 (AVal.toInt (List.headD (List.tail (List.tail (AVal.cells (Option.getD (afind (AVal.int IntKind.i64 s) ents) (AVal.agg [AVal.int IntKind.i64 0, AVal.int IntKind.i64 0, AVal.int IntKind.i64 0, AVal.fsl true 0 [] (some 0)]))))) AVal.any)), AVal.fsl (AVal.toNil (List.headD (List.tail (List.tail (List.tail (AVal.cells (Option.getD (afind (AVal.int IntKind.i64 s) ents) (AVal.agg [AVal.int IntKind.i64 0, AVal.int IntKind.i64 0, AVal.int IntKind.i64 0, AVal.fsl true 0 [] (some 0)])))))) AVal.any)) 2 (AVal.toRows (List.headD (List.tail (List.tail (List.tail (AVal.cells (Option.getD (afind (AVal.int IntKind.i64 s) ents) (AVal.agg [AVal.int IntKind.i64 0, AVal.int IntKind.i64 0, AVal.int IntKind.i64 0, AVal.fsl true 0 [] (some 0)])))))) AVal.any)) none], AVal.bool (Option.isSome (afind (AVal.int IntKind.i64 s) ents))] = AVal.tuple [AVal.agg [AVal.int IntKind.i64 q0, AVal.int IntKind.i64 e0, AVal.int IntKind.i64 a0, AVal.fsl b0 2 rs0 none], AVal.bool th])
    (h7 : okCells Try.prog 63 (Option.getD (afind (AVal.int IntKind.i64 s) ents) (AVal.agg [AVal.int IntKind.i64 0, AVal.int IntKind.i64 0, AVal.int IntKind.i64 0, AVal.fsl true 0 [] (some 0)])) = true)
    (h8 : decide ((↑(List.length rs) : Int) > 64) = false)
    (h9 : (!mayB s q) = false)
    (h10 : FOk Try.prog 21 [AVal.ptr 0 1 0 0, AVal.agg [AVal.int IntKind.i64 s, AVal.int IntKind.i64 q]] [AObj.rows false 1 [[AVal.map 1]], AObj.mp true ents] (AVal.bool (mayB s q)) [AObj.rows false 1 [[AVal.map 1]], AObj.mp true ents]) :
    FOk Try.prog 11 ([AVal.ptr 0 1 0 0, idv s q, rep e a b rs]) (Tab ents) (AVal.int IntKind.i64 0) (sweep [true, true] ([AObj.rows false 1 [[AVal.map 1]], AObj.mp true (aput (AVal.int IntKind.i64 s) (AVal.agg [AVal.int IntKind.i64 q, AVal.int IntKind.i64 e, AVal.int IntKind.i64 a, AVal.fsl b 2 rs none]) ents), AObj.rows false 2 [[AVal.int IntKind.i64 s, AVal.int IntKind.i64 q]], AObj.rows false 3 [[AVal.int IntKind.i64 e, AVal.int IntKind.i64 a, AVal.fsl b 2 rs none]], AObj.rows false 4 [[AVal.int IntKind.i64 q0, AVal.int IntKind.i64 e0, AVal.int IntKind.i64 a0, AVal.fsl b0 2 rs0 none]]])) :=
  (evalF_ok followed Try.func11 (by kernel_rfl) (show evalF Try.prog Try.f11 ([AVal.ptr 0 1 0 0, idv s q, rep e a b rs]) (Tab ents) ([Dec.use [0, 1] [AVal.ptr 0 1 0 0, idv s q] (Tab ents) (AVal.bool (mayB s q)) (Tab ents), Dec.br false, Dec.br false, Dec.rw (AVal.tuple [last q0 e0 a0 b0 rs0, AVal.bool th]), Dec.br false, Dec.br true, Dec.br false, Dec.use [] [rep e a b rs] [] (rep e a b rs) []]) = .ok (FRes.mk (AVal.int IntKind.i64 0) ([AObj.rows false 1 [[AVal.map 1]], AObj.mp true (aput (AVal.int IntKind.i64 s) (AVal.agg [AVal.int IntKind.i64 q, AVal.int IntKind.i64 e, AVal.int IntKind.i64 a, AVal.fsl b 2 rs none]) ents), AObj.rows false 2 [[AVal.int IntKind.i64 s, AVal.int IntKind.i64 q]], AObj.rows false 3 [[AVal.int IntKind.i64 e, AVal.int IntKind.i64 a, AVal.fsl b 2 rs none]], AObj.rows false 4 [[AVal.int IntKind.i64 q0, AVal.int IntKind.i64 e0, AVal.int IntKind.i64 a0, AVal.fsl b0 2 rs0 none]]]) [true = true,
    true = true,
    (List.all ents fun p => keyKind Try.prog 3 (Prod.fst p)) = true,
    true = true,
    true = true,
    [AObj.rows false 1 [[AVal.map 1]], AObj.mp true ents, AObj.rows false 2 [[AVal.int IntKind.i64 s, AVal.int IntKind.i64 q]], AObj.rows false 3 [[AVal.int IntKind.i64 e, AVal.int IntKind.i64 a, AVal.fsl b 2 rs none]], AObj.rows false 4 [[AVal.int IntKind.i64 q0, AVal.int IntKind.i64 e0, AVal.int IntKind.i64 a0, AVal.fsl b0 2 rs0 none]]] = [AObj.rows false 1 [[AVal.map 1]], AObj.mp true ents, AObj.rows false 2 [[AVal.int IntKind.i64 s, AVal.int IntKind.i64 q]], AObj.rows false 3 [[AVal.int IntKind.i64 e, AVal.int IntKind.i64 a, AVal.fsl b 2 rs none]], AObj.rows false 4 [[AVal.int IntKind.i64 q0, AVal.int IntKind.i64 e0, AVal.int IntKind.i64 a0, AVal.fsl b0 2 rs0 none]]],
    Owed.use (owed Try.prog) 22 [] [AVal.agg [AVal.int IntKind.i64 e, AVal.int IntKind.i64 a, AVal.fsl b 2 rs none]] [AObj.rows false 1 [[AVal.map 1]], AObj.mp true ents, AObj.rows false 2 [[AVal.int IntKind.i64 s, AVal.int IntKind.i64 q]], AObj.rows false 3 [[AVal.int IntKind.i64 e, AVal.int IntKind.i64 a, AVal.fsl b 2 rs none]], AObj.rows false 4 [[AVal.int IntKind.i64 q0, AVal.int IntKind.i64 e0, AVal.int IntKind.i64 a0, AVal.fsl b0 2 rs0 none]]] [AVal.agg [AVal.int IntKind.i64 e, AVal.int IntKind.i64 a, AVal.fsl b 2 rs none]] [] (AVal.agg [AVal.int IntKind.i64 e, AVal.int IntKind.i64 a, AVal.fsl b 2 rs none]) [],
    true = true,
    true = true,
    true = true,
    true = true,
    true = true,
    true = true,
    true = true,
    true = true,
    true = true,
    true = true,
    true = true,
    true = true,
    true = true,
    true = true,
    decide ((↑(List.length ents) : Int) ≥ 64) = false,
    true = true,
    (!th) = true,
    decide (q0 ≥ q) = false,
    true = true,
    true = true,
    true = true,
    true = true,
    true = true,
    true = true,
    true = true,
    true = true,
    true = true,
    true = true,
    true = true,
    AVal.tuple [AVal.agg [AVal.int IntKind.i64 (AVal.toInt (List.headD (AVal.cells (Option.getD (afind (AVal.int IntKind.i64 s) ents) (AVal.agg [AVal.int IntKind.i64 0, AVal.int IntKind.i64 0, AVal.int IntKind.i64 0, AVal.fsl true 0 [] (some 0)]))) AVal.any)), AVal.int IntKind.i64 (AVal.toInt (List.headD (List.tail (AVal.cells (Option.getD (afind (AVal.int IntKind.i64 s) ents) (AVal.agg [AVal.int IntKind.i64 0, AVal.int IntKind.i64 0, AVal.int IntKind.i64 0, AVal.fsl true 0 [] (some 0)])))) AVal.any)), AVal.int IntKind.i64 (AVal.toInt (List.headD (List.tail (List.tail (AVal.cells (Option.getD (afind (AVal.int IntKind.i64 s) ents) (AVal.agg [AVal.int IntKind.i64 0, AVal.int IntKind.i64 0, AVal.int IntKind.i64 0, AVal.fsl true 0 [] (some 0)]))))) AVal.any)), AVal.fsl (AVal.toNil (List.headD (List.tail (List.tail (List.tail (AVal.cells (Option.getD (afind (AVal.int IntKind.i64 s) ents) (AVal.agg [AVal.int IntKind.i64 0, AVal.int IntKind.i64 0, AVal.int IntKind.i64 0, AVal.fsl true 0 [] (some 0)])))))) AVal.any)) 2 (AVal.toRows (List.headD (List.tail (List.tail (List.tail (AVal.cells (Option.getD (afind (AVal.int IntKind.i64 s) ents) (AVal.agg [AVal.int IntKind.i64 0, AVal.int IntKind.i64 0, AVal.int IntKind.i64 0, AVal.fsl true 0 [] (some 0)])))))) AVal.any)) none], AVal.bool (Option.isSome (afind (AVal.int IntKind.i64 s) ents))] = AVal.tuple [AVal.agg [AVal.int IntKind.i64 q0, AVal.int IntKind.i64 e0, AVal.int IntKind.i64 a0, AVal.fsl b0 2 rs0 none], AVal.bool th],
    okCells Try.prog 63 (Option.getD (afind (AVal.int IntKind.i64 s) ents) (AVal.agg [AVal.int IntKind.i64 0, AVal.int IntKind.i64 0, AVal.int IntKind.i64 0, AVal.fsl true 0 [] (some 0)])) = true,
    (List.all ents fun p => keyKind Try.prog 3 (Prod.fst p)) = true,
    true = true,
    true = true,
    true = true,
    true = true,
    true = true,
    true = true,
    true = true,
    true = true,
    true = true,
    decide ((↑(List.length rs) : Int) > 64) = false,
    true = true,
    (!mayB s q) = false,
    Owed.use (owed Try.prog) 21 [0, 1] [AVal.ptr 0 1 0 0, AVal.agg [AVal.int IntKind.i64 s, AVal.int IntKind.i64 q]] [AObj.rows false 1 [[AVal.map 1]], AObj.mp true ents, AObj.rows false 2 [[AVal.int IntKind.i64 s, AVal.int IntKind.i64 q]], AObj.rows false 3 [[AVal.int IntKind.i64 e, AVal.int IntKind.i64 a, AVal.fsl b 2 rs none]]] [AVal.ptr 0 1 0 0, AVal.agg [AVal.int IntKind.i64 s, AVal.int IntKind.i64 q]] [AObj.rows false 1 [[AVal.map 1]], AObj.mp true ents] (AVal.bool (mayB s q)) [AObj.rows false 1 [[AVal.map 1]], AObj.mp true ents],
    true = true]) by kernel_rfl) (allP_of (⟨rfl, rfl, h1, rfl, rfl, rfl, ⟨h2, rfl, rfl, rfl⟩, rfl, rfl, rfl, rfl, rfl, rfl, rfl, rfl, rfl, rfl, rfl, rfl, rfl, rfl, h3, rfl, h4, h5, rfl, rfl, rfl, rfl, rfl, rfl, rfl, rfl, rfl, rfl, rfl, h6, h7, h1, rfl, rfl, rfl, rfl, rfl, rfl, rfl, rfl, rfl, h8, rfl, h9, ⟨h10, rfl, rfl, rfl⟩, rfl, trivial⟩))).gc [true, true] rfl

theorem putA_6 (s : Int) (q : Int) (e : Int) (a : Int) (b : Bool) (rs : List (List AVal)) (ents : List (AVal × AVal)) (q0 : Int) (e0 : Int) (a0 : Int) (b0 : Bool) (rs0 : List (List AVal)) (th : Bool)
    (h1 : (List.all ents fun p => keyKind Try.prog 3 (Prod.fst p)) = true)
    (h2 : FOk Try.prog 22 [AVal.agg [AVal.int IntKind.i64 e, AVal.int IntKind.i64 a, AVal.fsl b 2 rs none]] [] (AVal.agg [AVal.int IntKind.i64 e, AVal.int IntKind.i64 a, AVal.fsl b 2 rs none]) [])
    (h3 : (!th) = false)
    (h4 : decide (q0 ≥ q) = false)
    (h5 : AVal.tuple [AVal.agg [AVal.int IntKind.i64 (AVal.toInt (List.headD (AVal.cells (Option.getD (afind (AVal.int IntKind.i64 s) ents) (AVal.agg [AVal.int IntKind.i64 0, AVal.int IntKind.i64 0, AVal.int IntKind.i64 0, AVal.fsl true 0 [] (some 0)]))) AVal.any)), AVal.int IntKind.i64 (AVal.toInt (List.headD (List.tail (AVal.cells (Option.getD (afind (AVal.int IntKind.i64 s) ents) (AVal.agg [AVal.int IntKind.i64 0, AVal.int IntKind.i64 0, AVal.int IntKind.i64 0, AVal.fsl true 0 [] (some 0)])))) AVal.any)), AVal.int IntKind.i64 (AVal.toInt (List.headD (List.tail (List.tail (AVal.cells (Option.getD (afind (AVal.int IntKind.i64 s) ents) (AVal.agg [AVal.int IntKind.i64 0, AVal.int IntKind.i64 0, AVal.int IntKind.i64 0, AVal.fsl true 0 [] (some 0)]))))) AVal.any)), AVal.fsl (AVal.toNil (List.headD (List.tail (List.tail (List.tail (AVal.cells (Option.getD (afind (AVal.int IntKind.i64 s) ents) (AVal.agg [AVal.int IntKind.i64 0, AVal.int IntKind.i64 0, AVal.int IntKind.i64 0, AVal.fsl true 0 [] (some 0)])))))) AVal.any)) 2 (AVal.toRows (List.headD (List.tail (List.tail (List.tail (AVal.cells (Option.getD (afind (AVal.int IntKind.i64 s) ents) (AVal.agg [AVal.int IntKind.i64 0, AVal.int IntKind.i64 0, AVal.int IntKind.i64 0, AVal.fsl true 0 [] (some 0)])))))) AVal.any)) none], AVal.bool (Option.isSome (afind (AVal.int IntKind.i64 s) ents))] = AVal.tuple [AVal.agg [AVal.int IntKind.i64 q0, AVal.int IntKind.i64 e0, AVal.int IntKind.i64 a0, AVal.fsl b0 2 rs0 none], AVal.bool th])
    (h6 : okCells Try.prog 63 (Option.getD (afind (AVal.int IntKind.i64 s) ents) (AVal.agg [AVal.int IntKind.i64 0, AVal.int IntKind.i64 0, AVal.int IntKind.i64 0, AVal.fsl true 0 [] (some 0)])) = true)
    (h7 : decide ((↑(List.length rs) : Int) > 64) = false)
    (h8 : (!mayB s q) = false)
    (h9 : FOk Try.prog 21 [AVal.ptr 0 1 0 0, AVal.agg [AVal.int IntKind.i64 s, AVal.int IntKind.i64 q]] [AObj.rows false 1 [[AVal.map 1]], AObj.mp true ents] (AVal.bool (mayB s q)) [AObj.rows false 1 [[AVal.map 1]], AObj.mp true ents]) :
    FOk Try.prog 11 ([AVal.ptr 0 1 0 0, idv s q, rep e a b rs]) (Tab ents) (AVal.int IntKind.i64 0) (sweep [true, true] ([AObj.rows false 1 [[AVal.map 1]], AObj.mp true (aput (AVal.int IntKind.i64 s) (AVal.agg [AVal.int IntKind.i64 q, AVal.int IntKind.i64 e, AVal.int IntKind.i64 a, AVal.fsl b 2 rs none]) ents), AObj.rows false 2 [[AVal.int IntKind.i64 s, AVal.int IntKind.i64 q]], AObj.rows false 3 [[AVal.int IntKind.i64 e, AVal.int IntKind.i64 a, AVal.fsl b 2 rs none]], AObj.rows false 4 [[AVal.int IntKind.i64 q0, AVal.int IntKind.i64 e0, AVal.int IntKind.i64 a0, AVal.fsl b0 2 rs0 none]]])) :=
  (evalF_ok followed Try.func11 (by kernel_rfl) (show evalF Try.prog Try.f11 ([AVal.ptr 0 1 0 0, idv s q, rep e a b rs]) (Tab ents) ([Dec.use [0, 1] [AVal.ptr 0 1 0 0, idv s q] (Tab ents) (AVal.bool (mayB s q)) (Tab ents), Dec.br false, Dec.br false, Dec.rw (AVal.tuple [last q0 e0 a0 b0 rs0, AVal.bool th]), Dec.br false, Dec.br false, Dec.use [] [rep e a b rs] [] (rep e a b rs) []]) = .ok (FRes.mk (AVal.int IntKind.i64 0) ([AObj.rows false 1 [[AVal.map 1]], AObj.mp true (aput (AVal.int IntKind.i64 s) (AVal.agg [AVal.int IntKind.i64 q, AVal.int IntKind.i64 e, AVal.int IntKind.i64 a, AVal.fsl b 2 rs none]) ents), AObj.rows false 2 [[AVal.int IntKind.i64 s, AVal.int IntKind.i64 q]], AObj.rows false 3 [[AVal.int IntKind.i64 e, AVal.int IntKind.i64 a, AVal.fsl b 2 rs none]], AObj.rows false 4 [[AVal.int IntKind.i64 q0, AVal.int IntKind.i64 e0, AVal.int IntKind.i64 a0, AVal.fsl b0 2 rs0 none]]]) [true = true,
    true = true,
    (List.all ents fun p => keyKind Try.prog 3 (Prod.fst p)) = true,
    true = true,
    true = true,
    [AObj.rows false 1 [[AVal.map 1]], AObj.mp true ents, AObj.rows false 2 [[AVal.int IntKind.i64 s, AVal.int IntKind.i64 q]], AObj.rows false 3 [[AVal.int IntKind.i64 e, AVal.int IntKind.i64 a, AVal.fsl b 2 rs none]], AObj.rows false 4 [[AVal.int IntKind.i64 q0, AVal.int IntKind.i64 e0, AVal.int IntKind.i64 a0, AVal.fsl b0 2 rs0 none]]] = [AObj.rows false 1 [[AVal.map 1]], AObj.mp true ents, AObj.rows false 2 [[AVal.int IntKind.i64 s, AVal.int IntKind.i64 q]], AObj.rows false 3 [[AVal.int IntKind.i64 e, AVal.int IntKind.i64 a, AVal.fsl b 2 rs none]], AObj.rows false 4 [[AVal.int IntKind.i64 q0, AVal.int IntKind.i64 e0, AVal.int IntKind.i64 a0, AVal.fsl b0 2 rs0 none]]],
    Owed.use (owed Try.prog) 22 [] [AVal.agg [AVal.int IntKind.i64 e, AVal.int IntKind.i64 a, AVal.fsl b 2 rs none]] [AObj.rows false 1 [[AVal.map 1]], AObj.mp true ents, AObj.rows false 2 [[AVal.int IntKind.i64 s, AVal.int IntKind.i64 q]], AObj.rows false 3 [[AVal.int IntKind.i64 e, AVal.int IntKind.i64 a, AVal.fsl b 2 rs none]], AObj.rows false 4 [[AVal.int IntKind.i64 q0, AVal.int IntKind.i64 e0, AVal.int IntKind.i64 a0, AVal.fsl b0 2 rs0 none]]] [AVal.agg [AVal.int IntKind.i64 e, AVal.int IntKind.i64 a, AVal.fsl b 2 rs none]] [] (AVal.agg [AVal.int IntKind.i64 e, AVal.int IntKind.i64 a, AVal.fsl b 2 rs none]) [],
    true = true,
    true = true,
    true = true,
    true = true,
    true = true,
    true = true,
    true = true,
    true = true,
    true = true,
    true = true,
    true = true,
    true = true,
    true = true,
    true = true,
    (!th) = false,
    decide (q0 ≥ q) = false,
    true = true,
    true = true,
    true = true,
    true = true,
    true = true,
    true = true,
    true = true,
    true = true,
    true = true,
    true = true,
    true = true,
    AVal.tuple [AVal.agg [AVal.int IntKind.i64 (AVal.toInt (List.headD (AVal.cells (Option.getD (afind (AVal.int IntKind.i64 s) ents) (AVal.agg [AVal.int IntKind.i64 0, AVal.int IntKind.i64 0, AVal.int IntKind.i64 0, AVal.fsl true 0 [] (some 0)]))) AVal.any)), AVal.int IntKind.i64 (AVal.toInt (List.headD (List.tail (AVal.cells (Option.getD (afind (AVal.int IntKind.i64 s) ents) (AVal.agg [AVal.int IntKind.i64 0, AVal.int IntKind.i64 0, AVal.int IntKind.i64 0, AVal.fsl true 0 [] (some 0)])))) AVal.any)), AVal.int IntKind.i64 (AVal.toInt (List.headD (List.tail (List.tail (AVal.cells (Option.getD (afind (AVal.int IntKind.i64 s) ents) (AVal.agg [AVal.int IntKind.i64 0, AVal.int IntKind.i64 0, AVal.int IntKind.i64 0, AVal.fsl true 0 [] (some 0)]))))) AVal.any)), AVal.fsl (AVal.toNil (List.headD (List.tail (List.tail (List.tail (AVal.cells (Option.getD (afind (AVal.int IntKind.i64 s) ents) (AVal.agg [AVal.int IntKind.i64 0, AVal.int IntKind.i64 0, AVal.int IntKind.i64 0, AVal.fsl true 0 [] (some 0)])))))) AVal.any)) 2 (AVal.toRows (List.headD (List.tail (List.tail (List.tail (AVal.cells (Option.getD (afind (AVal.int IntKind.i64 s) ents) (AVal.agg [AVal.int IntKind.i64 0, AVal.int IntKind.i64 0, AVal.int IntKind.i64 0, AVal.fsl true 0 [] (some 0)])))))) AVal.any)) none], AVal.bool (Option.isSome (afind (AVal.int IntKind.i64 s) ents))] = AVal.tuple [AVal.agg [AVal.int IntKind.i64 q0, AVal.int IntKind.i64 e0, AVal.int IntKind.i64 a0, AVal.fsl b0 2 rs0 none], AVal.bool th],
    okCells Try.prog 63 (Option.getD (afind (AVal.int IntKind.i64 s) ents) (AVal.agg [AVal.int IntKind.i64 0, AVal.int IntKind.i64 0, AVal.int IntKind.i64 0, AVal.fsl true 0 [] (some 0)])) = true,
    (List.all ents fun p => keyKind Try.prog 3 (Prod.fst p)) = true,
    true = true,
    true = true,
    true = true,
    true = true,
    true = true,
    true = true,
    true = true,
    true = true,
    true = true,
    decide ((↑(List.length rs) : Int) > 64) = false,
    true = true,
    (!mayB s q) = false,
    Owed.use (owed Try.prog) 21 [0, 1] [AVal.ptr 0 1 0 0, AVal.agg [AVal.int IntKind.i64 s, AVal.int IntKind.i64 q]] [AObj.rows false 1 [[AVal.map 1]], AObj.mp true ents, AObj.rows false 2 [[AVal.int IntKind.i64 s, AVal.int IntKind.i64 q]], AObj.rows false 3 [[AVal.int IntKind.i64 e, AVal.int IntKind.i64 a, AVal.fsl b 2 rs none]]] [AVal.ptr 0 1 0 0, AVal.agg [AVal.int IntKind.i64 s, AVal.int IntKind.i64 q]] [AObj.rows false 1 [[AVal.map 1]], AObj.mp true ents] (AVal.bool (mayB s q)) [AObj.rows false 1 [[AVal.map 1]], AObj.mp true ents],
    true = true]) by kernel_rfl) (allP_of (⟨rfl, rfl, h1, rfl, rfl, rfl, ⟨h2, rfl, rfl, rfl⟩, rfl, rfl, rfl, rfl, rfl, rfl, rfl, rfl, rfl, rfl, rfl, rfl, rfl, rfl, h3, h4, rfl, rfl, rfl, rfl, rfl, rfl, rfl, rfl, rfl, rfl, rfl, h5, h6, h1, rfl, rfl, rfl, rfl, rfl, rfl, rfl, rfl, rfl, h7, rfl, h8, ⟨h9, rfl, rfl, rfl⟩, rfl, trivial⟩))).gc [true, true] rfl



theorem findA_1 (s : Int) (q : Int) (ents : List (AVal × AVal)) (q0 : Int) (e0 : Int) (a0 : Int) (b0 : Bool) (rs0 : List (List AVal))
    (h1 : (!mayB s q) = true)
    (h2 : FOk Try.prog 21 [AVal.ptr 0 1 0 0, AVal.agg [AVal.int IntKind.i64 s, AVal.int IntKind.i64 q]] [AObj.rows false 1 [[AVal.map 1]], AObj.mp true ents] (AVal.bool (mayB s q)) [AObj.rows false 1 [[AVal.map 1]], AObj.mp true ents]) :
    FOk Try.prog 10 ([AVal.ptr 0 1 0 0, idv s q]) (Tab ents) (AVal.tuple [AVal.agg [AVal.int IntKind.i64 0, AVal.int IntKind.i64 0, AVal.fsl true 0 [] (some 0)], AVal.int IntKind.i64 1]) (sweep [true, true] ([AObj.rows false 1 [[AVal.map 1]], AObj.mp true ents, AObj.rows false 2 [[AVal.int IntKind.i64 s, AVal.int IntKind.i64 q]], AObj.rows false 3 [[AVal.int IntKind.i64 0, AVal.int IntKind.i64 0, AVal.fsl true 0 [] (some 0)]]])) :=
  (evalF_ok followed Try.func10 (by kernel_rfl) (show evalF Try.prog Try.f10 ([AVal.ptr 0 1 0 0, idv s q]) (Tab ents) ([Dec.use [0, 1] [AVal.ptr 0 1 0 0, idv s q] (Tab ents) (AVal.bool (mayB s q)) (Tab ents), Dec.br true]) = .ok (FRes.mk (AVal.tuple [AVal.agg [AVal.int IntKind.i64 0, AVal.int IntKind.i64 0, AVal.fsl true 0 [] (some 0)], AVal.int IntKind.i64 1]) ([AObj.rows false 1 [[AVal.map 1]], AObj.mp true ents, AObj.rows false 2 [[AVal.int IntKind.i64 s, AVal.int IntKind.i64 q]], AObj.rows false 3 [[AVal.int IntKind.i64 0, AVal.int IntKind.i64 0, AVal.fsl true 0 [] (some 0)]]]) [true = true,
    true = true,
    (!mayB s q) = true,
    Owed.use (owed Try.prog) 21 [0, 1] [AVal.ptr 0 1 0 0, AVal.agg [AVal.int IntKind.i64 s, AVal.int IntKind.i64 q]] [AObj.rows false 1 [[AVal.map 1]], AObj.mp true ents, AObj.rows false 2 [[AVal.int IntKind.i64 s, AVal.int IntKind.i64 q]], AObj.rows false 3 [[AVal.int IntKind.i64 0, AVal.int IntKind.i64 0, AVal.fsl true 0 [] (some 0)]]] [AVal.ptr 0 1 0 0, AVal.agg [AVal.int IntKind.i64 s, AVal.int IntKind.i64 q]] [AObj.rows false 1 [[AVal.map 1]], AObj.mp true ents] (AVal.bool (mayB s q)) [AObj.rows false 1 [[AVal.map 1]], AObj.mp true ents],
    true = true]) by kernel_rfl) (allP_of (⟨rfl, rfl, h1, ⟨h2, rfl, rfl, rfl⟩, rfl, trivial⟩))).gc [true, true] rfl

theorem findA_2 (s : Int) (q : Int) (ents : List (AVal × AVal)) (q0 : Int) (e0 : Int) (a0 : Int) (b0 : Bool) (rs0 : List (List AVal))
    (h1 : decide (q0 < q) = true)
    (h2 : AVal.agg [AVal.int IntKind.i64 (AVal.toInt (List.headD (AVal.cells (Option.getD (afind (AVal.int IntKind.i64 s) ents) (AVal.agg [AVal.int IntKind.i64 0, AVal.int IntKind.i64 0, AVal.int IntKind.i64 0, AVal.fsl true 0 [] (some 0)]))) AVal.any)), AVal.int IntKind.i64 (AVal.toInt (List.headD (List.tail (AVal.cells (Option.getD (afind (AVal.int IntKind.i64 s) ents) (AVal.agg [AVal.int IntKind.i64 0, AVal.int IntKind.i64 0, AVal.int IntKind.i64 0, AVal.fsl true 0 [] (some 0)])))) AVal.any)), AVal.int IntKind.i64 (AVal.toInt (List.headD (List.tail (List.tail (AVal.cells (Option.getD (afind (AVal.int IntKind.i64 s) ents) (AVal.agg [AVal.int IntKind.i64 0, AVal.int IntKind.i64 0, AVal.int IntKind.i64 0, AVal.fsl true 0 [] (some 0)]))))) AVal.any)), AVal.fsl (AVal.toNil (List.headD (List.tail (List.tail (List.tail (AVal.cells (Option.getD (afind (AVal.int IntKind.i64 s) ents) (AVal.agg [AVal.int IntKind.i64 0, AVal.int IntKind.i64 0, AVal.int IntKind.i64 0, AVal.fsl true 0 [] (some 0)])))))) AVal.any)) 2 (AVal.toRows (List.headD (List.tail (List.tail (List.tail (AVal.cells (Option.getD (afind (AVal.int IntKind.i64 s) ents) (AVal.agg [AVal.int IntKind.i64 0, AVal.int IntKind.i64 0, AVal.int IntKind.i64 0, AVal.fsl true 0 [] (some 0)])))))) AVal.any)) none] = AVal.agg [AVal.int IntKind.i64 q0, AVal.int IntKind.i64 e0, AVal.int IntKind.i64 a0, AVal.fsl b0 2 rs0 none])
    (h3 : okCells Try.prog 63 (Option.getD (afind (AVal.int IntKind.i64 s) ents) (AVal.agg [AVal.int IntKind.i64 0, AVal.int IntKind.i64 0, AVal.int IntKind.i64 0, AVal.fsl true 0 [] (some 0)])) = true)
    (h4 : (List.all ents fun p => keyKind Try.prog 3 (Prod.fst p)) = true)
    (h5 : (!mayB s q) = false)
    (h6 : FOk Try.prog 21 [AVal.ptr 0 1 0 0, AVal.agg [AVal.int IntKind.i64 s, AVal.int IntKind.i64 q]] [AObj.rows false 1 [[AVal.map 1]], AObj.mp true ents] (AVal.bool (mayB s q)) [AObj.rows false 1 [[AVal.map 1]], AObj.mp true ents]) :
    FOk Try.prog 10 ([AVal.ptr 0 1 0 0, idv s q]) (Tab ents) (AVal.tuple [AVal.agg [AVal.int IntKind.i64 0, AVal.int IntKind.i64 0, AVal.fsl true 0 [] (some 0)], AVal.int IntKind.i64 3]) (sweep [true, true] ([AObj.rows false 1 [[AVal.map 1]], AObj.mp true ents, AObj.rows false 2 [[AVal.int IntKind.i64 s, AVal.int IntKind.i64 q]], AObj.rows false 3 [[AVal.int IntKind.i64 0, AVal.int IntKind.i64 0, AVal.fsl true 0 [] (some 0)]], AObj.rows false 4 [[AVal.int IntKind.i64 q0, AVal.int IntKind.i64 e0, AVal.int IntKind.i64 a0, AVal.fsl b0 2 rs0 none]]])) :=
  (evalF_ok followed Try.func10 (by kernel_rfl) (show evalF Try.prog Try.f10 ([AVal.ptr 0 1 0 0, idv s q]) (Tab ents) ([Dec.use [0, 1] [AVal.ptr 0 1 0 0, idv s q] (Tab ents) (AVal.bool (mayB s q)) (Tab ents), Dec.br false, Dec.rw (last q0 e0 a0 b0 rs0), Dec.br true]) = .ok (FRes.mk (AVal.tuple [AVal.agg [AVal.int IntKind.i64 0, AVal.int IntKind.i64 0, AVal.fsl true 0 [] (some 0)], AVal.int IntKind.i64 3]) ([AObj.rows false 1 [[AVal.map 1]], AObj.mp true ents, AObj.rows false 2 [[AVal.int IntKind.i64 s, AVal.int IntKind.i64 q]], AObj.rows false 3 [[AVal.int IntKind.i64 0, AVal.int IntKind.i64 0, AVal.fsl true 0 [] (some 0)]], AObj.rows false 4 [[AVal.int IntKind.i64 q0, AVal.int IntKind.i64 e0, AVal.int IntKind.i64 a0, AVal.fsl b0 2 rs0 none]]]) [true = true,
    true = true,
    decide (q0 < q) = true,
    true = true,
    true = true,
    true = true,
    true = true,
    true = true,
    true = true,
    true = true,
    AVal.agg [AVal.int IntKind.i64 (AVal.toInt (List.headD (AVal.cells (Option.getD (afind (AVal.int IntKind.i64 s) ents) (AVal.agg [AVal.int IntKind.i64 0, AVal.int IntKind.i64 0, AVal.int IntKind.i64 0, AVal.fsl true 0 [] (some 0)]))) AVal.any)), AVal.int IntKind.i64 (AVal.toInt (List.headD (List.tail (AVal.cells (Option.getD (afind (AVal.int IntKind.i64 s) ents) (AVal.agg [AVal.int IntKind.i64 0, AVal.int IntKind.i64 0, AVal.int IntKind.i64 0, AVal.fsl true 0 [] (some 0)])))) AVal.any)), AVal.int IntKind.i64 (AVal.toInt (List.headD (List.tail (List.tail (AVal.cells (Option.getD (afind (AVal.int IntKind.i64 s) ents) (AVal.agg [AVal.int IntKind.i64 0, AVal.int IntKind.i64 0, AVal.int IntKind.i64 0, AVal.fsl true 0 [] (some 0)]))))) AVal.any)), AVal.fsl (AVal.toNil (List.headD (List.tail (List.tail (List.tail (AVal.cells (Option.getD (afind (AVal.int IntKind.i64 s) ents) (AVal.agg [AVal.int IntKind.i64 0, AVal.int IntKind.i64 0, AVal.int IntKind.i64 0, AVal.fsl true 0 [] (some 0)])))))) AVal.any)) 2 (AVal.toRows (List.headD (List.tail (List.tail (List.tail (AVal.cells (Option.getD (afind (AVal.int IntKind.i64 s) ents) (AVal.agg [AVal.int IntKind.i64 0, AVal.int IntKind.i64 0, AVal.int IntKind.i64 0, AVal.fsl true 0 [] (some 0)])))))) AVal.any)) none] = AVal.agg [AVal.int IntKind.i64 q0, AVal.int IntKind.i64 e0, AVal.int IntKind.i64 a0, AVal.fsl b0 2 rs0 none],
    okCells Try.prog 63 (Option.getD (afind (AVal.int IntKind.i64 s) ents) (AVal.agg [AVal.int IntKind.i64 0, AVal.int IntKind.i64 0, AVal.int IntKind.i64 0, AVal.fsl true 0 [] (some 0)])) = true,
    (List.all ents fun p => keyKind Try.prog 3 (Prod.fst p)) = true,
    true = true,
    true = true,
    true = true,
    true = true,
    true = true,
    true = true,
    true = true,
    true = true,
    true = true,
    (!mayB s q) = false,
    Owed.use (owed Try.prog) 21 [0, 1] [AVal.ptr 0 1 0 0, AVal.agg [AVal.int IntKind.i64 s, AVal.int IntKind.i64 q]] [AObj.rows false 1 [[AVal.map 1]], AObj.mp true ents, AObj.rows false 2 [[AVal.int IntKind.i64 s, AVal.int IntKind.i64 q]], AObj.rows false 3 [[AVal.int IntKind.i64 0, AVal.int IntKind.i64 0, AVal.fsl true 0 [] (some 0)]]] [AVal.ptr 0 1 0 0, AVal.agg [AVal.int IntKind.i64 s, AVal.int IntKind.i64 q]] [AObj.rows false 1 [[AVal.map 1]], AObj.mp true ents] (AVal.bool (mayB s q)) [AObj.rows false 1 [[AVal.map 1]], AObj.mp true ents],
    true = true]) by kernel_rfl) (allP_of (⟨rfl, rfl, h1, rfl, rfl, rfl, rfl, rfl, rfl, rfl, h2, h3, h4, rfl, rfl, rfl, rfl, rfl, rfl, rfl, rfl, rfl, h5, ⟨h6, rfl, rfl, rfl⟩, rfl, trivial⟩))).gc [true, true] rfl

theorem findA_3 (s : Int) (q : Int) (ents : List (AVal × AVal)) (q0 : Int) (e0 : Int) (a0 : Int) (b0 : Bool) (rs0 : List (List AVal))
    (h1 : decide (q0 > q) = true)
    (h2 : decide (q0 < q) = false)
    (h3 : AVal.agg [AVal.int IntKind.i64 (AVal.toInt (List.headD (AVal.cells (Option.getD (afind (AVal.int IntKind.i64 s) ents) (AVal.agg [AVal.int IntKind.i64 0, AVal.int IntKind.i64 0, AVal.int IntKind.i64 0, AVal.fsl true 0 [] (some 0)]))) AVal.any)), AVal.int IntKind.i64 (AVal.toInt (List.headD (List.tail (AVal.cells (Option.getD (afind (AVal.int IntKind.i64 s) ents) (AVal.agg [AVal.int IntKind.i64 0, AVal.int IntKind.i64 0, AVal.int IntKind.i64 0, AVal.fsl true 0 [] (some 0)])))) AVal.any)), AVal.int IntKind.i64 (AVal.toInt (List.headD (List.tail (List.tail (AVal.cells (Option.getD (afind (AVal.int IntKind.i64 s) ents) (AVal.agg [AVal.int IntKind.i64 0, AVal.int IntKind.i64 0, AVal.int IntKind.i64 0, AVal.fsl true 0 [] (some 0)]))))) AVal.any)), AVal.fsl (AVal.toNil (List.headD (List.tail (List.tail (List.tail (AVal.cells (Option.getD (afind (AVal.int IntKind.i64 s) ents) (AVal.agg [AVal.int IntKind.i64 0, AVal.int IntKind.i64 0, AVal.int IntKind.i64 0, AVal.fsl true 0 [] (some 0)])))))) AVal.any)) 2 (AVal.toRows (List.headD (List.tail (List.tail (List.tail (AVal.cells (Option.getD (afind (AVal.int IntKind.i64 s) ents) (AVal.agg [AVal.int IntKind.i64 0, AVal.int IntKind.i64 0, AVal.int IntKind.i64 0, AVal.fsl true 0 [] (some 0)])))))) AVal.any)) none] = AVal.agg [AVal.int IntKind.i64 q0, AVal.int IntKind.i64 e0, AVal.int IntKind.i64 a0, AVal.fsl b0 2 rs0 none])
    (h4 : okCells Try.prog 63 (Option.getD (afind (AVal.int IntKind.i64 s) ents) (AVal.agg [AVal.int IntKind.i64 0, AVal.int IntKind.i64 0, AVal.int IntKind.i64 0, AVal.fsl true 0 [] (some 0)])) = true)
    (h5 : (List.all ents fun p => keyKind Try.prog 3 (Prod.fst p)) = true)
    (h6 : (!mayB s q) = false)
    (h7 : FOk Try.prog 21 [AVal.ptr 0 1 0 0, AVal.agg [AVal.int IntKind.i64 s, AVal.int IntKind.i64 q]] [AObj.rows false 1 [[AVal.map 1]], AObj.mp true ents] (AVal.bool (mayB s q)) [AObj.rows false 1 [[AVal.map 1]], AObj.mp true ents]) :
    FOk Try.prog 10 ([AVal.ptr 0 1 0 0, idv s q]) (Tab ents) (AVal.tuple [AVal.agg [AVal.int IntKind.i64 0, AVal.int IntKind.i64 0, AVal.fsl true 0 [] (some 0)], AVal.int IntKind.i64 110]) (sweep [true, true] ([AObj.rows false 1 [[AVal.map 1]], AObj.mp true ents, AObj.rows false 2 [[AVal.int IntKind.i64 s, AVal.int IntKind.i64 q]], AObj.rows false 3 [[AVal.int IntKind.i64 0, AVal.int IntKind.i64 0, AVal.fsl true 0 [] (some 0)]], AObj.rows false 4 [[AVal.int IntKind.i64 q0, AVal.int IntKind.i64 e0, AVal.int IntKind.i64 a0, AVal.fsl b0 2 rs0 none]]])) :=
  (evalF_ok followed Try.func10 (by kernel_rfl) (show evalF Try.prog Try.f10 ([AVal.ptr 0 1 0 0, idv s q]) (Tab ents) ([Dec.use [0, 1] [AVal.ptr 0 1 0 0, idv s q] (Tab ents) (AVal.bool (mayB s q)) (Tab ents), Dec.br false, Dec.rw (last q0 e0 a0 b0 rs0), Dec.br false, Dec.br true]) = .ok (FRes.mk (AVal.tuple [AVal.agg [AVal.int IntKind.i64 0, AVal.int IntKind.i64 0, AVal.fsl true 0 [] (some 0)], AVal.int IntKind.i64 110]) ([AObj.rows false 1 [[AVal.map 1]], AObj.mp true ents, AObj.rows false 2 [[AVal.int IntKind.i64 s, AVal.int IntKind.i64 q]], AObj.rows false 3 [[AVal.int IntKind.i64 0, AVal.int IntKind.i64 0, AVal.fsl true 0 [] (some 0)]], AObj.rows false 4 [[AVal.int IntKind.i64 q0, AVal.int IntKind.i64 e0, AVal.int IntKind.i64 a0, AVal.fsl b0 2 rs0 none]]]) [true = true,
    true = true,
    decide (q0 > q) = true,
    true = true,
    true = true,
    decide (q0 < q) = false,
    true = true,
    true = true,
    true = true,
    true = true,
    true = true,
    true = true,
    true = true,
    AVal.agg [AVal.int IntKind.i64 (AVal.toInt (List.headD (AVal.cells (Option.getD (afind (AVal.int IntKind.i64 s) ents) (AVal.agg [AVal.int IntKind.i64 0, AVal.int IntKind.i64 0, AVal.int IntKind.i64 0, AVal.fsl true 0 [] (some 0)]))) AVal.any)), AVal.int IntKind.i64 (AVal.toInt (List.headD (List.tail (AVal.cells (Option.getD (afind (AVal.int IntKind.i64 s) ents) (AVal.agg [AVal.int IntKind.i64 0, AVal.int IntKind.i64 0, AVal.int IntKind.i64 0, AVal.fsl true 0 [] (some 0)])))) AVal.any)), AVal.int IntKind.i64 (AVal.toInt (List.headD (List.tail (List.tail (AVal.cells (Option.getD (afind (AVal.int IntKind.i64 s) ents) (AVal.agg [AVal.int IntKind.i64 0, AVal.int IntKind.i64 0, AVal.int IntKind.i64 0, AVal.fsl true 0 [] (some 0)]))))) AVal.any)), AVal.fsl (AVal.toNil (List.headD (List.tail (List.tail (List.tail (AVal.cells (Option.getD (afind (AVal.int IntKind.i64 s) ents) (AVal.agg [AVal.int IntKind.i64 0, AVal.int IntKind.i64 0, AVal.int IntKind.i64 0, AVal.fsl true 0 [] (some 0)])))))) AVal.any)) 2 (AVal.toRows (List.headD (List.tail (List.tail (List.tail (AVal.cells (Option.getD (afind (AVal.int IntKind.i64 s) ents) (AVal.agg [AVal.int IntKind.i64 0, AVal.int IntKind.i64 0, AVal.int IntKind.i64 0, AVal.fsl true 0 [] (some 0)])))))) AVal.any)) none] = AVal.agg [AVal.int IntKind.i64 q0, AVal.int IntKind.i64 e0, AVal.int IntKind.i64 a0, AVal.fsl b0 2 rs0 none],
    okCells Try.prog 63 (Option.getD (afind (AVal.int IntKind.i64 s) ents) (AVal.agg [AVal.int IntKind.i64 0, AVal.int IntKind.i64 0, AVal.int IntKind.i64 0, AVal.fsl true 0 [] (some 0)])) = true,
    (List.all ents fun p => keyKind Try.prog 3 (Prod.fst p)) = true,
    true = true,
    true = true,
    true = true,
    true = true,
    true = true,
    true = true,
    true = true,
    true = true,
    true = true,
    (!mayB s q) = false,
    Owed.use (owed Try.prog) 21 [0, 1] [AVal.ptr 0 1 0 0, AVal.agg [AVal.int IntKind.i64 s, AVal.int IntKind.i64 q]] [AObj.rows false 1 [[AVal.map 1]], AObj.mp true ents, AObj.rows false 2 [[AVal.int IntKind.i64 s, AVal.int IntKind.i64 q]], AObj.rows false 3 [[AVal.int IntKind.i64 0, AVal.int IntKind.i64 0, AVal.fsl true 0 [] (some 0)]]] [AVal.ptr 0 1 0 0, AVal.agg [AVal.int IntKind.i64 s, AVal.int IntKind.i64 q]] [AObj.rows false 1 [[AVal.map 1]], AObj.mp true ents] (AVal.bool (mayB s q)) [AObj.rows false 1 [[AVal.map 1]], AObj.mp true ents],
    true = true]) by kernel_rfl) (allP_of (⟨rfl, rfl, h1, rfl, rfl, h2, rfl, rfl, rfl, rfl, rfl, rfl, rfl, h3, h4, h5, rfl, rfl, rfl, rfl, rfl, rfl, rfl, rfl, rfl, h6, ⟨h7, rfl, rfl, rfl⟩, rfl, trivial⟩))).gc [true, true] rfl

theorem findA_4 (s : Int) (q : Int) (ents : List (AVal × AVal)) (q0 : Int) (e0 : Int) (a0 : Int) (b0 : Bool) (rs0 : List (List AVal))
    (h1 : FOk Try.prog 22 [AVal.agg [AVal.int IntKind.i64 e0, AVal.int IntKind.i64 a0, AVal.fsl b0 2 rs0 none]] [] (AVal.agg [AVal.int IntKind.i64 e0, AVal.int IntKind.i64 a0, AVal.fsl b0 2 rs0 none]) [])
    (h2 : decide (q0 > q) = false)
    (h3 : decide (q0 < q) = false)
    (h4 : AVal.agg [AVal.int IntKind.i64 (AVal.toInt (List.headD (AVal.cells (Option.getD (afind (AVal.int IntKind.i64 s) ents) (AVal.agg [AVal.int IntKind.i64 0, AVal.int IntKind.i64 0, AVal.int IntKind.i64 0, AVal.fsl true 0 [] (some 0)]))) AVal.any)), AVal.int IntKind.i64 (AVal.toInt (List.headD (List.tail (AVal.cells (Option.getD (afind (AVal.int IntKind.i64 s) ents) (AVal.agg [AVal.int IntKind.i64 0, AVal.int IntKind.i64 0, AVal.int IntKind.i64 0, AVal.fsl true 0 [] (some 0)])))) AVal.any)), AVal.int IntKind.i64 (AVal.toInt (List.headD (List.tail (List.tail (AVal.cells (Option.getD (afind (AVal.int IntKind.i64 s) ents) (AVal.agg [AVal.int IntKind.i64 0, AVal.int IntKind.i64 0, AVal.int IntKind.i64 0, AVal.fsl true 0 [] (some 0)]))))) AVal.any)), AVal.fsl (AVal.toNil (List.headD (List.tail (List.tail (List.tail (AVal.cells (Option.getD (afind (AVal.int IntKind.i64 s) ents) (AVal.agg [AVal.int IntKind.i64 0, AVal.int IntKind.i64 0, AVal.int IntKind.i64 0, AVal.fsl true 0 [] (some 0)])))))) AVal.any)) 2 (AVal.toRows (List.headD (List.tail (List.tail (List.tail (AVal.cells (Option.getD (afind (AVal.int IntKind.i64 s) ents) (AVal.agg [AVal.int IntKind.i64 0, AVal.int IntKind.i64 0, AVal.int IntKind.i64 0, AVal.fsl true 0 [] (some 0)])))))) AVal.any)) none] = AVal.agg [AVal.int IntKind.i64 q0, AVal.int IntKind.i64 e0, AVal.int IntKind.i64 a0, AVal.fsl b0 2 rs0 none])
    (h5 : okCells Try.prog 63 (Option.getD (afind (AVal.int IntKind.i64 s) ents) (AVal.agg [AVal.int IntKind.i64 0, AVal.int IntKind.i64 0, AVal.int IntKind.i64 0, AVal.fsl true 0 [] (some 0)])) = true)
    (h6 : (List.all ents fun p => keyKind Try.prog 3 (Prod.fst p)) = true)
    (h7 : (!mayB s q) = false)
    (h8 : FOk Try.prog 21 [AVal.ptr 0 1 0 0, AVal.agg [AVal.int IntKind.i64 s, AVal.int IntKind.i64 q]] [AObj.rows false 1 [[AVal.map 1]], AObj.mp true ents] (AVal.bool (mayB s q)) [AObj.rows false 1 [[AVal.map 1]], AObj.mp true ents]) :
    FOk Try.prog 10 ([AVal.ptr 0 1 0 0, idv s q]) (Tab ents) (AVal.tuple [AVal.agg [AVal.int IntKind.i64 e0, AVal.int IntKind.i64 a0, AVal.fsl b0 2 rs0 none], AVal.int IntKind.i64 0]) (sweep [true, true] ([AObj.rows false 1 [[AVal.map 1]], AObj.mp true ents, AObj.rows false 2 [[AVal.int IntKind.i64 s, AVal.int IntKind.i64 q]], AObj.rows false 3 [[AVal.int IntKind.i64 e0, AVal.int IntKind.i64 a0, AVal.fsl b0 2 rs0 none]], AObj.rows false 4 [[AVal.int IntKind.i64 q0, AVal.int IntKind.i64 e0, AVal.int IntKind.i64 a0, AVal.fsl b0 2 rs0 none]]])) :=
  (evalF_ok followed Try.func10 (by kernel_rfl) (show evalF Try.prog Try.f10 ([AVal.ptr 0 1 0 0, idv s q]) (Tab ents) ([Dec.use [0, 1] [AVal.ptr 0 1 0 0, idv s q] (Tab ents) (AVal.bool (mayB s q)) (Tab ents), Dec.br false, Dec.rw (last q0 e0 a0 b0 rs0), Dec.br false, Dec.br false, Dec.use [] [rep e0 a0 b0 rs0] [] (rep e0 a0 b0 rs0) []]) = .ok (FRes.mk (AVal.tuple [AVal.agg [AVal.int IntKind.i64 e0, AVal.int IntKind.i64 a0, AVal.fsl b0 2 rs0 none], AVal.int IntKind.i64 0]) ([AObj.rows false 1 [[AVal.map 1]], AObj.mp true ents, AObj.rows false 2 [[AVal.int IntKind.i64 s, AVal.int IntKind.i64 q]], AObj.rows false 3 [[AVal.int IntKind.i64 e0, AVal.int IntKind.i64 a0, AVal.fsl b0 2 rs0 none]], AObj.rows false 4 [[AVal.int IntKind.i64 q0, AVal.int IntKind.i64 e0, AVal.int IntKind.i64 a0, AVal.fsl b0 2 rs0 none]]]) [true = true,
    true = true,
    Owed.use (owed Try.prog) 22 [] [AVal.agg [AVal.int IntKind.i64 e0, AVal.int IntKind.i64 a0, AVal.fsl b0 2 rs0 none]] [AObj.rows false 1 [[AVal.map 1]], AObj.mp true ents, AObj.rows false 2 [[AVal.int IntKind.i64 s, AVal.int IntKind.i64 q]], AObj.rows false 3 [[AVal.int IntKind.i64 0, AVal.int IntKind.i64 0, AVal.fsl true 0 [] (some 0)]], AObj.rows false 4 [[AVal.int IntKind.i64 q0, AVal.int IntKind.i64 e0, AVal.int IntKind.i64 a0, AVal.fsl b0 2 rs0 none]]] [AVal.agg [AVal.int IntKind.i64 e0, AVal.int IntKind.i64 a0, AVal.fsl b0 2 rs0 none]] [] (AVal.agg [AVal.int IntKind.i64 e0, AVal.int IntKind.i64 a0, AVal.fsl b0 2 rs0 none]) [],
    true = true,
    decide (q0 > q) = false,
    true = true,
    true = true,
    decide (q0 < q) = false,
    true = true,
    true = true,
    true = true,
    true = true,
    true = true,
    true = true,
    true = true,
    AVal.agg [AVal.int IntKind.i64 (AVal.toInt (List.headD (AVal.cells (Option.getD (afind (AVal.int IntKind.i64 s) ents) (AVal.agg [AVal.int IntKind.i64 0, AVal.int IntKind.i64 0, AVal.int IntKind.i64 0, AVal.fsl true 0 [] (some 0)]))) AVal.any)), AVal.int IntKind.i64 (AVal.toInt (List.headD (List.tail (AVal.cells (Option.getD (afind (AVal.int IntKind.i64 s) ents) (AVal.agg [AVal.int IntKind.i64 0, AVal.int IntKind.i64 0, AVal.int IntKind.i64 0, AVal.fsl true 0 [] (some 0)])))) AVal.any)), AVal.int IntKind.i64 (AVal.toInt (List.headD (List.tail (List.tail (AVal.cells (Option.getD (afind (AVal.int IntKind.i64 s) ents) (AVal.agg [AVal.int IntKind.i64 0, AVal.int IntKind.i64 0, AVal.int IntKind.i64 0, AVal.fsl true 0 [] (some 0)]))))) AVal.any)), AVal.fsl (AVal.toNil (List.headD (List.tail (List.tail (List.tail (AVal.cells (Option.getD (afind (AVal.int IntKind.i64 s) ents) (AVal.agg [AVal.int IntKind.i64 0, AVal.int IntKind.i64 0, AVal.int IntKind.i64 0, AVal.fsl true 0 [] (some 0)])))))) AVal.any)) 2 (AVal.toRows (List.headD (List.tail (List.tail (List.tail (AVal.cells (Option.getD (afind (AVal.int IntKind.i64 s) ents) (AVal.agg [AVal.int IntKind.i64 0, AVal.int IntKind.i64 0, AVal.int IntKind.i64 0, AVal.fsl true 0 [] (some 0)])))))) AVal.any)) none] = AVal.agg [AVal.int IntKind.i64 q0, AVal.int IntKind.i64 e0, AVal.int IntKind.i64 a0, AVal.fsl b0 2 rs0 none],
    okCells Try.prog 63 (Option.getD (afind (AVal.int IntKind.i64 s) ents) (AVal.agg [AVal.int IntKind.i64 0, AVal.int IntKind.i64 0, AVal.int IntKind.i64 0, AVal.fsl true 0 [] (some 0)])) = true,
    (List.all ents fun p => keyKind Try.prog 3 (Prod.fst p)) = true,
    true = true,
    true = true,
    true = true,
    true = true,
    true = true,
    true = true,
    true = true,
    true = true,
    true = true,
    (!mayB s q) = false,
    Owed.use (owed Try.prog) 21 [0, 1] [AVal.ptr 0 1 0 0, AVal.agg [AVal.int IntKind.i64 s, AVal.int IntKind.i64 q]] [AObj.rows false 1 [[AVal.map 1]], AObj.mp true ents, AObj.rows false 2 [[AVal.int IntKind.i64 s, AVal.int IntKind.i64 q]], AObj.rows false 3 [[AVal.int IntKind.i64 0, AVal.int IntKind.i64 0, AVal.fsl true 0 [] (some 0)]]] [AVal.ptr 0 1 0 0, AVal.agg [AVal.int IntKind.i64 s, AVal.int IntKind.i64 q]] [AObj.rows false 1 [[AVal.map 1]], AObj.mp true ents] (AVal.bool (mayB s q)) [AObj.rows false 1 [[AVal.map 1]], AObj.mp true ents],
    true = true]) by kernel_rfl) (allP_of (⟨rfl, rfl, ⟨h1, rfl, rfl, rfl⟩, rfl, h2, rfl, rfl, h3, rfl, rfl, rfl, rfl, rfl, rfl, rfl, h4, h5, h6, rfl, rfl, rfl, rfl, rfl, rfl, rfl, rfl, rfl, h7, ⟨h8, rfl, rfl, rfl⟩, rfl, trivial⟩))).gc [true, true] rfl



theorem len_1 (ents : List (AVal × AVal)) :
    FOk Try.prog 12 ([AVal.ptr 0 1 0 0]) (Tab ents) (AVal.int IntKind.i64 (↑(List.length ents) : Int)) (sweep [true, true] ([AObj.rows false 1 [[AVal.map 1]], AObj.mp true ents])) :=
  (evalF_ok followed Try.func12 (by kernel_rfl) (show evalF Try.prog Try.f12 ([AVal.ptr 0 1 0 0]) (Tab ents) ([Dec.br false]) = .ok (FRes.mk (AVal.int IntKind.i64 (↑(List.length ents) : Int)) ([AObj.rows false 1 [[AVal.map 1]], AObj.mp true ents]) [true = true,
    false = false]) by kernel_rfl) (allP_of (⟨rfl, rfl, trivial⟩))).gc [true, true] rfl



end Go.L11
