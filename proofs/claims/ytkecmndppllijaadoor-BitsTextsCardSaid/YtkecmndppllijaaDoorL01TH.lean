import Derived.Test.YtkecmndppllijaaDoorL01TG
import Derived.Test.YtkecmndppllijaaDoorL01AB
set_option linter.unusedVariables false
set_option linter.unusedSimpArgs false
set_option maxRecDepth 100000
namespace Go.L01
open Go Go.Abs Go.Proofs Go.Lib
theorem rv_rounds (s : ByteArray) (hs : s.size ≤ 140737488355328) : ∀ (d i : Nat), i + d = s.size →
    if validD ((lB s).drop i) = true then LoopRun Tryd.prog 0 (loopNo Tryd.f17 0) (rgRv s i) [] (.exit 0) (rgRv s s.size) [] else LoopRun Tryd.prog 0 (loopNo Tryd.f17 0) (rgRv s i) [] .ret (mkR 17 [(2, .tt false)]) [] := by
  intro d
  induction d using Nat.strongRecOn with
  | _ d ih =>
    intro i hi
    have hlen : ((lB s).drop i).length = d := by rw [List.length_drop, lB_length]; omega
    by_cases hd : d = 0
    · subst hd
      have he : (lB s).drop i = [] := List.eq_nil_of_length_eq_zero hlen
      rw [he, if_pos (show validD [] = true from rfl)]
      refine .done (TripN.wp (rvl_wp s i ?_)) (by simp)
      unfold rvl_T
      refine ⟨fun h => absurd (of_decide_eq_true h) (by omega), fun _ => ⟨rfl, ?_, rfl⟩⟩
      rw [show (i : Int) = (s.size : Int) by omega]; rfl
    · have hne : (lB s).drop i ≠ [] := fun e => by rw [e] at hlen; simp at hlen; omega
      obtain ⟨o1, o2⟩ := oneL_valid _ hne
      have key : ∀ (Q : AExit → Regs → AState → Prop), (oneL ((lB s).drop i) = 0 → Q .ret (mkR 17 [(2, .tt false)]) []) → (oneL ((lB s).drop i) ≠ 0 → Q .normal (rgRv s ((i + oneL ((lB s).drop i) : Nat) : Int)) []) → rvl_T s i Q := by
        intro Q q1 q2
        unfold rvl_T
        rw [Int.toNat_natCast]
        rw [wrapS (n := (i : Int) + ((oneL ((lB s).drop i) : Nat) : Int)) (by omega) (by omega)]
        refine ⟨fun _ => ⟨hs, by omega, by omega, fun h => q1 (by have := eq_of_beq h; omega), fun h => ?_⟩, fun h => absurd (of_decide_eq_false h) (by omega)⟩
        have := q2 (fun e => by rw [e] at h; simp at h)
        rw [Int.natCast_add] at this
        exact this
      rw [o2]
      by_cases h0 : oneL ((lB s).drop i) = 0
      · rw [if_pos h0, if_neg (by simp)]
        exact .done (TripN.wp (rvl_wp s i (key _ (fun _ => ⟨rfl, rfl, rfl⟩) (fun h => absurd h0 h)))) (by simp)
      · rw [if_neg h0]
        have r := ih (d - oneL ((lB s).drop i)) (by omega) (i + oneL ((lB s).drop i)) (by omega)
        rw [← List.drop_drop] at r
        have t := TripN.wp (rvl_wp s i (key _ (fun h => absurd h h0) (fun _ => ⟨rfl, rfl, rfl⟩)))
        split at r
        · rename_i h; rw [if_pos h]; exact .more t r
        · rename_i h; rw [if_neg h]; exact .more t r
theorem rvalid_ok (s : ByteArray) (hs : s.size ≤ 140737488355328) : FOk Tryd.prog 17 [.str s] [] (.bool (V s)) [] := by
  have r := rv_rounds s hs s.size 0 (by omega)
  rw [List.drop_zero] at r
  split at r
  · rename_i h
    rw [show V s = true from h]
    refine FOk.wp (rval_wp s s.size ?_)
    unfold rval_T
    exact ⟨r.trip, rfl, rfl⟩
  · rename_i h
    rw [show V s = false by simpa using h]
    refine FOk.wp (rvalR_wp s ?_)
    unfold rvalR_T
    exact ⟨r.trip, rfl, rfl⟩
theorem rptx_1 (t : ByteArray)
    (h1 : (!V t) = true)
    (h2 : ByteArray.size t ≤ 140737488355328) :
    FOk Tryd.prog 19 ([AVal.str t]) ([]) (AVal.tuple [AVal.str (ByteArray.mk #[]), AVal.int IntKind.i64 11]) ([]) :=
  (evalF_ok followed Tryd.func19 (by kernel_rfl) (show evalF Tryd.prog Tryd.f19 ([AVal.str t]) ([]) ([Dec.use [] [AVal.str t] [] (AVal.bool (V t)) [], Dec.br true]) = .ok (FRes.mk (AVal.tuple [AVal.str (ByteArray.mk #[]), AVal.int IntKind.i64 11]) ([]) (((!V t) = true) :: ((Owed.use (owed Tryd.prog 0) 17 [] [AVal.str t] [] [AVal.str t] [] (AVal.bool (V t)) []) :: []))) by kernel_rfl) (allP_of ⟨h1, ⟨⟨(@Go.L01.rvalid_ok (t) h2), rfl, rfl, rfl⟩, trivial⟩⟩)).move ([]) (by kernel_rfl) (by kernel_rfl) (by kernel_rfl)

theorem rptx_2 (t : ByteArray)
    (h1 : decide (ByteArray.size (bS (vbl (Int.toNat (↑(ByteArray.size t) : Int)))) + ByteArray.size t ≤ 9223372036854775807) = true)
    (h2 : 0 ≤ (↑(ByteArray.size t) : Int))
    (h3 : (↑(ByteArray.size t) : Int) < 9223372036854775808)
    (h4 : (!V t) = false)
    (h5 : ByteArray.size t ≤ 140737488355328) :
    FOk Tryd.prog 19 ([AVal.str t]) ([]) (AVal.tuple [AVal.str (bS (vbl (Int.toNat (↑(ByteArray.size t) : Int))) ++ t), AVal.int IntKind.i64 0]) ([]) :=
  (evalF_ok followed Tryd.func19 (by kernel_rfl) (show evalF Tryd.prog Tryd.f19 ([AVal.str t]) ([]) ([Dec.use [] [AVal.str t] [] (AVal.bool (V t)) [], Dec.br false, Dec.use [] [AVal.int IntKind.i64 (↑(ByteArray.size t) : Int)] [] (AVal.tuple [AVal.str (bS (vbl (Int.toNat (↑(ByteArray.size t) : Int)))), AVal.int IntKind.i64 0]) []]) = .ok (FRes.mk (AVal.tuple [AVal.str (bS (vbl (Int.toNat (↑(ByteArray.size t) : Int))) ++ t), AVal.int IntKind.i64 0]) ([]) ((decide (ByteArray.size (bS (vbl (Int.toNat (↑(ByteArray.size t) : Int)))) + ByteArray.size t ≤ 9223372036854775807) = true) :: ((Owed.use (owed Tryd.prog 0) 13 [] [AVal.int IntKind.i64 (↑(ByteArray.size t) : Int)] [] [AVal.int IntKind.i64 (↑(ByteArray.size t) : Int)] [] (AVal.tuple [AVal.str (bS (vbl (Int.toNat (↑(ByteArray.size t) : Int)))), AVal.int IntKind.i64 0]) []) :: (((!V t) = false) :: ((Owed.use (owed Tryd.prog 0) 17 [] [AVal.str t] [] [AVal.str t] [] (AVal.bool (V t)) []) :: []))))) by kernel_rfl) (allP_of ⟨h1, ⟨⟨(@Go.L01.rputv_ok ((↑(ByteArray.size t) : Int)) h2 h3), rfl, rfl, rfl⟩, ⟨h4, ⟨⟨(@Go.L01.rvalid_ok (t) h5), rfl, rfl, rfl⟩, trivial⟩⟩⟩⟩)).move ([]) (by kernel_rfl) (by kernel_rfl) (by kernel_rfl)

def rptx_T (t : ByteArray) (Q : AVal → AState → Prop) : Prop := (ByteArray.size t ≤ 140737488355328) ∧ (((!V t) = true) → Q (AVal.tuple [AVal.str (ByteArray.mk #[]), AVal.int IntKind.i64 11]) ([])) ∧ (((!V t) = false) → (0 ≤ (↑(ByteArray.size t) : Int)) ∧ ((↑(ByteArray.size t) : Int) < 9223372036854775808) ∧ (decide (ByteArray.size (bS (vbl (Int.toNat (↑(ByteArray.size t) : Int)))) + ByteArray.size t ≤ 9223372036854775807) = true) ∧ Q (AVal.tuple [AVal.str (bS (vbl (Int.toNat (↑(ByteArray.size t) : Int))) ++ t), AVal.int IntKind.i64 0]) ([]))
theorem rptx_wp (t : ByteArray) {Q : AVal → AState → Prop} (h : rptx_T t Q) : ∃ r σ', FOk Tryd.prog 19 ([AVal.str t]) ([]) r σ' ∧ Q r σ' :=
  brE (fun (c0 : (!V t) = true) => ⟨_, _, rptx_1 t (c0) (h.1), (h.2.1 c0)⟩) (fun (c0 : (!V t) = false) => ⟨_, _, rptx_2 t ((h.2.2 c0).2.2.1) ((h.2.2 c0).1) ((h.2.2 c0).2.1) (c0) (h.1), (h.2.2 c0).2.2.2⟩)


theorem texts_1 (t : ByteArray) (z : ByteArray) (s : ByteArray) (u : ByteArray) (e : Int) (k : Int) (g : Int)
    (h1 : (!V t == V t) = true)
    (h2 : ByteArray.size t ≤ 140737488355328) :
    FOk Tryd.prog 7 ([AVal.str t, AVal.str z]) ([]) (AVal.bool false) ([]) :=
  (evalF_ok followed Tryd.func7 (by kernel_rfl) (show evalF Tryd.prog Tryd.f7 ([AVal.str t, AVal.str z]) ([]) ([Dec.use [] [AVal.str t] [] (AVal.bool (V t)) [], Dec.use [] [AVal.str t] [] (AVal.bool (V t)) [], Dec.br true]) = .ok (FRes.mk (AVal.bool false) ([]) (((!V t == V t) = true) :: ((Owed.use (owed Tryd.prog 0) 17 [] [AVal.str t] [] [AVal.str t] [] (AVal.bool (V t)) []) :: ((Owed.use (owed Tryd.prog 0) 9 [] [AVal.str t] [] [AVal.str t] [] (AVal.bool (V t)) []) :: [])))) by kernel_rfl) (allP_of ⟨h1, ⟨⟨(@Go.L01.rvalid_ok (t) h2), rfl, rfl, rfl⟩, ⟨⟨(@Go.L01.vld_ok (t)), rfl, rfl, rfl⟩, trivial⟩⟩⟩)).move ([]) (by kernel_rfl) (by kernel_rfl) (by kernel_rfl)

theorem texts_2 (t : ByteArray) (z : ByteArray) (s : ByteArray) (u : ByteArray) (e : Int) (k : Int) (g : Int)
    (h1 : (!ByteArray.toList s == ByteArray.toList s) = true)
    (h2 : FOk Tryd.prog 19 [AVal.str t] [] (AVal.tuple [AVal.str s, AVal.int IntKind.i64 e]) [])
    (h3 : FOk Tryd.prog 18 [AVal.str t] [] (AVal.tuple [AVal.str s, AVal.int IntKind.i64 e]) [])
    (h4 : (!V t == V t) = false)
    (h5 : ByteArray.size t ≤ 140737488355328) :
    FOk Tryd.prog 7 ([AVal.str t, AVal.str z]) ([]) (AVal.bool false) ([]) :=
  (evalF_ok followed Tryd.func7 (by kernel_rfl) (show evalF Tryd.prog Tryd.f7 ([AVal.str t, AVal.str z]) ([]) ([Dec.use [] [AVal.str t] [] (AVal.bool (V t)) [], Dec.use [] [AVal.str t] [] (AVal.bool (V t)) [], Dec.br false, Dec.use [] [AVal.str t] [] (AVal.tuple [AVal.str s, AVal.int IntKind.i64 e]) [], Dec.use [] [AVal.str t] [] (AVal.tuple [AVal.str s, AVal.int IntKind.i64 e]) [], Dec.br true]) = .ok (FRes.mk (AVal.bool false) ([]) (((!ByteArray.toList s == ByteArray.toList s) = true) :: ((Owed.use (owed Tryd.prog 0) 19 [] [AVal.str t] [] [AVal.str t] [] (AVal.tuple [AVal.str s, AVal.int IntKind.i64 e]) []) :: ((Owed.use (owed Tryd.prog 0) 18 [] [AVal.str t] [] [AVal.str t] [] (AVal.tuple [AVal.str s, AVal.int IntKind.i64 e]) []) :: (((!V t == V t) = false) :: ((Owed.use (owed Tryd.prog 0) 17 [] [AVal.str t] [] [AVal.str t] [] (AVal.bool (V t)) []) :: ((Owed.use (owed Tryd.prog 0) 9 [] [AVal.str t] [] [AVal.str t] [] (AVal.bool (V t)) []) :: []))))))) by kernel_rfl) (allP_of ⟨h1, ⟨⟨h2, rfl, rfl, rfl⟩, ⟨⟨h3, rfl, rfl, rfl⟩, ⟨h4, ⟨⟨(@Go.L01.rvalid_ok (t) h5), rfl, rfl, rfl⟩, ⟨⟨(@Go.L01.vld_ok (t)), rfl, rfl, rfl⟩, trivial⟩⟩⟩⟩⟩⟩)).move ([]) (by kernel_rfl) (by kernel_rfl) (by kernel_rfl)

theorem texts_3 (t : ByteArray) (z : ByteArray) (s : ByteArray) (u : ByteArray) (e : Int) (k : Int) (g : Int)
    (h1 : (e != e) = true)
    (h2 : (!ByteArray.toList s == ByteArray.toList s) = false)
    (h3 : FOk Tryd.prog 19 [AVal.str t] [] (AVal.tuple [AVal.str s, AVal.int IntKind.i64 e]) [])
    (h4 : FOk Tryd.prog 18 [AVal.str t] [] (AVal.tuple [AVal.str s, AVal.int IntKind.i64 e]) [])
    (h5 : (!V t == V t) = false)
    (h6 : ByteArray.size t ≤ 140737488355328) :
    FOk Tryd.prog 7 ([AVal.str t, AVal.str z]) ([]) (AVal.bool false) ([]) :=
  (evalF_ok followed Tryd.func7 (by kernel_rfl) (show evalF Tryd.prog Tryd.f7 ([AVal.str t, AVal.str z]) ([]) ([Dec.use [] [AVal.str t] [] (AVal.bool (V t)) [], Dec.use [] [AVal.str t] [] (AVal.bool (V t)) [], Dec.br false, Dec.use [] [AVal.str t] [] (AVal.tuple [AVal.str s, AVal.int IntKind.i64 e]) [], Dec.use [] [AVal.str t] [] (AVal.tuple [AVal.str s, AVal.int IntKind.i64 e]) [], Dec.br false, Dec.br true]) = .ok (FRes.mk (AVal.bool false) ([]) (((e != e) = true) :: (((!ByteArray.toList s == ByteArray.toList s) = false) :: ((Owed.use (owed Tryd.prog 0) 19 [] [AVal.str t] [] [AVal.str t] [] (AVal.tuple [AVal.str s, AVal.int IntKind.i64 e]) []) :: ((Owed.use (owed Tryd.prog 0) 18 [] [AVal.str t] [] [AVal.str t] [] (AVal.tuple [AVal.str s, AVal.int IntKind.i64 e]) []) :: (((!V t == V t) = false) :: ((Owed.use (owed Tryd.prog 0) 17 [] [AVal.str t] [] [AVal.str t] [] (AVal.bool (V t)) []) :: ((Owed.use (owed Tryd.prog 0) 9 [] [AVal.str t] [] [AVal.str t] [] (AVal.bool (V t)) []) :: [])))))))) by kernel_rfl) (allP_of ⟨h1, ⟨h2, ⟨⟨h3, rfl, rfl, rfl⟩, ⟨⟨h4, rfl, rfl, rfl⟩, ⟨h5, ⟨⟨(@Go.L01.rvalid_ok (t) h6), rfl, rfl, rfl⟩, ⟨⟨(@Go.L01.vld_ok (t)), rfl, rfl, rfl⟩, trivial⟩⟩⟩⟩⟩⟩⟩)).move ([]) (by kernel_rfl) (by kernel_rfl) (by kernel_rfl)

theorem texts_4 (t : ByteArray) (z : ByteArray) (s : ByteArray) (u : ByteArray) (e : Int) (k : Int) (g : Int)
    (h1 : FOk Tryd.prog 10 [] [] (AVal.bool true) [])
    (h2 : (e != 0) = true)
    (h3 : (e != e) = false)
    (h4 : (!ByteArray.toList s == ByteArray.toList s) = false)
    (h5 : FOk Tryd.prog 19 [AVal.str t] [] (AVal.tuple [AVal.str s, AVal.int IntKind.i64 e]) [])
    (h6 : FOk Tryd.prog 18 [AVal.str t] [] (AVal.tuple [AVal.str s, AVal.int IntKind.i64 e]) [])
    (h7 : (!V t == V t) = false)
    (h8 : ByteArray.size t ≤ 140737488355328) :
    FOk Tryd.prog 7 ([AVal.str t, AVal.str z]) ([]) (AVal.bool true) ([]) :=
  (evalF_ok followed Tryd.func7 (by kernel_rfl) (show evalF Tryd.prog Tryd.f7 ([AVal.str t, AVal.str z]) ([]) ([Dec.use [] [AVal.str t] [] (AVal.bool (V t)) [], Dec.use [] [AVal.str t] [] (AVal.bool (V t)) [], Dec.br false, Dec.use [] [AVal.str t] [] (AVal.tuple [AVal.str s, AVal.int IntKind.i64 e]) [], Dec.use [] [AVal.str t] [] (AVal.tuple [AVal.str s, AVal.int IntKind.i64 e]) [], Dec.br false, Dec.br false, Dec.br true, Dec.use [] [] [] (AVal.bool true) []]) = .ok (FRes.mk (AVal.bool true) ([]) ((Owed.use (owed Tryd.prog 0) 10 [] [] [] [] [] (AVal.bool true) []) :: (((e != 0) = true) :: (((e != e) = false) :: (((!ByteArray.toList s == ByteArray.toList s) = false) :: ((Owed.use (owed Tryd.prog 0) 19 [] [AVal.str t] [] [AVal.str t] [] (AVal.tuple [AVal.str s, AVal.int IntKind.i64 e]) []) :: ((Owed.use (owed Tryd.prog 0) 18 [] [AVal.str t] [] [AVal.str t] [] (AVal.tuple [AVal.str s, AVal.int IntKind.i64 e]) []) :: (((!V t == V t) = false) :: ((Owed.use (owed Tryd.prog 0) 17 [] [AVal.str t] [] [AVal.str t] [] (AVal.bool (V t)) []) :: ((Owed.use (owed Tryd.prog 0) 9 [] [AVal.str t] [] [AVal.str t] [] (AVal.bool (V t)) []) :: [])))))))))) by kernel_rfl) (allP_of ⟨⟨h1, rfl, rfl, rfl⟩, ⟨h2, ⟨h3, ⟨h4, ⟨⟨h5, rfl, rfl, rfl⟩, ⟨⟨h6, rfl, rfl, rfl⟩, ⟨h7, ⟨⟨(@Go.L01.rvalid_ok (t) h8), rfl, rfl, rfl⟩, ⟨⟨(@Go.L01.vld_ok (t)), rfl, rfl, rfl⟩, trivial⟩⟩⟩⟩⟩⟩⟩⟩⟩)).move ([]) (by kernel_rfl) (by kernel_rfl) (by kernel_rfl)

theorem texts_5 (t : ByteArray) (z : ByteArray) (s : ByteArray) (u : ByteArray) (e : Int) (k : Int) (g : Int)
    (h1 : FOk Tryd.prog 10 [] [] (AVal.bool true) [])
    (h2 : (g == 0) = true)
    (h3 : (k == (↑(ByteArray.size s) : Int)) = true)
    (h4 : (ByteArray.toList u == ByteArray.toList t) = true)
    (h5 : FOk Tryd.prog 20 [AVal.str (s ++ z), AVal.int IntKind.i64 (↑(ByteArray.size t) : Int)] [] (AVal.tuple [AVal.str u, AVal.int IntKind.i64 k, AVal.int IntKind.i64 g]) [])
    (h6 : decide (ByteArray.size s + ByteArray.size z ≤ 9223372036854775807) = true)
    (h7 : (e != 0) = false)
    (h8 : (e != e) = false)
    (h9 : (!ByteArray.toList s == ByteArray.toList s) = false)
    (h10 : FOk Tryd.prog 19 [AVal.str t] [] (AVal.tuple [AVal.str s, AVal.int IntKind.i64 e]) [])
    (h11 : FOk Tryd.prog 18 [AVal.str t] [] (AVal.tuple [AVal.str s, AVal.int IntKind.i64 e]) [])
    (h12 : (!V t == V t) = false)
    (h13 : ByteArray.size t ≤ 140737488355328) :
    FOk Tryd.prog 7 ([AVal.str t, AVal.str z]) ([]) (AVal.bool true) ([]) :=
  (evalF_ok followed Tryd.func7 (by kernel_rfl) (show evalF Tryd.prog Tryd.f7 ([AVal.str t, AVal.str z]) ([]) ([Dec.use [] [AVal.str t] [] (AVal.bool (V t)) [], Dec.use [] [AVal.str t] [] (AVal.bool (V t)) [], Dec.br false, Dec.use [] [AVal.str t] [] (AVal.tuple [AVal.str s, AVal.int IntKind.i64 e]) [], Dec.use [] [AVal.str t] [] (AVal.tuple [AVal.str s, AVal.int IntKind.i64 e]) [], Dec.br false, Dec.br false, Dec.br false, Dec.use [] [AVal.str (s ++ z), AVal.int IntKind.i64 (↑(ByteArray.size t) : Int)] [] (AVal.tuple [AVal.str u, AVal.int IntKind.i64 k, AVal.int IntKind.i64 g]) [], Dec.br true, Dec.br true, Dec.br true, Dec.use [] [] [] (AVal.bool true) []]) = .ok (FRes.mk (AVal.bool true) ([]) ((Owed.use (owed Tryd.prog 0) 10 [] [] [] [] [] (AVal.bool true) []) :: (((g == 0) = true) :: (((k == (↑(ByteArray.size s) : Int)) = true) :: (((ByteArray.toList u == ByteArray.toList t) = true) :: ((Owed.use (owed Tryd.prog 0) 20 [] [AVal.str (s ++ z), AVal.int IntKind.i64 (↑(ByteArray.size t) : Int)] [] [AVal.str (s ++ z), AVal.int IntKind.i64 (↑(ByteArray.size t) : Int)] [] (AVal.tuple [AVal.str u, AVal.int IntKind.i64 k, AVal.int IntKind.i64 g]) []) :: ((decide (ByteArray.size s + ByteArray.size z ≤ 9223372036854775807) = true) :: (((e != 0) = false) :: (((e != e) = false) :: (((!ByteArray.toList s == ByteArray.toList s) = false) :: ((Owed.use (owed Tryd.prog 0) 19 [] [AVal.str t] [] [AVal.str t] [] (AVal.tuple [AVal.str s, AVal.int IntKind.i64 e]) []) :: ((Owed.use (owed Tryd.prog 0) 18 [] [AVal.str t] [] [AVal.str t] [] (AVal.tuple [AVal.str s, AVal.int IntKind.i64 e]) []) :: (((!V t == V t) = false) :: ((Owed.use (owed Tryd.prog 0) 17 [] [AVal.str t] [] [AVal.str t] [] (AVal.bool (V t)) []) :: ((Owed.use (owed Tryd.prog 0) 9 [] [AVal.str t] [] [AVal.str t] [] (AVal.bool (V t)) []) :: []))))))))))))))) by kernel_rfl) (allP_of ⟨⟨h1, rfl, rfl, rfl⟩, ⟨h2, ⟨h3, ⟨h4, ⟨⟨h5, rfl, rfl, rfl⟩, ⟨h6, ⟨h7, ⟨h8, ⟨h9, ⟨⟨h10, rfl, rfl, rfl⟩, ⟨⟨h11, rfl, rfl, rfl⟩, ⟨h12, ⟨⟨(@Go.L01.rvalid_ok (t) h13), rfl, rfl, rfl⟩, ⟨⟨(@Go.L01.vld_ok (t)), rfl, rfl, rfl⟩, trivial⟩⟩⟩⟩⟩⟩⟩⟩⟩⟩⟩⟩⟩⟩)).move ([]) (by kernel_rfl) (by kernel_rfl) (by kernel_rfl)

theorem texts_6 (t : ByteArray) (z : ByteArray) (s : ByteArray) (u : ByteArray) (e : Int) (k : Int) (g : Int)
    (h1 : (g == 0) = false)
    (h2 : (k == (↑(ByteArray.size s) : Int)) = true)
    (h3 : (ByteArray.toList u == ByteArray.toList t) = true)
    (h4 : FOk Tryd.prog 20 [AVal.str (s ++ z), AVal.int IntKind.i64 (↑(ByteArray.size t) : Int)] [] (AVal.tuple [AVal.str u, AVal.int IntKind.i64 k, AVal.int IntKind.i64 g]) [])
    (h5 : decide (ByteArray.size s + ByteArray.size z ≤ 9223372036854775807) = true)
    (h6 : (e != 0) = false)
    (h7 : (e != e) = false)
    (h8 : (!ByteArray.toList s == ByteArray.toList s) = false)
    (h9 : FOk Tryd.prog 19 [AVal.str t] [] (AVal.tuple [AVal.str s, AVal.int IntKind.i64 e]) [])
    (h10 : FOk Tryd.prog 18 [AVal.str t] [] (AVal.tuple [AVal.str s, AVal.int IntKind.i64 e]) [])
    (h11 : (!V t == V t) = false)
    (h12 : ByteArray.size t ≤ 140737488355328) :
    FOk Tryd.prog 7 ([AVal.str t, AVal.str z]) ([]) (AVal.bool false) ([]) :=
  (evalF_ok followed Tryd.func7 (by kernel_rfl) (show evalF Tryd.prog Tryd.f7 ([AVal.str t, AVal.str z]) ([]) ([Dec.use [] [AVal.str t] [] (AVal.bool (V t)) [], Dec.use [] [AVal.str t] [] (AVal.bool (V t)) [], Dec.br false, Dec.use [] [AVal.str t] [] (AVal.tuple [AVal.str s, AVal.int IntKind.i64 e]) [], Dec.use [] [AVal.str t] [] (AVal.tuple [AVal.str s, AVal.int IntKind.i64 e]) [], Dec.br false, Dec.br false, Dec.br false, Dec.use [] [AVal.str (s ++ z), AVal.int IntKind.i64 (↑(ByteArray.size t) : Int)] [] (AVal.tuple [AVal.str u, AVal.int IntKind.i64 k, AVal.int IntKind.i64 g]) [], Dec.br true, Dec.br true, Dec.br false]) = .ok (FRes.mk (AVal.bool false) ([]) (((g == 0) = false) :: (((k == (↑(ByteArray.size s) : Int)) = true) :: (((ByteArray.toList u == ByteArray.toList t) = true) :: ((Owed.use (owed Tryd.prog 0) 20 [] [AVal.str (s ++ z), AVal.int IntKind.i64 (↑(ByteArray.size t) : Int)] [] [AVal.str (s ++ z), AVal.int IntKind.i64 (↑(ByteArray.size t) : Int)] [] (AVal.tuple [AVal.str u, AVal.int IntKind.i64 k, AVal.int IntKind.i64 g]) []) :: ((decide (ByteArray.size s + ByteArray.size z ≤ 9223372036854775807) = true) :: (((e != 0) = false) :: (((e != e) = false) :: (((!ByteArray.toList s == ByteArray.toList s) = false) :: ((Owed.use (owed Tryd.prog 0) 19 [] [AVal.str t] [] [AVal.str t] [] (AVal.tuple [AVal.str s, AVal.int IntKind.i64 e]) []) :: ((Owed.use (owed Tryd.prog 0) 18 [] [AVal.str t] [] [AVal.str t] [] (AVal.tuple [AVal.str s, AVal.int IntKind.i64 e]) []) :: (((!V t == V t) = false) :: ((Owed.use (owed Tryd.prog 0) 17 [] [AVal.str t] [] [AVal.str t] [] (AVal.bool (V t)) []) :: ((Owed.use (owed Tryd.prog 0) 9 [] [AVal.str t] [] [AVal.str t] [] (AVal.bool (V t)) []) :: [])))))))))))))) by kernel_rfl) (allP_of ⟨h1, ⟨h2, ⟨h3, ⟨⟨h4, rfl, rfl, rfl⟩, ⟨h5, ⟨h6, ⟨h7, ⟨h8, ⟨⟨h9, rfl, rfl, rfl⟩, ⟨⟨h10, rfl, rfl, rfl⟩, ⟨h11, ⟨⟨(@Go.L01.rvalid_ok (t) h12), rfl, rfl, rfl⟩, ⟨⟨(@Go.L01.vld_ok (t)), rfl, rfl, rfl⟩, trivial⟩⟩⟩⟩⟩⟩⟩⟩⟩⟩⟩⟩⟩)).move ([]) (by kernel_rfl) (by kernel_rfl) (by kernel_rfl)

theorem texts_7 (t : ByteArray) (z : ByteArray) (s : ByteArray) (u : ByteArray) (e : Int) (k : Int) (g : Int)
    (h1 : (k == (↑(ByteArray.size s) : Int)) = false)
    (h2 : (ByteArray.toList u == ByteArray.toList t) = true)
    (h3 : FOk Tryd.prog 20 [AVal.str (s ++ z), AVal.int IntKind.i64 (↑(ByteArray.size t) : Int)] [] (AVal.tuple [AVal.str u, AVal.int IntKind.i64 k, AVal.int IntKind.i64 g]) [])
    (h4 : decide (ByteArray.size s + ByteArray.size z ≤ 9223372036854775807) = true)
    (h5 : (e != 0) = false)
    (h6 : (e != e) = false)
    (h7 : (!ByteArray.toList s == ByteArray.toList s) = false)
    (h8 : FOk Tryd.prog 19 [AVal.str t] [] (AVal.tuple [AVal.str s, AVal.int IntKind.i64 e]) [])
    (h9 : FOk Tryd.prog 18 [AVal.str t] [] (AVal.tuple [AVal.str s, AVal.int IntKind.i64 e]) [])
    (h10 : (!V t == V t) = false)
    (h11 : ByteArray.size t ≤ 140737488355328) :
    FOk Tryd.prog 7 ([AVal.str t, AVal.str z]) ([]) (AVal.bool false) ([]) :=
  (evalF_ok followed Tryd.func7 (by kernel_rfl) (show evalF Tryd.prog Tryd.f7 ([AVal.str t, AVal.str z]) ([]) ([Dec.use [] [AVal.str t] [] (AVal.bool (V t)) [], Dec.use [] [AVal.str t] [] (AVal.bool (V t)) [], Dec.br false, Dec.use [] [AVal.str t] [] (AVal.tuple [AVal.str s, AVal.int IntKind.i64 e]) [], Dec.use [] [AVal.str t] [] (AVal.tuple [AVal.str s, AVal.int IntKind.i64 e]) [], Dec.br false, Dec.br false, Dec.br false, Dec.use [] [AVal.str (s ++ z), AVal.int IntKind.i64 (↑(ByteArray.size t) : Int)] [] (AVal.tuple [AVal.str u, AVal.int IntKind.i64 k, AVal.int IntKind.i64 g]) [], Dec.br true, Dec.br false]) = .ok (FRes.mk (AVal.bool false) ([]) (((k == (↑(ByteArray.size s) : Int)) = false) :: (((ByteArray.toList u == ByteArray.toList t) = true) :: ((Owed.use (owed Tryd.prog 0) 20 [] [AVal.str (s ++ z), AVal.int IntKind.i64 (↑(ByteArray.size t) : Int)] [] [AVal.str (s ++ z), AVal.int IntKind.i64 (↑(ByteArray.size t) : Int)] [] (AVal.tuple [AVal.str u, AVal.int IntKind.i64 k, AVal.int IntKind.i64 g]) []) :: ((decide (ByteArray.size s + ByteArray.size z ≤ 9223372036854775807) = true) :: (((e != 0) = false) :: (((e != e) = false) :: (((!ByteArray.toList s == ByteArray.toList s) = false) :: ((Owed.use (owed Tryd.prog 0) 19 [] [AVal.str t] [] [AVal.str t] [] (AVal.tuple [AVal.str s, AVal.int IntKind.i64 e]) []) :: ((Owed.use (owed Tryd.prog 0) 18 [] [AVal.str t] [] [AVal.str t] [] (AVal.tuple [AVal.str s, AVal.int IntKind.i64 e]) []) :: (((!V t == V t) = false) :: ((Owed.use (owed Tryd.prog 0) 17 [] [AVal.str t] [] [AVal.str t] [] (AVal.bool (V t)) []) :: ((Owed.use (owed Tryd.prog 0) 9 [] [AVal.str t] [] [AVal.str t] [] (AVal.bool (V t)) []) :: []))))))))))))) by kernel_rfl) (allP_of ⟨h1, ⟨h2, ⟨⟨h3, rfl, rfl, rfl⟩, ⟨h4, ⟨h5, ⟨h6, ⟨h7, ⟨⟨h8, rfl, rfl, rfl⟩, ⟨⟨h9, rfl, rfl, rfl⟩, ⟨h10, ⟨⟨(@Go.L01.rvalid_ok (t) h11), rfl, rfl, rfl⟩, ⟨⟨(@Go.L01.vld_ok (t)), rfl, rfl, rfl⟩, trivial⟩⟩⟩⟩⟩⟩⟩⟩⟩⟩⟩⟩)).move ([]) (by kernel_rfl) (by kernel_rfl) (by kernel_rfl)

theorem texts_8 (t : ByteArray) (z : ByteArray) (s : ByteArray) (u : ByteArray) (e : Int) (k : Int) (g : Int)
    (h1 : (ByteArray.toList u == ByteArray.toList t) = false)
    (h2 : FOk Tryd.prog 20 [AVal.str (s ++ z), AVal.int IntKind.i64 (↑(ByteArray.size t) : Int)] [] (AVal.tuple [AVal.str u, AVal.int IntKind.i64 k, AVal.int IntKind.i64 g]) [])
    (h3 : decide (ByteArray.size s + ByteArray.size z ≤ 9223372036854775807) = true)
    (h4 : (e != 0) = false)
    (h5 : (e != e) = false)
    (h6 : (!ByteArray.toList s == ByteArray.toList s) = false)
    (h7 : FOk Tryd.prog 19 [AVal.str t] [] (AVal.tuple [AVal.str s, AVal.int IntKind.i64 e]) [])
    (h8 : FOk Tryd.prog 18 [AVal.str t] [] (AVal.tuple [AVal.str s, AVal.int IntKind.i64 e]) [])
    (h9 : (!V t == V t) = false)
    (h10 : ByteArray.size t ≤ 140737488355328) :
    FOk Tryd.prog 7 ([AVal.str t, AVal.str z]) ([]) (AVal.bool false) ([]) :=
  (evalF_ok followed Tryd.func7 (by kernel_rfl) (show evalF Tryd.prog Tryd.f7 ([AVal.str t, AVal.str z]) ([]) ([Dec.use [] [AVal.str t] [] (AVal.bool (V t)) [], Dec.use [] [AVal.str t] [] (AVal.bool (V t)) [], Dec.br false, Dec.use [] [AVal.str t] [] (AVal.tuple [AVal.str s, AVal.int IntKind.i64 e]) [], Dec.use [] [AVal.str t] [] (AVal.tuple [AVal.str s, AVal.int IntKind.i64 e]) [], Dec.br false, Dec.br false, Dec.br false, Dec.use [] [AVal.str (s ++ z), AVal.int IntKind.i64 (↑(ByteArray.size t) : Int)] [] (AVal.tuple [AVal.str u, AVal.int IntKind.i64 k, AVal.int IntKind.i64 g]) [], Dec.br false]) = .ok (FRes.mk (AVal.bool false) ([]) (((ByteArray.toList u == ByteArray.toList t) = false) :: ((Owed.use (owed Tryd.prog 0) 20 [] [AVal.str (s ++ z), AVal.int IntKind.i64 (↑(ByteArray.size t) : Int)] [] [AVal.str (s ++ z), AVal.int IntKind.i64 (↑(ByteArray.size t) : Int)] [] (AVal.tuple [AVal.str u, AVal.int IntKind.i64 k, AVal.int IntKind.i64 g]) []) :: ((decide (ByteArray.size s + ByteArray.size z ≤ 9223372036854775807) = true) :: (((e != 0) = false) :: (((e != e) = false) :: (((!ByteArray.toList s == ByteArray.toList s) = false) :: ((Owed.use (owed Tryd.prog 0) 19 [] [AVal.str t] [] [AVal.str t] [] (AVal.tuple [AVal.str s, AVal.int IntKind.i64 e]) []) :: ((Owed.use (owed Tryd.prog 0) 18 [] [AVal.str t] [] [AVal.str t] [] (AVal.tuple [AVal.str s, AVal.int IntKind.i64 e]) []) :: (((!V t == V t) = false) :: ((Owed.use (owed Tryd.prog 0) 17 [] [AVal.str t] [] [AVal.str t] [] (AVal.bool (V t)) []) :: ((Owed.use (owed Tryd.prog 0) 9 [] [AVal.str t] [] [AVal.str t] [] (AVal.bool (V t)) []) :: [])))))))))))) by kernel_rfl) (allP_of ⟨h1, ⟨⟨h2, rfl, rfl, rfl⟩, ⟨h3, ⟨h4, ⟨h5, ⟨h6, ⟨⟨h7, rfl, rfl, rfl⟩, ⟨⟨h8, rfl, rfl, rfl⟩, ⟨h9, ⟨⟨(@Go.L01.rvalid_ok (t) h10), rfl, rfl, rfl⟩, ⟨⟨(@Go.L01.vld_ok (t)), rfl, rfl, rfl⟩, trivial⟩⟩⟩⟩⟩⟩⟩⟩⟩⟩⟩)).move ([]) (by kernel_rfl) (by kernel_rfl) (by kernel_rfl)

def texts_T (t : ByteArray) (z : ByteArray) (s : ByteArray) (u : ByteArray) (e : Int) (k : Int) (g : Int) (Q : AVal → AState → Prop) : Prop := (ByteArray.size t ≤ 140737488355328) ∧ (((!V t == V t) = true) → Q (AVal.bool false) ([])) ∧ (((!V t == V t) = false) → (FOk Tryd.prog 18 [AVal.str t] [] (AVal.tuple [AVal.str s, AVal.int IntKind.i64 e]) []) ∧ (FOk Tryd.prog 19 [AVal.str t] [] (AVal.tuple [AVal.str s, AVal.int IntKind.i64 e]) []) ∧ (((!ByteArray.toList s == ByteArray.toList s) = true) → Q (AVal.bool false) ([])) ∧ (((!ByteArray.toList s == ByteArray.toList s) = false) → (((e != e) = true) → Q (AVal.bool false) ([])) ∧ (((e != e) = false) → (((e != 0) = true) → (FOk Tryd.prog 10 [] [] (AVal.bool true) []) ∧ Q (AVal.bool true) ([])) ∧ (((e != 0) = false) → (decide (ByteArray.size s + ByteArray.size z ≤ 9223372036854775807) = true) ∧ (FOk Tryd.prog 20 [AVal.str (s ++ z), AVal.int IntKind.i64 (↑(ByteArray.size t) : Int)] [] (AVal.tuple [AVal.str u, AVal.int IntKind.i64 k, AVal.int IntKind.i64 g]) []) ∧ (((ByteArray.toList u == ByteArray.toList t) = true) → (((k == (↑(ByteArray.size s) : Int)) = true) → (((g == 0) = true) → (FOk Tryd.prog 10 [] [] (AVal.bool true) []) ∧ Q (AVal.bool true) ([])) ∧ (((g == 0) = false) → Q (AVal.bool false) ([]))) ∧ (((k == (↑(ByteArray.size s) : Int)) = false) → Q (AVal.bool false) ([]))) ∧ (((ByteArray.toList u == ByteArray.toList t) = false) → Q (AVal.bool false) ([]))))))
theorem texts_wp (t : ByteArray) (z : ByteArray) (s : ByteArray) (u : ByteArray) (e : Int) (k : Int) (g : Int) {Q : AVal → AState → Prop} (h : texts_T t z s u e k g Q) : ∃ r σ', FOk Tryd.prog 7 ([AVal.str t, AVal.str z]) ([]) r σ' ∧ Q r σ' :=
  brE (fun (c0 : (!V t == V t) = true) => ⟨_, _, texts_1 t z s u e k g (c0) (h.1), (h.2.1 c0)⟩) (fun (c0 : (!V t == V t) = false) => brE (fun (c1 : (!ByteArray.toList s == ByteArray.toList s) = true) => ⟨_, _, texts_2 t z s u e k g (c1) ((h.2.2 c0).2.1) ((h.2.2 c0).1) (c0) (h.1), ((h.2.2 c0).2.2.1 c1)⟩) (fun (c1 : (!ByteArray.toList s == ByteArray.toList s) = false) => brE (fun (c2 : (e != e) = true) => ⟨_, _, texts_3 t z s u e k g (c2) (c1) ((h.2.2 c0).2.1) ((h.2.2 c0).1) (c0) (h.1), (((h.2.2 c0).2.2.2 c1).1 c2)⟩) (fun (c2 : (e != e) = false) => brE (fun (c3 : (e != 0) = true) => ⟨_, _, texts_4 t z s u e k g (((((h.2.2 c0).2.2.2 c1).2 c2).1 c3).1) (c3) (c2) (c1) ((h.2.2 c0).2.1) ((h.2.2 c0).1) (c0) (h.1), ((((h.2.2 c0).2.2.2 c1).2 c2).1 c3).2⟩) (fun (c3 : (e != 0) = false) => brE (fun (c4 : (ByteArray.toList u == ByteArray.toList t) = true) => brE (fun (c5 : (k == (↑(ByteArray.size s) : Int)) = true) => brE (fun (c6 : (g == 0) = true) => ⟨_, _, texts_5 t z s u e k g ((((((((h.2.2 c0).2.2.2 c1).2 c2).2 c3).2.2.1 c4).1 c5).1 c6).1) (c6) (c5) (c4) (((((h.2.2 c0).2.2.2 c1).2 c2).2 c3).2.1) (((((h.2.2 c0).2.2.2 c1).2 c2).2 c3).1) (c3) (c2) (c1) ((h.2.2 c0).2.1) ((h.2.2 c0).1) (c0) (h.1), (((((((h.2.2 c0).2.2.2 c1).2 c2).2 c3).2.2.1 c4).1 c5).1 c6).2⟩) (fun (c6 : (g == 0) = false) => ⟨_, _, texts_6 t z s u e k g (c6) (c5) (c4) (((((h.2.2 c0).2.2.2 c1).2 c2).2 c3).2.1) (((((h.2.2 c0).2.2.2 c1).2 c2).2 c3).1) (c3) (c2) (c1) ((h.2.2 c0).2.1) ((h.2.2 c0).1) (c0) (h.1), (((((((h.2.2 c0).2.2.2 c1).2 c2).2 c3).2.2.1 c4).1 c5).2 c6)⟩)) (fun (c5 : (k == (↑(ByteArray.size s) : Int)) = false) => ⟨_, _, texts_7 t z s u e k g (c5) (c4) (((((h.2.2 c0).2.2.2 c1).2 c2).2 c3).2.1) (((((h.2.2 c0).2.2.2 c1).2 c2).2 c3).1) (c3) (c2) (c1) ((h.2.2 c0).2.1) ((h.2.2 c0).1) (c0) (h.1), ((((((h.2.2 c0).2.2.2 c1).2 c2).2 c3).2.2.1 c4).2 c5)⟩)) (fun (c4 : (ByteArray.toList u == ByteArray.toList t) = false) => ⟨_, _, texts_8 t z s u e k g (c4) (((((h.2.2 c0).2.2.2 c1).2 c2).2 c3).2.1) (((((h.2.2 c0).2.2.2 c1).2 c2).2 c3).1) (c3) (c2) (c1) ((h.2.2 c0).2.1) ((h.2.2 c0).1) (c0) (h.1), (((((h.2.2 c0).2.2.2 c1).2 c2).2 c3).2.2.2 c4)⟩)))))


end Go.L01
