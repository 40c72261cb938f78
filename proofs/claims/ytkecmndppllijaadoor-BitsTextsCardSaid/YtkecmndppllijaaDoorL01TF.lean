import Derived.Test.YtkecmndppllijaaDoorL01TC
import Derived.Test.YtkecmndppllijaaDoorL01TE
set_option linter.unusedVariables false
set_option linter.unusedSimpArgs false
set_option maxRecDepth 100000
namespace Go.L01
open Go Go.Abs Go.Proofs Go.Lib
theorem tmodN (x k : Nat) : Int.tmod (x : Int) (k : Int) = ((x % k : Nat) : Int) := by
  rw [Int.tmod_eq_emod_of_nonneg (by omega)]; omega
set_option maxHeartbeats 4000000 in
theorem one_ok (s : ByteArray) (a : Nat) (hs : s.size ≤ 140737488355328) (ha : a < s.size) : FOk Tryd.prog 22 [.str s, .int .i64 (a : Int)] [] (.int .i64 (oneL ((lB s).drop a) : Int)) [] := by
  refine FOk.wp (one_wp s a ?_)
  have b0 : byteAt s (a : Int) = ((((lB s).drop a).getD 0 0).toNat : Int) := by rw [byteN]; simp [List.getD_eq_getElem?_getD]
  have b1 : byteAt s ((a : Int) + 1) = ((((lB s).drop a).getD 1 0).toNat : Int) := by rw [show (a : Int) + 1 = ((a + 1 : Nat) : Int) by omega, byteN]; simp [List.getD_eq_getElem?_getD]
  have b2 : byteAt s ((a : Int) + 2) = ((((lB s).drop a).getD 2 0).toNat : Int) := by rw [show (a : Int) + 2 = ((a + 2 : Nat) : Int) by omega, byteN]; simp [List.getD_eq_getElem?_getD]
  have b3 : byteAt s ((a : Int) + 3) = ((((lB s).drop a).getD 3 0).toNat : Int) := by rw [show (a : Int) + 3 = ((a + 3 : Nat) : Int) by omega, byteN]; simp [List.getD_eq_getElem?_getD]
  have w1 : IntKind.wrap .i64 ((a : Int) + 1) = (a : Int) + 1 := wrapS (by omega) (by omega)
  have w2 : IntKind.wrap .i64 ((a : Int) + 2) = (a : Int) + 2 := wrapS (by omega) (by omega)
  have w3 : IntKind.wrap .i64 ((a : Int) + 3) = (a : Int) + 3 := wrapS (by omega) (by omega)
  have hdr : List.drop (Int.toNat ((a : Int) + 1)) (lB s) = ((lB s).drop a).drop 1 := by rw [List.drop_drop, show ((a : Int) + 1).toNat = a + 1 by omega]
  have hln : ((lB s).drop a).length = s.size - a := by rw [List.length_drop, lB_length]
  obtain ⟨m1, m2, m3⟩ := moreL_at ((lB s).drop a)
  rw [hln] at m1 m2 m3
  obtain ⟨R, hone⟩ : ∃ R, R = oneL ((lB s).drop a) := ⟨_, rfl⟩
  rw [← hone]
  unfold oneL at hone
  rw [m1, m2, m3] at hone
  unfold one_T
  rw [w1, w2, w3, hdr, b0, b1, b2, b3, m1, m2, m3]
  have t0 := (((lB s).drop a).getD 0 0).toNat_lt
  have t1 := (((lB s).drop a).getD 1 0).toNat_lt
  have t2 := (((lB s).drop a).getD 2 0).toNat_lt
  have t3 := (((lB s).drop a).getD 3 0).toNat_lt
  clear hdr hln m1 m2 m3 b0 b1 b2 b3
  generalize (((lB s).drop a).getD 0 0).toNat = x0 at *
  generalize (((lB s).drop a).getD 1 0).toNat = x1 at *
  generalize (((lB s).drop a).getD 2 0).toNat = x2 at *
  generalize (((lB s).drop a).getD 3 0).toNat = x3 at *
  dsimp only at hone
  simp only [decide_eq_true_eq] at hone
  have e0 : IntKind.wrap .i64 (x0 : Int) = (x0 : Int) := wrapS (by omega) (by omega)
  have e1 : IntKind.wrap .i64 (x1 : Int) = (x1 : Int) := wrapS (by omega) (by omega)
  have e2 : IntKind.wrap .i64 (x2 : Int) = (x2 : Int) := wrapS (by omega) (by omega)
  have e3 : IntKind.wrap .i64 (x3 : Int) = (x3 : Int) := wrapS (by omega) (by omega)
  have t32 : Int.tmod (x0 : Int) 32 = ((x0 % 32 : Nat) : Int) := tmodN x0 32
  have t16 : Int.tmod (x0 : Int) 16 = ((x0 % 16 : Nat) : Int) := tmodN x0 16
  have t8 : Int.tmod (x0 : Int) 8 = ((x0 % 8 : Nat) : Int) := tmodN x0 8
  have r1 : Int.tmod (x1 : Int) 64 = ((x1 % 64 : Nat) : Int) := tmodN x1 64
  have r2 : Int.tmod (x2 : Int) 64 = ((x2 % 64 : Nat) : Int) := tmodN x2 64
  have r3 : Int.tmod (x3 : Int) 64 = ((x3 % 64 : Nat) : Int) := tmodN x3 64
  rw [e0, e1, e2, e3, t32, t16, t8, r1, r2, r3]
  have g32 : x0 % 32 < 32 := Nat.mod_lt _ (by omega)
  have g16 : x0 % 16 < 16 := Nat.mod_lt _ (by omega)
  have g8 : x0 % 8 < 8 := Nat.mod_lt _ (by omega)
  have h1 : x1 % 64 < 64 := Nat.mod_lt _ (by omega)
  have h2 : x2 % 64 < 64 := Nat.mod_lt _ (by omega)
  have h3 : x3 % 64 < 64 := Nat.mod_lt _ (by omega)
  generalize x0 % 32 = p32 at *
  generalize x0 % 16 = p16 at *
  generalize x0 % 8 = p8 at *
  generalize x1 % 64 = q1 at *
  generalize x2 % 64 = q2 at *
  generalize x3 % 64 = q3 at *
  rw [wrapS (n := (p32 : Int) * 64) (by omega) (by omega), wrapS (n := (p16 : Int) * 64) (by omega) (by omega), wrapS (n := (p8 : Int) * 64) (by omega) (by omega)]
  rw [wrapS (n := (p32 : Int) * 64 + (q1 : Int)) (by omega) (by omega), wrapS (n := (p16 : Int) * 64 + (q1 : Int)) (by omega) (by omega), wrapS (n := (p8 : Int) * 64 + (q1 : Int)) (by omega) (by omega)]
  rw [wrapS (n := ((p16 : Int) * 64 + (q1 : Int)) * 64) (by omega) (by omega), wrapS (n := ((p8 : Int) * 64 + (q1 : Int)) * 64) (by omega) (by omega)]
  rw [wrapS (n := ((p16 : Int) * 64 + (q1 : Int)) * 64 + (q2 : Int)) (by omega) (by omega), wrapS (n := ((p8 : Int) * 64 + (q1 : Int)) * 64 + (q2 : Int)) (by omega) (by omega)]
  rw [wrapS (n := (((p8 : Int) * 64 + (q1 : Int)) * 64 + (q2 : Int)) * 64) (by omega) (by omega)]
  rw [wrapS (n := (((p8 : Int) * 64 + (q1 : Int)) * 64 + (q2 : Int)) * 64 + (q3 : Int)) (by omega) (by omega)]
  simp only [decide_eq_true_eq, decide_eq_false_iff_not]
  clear e0 e1 e2 e3 t32 t16 t8 r1 r2 r3 w1 w2 w3
  repeat' first | apply And.intro | intro _
  all_goals first
    | (show AVal.int _ _ = AVal.int _ _; rw [hone]; congr 1; (repeat' split) <;> first | rfl | omega)
    | (clear hone; omega)
    | exact True.intro
    | rfl
end Go.L01
