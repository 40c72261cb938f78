import Derived.Test.YtpncnfhfjegibaaDoorL09g3
section
set_option linter.unusedVariables false
set_option linter.unusedSimpArgs false
set_option maxRecDepth 100000
namespace Go.L09
open Go Go.Abs Go.Proofs
def chx (i : Nat) : ByteArray := ⟨#[UInt8.ofNat (97 + i)]⟩
theorem chx_row (i : Nat) (h : i ≤ 30) : rowBytes [[.int .u8 (IntKind.wrap .u8 (IntKind.wrap .i64 (97 + (i : Int))))]] = chx i := by
  rw [wrapS (by omega) (by omega), u8_of (by omega) (by omega)]
  unfold rowBytes chx
  simp only [List.map_cons, List.map_nil, List.headD_cons, AVal.toInt]
  rw [show (97 + (i : Int)).toNat = 97 + i by omega]
theorem chx_asc (i : Nat) (h : i ≤ 30) : asc (chx i) := by
  intro b hb
  have : b = UInt8.ofNat (97 + i) := by simpa [lB, chx] using hb
  subst this
  rw [UInt8.toNat_ofNat']
  omega
theorem chx_size (i : Nat) : (chx i).size ≤ 9 := by show 1 ≤ 9; omega
def chs (n : Nat) : List (List AVal) := (List.range n).map fun i => pst (chx i)
theorem chs_len (n : Nat) : (chs n).length = n := by simp [chs]
theorem chs_succ (n : Nat) : chs (n + 1) = chs n ++ [pst (chx n)] := by simp [chs, List.range_succ]
theorem chs_one (n : Nat) : ∀ r ∈ chs n, r.all oneCell = true := by
  intro r hr
  obtain ⟨i, _, rfl⟩ := List.mem_map.1 hr
  rfl
theorem chs_cut (n j : Nat) (hj : j < n) : (cutL (chs n) 0 n).getD j [] = pst (chx j) := by
  rw [List.getD_eq_getElem?_getD, List.getElem?_take_of_lt hj, List.getElem?_drop, Nat.zero_add]
  unfold chs
  rw [List.getElem?_map, List.getElem?_range (by omega)]
  rfl
theorem chs_cutlen (n : Nat) : (cutL (chs n) 0 n).length = n := by rw [List.length_take, List.length_drop, chs_len]; omega
def z0 : Nat → Bool
  | 0 => true
  | _ + 1 => false
abbrev A12L (a0 a1 n0 n1 : Int) (b d : Bool) (lp lq : Nat) (ps qs : List (List AVal)) : AState := [.rows false 2 [[.map 4, .map 5]], nms, .rows true 2 [[.int .i64 a0, .int .i64 a1]], .rows true 2 [[.int .i64 n0, .int .i64 n1]], .mpn [(ky tc, .ptr 6 2 0 0), (ky td, .ptr 7 2 0 0)], .mp true [], .rows false 2 [[.map 8, .slc b 9 2 0 lp none]], .rows false 2 [[.map 10, .slc d 11 2 0 lq none]], .mp true on_, .rows true 2 ps, .mp true on_, .rows true 2 qs]
theorem postc (a0 a1 : Nat) (h : a0 ≤ 30) : FOk Tryd.prog 13 [.ptr 0 2 0 0, op 3 tw tc tann (rowBytes [[.int .u8 (IntKind.wrap .u8 (IntKind.wrap .i64 (97 + (a0 : Int))))]]) 0 0] (S9 (z0 a0) (z0 a1) (chs a0) (chs a1)) (rep 0 (a0 : Int) nilps) (P9c (z0 a1) (chs a0) (chs a1) (chx a0)) := by
  rw [chx_row a0 h]
  have := doPc (z0 a0) (z0 a1) (chx a0) (chx_size a0) (chx_asc a0 h) (chs a0) (chs a1) (by rw [chs_len]; omega)
  rw [show (((chs a0).length : Nat) : Int) = (a0 : Int) by rw [chs_len]] at this
  exact this
theorem postd (a0 a1 : Nat) (h : a1 ≤ 30) : FOk Tryd.prog 13 [.ptr 0 2 0 0, op 3 tw td tann (rowBytes [[.int .u8 (IntKind.wrap .u8 (IntKind.wrap .i64 (97 + (a1 : Int))))]]) 0 0] (S9 (z0 a0) (z0 a1) (chs a0) (chs a1)) (rep 0 (a1 : Int) nilps) (P9d (z0 a0) (chs a0) (chs a1) (chx a1)) := by
  rw [chx_row a1 h]
  have := doPd (z0 a0) (z0 a1) (chx a1) (chx_size a1) (chx_asc a1 h) (chs a0) (chs a1) (by rw [chs_len]; omega)
  rw [show (((chs a1).length : Nat) : Int) = (a1 : Int) by rw [chs_len]] at this
  exact this
theorem upc (a0 a1 n0 n1 : Nat) (h : a0 ≤ 30) : A12L (IntKind.wrap .i64 ((a0 : Int) + 1)) a1 n0 n1 false (z0 a1) ((chs a0).length + 1) (chs a1).length (chs a0 ++ [pst (chx a0)]) (chs a1) = A12 (a0 + 1 : Nat) a1 n0 n1 (z0 (a0 + 1)) (z0 a1) (chs (a0 + 1)) (chs a1) := by
  have hw : IntKind.wrap .i64 ((a0 : Int) + 1) = ((a0 + 1 : Nat) : Int) := by rw [wrapS (by omega) (by omega)]; omega
  rw [hw, ← chs_succ, show (chs a0).length + 1 = (chs (a0 + 1)).length by rw [chs_len, chs_len]]
  rfl
theorem upd (a0 a1 n0 n1 : Nat) (h : a1 ≤ 30) : A12L a0 (IntKind.wrap .i64 ((a1 : Int) + 1)) n0 n1 (z0 a0) false (chs a0).length ((chs a1).length + 1) (chs a0) (chs a1 ++ [pst (chx a1)]) = A12 a0 (a1 + 1 : Nat) n0 n1 (z0 a0) (z0 (a1 + 1)) (chs a0) (chs (a1 + 1)) := by
  have hw : IntKind.wrap .i64 ((a1 : Int) + 1) = ((a1 + 1 : Nat) : Int) := by rw [wrapS (by omega) (by omega)]; omega
  rw [hw, ← chs_succ, show (chs a1).length + 1 = (chs (a1 + 1)).length by rw [chs_len, chs_len]]
  rfl
abbrev Ast (a0 a1 n0 n1 : Nat) : AState := A12 a0 a1 n0 n1 (z0 a0) (z0 a1) (chs a0) (chs a1)
theorem lo_step (x : Int) (n0 n1 a0 a1 i : Nat) (h0 : n0 ≤ 31) (h1 : n1 ≤ 31) (ha : a0 ≤ n0) (hb : a1 ≤ n1) (hi : i ≤ 100) (hs : a0 + a1 < n0 + n1) :
    (a0 < n0 ∧ TripN Tryd.prog 0 (loopNo Tryd.f6 1) (rgA x (i : Nat)) (Ast a0 a1 n0 n1) .normal (rgA x ((i + 1 : Nat) : Int)) (Ast (a0 + 1) a1 n0 n1)) ∨
    (a1 < n1 ∧ TripN Tryd.prog 0 (loopNo Tryd.f6 1) (rgA x (i : Nat)) (Ast a0 a1 n0 n1) .normal (rgA x ((i + 1 : Nat) : Int)) (Ast a0 (a1 + 1) n0 n1)) := by
  have w1 : IntKind.wrap .i64 ((i : Int) + 1) = ((i + 1 : Nat) : Int) := by rw [wrapS (by omega) (by omega)]; omega
  have wa : IntKind.wrap .i64 ((a0 : Int) + (a1 : Int)) = ((a0 + a1 : Nat) : Int) := by rw [wrapS (by omega) (by omega)]; omega
  have wn : IntKind.wrap .i64 ((n0 : Int) + (n1 : Int)) = ((n0 + n1 : Nat) : Int) := by rw [wrapS (by omega) (by omega)]; omega
  have c31 := (and_le (i : Int) 31 (by omega) (by omega)).1
  have hlt : decide (((a0 + a1 : Nat) : Int) < ((n0 + n1 : Nat) : Int)) = true := decide_eq_true (by omega)
  have hk := and_le (Int.fdiv x (2 ^ min (Int.toNat (bits .and .i64 (i : Int) 31)) 64)) 1 (by omega) (by omega)
  have w10 : IntKind.wrap .i64 (1 - 0) = 1 := by decide
  have w11 : IntKind.wrap .i64 (1 - 1) = 0 := by decide
  generalize hkx : bits .and .i64 (Int.fdiv x (2 ^ min (Int.toNat (bits .and .i64 (i : Int) 31)) 64)) 1 = kx at hk
  have hk : kx = 0 ∨ kx = 1 := by omega
  rcases hk with rfl | rfl
  · by_cases hc : a0 < n0
    · refine .inl ⟨hc, TripN.wp (loaC_wp x (i : Nat) (a0 : Nat) (a1 : Nat) (n0 : Nat) (n1 : Nat) (a0 : Nat) (z0 a0) (z0 a1) (chs a0) (chs a1) (chx a0) ?_)⟩
      unfold loaC_T
      rw [hkx, w1, wa, wn]
      exact ⟨hlt, decide_eq_true c31, by decide, rfl, by decide, rfl, decide_eq_false (show ¬ ((a0 : Int) ≥ (n0 : Int)) by omega), rfl, by decide, postc a0 a1 (by omega), (show ((a0 : Int) != (a0 : Int)) = false by simp), rfl, rfl, upc a0 a1 n0 n1 (by omega)⟩
    · refine .inr ⟨by omega, TripN.wp (lofD_wp x (i : Nat) (a0 : Nat) (a1 : Nat) (n0 : Nat) (n1 : Nat) (a1 : Nat) (z0 a0) (z0 a1) (chs a0) (chs a1) (chx a1) ?_)⟩
      unfold lofD_T
      rw [hkx, w1, wa, wn, w10]
      exact ⟨hlt, decide_eq_true c31, by decide, rfl, by decide, rfl, decide_eq_true (show (a0 : Int) ≥ (n0 : Int) by omega), by decide, rfl, by decide, rfl, by decide, postd a0 a1 (by omega), (show ((a1 : Int) != (a1 : Int)) = false by simp), rfl, rfl, upd a0 a1 n0 n1 (by omega)⟩
  · by_cases hc : a1 < n1
    · refine .inr ⟨hc, TripN.wp (loaD_wp x (i : Nat) (a0 : Nat) (a1 : Nat) (n0 : Nat) (n1 : Nat) (a1 : Nat) (z0 a0) (z0 a1) (chs a0) (chs a1) (chx a1) ?_)⟩
      unfold loaD_T
      rw [hkx, w1, wa, wn]
      exact ⟨hlt, decide_eq_true c31, by decide, rfl, by decide, rfl, decide_eq_false (show ¬ ((a1 : Int) ≥ (n1 : Int)) by omega), rfl, by decide, postd a0 a1 (by omega), (show ((a1 : Int) != (a1 : Int)) = false by simp), rfl, rfl, upd a0 a1 n0 n1 (by omega)⟩
    · refine .inl ⟨by omega, TripN.wp (lofC_wp x (i : Nat) (a0 : Nat) (a1 : Nat) (n0 : Nat) (n1 : Nat) (a0 : Nat) (z0 a0) (z0 a1) (chs a0) (chs a1) (chx a0) ?_)⟩
      unfold lofC_T
      rw [hkx, w1, wa, wn, w11]
      exact ⟨hlt, decide_eq_true c31, by decide, rfl, by decide, rfl, decide_eq_true (show (a1 : Int) ≥ (n1 : Int) by omega), by decide, rfl, by decide, rfl, by decide, postc a0 a1 (by omega), (show ((a0 : Int) != (a0 : Int)) = false by simp), rfl, rfl, upc a0 a1 n0 n1 (by omega)⟩
theorem lo_rounds (x : Int) (n0 n1 : Nat) (h0 : n0 ≤ 31) (h1 : n1 ≤ 31) : ∀ (d a0 a1 i : Nat), a0 + a1 + d = n0 + n1 → a0 ≤ n0 → a1 ≤ n1 → i + d ≤ 62 → ∃ i' : Nat,
    LoopRun Tryd.prog 0 (loopNo Tryd.f6 1) (rgA x (i : Nat)) (Ast a0 a1 n0 n1) (.exit 2) (rgA x (i' : Nat)) (Ast n0 n1 n0 n1) := by
  intro d
  induction d with
  | zero =>
    intro a0 a1 i hs ha hb hi
    obtain rfl : a0 = n0 := by omega
    obtain rfl : a1 = n1 := by omega
    refine ⟨i, .done (TripN.wp (loX_wp x (i : Nat) (a0 : Nat) (a1 : Nat) (a0 : Nat) (a1 : Nat) (z0 a0) (z0 a1) (chs a0) (chs a1) ?_)) (by simp)⟩
    unfold loX_T
    exact ⟨decide_eq_false (by omega), rfl, rfl, rfl⟩
  | succ d ih =>
    intro a0 a1 i hs ha hb hi
    rcases lo_step x n0 n1 a0 a1 i h0 h1 ha hb (by omega) (by omega) with ⟨hc, t⟩ | ⟨hc, t⟩
    · obtain ⟨i', r⟩ := ih (a0 + 1) a1 (i + 1) (by omega) (by omega) hb (by omega)
      exact ⟨i', .more t r⟩
    · obtain ⟨i', r⟩ := ih a0 (a1 + 1) (i + 1) (by omega) ha (by omega) (by omega)
      exact ⟨i', .more t r⟩
theorem tell0 (n0 n1 : Nat) (ra : Int) (b d : Bool) (ps qs : List (List AVal)) (h : n0 ≤ 31) : ∀ (e j : Nat), j + e = n0 → LoopRun Tryd.prog 0 (loopNo Tryd.f6 3) (rgI 0 (j : Nat)) (I13 (n0 : Nat) (n1 : Nat) ra n0 b d ps qs (cutL (chs n0) 0 n0)) (.exit 6) (rgI 0 (n0 : Nat)) (I13 (n0 : Nat) (n1 : Nat) ra n0 b d ps qs (cutL (chs n0) 0 n0))
  | 0, j, hj => by
    obtain rfl : j = n0 := by omega
    refine .done (TripN.wp (ax0_wp (j : Nat) (n1 : Nat) ra (j : Nat) j b d ps qs (cutL (chs j) 0 j) ?_)) (by simp)
    unfold ax0_T
    exact ⟨decide_eq_false (by omega), rfl, rfl, rfl⟩
  | e + 1, j, hj => by
    have w1 : IntKind.wrap .i64 ((j : Int) + 1) = ((j + 1 : Nat) : Int) := by rw [wrapS (by omega) (by omega)]; omega
    refine .more ?_ (tell0 n0 n1 ra b d ps qs h e (j + 1) (by omega))
    refine TripN.wp (ai0_wp (n0 : Nat) (n1 : Nat) ra (j : Nat) n0 b d ps qs (cutL (chs n0) 0 n0) ?_)
    unfold ai0_T
    have g := chs_cut n0 j (by omega)
    refine ⟨decide_eq_true (by omega), decide_eq_true (by omega), ?_, ?_, ?_, rfl, by rw [w1]; rfl, rfl⟩
    · rw [Int.toNat_natCast, g]; rfl
    · rw [Int.toNat_natCast, chs_cutlen]; exact decide_eq_true (by omega)
    · rw [Int.toNat_natCast, g]
      show (!(chx j).toList == [ByteArray.get! (rowBytes [[.int .u8 (IntKind.wrap .u8 (IntKind.wrap .i64 (97 + (j : Int))))]]) 0]) = false
      rw [chx_row j (by omega), toList_lB]
      have : lB (chx j) = [ByteArray.get! (chx j) 0] := rfl
      rw [this]; simp
theorem tell1 (n0 n1 : Nat) (ra : Int) (b d : Bool) (ps qs : List (List AVal)) (h : n1 ≤ 31) : ∀ (e j : Nat), j + e = n1 → LoopRun Tryd.prog 0 (loopNo Tryd.f6 3) (rgI 1 (j : Nat)) (I13 (n0 : Nat) (n1 : Nat) ra n1 b d ps qs (cutL (chs n1) 0 n1)) (.exit 6) (rgI 1 (n1 : Nat)) (I13 (n0 : Nat) (n1 : Nat) ra n1 b d ps qs (cutL (chs n1) 0 n1))
  | 0, j, hj => by
    obtain rfl : j = n1 := by omega
    refine .done (TripN.wp (ax1_wp (n0 : Nat) (j : Nat) ra (j : Nat) j b d ps qs (cutL (chs j) 0 j) ?_)) (by simp)
    unfold ax1_T
    exact ⟨decide_eq_false (by omega), rfl, rfl, rfl⟩
  | e + 1, j, hj => by
    have w1 : IntKind.wrap .i64 ((j : Int) + 1) = ((j + 1 : Nat) : Int) := by rw [wrapS (by omega) (by omega)]; omega
    refine .more ?_ (tell1 n0 n1 ra b d ps qs h e (j + 1) (by omega))
    refine TripN.wp (ai1_wp (n0 : Nat) (n1 : Nat) ra (j : Nat) n1 b d ps qs (cutL (chs n1) 0 n1) ?_)
    unfold ai1_T
    have g := chs_cut n1 j (by omega)
    refine ⟨decide_eq_true (by omega), decide_eq_true (by omega), ?_, ?_, ?_, rfl, by rw [w1]; rfl, rfl⟩
    · rw [Int.toNat_natCast, g]; rfl
    · rw [Int.toNat_natCast, chs_cutlen]; exact decide_eq_true (by omega)
    · rw [Int.toNat_natCast, g]
      show (!(chx j).toList == [ByteArray.get! (rowBytes [[.int .u8 (IntKind.wrap .u8 (IntKind.wrap .i64 (97 + (j : Int))))]]) 0]) = false
      rw [chx_row j (by omega), toList_lB]
      have : lB (chx j) = [ByteArray.get! (chx j) 0] := rfl
      rw [this]; simp
theorem doRc' (n : Nat) (d : Bool) (qs : List (List AVal)) (h : n ≤ 31) : FOk Tryd.prog 13 [.ptr 0 2 0 0, op 4 tw tc t0 t0 0 64] (S9 false d (chs n) qs) (rep 0 (n : Int) (.slc false 9 2 0 n none)) (S9 false d (chs n) qs ++ [.rows true 2 (cutL (chs n) 0 n)]) := by
  have := doRc d (chs n) qs (chs_one n) (by rw [chs_len]; omega)
  rw [chs_len] at this
  exact this
theorem doRd' (n : Nat) (b : Bool) (ps : List (List AVal)) (h : n ≤ 31) : FOk Tryd.prog 13 [.ptr 0 2 0 0, op 4 tw td t0 t0 0 64] (S9 b false ps (chs n)) (rep 0 (n : Int) (.slc false 9 2 0 n none)) (S9 b false ps (chs n) ++ [.rows true 2 (cutL (chs n) 0 n)]) := by
  have := doRd b ps (chs n) (chs_one n) (by rw [chs_len]; omega)
  rw [chs_len] at this
  exact this
end Go.L09
end

section
set_option linter.unusedVariables false
set_option linter.unusedSimpArgs false
set_option maxRecDepth 100000
namespace Go.L09
open Go Go.Abs Go.Proofs
theorem apart_law (m0 m1 x : Int) : FOk Tryd.prog 6 [.agg [.int .i64 m0, .int .i64 m1], .int .i64 x] [] (.bool true) [] := by
  obtain ⟨p0, p1⟩ := and_le m0 31 (by omega) (by omega)
  obtain ⟨q0, q1⟩ := and_le m1 31 (by omega) (by omega)
  obtain ⟨n0, e0⟩ : ∃ n : Nat, bits .and .i64 m0 31 = (n : Int) := ⟨(bits .and .i64 m0 31).toNat, by omega⟩
  obtain ⟨n1, e1⟩ : ∃ n : Nat, bits .and .i64 m1 31 = (n : Int) := ⟨(bits .and .i64 m1 31).toNat, by omega⟩
  have h0 : n0 ≤ 31 := by omega
  have h1 : n1 ≤ 31 := by omega
  obtain ⟨i', l⟩ := lo_rounds x n0 n1 h0 h1 (n0 + n1) 0 0 0 (by omega) (by omega) (by omega) (by omega)
  cases n0 with
  | zero =>
    cases n1 with
    | zero =>
      refine FOk.wp (apnn_wp m0 m1 x i' 0 0 0 0 0 0 0 0 0 0 true true [] [] [] [] ?_)
      unfold apnn_T
      rw [e0, e1]
      have i0 : TripN Tryd.prog 0 (Code.loop (loopNo Tryd.f6 3)) (rgI 0 0) (I12 (0 : Nat) (0 : Nat) true true [] []) (.exit 6) (rgI 0 0) (I12 (0 : Nat) (0 : Nat) true true [] []) := (LoopRun.done (TripN.wp (an0_wp (0 : Nat) (0 : Nat) 0 true true [] [] ⟨by decide, rfl, rfl, rfl⟩)) (by simp)).trip
      have i1 : TripN Tryd.prog 0 (Code.loop (loopNo Tryd.f6 3)) (rgI 1 0) (I12 (0 : Nat) (0 : Nat) true true [] []) (.exit 6) (rgI 1 0) (I12 (0 : Nat) (0 : Nat) true true [] []) := (LoopRun.done (TripN.wp (an1_wp (0 : Nat) (0 : Nat) 0 true true [] [] ⟨by decide, rfl, rfl, rfl⟩)) (by simp)).trip
      exact ⟨new_ok, doM, doJ, doMd, doJd, l.trip, doEc true [], by decide, i0, doEd true [], by decide, i1, awake_ok, rfl, rfl⟩
    | succ n1 =>
      refine FOk.wp (apns_wp m0 m1 x i' 0 (n1 + 1 : Nat) 0 0 0 (n1 + 1 : Nat) 0 (n1 + 1 : Nat) 0 (n1 + 1) true false [] (chs (n1 + 1)) [] (cutL (chs (n1 + 1)) 0 (n1 + 1)) ?_)
      unfold apns_T
      rw [e0, e1]
      have i0 : TripN Tryd.prog 0 (Code.loop (loopNo Tryd.f6 3)) (rgI 0 0) (I12 (0 : Nat) (n1 + 1 : Nat) true false [] (chs (n1 + 1))) (.exit 6) (rgI 0 0) (I12 (0 : Nat) (n1 + 1 : Nat) true false [] (chs (n1 + 1))) := (LoopRun.done (TripN.wp (an0_wp (0 : Nat) (n1 + 1 : Nat) 0 true false [] (chs (n1 + 1)) ⟨by decide, rfl, rfl, rfl⟩)) (by simp)).trip
      exact ⟨new_ok, doM, doJ, doMd, doJd, l.trip, doEc false (chs (n1 + 1)), by decide, i0, doRd' (n1 + 1) true [] h1, by simp, (tell1 0 (n1 + 1) (n1 + 1 : Nat) true false [] (chs (n1 + 1)) h1 (n1 + 1) 0 (by omega)).trip, awake_ok, rfl, rfl⟩
  | succ n0 =>
    cases n1 with
    | zero =>
      refine FOk.wp (apsn_wp m0 m1 x i' (n0 + 1 : Nat) 0 0 0 (n0 + 1 : Nat) 0 (n0 + 1 : Nat) 0 (n0 + 1) 0 false true (chs (n0 + 1)) [] (cutL (chs (n0 + 1)) 0 (n0 + 1)) [] ?_)
      unfold apsn_T
      rw [e0, e1]
      have i1 : TripN Tryd.prog 0 (Code.loop (loopNo Tryd.f6 3)) (rgI 1 0) (I12 (n0 + 1 : Nat) (0 : Nat) false true (chs (n0 + 1)) []) (.exit 6) (rgI 1 0) (I12 (n0 + 1 : Nat) (0 : Nat) false true (chs (n0 + 1)) []) := (LoopRun.done (TripN.wp (an1_wp (n0 + 1 : Nat) (0 : Nat) 0 false true (chs (n0 + 1)) [] ⟨by decide, rfl, rfl, rfl⟩)) (by simp)).trip
      exact ⟨new_ok, doM, doJ, doMd, doJd, l.trip, doRc' (n0 + 1) true [] h0, by simp, (tell0 (n0 + 1) 0 (n0 + 1 : Nat) false true (chs (n0 + 1)) [] h0 (n0 + 1) 0 (by omega)).trip, doEd false (chs (n0 + 1)), by decide, i1, awake_ok, rfl, rfl⟩
    | succ n1 =>
      refine FOk.wp (apss_wp m0 m1 x i' (n0 + 1 : Nat) (n1 + 1 : Nat) 0 0 (n0 + 1 : Nat) (n1 + 1 : Nat) (n0 + 1 : Nat) (n1 + 1 : Nat) (n0 + 1) (n1 + 1) false false (chs (n0 + 1)) (chs (n1 + 1)) (cutL (chs (n0 + 1)) 0 (n0 + 1)) (cutL (chs (n1 + 1)) 0 (n1 + 1)) ?_)
      unfold apss_T
      rw [e0, e1]
      exact ⟨new_ok, doM, doJ, doMd, doJd, l.trip, doRc' (n0 + 1) false (chs (n1 + 1)) h0, by simp, (tell0 (n0 + 1) (n1 + 1) (n0 + 1 : Nat) false false (chs (n0 + 1)) (chs (n1 + 1)) h0 (n0 + 1) 0 (by omega)).trip, doRd' (n1 + 1) false (chs (n0 + 1)) h1, by simp, (tell1 (n0 + 1) (n1 + 1) (n1 + 1 : Nat) false false (chs (n0 + 1)) (chs (n1 + 1)) h1 (n1 + 1) 0 (by omega)).trip, awake_ok, rfl, rfl⟩
end Go.L09
end

section
set_option linter.unusedVariables false
set_option linter.unusedSimpArgs false
set_option maxRecDepth 100000
namespace Go.L09
open Go Go.Abs Go.Proofs
theorem apart_row (xs : List AVal) (h : okArgs Tryd.prog Tryd.f6.params.toList [[.int .i64, .int .i64], [.int .i64]] xs) : ∃ σ', FOk Tryd.prog 6 xs [] (.bool true) σ' := by
  obtain ⟨a, bs, rfl, h1, a2, bs2, rfl, h2, h3⟩ := h
  cases h3
  unfold okArg at h1 h2
  rw [if_pos (by kernel_rfl)] at h1
  rw [if_neg (by rw [show isAggT Tryd.prog 3 = false from by kernel_rfl]; simp)] at h2
  obtain ⟨cs, rfl, h1⟩ := h1
  simp only [okKs, okK] at h1 h2
  obtain ⟨v, us, rfl, ⟨m0, rfl, _⟩, h1⟩ := h1
  obtain ⟨v, us, rfl, ⟨m1, rfl, _⟩, h1⟩ := h1
  subst h1
  obtain ⟨v, us, e, ⟨n, rfl, _⟩, rfl⟩ := h2
  cases e
  exact ⟨_, apart_law m0 m1 n⟩
end Go.L09
end
