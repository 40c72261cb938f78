import Derived.Test.YtpkbeinnflbemaaL06O
set_option linter.unusedVariables false
set_option linter.unusedSimpArgs false
set_option maxRecDepth 100000
namespace Go.L06
open Go Go.Abs Go.Proofs

/-! ## Slice and Same -/
def Lg.slc (L : Lg) (i o : Int) : List En × Int := if o < 0 then ([], 1) else if (L.frm i).2 ≠ 0 then ([], (L.frm i).2) else ((L.l.drop (i - L.a - 1).toNat).take o.toNat, 0)
theorem freeze_s (x : AObj) (r rs : List (List AVal)) (n : Nat) (hn : rs.length = n) : freezeAL [x, .rows true 2 r, .rows true 2 rs] [.slc false 2 2 0 n none, .int .i64 0] = some ([.fsl false 2 rs none, .int .i64 0], [x, .rows true 2 r, .dead], [decide (0 + rs.length ≤ rs.length) = true]) := by
  have o : Abs.obj [x, .rows true 2 r, .rows true 2 rs] 2 = .rows true 2 rs := rfl
  subst hn
  simp [freezeAL, freezeA, freezeL, freezeV, o, pureCell]
theorem slice_ok {L : Lg} (h : L.ok) (i o : Int) : ∃ b, FOk Try.prog 21 [logP, .int .i64 i, .int .i64 o] L.o (.tuple [.fsl b 2 ((L.slc i o).1.map En.row) none, .int .i64 (L.slc i o).2]) L.o := by
  have hf := frm_ok h i
  have a0 := h.a0; have a1 := h.a1; have n0 := h.n
  unfold Lg.slc
  by_cases h1 : o < 0
  · rw [if_pos h1]; exact ⟨true, slice_1 L.a L.m i 0 0 o L.b L.l.length 0 (L.l.map En.row) [] (decide_eq_true h1)⟩
  · rw [if_neg h1]
    by_cases h2 : (L.frm i).2 ≠ 0
    · rw [if_pos h2]; exact ⟨true, slice_2 L.a L.m i (L.frm i).1 (L.frm i).2 o L.b L.l.length 0 (L.l.map En.row) [] (bne_iff_ne.2 h2) hf (decide_eq_false h1)⟩
    · rw [if_neg h2]
      have h2' : (L.frm i).2 = 0 := Decidable.not_not.1 h2
      obtain ⟨f1, f2, f3⟩ := frm_in h2'
      rw [h2', f3] at hf
      unfold Lg.last at f2
      obtain ⟨k, hk⟩ : ∃ k : Nat, i - L.a - 1 = k := ⟨(i - L.a - 1).toNat, by omega⟩
      rw [hk] at hf ⊢
      have hkl : k ≤ L.l.length := by omega
      have m1 : 0 ≤ imin o L.l.length ∧ imin o L.l.length ≤ L.l.length := by unfold imin; split <;> omega
      have w : IntKind.wrap .i64 ((k : Int) + imin o L.l.length) = (k : Int) + imin o L.l.length := wrapS (by omega) (by omega)
      have m2 : (k : Int) ≤ imin L.l.length ((k : Int) + imin o L.l.length) ∧ imin L.l.length ((k : Int) + imin o L.l.length) ≤ L.l.length ∧ min ((imin L.l.length ((k : Int) + imin o L.l.length)).toNat - k) (L.l.length - k) = min o.toNat (L.l.length - k) := by
        unfold imin; split <;> split <;> omega
      generalize hN : imin L.l.length ((k : Int) + imin o L.l.length) = N at m2
      have hc : decide (0 ≤ (k : Int) ∧ (k : Int) ≤ imin L.l.length (IntKind.wrap .i64 ((k : Int) + imin o L.l.length)) ∧ imin L.l.length (IntKind.wrap .i64 ((k : Int) + imin o L.l.length)) ≤ (L.l.length : Int)) = true := decide_eq_true (by rw [w, hN]; omega)
      have hcl := clone_ok L.l k (N.toNat - k) (by omega) (by omega)
      have et : (L.l.drop k).take (N.toNat - k) = (L.l.drop k).take o.toNat := List.take_eq_take_iff.2 (by rw [List.length_drop]; exact m2.2.2)
      rw [et] at hcl
      rw [Int.toNat_natCast]
      have hlen : ((L.l.drop k).take o.toNat).length = N.toNat - k := by rw [← et, List.length_take, List.length_drop]; omega
      have hb := h.b
      obtain ⟨a, m, b, l⟩ := L
      dsimp only at *
      cases b with
      | false =>
        have key := slice_3 a m i k 0 o false l.length (N.toNat - k) (l.map En.row) (((l.drop k).take o.toNat).map En.row)
        rw [w, hN, Int.toNat_natCast, Nat.add_zero] at key
        rw [w, hN] at hc
        have k2 := key hcl hc (bne_eq_false_iff_eq.2 rfl) hf (decide_eq_false h1)
        have k3 := k2.freezeT (freeze_s _ _ _ _ (by rw [List.length_map, hlen])) (allP_of ⟨decide_eq_true (by omega), trivial⟩)
        exact ⟨false, k3.toN.move [0, 1] (by kernel_rfl) (by kernel_rfl) (by kernel_rfl)⟩
      | true =>
        have hl0 := hb rfl
        subst hl0
        refine ⟨true, ?_⟩
        rw [List.drop_nil, List.take_nil]
        have key := sliceN_1 a m i k 0 o true 0 []
        exact key (clone_1 true _ _ [] rfl) hc (bne_eq_false_iff_eq.2 rfl) hf (decide_eq_false h1)

theorem rsl_rounds (a m o : Int) (b : Bool) (l : List En) (ho : 0 ≤ o) (hl : l.length ≤ 1099511627776) : ∀ (d j : Nat) (bo : Bool) (out : List En), j + d = l.length → out.length ≤ j →
    ∃ (j' : Int) (bo' : Bool), LoopRun Try.prog 0 (loopNo Try.f31 0) (rgS o (j : Int) bo (out.map En.row).length) (SO a m b (l.map En.row) (out.map En.row)) (.exit 0)
      (rgS o j' bo' ((out ++ (l.drop j).take (o.toNat - out.length)).map En.row).length) (SO a m b (l.map En.row) ((out ++ (l.drop j).take (o.toNat - out.length)).map En.row))
  | 0, j, bo, out, hj, hout => by
    obtain rfl : j = l.length := by omega
    rw [List.drop_length, List.take_nil, List.append_nil]
    refine ⟨(l.length : Int), bo, .done ?_ (by simp)⟩
    exact rsl_3 a m o (l.length : Int) b bo (l.map En.row) (out.map En.row) (decide_eq_false (by rw [List.length_map]; omega))
  | d + 1, j, bo, out, hj, hout => by
    have hjl : j < l.length := by omega
    have c3 : decide ((j : Int) < ((l.map En.row).length : Int)) = true := decide_eq_true (by rw [List.length_map]; omega)
    by_cases h1 : (out.length : Int) < o
    · have w : IntKind.wrap .i64 ((j : Int) + 1) = ((j + 1 : Nat) : Int) := by rw [wrapS (by omega) (by omega)]; omega
      have g : (l.map En.row).getD (Int.toNat (j : Int)) [] = (l.getD j z).row := by rw [Int.toNat_natCast]; exact getD_map (f := En.row) l _ z hjl
      have hx : l.getD j z = l[j] := by rw [List.getD_eq_getElem?_getD, List.getElem?_eq_getElem hjl]; rfl
      obtain ⟨j', bo', r⟩ := rsl_rounds a m o b l ho hl d (j + 1) false (out ++ [l[j]]) (by omega) (by simp; omega)
      have e : out ++ (l.drop j).take (o.toNat - out.length) = (out ++ [l[j]]) ++ (l.drop (j + 1)).take (o.toNat - (out ++ [l[j]]).length) := by
        obtain ⟨n, hn⟩ : ∃ n, o.toNat - out.length = n + 1 := ⟨o.toNat - out.length - 1, by omega⟩
        rw [hn, List.drop_eq_getElem_cons hjl, List.take_succ_cons, List.length_append, List.length_cons, List.length_nil, show o.toNat - (out.length + (0 + 1)) = n by omega]
        simp
      refine ⟨j', bo', ?_⟩
      rw [e]
      refine .more ?_ r
      have key := rsl_1 a m o (j : Int) b bo (l.map En.row) (out.map En.row)
      rw [g, w, hx] at key
      simp only [List.getD_cons_zero, List.getD_cons_succ, AVal.toInt, AVal.toStr, List.length_cons, List.length_nil, Nat.zero_add, List.isEmpty_cons, Bool.and_false] at key
      have e1 : (out ++ [l[j]]).map En.row = out.map En.row ++ [[.int .i64 l[j].t, .str l[j].d]] := by rw [List.map_append]; rfl
      have e2 : ((out ++ [l[j]]).map En.row).length = (out.map En.row).length + 1 := by simp
      rw [e2, e1]
      exact key (by simp) (decide_eq_true (by rw [List.length_map]; omega)) (decide_eq_true (by rw [List.length_map, Int.toNat_natCast]; exact hjl)) (by kernel_rfl) (decide_eq_true (by rw [List.length_map]; omega)) (decide_eq_true (by rw [List.length_map]; exact h1)) c3
    · rw [show o.toNat - out.length = 0 by omega, List.take_zero, List.append_nil]
      refine ⟨(j : Int), bo, .done ?_ (by simp)⟩
      exact rsl_2 a m o (j : Int) b bo (l.map En.row) (out.map En.row) (decide_eq_false (by rw [List.length_map]; exact h1)) c3
theorem freeze_r (b : Bool) (rs : List (List AVal)) : freezeAL [.rows true 2 rs] [.slc b 0 2 0 rs.length none, .int .i64 0] = some ([.fsl b 2 rs none, .int .i64 0], [.dead], [decide (0 + rs.length ≤ rs.length) = true]) := by
  have o : Abs.obj [.rows true 2 rs] 0 = .rows true 2 rs := rfl
  simp [freezeAL, freezeA, freezeL, freezeV, o, pureCell]
theorem rslice_ok {L : Lg} (h : L.ok) (i o : Int) : ∃ b, FOk Try.prog 31 [L.q, .int .i64 i, .int .i64 o] [] (.tuple [.fsl b 2 ((L.slc i o).1.map En.row) none, .int .i64 (L.slc i o).2]) [] := by
  have hl := rlast_ok h
  have a0 := h.a0; have a1 := h.a1; have n0 := h.n
  have w : IntKind.wrap .i64 (L.last + 1) = L.last + 1 := by unfold Lg.last; exact wrapS (by omega) (by omega)
  unfold Lg.slc
  by_cases h1 : o < 0
  · rw [if_pos h1]; exact ⟨true, rslF_1 L.a L.m o i 0 0 L.b true (L.l.map En.row) [] (decide_eq_true h1)⟩
  · rw [if_neg h1]
    unfold Lg.frm
    by_cases h2 : i ≤ L.a
    · rw [if_pos h2, if_pos (by simp)]; exact ⟨true, rslF_2 L.a L.m o i 0 0 L.b true (L.l.map En.row) [] (decide_eq_true h2) (decide_eq_false h1)⟩
    · rw [if_neg h2]
      by_cases h3 : i > L.last + 1
      · rw [if_pos h3, if_pos (by simp)]; exact ⟨true, rslF_3 L.a L.m o i L.last 0 L.b true (L.l.map En.row) [] (decide_eq_true (by rw [w]; exact h3)) hl (decide_eq_false h2) (decide_eq_false h1)⟩
      · rw [if_neg h3, if_neg (by simp)]
        have h3' := h3
        unfold Lg.last at h3'
        obtain ⟨k, hk⟩ : ∃ k : Nat, i - L.a - 1 = k := ⟨(i - L.a - 1).toNat, by omega⟩
        obtain ⟨j', bo', r⟩ := rsl_rounds L.a L.m o L.b L.l (by omega) (by omega) (L.l.length - k) k true [] (by omega) (by simp)
        rw [List.nil_append, List.length_nil, Nat.sub_zero] at r
        have t := r.trip
        have key := rslF_4 L.a L.m o i L.last j' L.b bo' (L.l.map En.row) (((L.l.drop k).take o.toNat).map En.row)
        rw [w, wrapS (n := i - L.a) (by omega) (by omega), wrapS (by omega) (by omega), hk] at key
        have k2 := key t (decide_eq_false h3) hl (decide_eq_false h2) (decide_eq_false h1)
        have k3 := k2.freezeT (freeze_r _ _) (allP_of ⟨decide_eq_true (by omega), trivial⟩)
        rw [hk, Int.toNat_natCast]
        exact ⟨bo', k3.toN.move [] (by kernel_rfl) (by kernel_rfl) (by kernel_rfl)⟩

theorem sm_rounds (b c : Bool) (l : List En) (hl : l.length ≤ 1099511627776) : ∀ (d j : Nat), j + d = l.length →
    LoopRun Try.prog 0 (loopNo Try.f32 0) (rgM b c (l.map En.row) (j : Int)) [] (.exit 0) (rgM b c (l.map En.row) ((l.map En.row).length : Int)) []
  | 0, j, hj => by
    obtain rfl : j = l.length := by omega
    refine .done ?_ (by simp)
    rw [List.length_map]
    exact sm_3 b c (l.map En.row) (l.length : Int) (decide_eq_false (by rw [List.length_map]; omega))
  | d + 1, j, hj => by
    have hjl : j < l.length := by omega
    have w : IntKind.wrap .i64 ((j : Int) + 1) = ((j + 1 : Nat) : Int) := by rw [wrapS (by omega) (by omega)]; omega
    have g : (l.map En.row).getD (Int.toNat (j : Int)) [] = (l.getD j z).row := by rw [Int.toNat_natCast]; exact getD_map (f := En.row) l _ z hjl
    refine .more ?_ (sm_rounds b c l hl d (j + 1) (by omega))
    have key := sm_2 b c (l.map En.row) (j : Int)
    rw [g, w] at key
    exact key (by simp) (decide_eq_true (by rw [List.length_map, Int.toNat_natCast]; exact hjl)) (by kernel_rfl) (decide_eq_true (by rw [List.length_map]; omega)) (decide_eq_true (by rw [List.length_map]; omega))
theorem same_ok (b c : Bool) (l : List En) (hl : l.length ≤ 1099511627776) : FOk Try.prog 32 [.fsl b 2 (l.map En.row) none, .fsl c 2 (l.map En.row) none] [] (.bool true) [] :=
  smF_2 b c (l.map En.row) (sm_rounds b c l hl l.length 0 (by omega)).trip (bne_eq_false_iff_eq.2 rfl)
end Go.L06
