import Derived.Test.YtkecmndppllijaaDoorL01Y
set_option linter.unusedVariables false
set_option linter.unusedSimpArgs false
set_option maxRecDepth 100000
namespace Go.L01
open Go Go.Abs Go.Proofs

theorem fdN {m : Nat} (d : Nat) : Int.fdiv (m : Int) (d : Int) = ((m / d : Nat) : Int) := by
  rw [Int.fdiv_eq_ediv_of_nonneg _ (by omega)]; rfl
theorem shr_val (n : Nat) {i : Nat} (hi : i ≤ 8) : Int.fdiv (n : Int) (2 ^ min (Int.toNat (IntKind.wrap .i64 (8 * (i : Int)))) 64) = ((n / 2 ^ (8 * i) : Nat) : Int) := by
  rw [wrapS (n := 8 * (i : Int)) (by omega) (by omega)]
  have e : min (8 * (i : Int)).toNat 64 = 8 * i := by omega
  rw [e, show (2 : Int) ^ (8 * i) = ((2 ^ (8 * i) : Nat) : Int) by simp]
  exact fdN _
theorem wi {i : Nat} (h : i < 1000) : IntKind.wrap .i64 ((i : Int) + 1) = ((i + 1 : Nat) : Int) := by rw [wrapS (by omega) (by omega)]; omega
/-- the bytes of a number, the first ones counting least -/
def fxb (n k : Nat) : List UInt8 := (List.range k).map fun j => UInt8.ofNat (n / 2 ^ (8 * j))
theorem fxb_len (n k : Nat) : (fxb n k).length = k := by simp [fxb]
def rowsAt (n i k : Nat) : List (List AVal) := (List.range k).map fun j => brow (if j < i then n / 2 ^ (8 * j) % 256 else 0)
theorem rowsAt_len (n i k : Nat) : (rowsAt n i k).length = k := by simp [rowsAt]
theorem rowsAt_set (n i k : Nat) (h : i < k) : (rowsAt n i k).set i (setCells ((rowsAt n i k).getD i []) 0 [.int .u8 (IntKind.wrap .u8 ((n / 2 ^ (8 * i) : Nat) : Int))]) = rowsAt n (i + 1) k := by
  have e : setCells ((rowsAt n i k).getD i []) 0 [AVal.int .u8 (IntKind.wrap .u8 ((n / 2 ^ (8 * i) : Nat) : Int))] = brow (n / 2 ^ (8 * i) % 256) := by
    rw [List.getD_eq_getElem?_getD, List.getElem?_eq_getElem (by rw [rowsAt_len]; exact h)]
    simp only [rowsAt, List.getElem_map, List.getElem_range, Option.getD_some]
    rw [wrapU8]
    rfl
  rw [e]
  apply List.ext_getElem
  · simp [rowsAt]
  · intro j h1 h2
    rw [List.getElem_set]
    by_cases c : i = j
    · subst c
      rw [if_pos rfl]
      simp [rowsAt]
    · rw [if_neg c]
      simp only [rowsAt, List.getElem_map, List.getElem_range]
      by_cases d : j < i
      · rw [if_pos d, if_pos (by omega)]
      · rw [if_neg d, if_neg (by omega)]
theorem rowsAt_all (n k : Nat) : rowsAt n k k = (fxb n k).map fun b => brow b.toNat := by
  unfold rowsAt fxb
  rw [List.map_map]
  apply List.map_congr_left
  intro j hj
  rw [if_pos (List.mem_range.1 hj)]
  simp only [Function.comp, UInt8.toNat_ofNat']
theorem rowsAt_zero (n k : Nat) : rowsAt n 0 k = List.replicate k (brow 0) := by
  unfold rowsAt
  apply List.ext_getElem <;> simp
theorem pf_rounds (n k : Nat) (hk : k ≤ 8) (cap : Option Nat) : ∀ (d i : Nat), i + d = k →
    LoopRun Tryd.prog 0 (loopNo Tryd.f11 0) (rgFx n k i (rowsAt n i k).length cap) [.rows true 1 (rowsAt n i k)] (.exit 0) (rgFx n k k (rowsAt n k k).length cap) [.rows true 1 (rowsAt n k k)]
  | 0, i, hi => by
    obtain rfl : i = k := by omega
    refine .done (TripN.wp (pfl_wp _ _ _ _ _ ?_)) (by simp)
    unfold pfl_T
    exact ⟨fun h => absurd (of_decide_eq_true h) (by omega), fun _ => ⟨rfl, rfl, rfl⟩⟩
  | d + 1, i, hi => by
    refine .more (TripN.wp (pfl_wp _ _ _ _ _ ?_)) (pf_rounds n k hk cap d (i + 1) (by omega))
    unfold pfl_T
    rw [shr_val n (by omega), wi (by omega), Int.toNat_natCast, rowsAt_set n i k (by omega), rowsAt_len, rowsAt_len]
    refine ⟨fun _ => ⟨decide_eq_true (by rw [wrapS (by omega) (by omega)]; omega), decide_eq_true (by omega), decide_eq_true (by omega), rfl, rfl, rfl⟩, fun h => absurd (of_decide_eq_false h) (by omega)⟩
def fits (n k : Int) : Prop := 1 ≤ k ∧ k ≤ 8 ∧ 0 ≤ n ∧ (k = 8 ∨ n.toNat < 2 ^ (8 * k.toNat))
theorem pfix_ok (n k : Nat) (h1 : 1 ≤ k) (h8 : k ≤ 8) (hs : k = 8 ∨ n < 2 ^ (8 * k)) : FOk Tryd.prog 11 [.int .i64 (n : Int), .int .i64 (k : Int)] [] (.tuple [.str (bS (fxb n k)), .int .i64 0]) [] := by
  have r := (pf_rounds n k h8 (some k) k 0 (by omega)).trip
  rw [rowsAt_zero, rowsAt_all, List.length_replicate, List.length_map, fxb_len] at r
  have hl : ((fxb n k).map fun b => brow b.toNat).length = k := by rw [List.length_map, fxb_len]
  have a1 : (((fxb n k).map fun b => brow b.toNat).all fun r => r.all oneCell) = true := by rw [List.all_map]; exact List.all_eq_true.2 fun b _ => rfl
  have a2 : (((fxb n k).map fun b => brow b.toNat).all fun r => areKinds [.int .u8] r) = true := by rw [List.all_map]; exact List.all_eq_true.2 fun b _ => rfl
  refine FOk.wp (pfix_wp n k ((fxb n k).map fun b => brow b.toNat) ?_)
  unfold pfix_T
  rw [shr_val n (by omega), List.take_length, hl, rowBytes_map, Int.toNat_natCast]
  refine ⟨fun c => absurd (of_decide_eq_true c) (by omega), fun _ => ⟨fun c => absurd (of_decide_eq_true c) (by omega), fun _ => ⟨fun c => absurd (of_decide_eq_true c) (by omega), fun _ => ⟨fun c => ⟨decide_eq_true (by rw [wrapS (by omega) (by omega)]; omega), fun d => ?_, fun _ => ⟨decide_eq_true (by omega), r, a1, decide_eq_true (by omega), a2, rfl, rfl⟩⟩, fun _ => ⟨decide_eq_true (by omega), r, a1, decide_eq_true (by omega), a2, rfl, rfl⟩⟩⟩⟩⟩
  exfalso
  have c := of_decide_eq_true c
  have hn : n < 2 ^ (8 * k) := by omega
  rw [Nat.div_eq_of_lt hn] at d
  simp at d
theorem pfix_no (n k : Int) (h : ¬ fits n k) : FOk Tryd.prog 11 [.int .i64 n, .int .i64 k] [] (.tuple [.str ⟨#[]⟩, .int .i64 1]) [] := by
  by_cases h1 : k < 1
  · exact pfix_1 n k [] (decide_eq_true h1)
  by_cases h2 : k > 8
  · exact pfix_2 n k [] (decide_eq_true h2) (decide_eq_false h1)
  by_cases h3 : n < 0
  · exact pfix_3 n k [] (decide_eq_true h3) (decide_eq_false h2) (decide_eq_false h1)
  have h4 : k < 8 := by
    apply Classical.byContradiction; intro c; exact h ⟨by omega, by omega, by omega, .inl (by omega)⟩
  obtain ⟨m, rfl⟩ : ∃ m : Nat, n = m := ⟨n.toNat, by omega⟩
  obtain ⟨j, rfl⟩ : ∃ j : Nat, k = j := ⟨k.toNat, by omega⟩
  have h5 : ¬ m < 2 ^ (8 * j) := fun c => h ⟨by omega, by omega, by omega, .inr (by simpa using c)⟩
  refine pfix_4 m j [] ?_ (decide_eq_true (by rw [wrapS (by omega) (by omega)]; omega)) (decide_eq_true h4) (decide_eq_false h3) (decide_eq_false h2) (decide_eq_false h1)
  rw [shr_val m (by omega)]
  have : 0 < m / 2 ^ (8 * j) := Nat.div_pos (by omega) (Nat.two_pow_pos _)
  rw [bne_iff_ne]
  omega
/-! ## The document's -/
theorem and255 {m : Nat} (h : m < 2 ^ 63) : bits .and .i64 (m : Int) 255 = ((m % 256 : Nat) : Int) := by
  have h2 : bits .and .i64 (m : Int) 255 = IntKind.wrap .i64 (((BitVec.ofInt 64 (m : Int)) &&& (BitVec.ofInt 64 255)).toNat : Int) := rfl
  have e : ((BitVec.ofInt 64 (m : Int)) &&& (BitVec.ofInt 64 255)).toNat = m % 256 := by
    rw [BitVec.toNat_and]
    simp only [BitVec.ofInt_natCast, BitVec.toNat_ofNat]
    rw [Nat.mod_eq_of_lt (by omega)]
    show m &&& (2 ^ 8 - 1) = m % 2 ^ 8
    exact Nat.and_two_pow_sub_one_eq_mod m 8
  rw [h2, e]
  exact wrapS (by omega) (by omega)
theorem fxb_succ (n i : Nat) : fxb n (i + 1) = fxb n i ++ [UInt8.ofNat (n / 2 ^ (8 * i))] := by
  unfold fxb
  rw [List.range_succ, List.map_append]
  rfl
theorem rpf_rounds (n k : Nat) (hk : k ≤ 8) (hn : n < 2 ^ 63) : ∀ (d i : Nat), i + d = k →
    LoopRun Tryd.prog 0 (loopNo Tryd.f15 0) (rgFr n k i (i == 0) ((fxb n i).map fun b => brow b.toNat).length) [.rows true 1 ((fxb n i).map fun b => brow b.toNat)] (.exit 0) (rgFr n k k (k == 0) ((fxb n k).map fun b => brow b.toNat).length) [.rows true 1 ((fxb n k).map fun b => brow b.toNat)]
  | 0, i, hi => by
    obtain rfl : i = k := by omega
    refine .done (TripN.wp (rpfl_wp _ _ _ _ _ ?_)) (by simp)
    unfold rpfl_T
    exact ⟨fun h => absurd (of_decide_eq_true h) (by omega), fun _ => ⟨rfl, rfl, rfl⟩⟩
  | d + 1, i, hi => by
    refine .more (TripN.wp (rpfl_wp _ _ _ _ _ ?_)) (rpf_rounds n k hk hn d (i + 1) (by omega))
    unfold rpfl_T
    have hl : n / 2 ^ (8 * i) < 2 ^ 63 := Nat.lt_of_le_of_lt (Nat.div_le_self _ _) hn
    rw [shr_val n (by omega), wi (by omega), and255 hl, wrapU8, fxb_succ]
    have e : ((n / 2 ^ (8 * i) % 256 : Nat) : Int) % 256 = (((UInt8.ofNat (n / 2 ^ (8 * i))).toNat : Nat) : Int) := by rw [UInt8.toNat_ofNat']; omega
    rw [e]
    refine ⟨fun _ => ⟨decide_eq_true (by rw [wrapS (by omega) (by omega)]; omega), decide_eq_true (by rw [List.length_map, fxb_len]; omega), rfl, ?_, ?_⟩, fun h => absurd (of_decide_eq_false h) (by omega)⟩
    · simp [rgFr, fxb_len]
    · simp
theorem rpfix_ok (n k : Nat) (h1 : 1 ≤ k) (h8 : k ≤ 8) (hn : n < 2 ^ 63) (hs : k = 8 ∨ n < 2 ^ (8 * k)) : FOk Tryd.prog 15 [.int .i64 (n : Int), .int .i64 (k : Int)] [] (.tuple [.str (bS (fxb n k)), .int .i64 0]) [] := by
  have r := (rpf_rounds n k h8 hn k 0 (by omega)).trip
  have hl : ((fxb n k).map fun b => brow b.toNat).length = k := by rw [List.length_map, fxb_len]
  have a1 : (((fxb n k).map fun b => brow b.toNat).all fun r => r.all oneCell) = true := by rw [List.all_map]; exact List.all_eq_true.2 fun b _ => rfl
  have a2 : (((fxb n k).map fun b => brow b.toNat).all fun r => areKinds [.int .u8] r) = true := by rw [List.all_map]; exact List.all_eq_true.2 fun b _ => rfl
  refine FOk.wp (rpfix_wp n k (k == 0) ((fxb n k).map fun b => brow b.toNat) ?_)
  unfold rpfix_T
  rw [shr_val n (by omega), List.take_length, rowBytes_map]
  refine ⟨fun c => absurd (of_decide_eq_true c) (by omega), fun _ => ⟨fun c => absurd (of_decide_eq_true c) (by omega), fun _ => ⟨fun c => absurd (of_decide_eq_true c) (by omega), fun _ => ⟨fun c => ⟨decide_eq_true (by rw [wrapS (by omega) (by omega)]; omega), fun d => ?_, fun _ => ⟨r, a1, decide_eq_true (by omega), a2, rfl, rfl⟩⟩, fun _ => ⟨r, a1, decide_eq_true (by omega), a2, rfl, rfl⟩⟩⟩⟩⟩
  exfalso
  have c := of_decide_eq_true c
  have hn : n < 2 ^ (8 * k) := by omega
  rw [Nat.div_eq_of_lt hn] at d
  simp at d
theorem rpfix_no (n k : Int) (h : ¬ fits n k) : FOk Tryd.prog 15 [.int .i64 n, .int .i64 k] [] (.tuple [.str ⟨#[]⟩, .int .i64 1]) [] := by
  by_cases h1 : k < 1
  · exact rpfix_1 n k true [] (decide_eq_true h1)
  by_cases h2 : k > 8
  · exact rpfix_2 n k true [] (decide_eq_true h2) (decide_eq_false h1)
  by_cases h3 : n < 0
  · exact rpfix_3 n k true [] (decide_eq_true h3) (decide_eq_false h2) (decide_eq_false h1)
  have h4 : k < 8 := by
    apply Classical.byContradiction; intro c; exact h ⟨by omega, by omega, by omega, .inl (by omega)⟩
  obtain ⟨m, rfl⟩ : ∃ m : Nat, n = m := ⟨n.toNat, by omega⟩
  obtain ⟨j, rfl⟩ : ∃ j : Nat, k = j := ⟨k.toNat, by omega⟩
  have h5 : ¬ m < 2 ^ (8 * j) := fun c => h ⟨by omega, by omega, by omega, .inr (by simpa using c)⟩
  refine rpfix_4 m j true [] ?_ (decide_eq_true (by rw [wrapS (by omega) (by omega)]; omega)) (decide_eq_true h4) (decide_eq_false h3) (decide_eq_false h2) (decide_eq_false h1)
  rw [shr_val m (by omega)]
  have : 0 < m / 2 ^ (8 * j) := Nat.div_pos (by omega) (Nat.two_pow_pos _)
  exact decide_eq_true (by omega)
/-! ## Fixed -/
theorem fd_rounds (n k : Nat) (s : ByteArray) (hk : k ≤ 8) (hs : k ≤ s.size) (hb : ∀ j, j < k → ((lB s).getD j 0) = UInt8.ofNat (n / 2 ^ (8 * j))) : ∀ (d i : Nat), i + d = k →
    LoopRun Tryd.prog 0 (loopNo Tryd.f16 0) (rgFd s ((n % 2 ^ (8 * i) : Nat) : Int) k i) [] (.exit 0) (rgFd s ((n % 2 ^ (8 * k) : Nat) : Int) k k) []
  | 0, i, hi => by
    obtain rfl : i = k := by omega
    refine .done (TripN.wp (fdl_wp _ _ _ _ ?_)) (by simp)
    unfold fdl_T
    exact ⟨fun h => absurd (of_decide_eq_true h) (by omega), fun _ => ⟨rfl, rfl, rfl⟩⟩
  | d + 1, i, hi => by
    refine .more (TripN.wp (fdl_wp _ _ _ _ ?_)) (fd_rounds n k s hk hs hb d (i + 1) (by omega))
    unfold fdl_T
    have hp := Nat.two_pow_pos (8 * i)
    have e1 : min (Int.toNat (IntKind.wrap .i64 (8 * (i : Int)))) 64 = 8 * i := by rw [wrapS (by omega) (by omega)]; omega
    have e2 : (2 : Int) ^ (8 * i) = ((2 ^ (8 * i) : Nat) : Int) := by simp
    have st := stage (a := n % 2 ^ (8 * i)) (b := n / 2 ^ (8 * i) % 256) (k := 8 * i) (Nat.mod_lt _ hp) (Nat.mod_lt _ (by decide)) (by omega) _ rfl
    have e3 : n % 2 ^ (8 * i) + n / 2 ^ (8 * i) % 256 * 2 ^ (8 * i) = n % 2 ^ (8 * (i + 1)) := by
      rw [show 8 * (i + 1) = 8 * i + 8 by omega, Nat.pow_add, Nat.mod_mul, Nat.mul_comm (2 ^ (8 * i))]
    rw [byteAt_lB, Int.toNat_natCast, hb i (by omega), UInt8.toNat_ofNat', e1, e2, st, e3, wi (by omega)]
    exact ⟨fun _ => ⟨decide_eq_true (by omega), decide_eq_true (by rw [wrapS (by omega) (by omega)]; omega), rfl, rfl, rfl⟩, fun h => absurd (of_decide_eq_false h) (by omega)⟩
theorem fixed_ok (n k : Nat) (t : ByteArray) (h1 : 1 ≤ k) (h8 : k ≤ 8) (hn : n < 2 ^ 63) (hs : k = 8 ∨ n < 2 ^ (8 * k)) : FOk Tryd.prog 16 [.str (bS (fxb n k) ++ t), .int .i64 (k : Int)] [] (.tuple [.int .i64 (n : Int), .int .i64 0]) [] := by
  have hsz : (bS (fxb n k) ++ t).size = k + t.size := by rw [ByteArray.size_append, bS_size, fxb_len]
  have r := (fd_rounds n k (bS (fxb n k) ++ t) h8 (by omega) (fun j hj => by
    rw [lB_append, lB_bS, List.getD_eq_getElem?_getD, List.getElem?_append_left (by rw [fxb_len]; exact hj)]
    simp [fxb, hj]) k 0 (by omega)).trip
  have em : n % 2 ^ (8 * k) = n := by
    apply Nat.mod_eq_of_lt
    rcases hs with rfl | h
    · exact Nat.lt_of_lt_of_le hn (by decide)
    · exact h
  rw [em, show n % 2 ^ (8 * 0) = 0 by simp [Nat.mod_one]] at r
  refine FOk.wp (fixd_wp _ (n : Int) k ?_)
  unfold fixd_T
  rw [show Int.fdiv (n : Int) 9223372036854775808 = ((n / 9223372036854775808 : Nat) : Int) from fdN 9223372036854775808, Nat.div_eq_of_lt (by omega), hsz]
  exact ⟨fun c => absurd (of_decide_eq_true c) (by omega), fun _ => ⟨fun c => absurd (of_decide_eq_true c) (by omega), fun _ => ⟨fun c => absurd (of_decide_eq_true c) (by omega), fun _ => ⟨r, fun c => absurd c (by simp), fun _ => ⟨by rw [wrapS (by omega) (by omega)], rfl⟩⟩⟩⟩⟩
end Go.L01
