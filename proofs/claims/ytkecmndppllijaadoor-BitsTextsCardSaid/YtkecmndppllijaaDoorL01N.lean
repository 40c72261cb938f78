import Derived.Test.YtkecmndppllijaaDoorL01M
import Derived.Test.YtkecmndppllijaaDoorAbsVar
set_option linter.unusedVariables false
set_option linter.unusedSimpArgs false
set_option maxRecDepth 100000
namespace Go.L01
open Go Go.Abs Go.Proofs

abbrev vrows (n : Nat) : List (List AVal) := (vbl n).map fun b => brow b.toNat
theorem vrows_ge {n : Nat} (h : 128 ≤ n) : vrows n = brow (n % 128 + 128) :: vrows (n / 128) := by
  unfold vrows
  rw [vbl_ge h, List.map_cons]
  congr 3
  rw [UInt8.toNat_ofNat']; omega
theorem vrows_lt {n : Nat} (h : n < 128) : vrows n = [brow n] := by
  unfold vrows
  rw [vbl_lt h, List.map_cons, List.map_nil]
  congr 3
  rw [UInt8.toNat_ofNat']; omega
theorem fdiv128 (n : Nat) : Int.fdiv (n : Int) 128 = ((n / 128 : Nat) : Int) := by
  rw [Int.fdiv_eq_ediv_of_nonneg _ (by omega)]; omega
theorem tdiv128 (n : Nat) : Int.tdiv (n : Int) 128 = ((n / 128 : Nat) : Int) := by
  rw [Int.tdiv_eq_ediv_of_nonneg (by omega)]; omega
theorem tmod128 (n : Nat) : Int.tmod (n : Int) 128 = ((n % 128 : Nat) : Int) := by
  rw [Int.tmod_eq_emod_of_nonneg (by omega)]; omega

theorem pv_rounds : ∀ (n : Nat), n < 2 ^ 63 → ∀ (b : Bool) (rs : List (List AVal)), rs.length < 1000 → (n ≠ 0 → rs.length + (vbl n).length ≤ 1000) → ∃ m b' rs', LoopRun Tryd.prog 0 (loopNo Tryd.f12 0) (rgPV n b rs.length) [.rows true 1 rs] (.exit 0) (rgPV ((m : Nat) : Int) b' rs'.length) [.rows true 1 rs'] ∧
    rs' ++ [brow m] = rs ++ vrows n ∧ m < 128 := by
  intro n
  induction n using Nat.strongRecOn with
  | _ n ih =>
    intro hn b rs h1 h2
    by_cases hlt : n < 128
    · refine ⟨n, b, rs, .done (TripN.wp (pv_wp n b rs ?_)) (by simp), by rw [vrows_lt hlt], hlt⟩
      unfold pv_T
      exact ⟨fun h => absurd (of_decide_eq_true h) (by omega), fun _ => ⟨rfl, rfl, rfl⟩⟩
    · have hl : (vbl n).length = (vbl (n / 128)).length + 1 := by rw [vbl_ge (by omega)]; rfl
      have := h2 (by omega)
      have hpos : 0 < (vbl (n / 128)).length := List.length_pos_iff.2 (vbl_ne _)
      obtain ⟨m, b', rs', r, e, hm⟩ := ih (n / 128) (by omega) (by omega) (b && false) (rs ++ [brow (n % 128 + 128)]) (by simp; omega) (fun _ => by simp; omega)
      refine ⟨m, b', rs', .more (TripN.wp (pv_wp n b rs ?_)) r, by rw [e, vrows_ge (n := n) (by omega)]; simp, hm⟩
      unfold pv_T
      refine ⟨fun _ => ⟨decide_eq_true ⟨by omega, by omega⟩, ?_⟩, fun h => absurd (of_decide_eq_false h) (by omega)⟩
      rw [or_u8, fdiv128]
      exact ⟨rfl, by simp [rgPV], rfl⟩
theorem rpv_rounds : ∀ (n : Nat), n < 2 ^ 63 → ∀ (b : Bool) (rs : List (List AVal)), rs.length < 1000 → (n ≠ 0 → rs.length + (vbl n).length ≤ 1000) → ∃ m b' rs', LoopRun Tryd.prog 0 (loopNo Tryd.f13 0) (rgRV n b rs.length) [.rows true 1 rs] (.exit 0) (rgRV ((m : Nat) : Int) b' rs'.length) [.rows true 1 rs'] ∧
    rs' ++ [brow m] = rs ++ vrows n ∧ m < 128 := by
  intro n
  induction n using Nat.strongRecOn with
  | _ n ih =>
    intro hn b rs h1 h2
    by_cases hlt : n < 128
    · refine ⟨n, b, rs, .done (TripN.wp (rpv_wp n b rs ?_)) (by simp), by rw [vrows_lt hlt], hlt⟩
      unfold rpv_T
      exact ⟨fun h => absurd (of_decide_eq_true h) (by omega), fun _ => ⟨rfl, rfl, rfl⟩⟩
    · have hl : (vbl n).length = (vbl (n / 128)).length + 1 := by rw [vbl_ge (by omega)]; rfl
      have := h2 (by omega)
      have hpos : 0 < (vbl (n / 128)).length := List.length_pos_iff.2 (vbl_ne _)
      obtain ⟨m, b', rs', r, e, hm⟩ := ih (n / 128) (by omega) (by omega) (b && false) (rs ++ [brow (n % 128 + 128)]) (by simp; omega) (fun _ => by simp; omega)
      refine ⟨m, b', rs', .more (TripN.wp (rpv_wp n b rs ?_)) r, by rw [e, vrows_ge (n := n) (by omega)]; simp, hm⟩
      unfold rpv_T
      refine ⟨fun _ => ⟨decide_eq_true ⟨by omega, by omega⟩, ?_⟩, fun h => absurd (of_decide_eq_false h) (by omega)⟩
      rw [tdiv128, tmod128, wrapS (n := 128 + _) (by omega) (by omega), wrapU8, wrapS (by omega) (by omega), show (128 + ((n % 128 : Nat) : Int)) % 256 = ((n % 128 + 128 : Nat) : Int) by omega]
      exact ⟨rfl, by simp [rgRV], rfl⟩

theorem rows_fine {rs : List (List AVal)} {m n : Nat} (hm : m < 128) (e : rs ++ [brow m] = vrows n) : (rs ++ [[.int .u8 (IntKind.wrap .u8 (m : Int))]]) = vrows n ∧ (rs ++ [[AVal.int .u8 (IntKind.wrap .u8 (m : Int))]]).take (rs.length + 1) = vrows n := by
  have e2 : (rs ++ [[AVal.int .u8 (IntKind.wrap .u8 (m : Int))]]) = vrows n := by rw [← e, wrapU8, show (m : Int) % 256 = (m : Int) by omega]
  exact ⟨e2, by rw [e2, List.take_of_length_le]; rw [← e]; simp⟩
theorem vrows_all (n : Nat) : ((vrows n).all fun r => r.all oneCell) = true ∧ ((vrows n).all fun r => areKinds [.int .u8] r) = true := by
  constructor <;> (unfold vrows; rw [List.all_map]; exact List.all_eq_true.2 fun b _ => rfl)
theorem putv_ok (n : Int) (h0 : 0 ≤ n) (h1 : n < 9223372036854775808) : FOk Tryd.prog 12 [.int .i64 n] [] (.tuple [.str (bS (vbl n.toNat)), .int .i64 0]) [] := by
  obtain ⟨k, rfl⟩ : ∃ k : Nat, n = (k : Int) := ⟨n.toNat, by omega⟩
  have hk : k < 2 ^ 63 := by omega
  have h9 := vbl_len9 hk
  obtain ⟨m, b, rs, r, e, hm⟩ := pv_rounds k hk true [] (by simp) (fun _ => by simp; omega)
  rw [List.nil_append] at e
  obtain ⟨e1, e2⟩ := rows_fine hm e
  have hl : rs.length + 1 = (vbl k).length := by have := congrArg List.length e; simpa using this
  obtain ⟨a1, a2⟩ := vrows_all k
  refine FOk.wp (putv_wp k m b rs ?_)
  unfold putv_T
  rw [e2, e1]
  refine ⟨fun h => absurd (of_decide_eq_true h) (by omega), fun _ => ⟨r.trip, decide_eq_true ⟨by omega, by omega⟩, a1, decide_eq_true (by simp [vrows]; omega), a2, ?_, rfl⟩⟩
  rw [rowBytes_map, Int.toNat_natCast]
theorem putv_neg (n : Int) (h0 : n < 0) : FOk Tryd.prog 12 [.int .i64 n] [] (.tuple [.str (bS []), .int .i64 1]) [] :=
  putv_1 n 0 true [] (decide_eq_true h0)
theorem rputv_ok (n : Int) (h0 : 0 ≤ n) (h1 : n < 9223372036854775808) : FOk Tryd.prog 13 [.int .i64 n] [] (.tuple [.str (bS (vbl n.toNat)), .int .i64 0]) [] := by
  obtain ⟨k, rfl⟩ : ∃ k : Nat, n = (k : Int) := ⟨n.toNat, by omega⟩
  have hk : k < 2 ^ 63 := by omega
  have h9 := vbl_len9 hk
  obtain ⟨m, b, rs, r, e, hm⟩ := rpv_rounds k hk true [] (by simp) (fun _ => by simp; omega)
  rw [List.nil_append] at e
  obtain ⟨e1, e2⟩ := rows_fine hm e
  have hl : rs.length + 1 = (vbl k).length := by have := congrArg List.length e; simpa using this
  obtain ⟨a1, a2⟩ := vrows_all k
  refine FOk.wp (rputv_wp k m b rs ?_)
  unfold rputv_T
  rw [e2, e1]
  refine ⟨fun h => absurd (of_decide_eq_true h) (by omega), fun _ => ⟨r.trip, decide_eq_true ⟨by omega, by omega⟩, a1, decide_eq_true (by simp [vrows]; omega), a2, ?_, rfl⟩⟩
  rw [rowBytes_map, Int.toNat_natCast]
theorem rputv_neg (n : Int) (h0 : n < 0) : FOk Tryd.prog 13 [.int .i64 n] [] (.tuple [.str (bS []), .int .i64 1]) [] :=
  rputv_1 n 0 true [] (decide_eq_true h0)

def rgVa (s : ByteArray) (n k i : Int) : Regs := mkR 41 [(0, .str s), (2, .int .i64 n), (8, .int .i64 k), (9, .int .i64 i)]
theorem va_1 (s : ByteArray) (n : Int) (k : Int) (i : Int)
    (h1 : decide (i > 0) = true)
    (h2 : (byteAt s i == 0) = true)
    (h3 : decide (0 ≤ i ∧ i < (↑(ByteArray.size s) : Int)) = true)
    (h4 : decide (byteAt s i < 128) = true)
    (h5 : decide (0 ≤ IntKind.wrap IntKind.i64 (7 * i)) = true)
    (h6 : decide (i < k) = true) :
    TripN Tryd.prog 0 (loopNo Tryd.f14 0) (rgVa s n k i) ([]) (AExit.ret) (mkR 41 [(2, AVal.int IntKind.i64 0), (3, AVal.int IntKind.i64 0), (4, AVal.int IntKind.i64 10)]) ([]) :=
  evalT (st := St.mk (rgVa s n k i) ([]) ([Dec.br true, Dec.br true, Dec.br true, Dec.br true]) []) (st' := St.mk (mkR 41 [(0, AVal.str s), (2, AVal.int IntKind.i64 0), (3, AVal.int IntKind.i64 0), (4, AVal.int IntKind.i64 10), (5, AVal.int IntKind.i64 i), (8, AVal.int IntKind.i64 k), (9, AVal.int IntKind.i64 i), (10, AVal.tt true), (11, AVal.int IntKind.i64 i), (12, AVal.int IntKind.i64 n), (13, AVal.str s), (14, AVal.int IntKind.i64 i), (15, AVal.int IntKind.u8 (byteAt s i)), (16, AVal.int IntKind.u8 (bits BinOp.and IntKind.u8 (byteAt s i) 127)), (17, AVal.int IntKind.i64 (IntKind.wrap IntKind.i64 (bits BinOp.and IntKind.u8 (byteAt s i) 127))), (18, AVal.int IntKind.i64 i), (19, AVal.int IntKind.i64 (IntKind.wrap IntKind.i64 (7 * i))), (20, AVal.int IntKind.i64 (IntKind.wrap IntKind.i64 (IntKind.wrap IntKind.i64 (bits BinOp.and IntKind.u8 (byteAt s i) 127) * 2 ^ min (Int.toNat (IntKind.wrap IntKind.i64 (7 * i))) 64))), (21, AVal.int IntKind.i64 (bits BinOp.or IntKind.i64 n (IntKind.wrap IntKind.i64 (IntKind.wrap IntKind.i64 (bits BinOp.and IntKind.u8 (byteAt s i) 127) * 2 ^ min (Int.toNat (IntKind.wrap IntKind.i64 (7 * i))) 64)))), (22, AVal.str s), (23, AVal.int IntKind.i64 i), (24, AVal.int IntKind.u8 (byteAt s i)), (25, AVal.tt true), (26, AVal.str s), (27, AVal.int IntKind.i64 i), (28, AVal.int IntKind.u8 (byteAt s i)), (29, AVal.bool (byteAt s i == 0)), (30, AVal.tt true), (31, AVal.int IntKind.i64 i), (32, AVal.bool (decide (i > 0))), (33, AVal.tt true)]) ([]) ([]) ((decide (i > 0) = true) :: (((byteAt s i == 0) = true) :: ((decide (0 ≤ i ∧ i < (↑(ByteArray.size s) : Int)) = true) :: ((decide (byteAt s i < 128) = true) :: ((decide (0 ≤ i ∧ i < (↑(ByteArray.size s) : Int)) = true) :: ((decide (0 ≤ IntKind.wrap IntKind.i64 (7 * i)) = true) :: ((decide (0 ≤ i ∧ i < (↑(ByteArray.size s) : Int)) = true) :: ((decide (i < k) = true) :: []))))))))) followed (by kernel_rfl) (allP_of ⟨h1, ⟨h2, ⟨h3, ⟨h4, ⟨h3, ⟨h5, ⟨h3, ⟨h6, trivial⟩⟩⟩⟩⟩⟩⟩⟩) (keepM 41 [2, 3, 4]) ([]) (by kernel_rfl) (by kernel_rfl) (by kernel_rfl)

theorem va_2 (s : ByteArray) (n : Int) (k : Int) (i : Int)
    (h1 : decide (i > 0) = false)
    (h2 : (byteAt s i == 0) = true)
    (h3 : decide (0 ≤ i ∧ i < (↑(ByteArray.size s) : Int)) = true)
    (h4 : decide (byteAt s i < 128) = true)
    (h5 : decide (0 ≤ IntKind.wrap IntKind.i64 (7 * i)) = true)
    (h6 : decide (i < k) = true) :
    TripN Tryd.prog 0 (loopNo Tryd.f14 0) (rgVa s n k i) ([]) (AExit.ret) (mkR 41 [(2, AVal.int IntKind.i64 (bits BinOp.or IntKind.i64 n (IntKind.wrap IntKind.i64 (IntKind.wrap IntKind.i64 (bits BinOp.and IntKind.u8 (byteAt s i) 127) * 2 ^ min (Int.toNat (IntKind.wrap IntKind.i64 (7 * i))) 64)))), (3, AVal.int IntKind.i64 (IntKind.wrap IntKind.i64 (i + 1))), (4, AVal.int IntKind.i64 0)]) ([]) :=
  evalT (st := St.mk (rgVa s n k i) ([]) ([Dec.br true, Dec.br true, Dec.br true, Dec.br false]) []) (st' := St.mk (mkR 41 [(0, AVal.str s), (2, AVal.int IntKind.i64 (bits BinOp.or IntKind.i64 n (IntKind.wrap IntKind.i64 (IntKind.wrap IntKind.i64 (bits BinOp.and IntKind.u8 (byteAt s i) 127) * 2 ^ min (Int.toNat (IntKind.wrap IntKind.i64 (7 * i))) 64)))), (3, AVal.int IntKind.i64 (IntKind.wrap IntKind.i64 (i + 1))), (4, AVal.int IntKind.i64 0), (5, AVal.int IntKind.i64 i), (8, AVal.int IntKind.i64 k), (9, AVal.int IntKind.i64 i), (10, AVal.tt true), (11, AVal.int IntKind.i64 i), (12, AVal.int IntKind.i64 n), (13, AVal.str s), (14, AVal.int IntKind.i64 i), (15, AVal.int IntKind.u8 (byteAt s i)), (16, AVal.int IntKind.u8 (bits BinOp.and IntKind.u8 (byteAt s i) 127)), (17, AVal.int IntKind.i64 (IntKind.wrap IntKind.i64 (bits BinOp.and IntKind.u8 (byteAt s i) 127))), (18, AVal.int IntKind.i64 i), (19, AVal.int IntKind.i64 (IntKind.wrap IntKind.i64 (7 * i))), (20, AVal.int IntKind.i64 (IntKind.wrap IntKind.i64 (IntKind.wrap IntKind.i64 (bits BinOp.and IntKind.u8 (byteAt s i) 127) * 2 ^ min (Int.toNat (IntKind.wrap IntKind.i64 (7 * i))) 64))), (21, AVal.int IntKind.i64 (bits BinOp.or IntKind.i64 n (IntKind.wrap IntKind.i64 (IntKind.wrap IntKind.i64 (bits BinOp.and IntKind.u8 (byteAt s i) 127) * 2 ^ min (Int.toNat (IntKind.wrap IntKind.i64 (7 * i))) 64)))), (22, AVal.str s), (23, AVal.int IntKind.i64 i), (24, AVal.int IntKind.u8 (byteAt s i)), (25, AVal.tt true), (26, AVal.str s), (27, AVal.int IntKind.i64 i), (28, AVal.int IntKind.u8 (byteAt s i)), (29, AVal.bool (byteAt s i == 0)), (30, AVal.tt true), (31, AVal.int IntKind.i64 i), (32, AVal.bool (decide (i > 0))), (33, AVal.tt false), (34, AVal.int IntKind.i64 (bits BinOp.or IntKind.i64 n (IntKind.wrap IntKind.i64 (IntKind.wrap IntKind.i64 (bits BinOp.and IntKind.u8 (byteAt s i) 127) * 2 ^ min (Int.toNat (IntKind.wrap IntKind.i64 (7 * i))) 64)))), (35, AVal.int IntKind.i64 i), (36, AVal.int IntKind.i64 (IntKind.wrap IntKind.i64 (i + 1)))]) ([]) ([]) ((decide (i > 0) = false) :: (((byteAt s i == 0) = true) :: ((decide (0 ≤ i ∧ i < (↑(ByteArray.size s) : Int)) = true) :: ((decide (byteAt s i < 128) = true) :: ((decide (0 ≤ i ∧ i < (↑(ByteArray.size s) : Int)) = true) :: ((decide (0 ≤ IntKind.wrap IntKind.i64 (7 * i)) = true) :: ((decide (0 ≤ i ∧ i < (↑(ByteArray.size s) : Int)) = true) :: ((decide (i < k) = true) :: []))))))))) followed (by kernel_rfl) (allP_of ⟨h1, ⟨h2, ⟨h3, ⟨h4, ⟨h3, ⟨h5, ⟨h3, ⟨h6, trivial⟩⟩⟩⟩⟩⟩⟩⟩) (keepM 41 [2, 3, 4]) ([]) (by kernel_rfl) (by kernel_rfl) (by kernel_rfl)

theorem va_3 (s : ByteArray) (n : Int) (k : Int) (i : Int)
    (h1 : (byteAt s i == 0) = false)
    (h2 : decide (0 ≤ i ∧ i < (↑(ByteArray.size s) : Int)) = true)
    (h3 : decide (byteAt s i < 128) = true)
    (h4 : decide (0 ≤ IntKind.wrap IntKind.i64 (7 * i)) = true)
    (h5 : decide (i < k) = true) :
    TripN Tryd.prog 0 (loopNo Tryd.f14 0) (rgVa s n k i) ([]) (AExit.ret) (mkR 41 [(2, AVal.int IntKind.i64 (bits BinOp.or IntKind.i64 n (IntKind.wrap IntKind.i64 (IntKind.wrap IntKind.i64 (bits BinOp.and IntKind.u8 (byteAt s i) 127) * 2 ^ min (Int.toNat (IntKind.wrap IntKind.i64 (7 * i))) 64)))), (3, AVal.int IntKind.i64 (IntKind.wrap IntKind.i64 (i + 1))), (4, AVal.int IntKind.i64 0)]) ([]) :=
  evalT (st := St.mk (rgVa s n k i) ([]) ([Dec.br true, Dec.br true, Dec.br false]) []) (st' := St.mk (mkR 41 [(0, AVal.str s), (2, AVal.int IntKind.i64 (bits BinOp.or IntKind.i64 n (IntKind.wrap IntKind.i64 (IntKind.wrap IntKind.i64 (bits BinOp.and IntKind.u8 (byteAt s i) 127) * 2 ^ min (Int.toNat (IntKind.wrap IntKind.i64 (7 * i))) 64)))), (3, AVal.int IntKind.i64 (IntKind.wrap IntKind.i64 (i + 1))), (4, AVal.int IntKind.i64 0), (5, AVal.int IntKind.i64 i), (8, AVal.int IntKind.i64 k), (9, AVal.int IntKind.i64 i), (10, AVal.tt true), (11, AVal.int IntKind.i64 i), (12, AVal.int IntKind.i64 n), (13, AVal.str s), (14, AVal.int IntKind.i64 i), (15, AVal.int IntKind.u8 (byteAt s i)), (16, AVal.int IntKind.u8 (bits BinOp.and IntKind.u8 (byteAt s i) 127)), (17, AVal.int IntKind.i64 (IntKind.wrap IntKind.i64 (bits BinOp.and IntKind.u8 (byteAt s i) 127))), (18, AVal.int IntKind.i64 i), (19, AVal.int IntKind.i64 (IntKind.wrap IntKind.i64 (7 * i))), (20, AVal.int IntKind.i64 (IntKind.wrap IntKind.i64 (IntKind.wrap IntKind.i64 (bits BinOp.and IntKind.u8 (byteAt s i) 127) * 2 ^ min (Int.toNat (IntKind.wrap IntKind.i64 (7 * i))) 64))), (21, AVal.int IntKind.i64 (bits BinOp.or IntKind.i64 n (IntKind.wrap IntKind.i64 (IntKind.wrap IntKind.i64 (bits BinOp.and IntKind.u8 (byteAt s i) 127) * 2 ^ min (Int.toNat (IntKind.wrap IntKind.i64 (7 * i))) 64)))), (22, AVal.str s), (23, AVal.int IntKind.i64 i), (24, AVal.int IntKind.u8 (byteAt s i)), (25, AVal.tt true), (26, AVal.str s), (27, AVal.int IntKind.i64 i), (28, AVal.int IntKind.u8 (byteAt s i)), (29, AVal.bool (byteAt s i == 0)), (30, AVal.tt false), (31, AVal.tuple []), (32, AVal.tuple []), (33, AVal.tt false), (34, AVal.int IntKind.i64 (bits BinOp.or IntKind.i64 n (IntKind.wrap IntKind.i64 (IntKind.wrap IntKind.i64 (bits BinOp.and IntKind.u8 (byteAt s i) 127) * 2 ^ min (Int.toNat (IntKind.wrap IntKind.i64 (7 * i))) 64)))), (35, AVal.int IntKind.i64 i), (36, AVal.int IntKind.i64 (IntKind.wrap IntKind.i64 (i + 1)))]) ([]) ([]) (((byteAt s i == 0) = false) :: ((decide (0 ≤ i ∧ i < (↑(ByteArray.size s) : Int)) = true) :: ((decide (byteAt s i < 128) = true) :: ((decide (0 ≤ i ∧ i < (↑(ByteArray.size s) : Int)) = true) :: ((decide (0 ≤ IntKind.wrap IntKind.i64 (7 * i)) = true) :: ((decide (0 ≤ i ∧ i < (↑(ByteArray.size s) : Int)) = true) :: ((decide (i < k) = true) :: [])))))))) followed (by kernel_rfl) (allP_of ⟨h1, ⟨h2, ⟨h3, ⟨h2, ⟨h4, ⟨h2, ⟨h5, trivial⟩⟩⟩⟩⟩⟩⟩) (keepM 41 [2, 3, 4]) ([]) (by kernel_rfl) (by kernel_rfl) (by kernel_rfl)

theorem va_4 (s : ByteArray) (n : Int) (k : Int) (i : Int)
    (h1 : decide (byteAt s i < 128) = false)
    (h2 : decide (0 ≤ i ∧ i < (↑(ByteArray.size s) : Int)) = true)
    (h3 : decide (0 ≤ IntKind.wrap IntKind.i64 (7 * i)) = true)
    (h4 : decide (i < k) = true) :
    TripN Tryd.prog 0 (loopNo Tryd.f14 0) (rgVa s n k i) ([]) (AExit.normal) (mkR 41 [(0, AVal.str s), (2, AVal.int IntKind.i64 (bits BinOp.or IntKind.i64 n (IntKind.wrap IntKind.i64 (IntKind.wrap IntKind.i64 (bits BinOp.and IntKind.u8 (byteAt s i) 127) * 2 ^ min (Int.toNat (IntKind.wrap IntKind.i64 (7 * i))) 64)))), (8, AVal.int IntKind.i64 k), (9, AVal.int IntKind.i64 (IntKind.wrap IntKind.i64 (i + 1)))]) ([]) :=
  evalT (st := St.mk (rgVa s n k i) ([]) ([Dec.br true, Dec.br false]) []) (st' := St.mk (mkR 41 [(0, AVal.str s), (2, AVal.int IntKind.i64 (bits BinOp.or IntKind.i64 n (IntKind.wrap IntKind.i64 (IntKind.wrap IntKind.i64 (bits BinOp.and IntKind.u8 (byteAt s i) 127) * 2 ^ min (Int.toNat (IntKind.wrap IntKind.i64 (7 * i))) 64)))), (5, AVal.int IntKind.i64 i), (8, AVal.int IntKind.i64 k), (9, AVal.int IntKind.i64 (IntKind.wrap IntKind.i64 (i + 1))), (10, AVal.tt true), (11, AVal.int IntKind.i64 i), (12, AVal.int IntKind.i64 n), (13, AVal.str s), (14, AVal.int IntKind.i64 i), (15, AVal.int IntKind.u8 (byteAt s i)), (16, AVal.int IntKind.u8 (bits BinOp.and IntKind.u8 (byteAt s i) 127)), (17, AVal.int IntKind.i64 (IntKind.wrap IntKind.i64 (bits BinOp.and IntKind.u8 (byteAt s i) 127))), (18, AVal.int IntKind.i64 i), (19, AVal.int IntKind.i64 (IntKind.wrap IntKind.i64 (7 * i))), (20, AVal.int IntKind.i64 (IntKind.wrap IntKind.i64 (IntKind.wrap IntKind.i64 (bits BinOp.and IntKind.u8 (byteAt s i) 127) * 2 ^ min (Int.toNat (IntKind.wrap IntKind.i64 (7 * i))) 64))), (21, AVal.int IntKind.i64 (bits BinOp.or IntKind.i64 n (IntKind.wrap IntKind.i64 (IntKind.wrap IntKind.i64 (bits BinOp.and IntKind.u8 (byteAt s i) 127) * 2 ^ min (Int.toNat (IntKind.wrap IntKind.i64 (7 * i))) 64)))), (22, AVal.str s), (23, AVal.int IntKind.i64 i), (24, AVal.int IntKind.u8 (byteAt s i)), (25, AVal.tt false), (37, AVal.int IntKind.i64 (IntKind.wrap IntKind.i64 (i + 1)))]) ([]) ([]) ((decide (byteAt s i < 128) = false) :: ((decide (0 ≤ i ∧ i < (↑(ByteArray.size s) : Int)) = true) :: ((decide (0 ≤ IntKind.wrap IntKind.i64 (7 * i)) = true) :: ((decide (0 ≤ i ∧ i < (↑(ByteArray.size s) : Int)) = true) :: ((decide (i < k) = true) :: [])))))) followed (by kernel_rfl) (allP_of ⟨h1, ⟨h2, ⟨h3, ⟨h2, ⟨h4, trivial⟩⟩⟩⟩⟩) (keepM 41 [0, 2, 8, 9]) ([]) (by kernel_rfl) (by kernel_rfl) (by kernel_rfl)

theorem va_5 (s : ByteArray) (n : Int) (k : Int) (i : Int)
    (h1 : decide (i < k) = false) :
    TripN Tryd.prog 0 (loopNo Tryd.f14 0) (rgVa s n k i) ([]) (AExit.exit 0) (mkR 41 [(0, AVal.str s), (2, AVal.int IntKind.i64 n), (8, AVal.int IntKind.i64 k), (9, AVal.int IntKind.i64 i)]) ([]) :=
  evalT (st := St.mk (rgVa s n k i) ([]) ([Dec.br false]) []) (st' := St.mk (mkR 41 [(0, AVal.str s), (2, AVal.int IntKind.i64 n), (8, AVal.int IntKind.i64 k), (9, AVal.int IntKind.i64 i), (10, AVal.tt false)]) ([]) ([]) ((decide (i < k) = false) :: [])) followed (by kernel_rfl) (allP_of ⟨h1, trivial⟩) (keepM 41 [0, 2, 8, 9]) ([]) (by kernel_rfl) (by kernel_rfl) (by kernel_rfl)

def va_T (s : ByteArray) (n : Int) (k : Int) (i : Int) (Q : AExit → Regs → AState → Prop) : Prop := ((decide (i < k) = true) → (decide (0 ≤ i ∧ i < (↑(ByteArray.size s) : Int)) = true) ∧ (decide (0 ≤ IntKind.wrap IntKind.i64 (7 * i)) = true) ∧ ((decide (byteAt s i < 128) = true) → (((byteAt s i == 0) = true) → ((decide (i > 0) = true) → Q (AExit.ret) (mkR 41 [(2, AVal.int IntKind.i64 0), (3, AVal.int IntKind.i64 0), (4, AVal.int IntKind.i64 10)]) ([])) ∧ ((decide (i > 0) = false) → Q (AExit.ret) (mkR 41 [(2, AVal.int IntKind.i64 (bits BinOp.or IntKind.i64 n (IntKind.wrap IntKind.i64 (IntKind.wrap IntKind.i64 (bits BinOp.and IntKind.u8 (byteAt s i) 127) * 2 ^ min (Int.toNat (IntKind.wrap IntKind.i64 (7 * i))) 64)))), (3, AVal.int IntKind.i64 (IntKind.wrap IntKind.i64 (i + 1))), (4, AVal.int IntKind.i64 0)]) ([]))) ∧ (((byteAt s i == 0) = false) → Q (AExit.ret) (mkR 41 [(2, AVal.int IntKind.i64 (bits BinOp.or IntKind.i64 n (IntKind.wrap IntKind.i64 (IntKind.wrap IntKind.i64 (bits BinOp.and IntKind.u8 (byteAt s i) 127) * 2 ^ min (Int.toNat (IntKind.wrap IntKind.i64 (7 * i))) 64)))), (3, AVal.int IntKind.i64 (IntKind.wrap IntKind.i64 (i + 1))), (4, AVal.int IntKind.i64 0)]) ([]))) ∧ ((decide (byteAt s i < 128) = false) → Q (AExit.normal) (mkR 41 [(0, AVal.str s), (2, AVal.int IntKind.i64 (bits BinOp.or IntKind.i64 n (IntKind.wrap IntKind.i64 (IntKind.wrap IntKind.i64 (bits BinOp.and IntKind.u8 (byteAt s i) 127) * 2 ^ min (Int.toNat (IntKind.wrap IntKind.i64 (7 * i))) 64)))), (8, AVal.int IntKind.i64 k), (9, AVal.int IntKind.i64 (IntKind.wrap IntKind.i64 (i + 1)))]) ([]))) ∧ ((decide (i < k) = false) → Q (AExit.exit 0) (mkR 41 [(0, AVal.str s), (2, AVal.int IntKind.i64 n), (8, AVal.int IntKind.i64 k), (9, AVal.int IntKind.i64 i)]) ([]))
theorem va_wp (s : ByteArray) (n : Int) (k : Int) (i : Int) {Q : AExit → Regs → AState → Prop} (h : va_T s n k i Q) : ∃ e rg' σ', TripN Tryd.prog 0 (loopNo Tryd.f14 0) (rgVa s n k i) ([]) e rg' σ' ∧ Q e rg' σ' :=
  brE (fun (c0 : decide (i < k) = true) => brE (fun (c1 : decide (byteAt s i < 128) = true) => brE (fun (c2 : (byteAt s i == 0) = true) => brE (fun (c3 : decide (i > 0) = true) => ⟨_, _, _, va_1 s n k i (c3) (c2) ((h.1 c0).1) (c1) ((h.1 c0).2.1) (c0), ((((h.1 c0).2.2.1 c1).1 c2).1 c3)⟩) (fun (c3 : decide (i > 0) = false) => ⟨_, _, _, va_2 s n k i (c3) (c2) ((h.1 c0).1) (c1) ((h.1 c0).2.1) (c0), ((((h.1 c0).2.2.1 c1).1 c2).2 c3)⟩)) (fun (c2 : (byteAt s i == 0) = false) => ⟨_, _, _, va_3 s n k i (c2) ((h.1 c0).1) (c1) ((h.1 c0).2.1) (c0), (((h.1 c0).2.2.1 c1).2 c2)⟩)) (fun (c1 : decide (byteAt s i < 128) = false) => ⟨_, _, _, va_4 s n k i (c1) ((h.1 c0).1) ((h.1 c0).2.1) (c0), ((h.1 c0).2.2.2 c1)⟩)) (fun (c0 : decide (i < k) = false) => ⟨_, _, _, va_5 s n k i (c0), (h.2 c0)⟩)


theorem varE_1 (s : ByteArray) (n : Int) (k : Int) (i : Int)
    (h1 : decide ((↑(ByteArray.size s) : Int) < 9) = true)
    (h2 : TripN Tryd.prog 0 (Code.loop (loopNo Tryd.f14 0)) (mkR 41 [(0, AVal.str s), (2, AVal.int IntKind.i64 0), (8, AVal.int IntKind.i64 (imin (↑(ByteArray.size s) : Int) 9)), (9, AVal.int IntKind.i64 0)]) [] (AExit.exit 0) (mkR 41 [(0, AVal.str s), (2, AVal.int IntKind.i64 n), (8, AVal.int IntKind.i64 k), (9, AVal.int IntKind.i64 i)]) []) :
    FOk Tryd.prog 14 ([AVal.str s]) ([]) (AVal.tuple [AVal.int IntKind.i64 0, AVal.int IntKind.i64 0, AVal.int IntKind.i64 5]) ([]) :=
  (evalF_ok followed Tryd.func14 (by kernel_rfl) (show evalF Tryd.prog Tryd.f14 ([AVal.str s]) ([]) ([Dec.compact (keepM 41 [0, 2, 8, 9]) [], Dec.loop (AExit.exit 0) (rgVa s n k i) [], Dec.br true]) = .ok (FRes.mk (AVal.tuple [AVal.int IntKind.i64 0, AVal.int IntKind.i64 0, AVal.int IntKind.i64 5]) ([]) ((decide ((↑(ByteArray.size s) : Int) < 9) = true) :: ((Owed.loop (owed Tryd.prog 0) (loopNo Tryd.f14 0) (mkR 41 [(0, AVal.str s), (2, AVal.int IntKind.i64 0), (8, AVal.int IntKind.i64 (imin (↑(ByteArray.size s) : Int) 9)), (9, AVal.int IntKind.i64 0)]) [] (AExit.exit 0) (mkR 41 [(0, AVal.str s), (2, AVal.int IntKind.i64 n), (8, AVal.int IntKind.i64 k), (9, AVal.int IntKind.i64 i)]) []) :: []))) by kernel_rfl) (allP_of ⟨h1, ⟨h2, trivial⟩⟩)).move ([]) (by kernel_rfl) (by kernel_rfl) (by kernel_rfl)

theorem varE_2 (s : ByteArray) (n : Int) (k : Int) (i : Int)
    (h1 : decide ((↑(ByteArray.size s) : Int) < 9) = false)
    (h2 : TripN Tryd.prog 0 (Code.loop (loopNo Tryd.f14 0)) (mkR 41 [(0, AVal.str s), (2, AVal.int IntKind.i64 0), (8, AVal.int IntKind.i64 (imin (↑(ByteArray.size s) : Int) 9)), (9, AVal.int IntKind.i64 0)]) [] (AExit.exit 0) (mkR 41 [(0, AVal.str s), (2, AVal.int IntKind.i64 n), (8, AVal.int IntKind.i64 k), (9, AVal.int IntKind.i64 i)]) []) :
    FOk Tryd.prog 14 ([AVal.str s]) ([]) (AVal.tuple [AVal.int IntKind.i64 0, AVal.int IntKind.i64 0, AVal.int IntKind.i64 10]) ([]) :=
  (evalF_ok followed Tryd.func14 (by kernel_rfl) (show evalF Tryd.prog Tryd.f14 ([AVal.str s]) ([]) ([Dec.compact (keepM 41 [0, 2, 8, 9]) [], Dec.loop (AExit.exit 0) (rgVa s n k i) [], Dec.br false]) = .ok (FRes.mk (AVal.tuple [AVal.int IntKind.i64 0, AVal.int IntKind.i64 0, AVal.int IntKind.i64 10]) ([]) ((decide ((↑(ByteArray.size s) : Int) < 9) = false) :: ((Owed.loop (owed Tryd.prog 0) (loopNo Tryd.f14 0) (mkR 41 [(0, AVal.str s), (2, AVal.int IntKind.i64 0), (8, AVal.int IntKind.i64 (imin (↑(ByteArray.size s) : Int) 9)), (9, AVal.int IntKind.i64 0)]) [] (AExit.exit 0) (mkR 41 [(0, AVal.str s), (2, AVal.int IntKind.i64 n), (8, AVal.int IntKind.i64 k), (9, AVal.int IntKind.i64 i)]) []) :: []))) by kernel_rfl) (allP_of ⟨h1, ⟨h2, trivial⟩⟩)).move ([]) (by kernel_rfl) (by kernel_rfl) (by kernel_rfl)

def varE_T (s : ByteArray) (n : Int) (k : Int) (i : Int) (Q : AVal → AState → Prop) : Prop := (TripN Tryd.prog 0 (Code.loop (loopNo Tryd.f14 0)) (mkR 41 [(0, AVal.str s), (2, AVal.int IntKind.i64 0), (8, AVal.int IntKind.i64 (imin (↑(ByteArray.size s) : Int) 9)), (9, AVal.int IntKind.i64 0)]) [] (AExit.exit 0) (mkR 41 [(0, AVal.str s), (2, AVal.int IntKind.i64 n), (8, AVal.int IntKind.i64 k), (9, AVal.int IntKind.i64 i)]) []) ∧ ((decide ((↑(ByteArray.size s) : Int) < 9) = true) → Q (AVal.tuple [AVal.int IntKind.i64 0, AVal.int IntKind.i64 0, AVal.int IntKind.i64 5]) ([])) ∧ ((decide ((↑(ByteArray.size s) : Int) < 9) = false) → Q (AVal.tuple [AVal.int IntKind.i64 0, AVal.int IntKind.i64 0, AVal.int IntKind.i64 10]) ([]))
theorem varE_wp (s : ByteArray) (n : Int) (k : Int) (i : Int) {Q : AVal → AState → Prop} (h : varE_T s n k i Q) : ∃ r σ', FOk Tryd.prog 14 ([AVal.str s]) ([]) r σ' ∧ Q r σ' :=
  brE (fun (c0 : decide ((↑(ByteArray.size s) : Int) < 9) = true) => ⟨_, _, varE_1 s n k i (c0) (h.1), (h.2.1 c0)⟩) (fun (c0 : decide ((↑(ByteArray.size s) : Int) < 9) = false) => ⟨_, _, varE_2 s n k i (c0) (h.1), (h.2.2 c0)⟩)


theorem varR_1 (s : ByteArray) (n : Int) (k : Int) (e : Int)
    (h1 : TripN Tryd.prog 0 (Code.loop (loopNo Tryd.f14 0)) (mkR 41 [(0, AVal.str s), (2, AVal.int IntKind.i64 0), (8, AVal.int IntKind.i64 (imin (↑(ByteArray.size s) : Int) 9)), (9, AVal.int IntKind.i64 0)]) [] AExit.ret (mkR 41 [(2, AVal.int IntKind.i64 n), (3, AVal.int IntKind.i64 k), (4, AVal.int IntKind.i64 e)]) []) :
    FOk Tryd.prog 14 ([AVal.str s]) ([]) (AVal.tuple [AVal.int IntKind.i64 n, AVal.int IntKind.i64 k, AVal.int IntKind.i64 e]) ([]) :=
  (evalF_ok followed Tryd.func14 (by kernel_rfl) (show evalF Tryd.prog Tryd.f14 ([AVal.str s]) ([]) ([Dec.compact (keepM 41 [0, 2, 8, 9]) [], Dec.loop AExit.ret (mkR 41 [(2, AVal.int IntKind.i64 n), (3, AVal.int IntKind.i64 k), (4, AVal.int IntKind.i64 e)]) []]) = .ok (FRes.mk (AVal.tuple [AVal.int IntKind.i64 n, AVal.int IntKind.i64 k, AVal.int IntKind.i64 e]) ([]) ((Owed.loop (owed Tryd.prog 0) (loopNo Tryd.f14 0) (mkR 41 [(0, AVal.str s), (2, AVal.int IntKind.i64 0), (8, AVal.int IntKind.i64 (imin (↑(ByteArray.size s) : Int) 9)), (9, AVal.int IntKind.i64 0)]) [] AExit.ret (mkR 41 [(2, AVal.int IntKind.i64 n), (3, AVal.int IntKind.i64 k), (4, AVal.int IntKind.i64 e)]) []) :: [])) by kernel_rfl) (allP_of ⟨h1, trivial⟩)).move ([]) (by kernel_rfl) (by kernel_rfl) (by kernel_rfl)

def varR_T (s : ByteArray) (n : Int) (k : Int) (e : Int) (Q : AVal → AState → Prop) : Prop := (TripN Tryd.prog 0 (Code.loop (loopNo Tryd.f14 0)) (mkR 41 [(0, AVal.str s), (2, AVal.int IntKind.i64 0), (8, AVal.int IntKind.i64 (imin (↑(ByteArray.size s) : Int) 9)), (9, AVal.int IntKind.i64 0)]) [] AExit.ret (mkR 41 [(2, AVal.int IntKind.i64 n), (3, AVal.int IntKind.i64 k), (4, AVal.int IntKind.i64 e)]) []) ∧ Q (AVal.tuple [AVal.int IntKind.i64 n, AVal.int IntKind.i64 k, AVal.int IntKind.i64 e]) ([])
theorem varR_wp (s : ByteArray) (n : Int) (k : Int) (e : Int) {Q : AVal → AState → Prop} (h : varR_T s n k e Q) : ∃ r σ', FOk Tryd.prog 14 ([AVal.str s]) ([]) r σ' ∧ Q r σ' :=
  ⟨_, _, varR_1 s n k e (h.1), h.2⟩


end Go.L01
