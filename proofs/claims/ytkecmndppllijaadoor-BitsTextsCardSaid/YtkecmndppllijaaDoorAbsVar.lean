import Derived.Test.YtkecmndppllijaaDoorAbsF
set_option linter.unusedVariables false
set_option linter.unusedSimpArgs false
namespace Go.Abs

/-! ## Bits -/
theorem wrapU8 (n : Int) : IntKind.wrap .u8 n = n % 256 := by
  simp [IntKind.wrap, IntKind.bits, IntKind.signed]
theorem bits_or64 {a b : Nat} (ha : a < 2 ^ 63) (hb : b < 2 ^ 63) : bits .or .i64 (a : Int) (b : Int) = ((a ||| b : Nat) : Int) := by
  have hlt : a ||| b < 2 ^ 63 := Nat.or_lt_two_pow ha hb
  show IntKind.wrap .i64 (((BitVec.ofInt 64 (a : Int)) ||| (BitVec.ofInt 64 (b : Int))).toNat : Int) = _
  have e : ((BitVec.ofInt 64 (a : Int)) ||| (BitVec.ofInt 64 (b : Int))).toNat = a ||| b := by
    rw [BitVec.toNat_or]
    simp only [BitVec.ofInt_natCast, BitVec.toNat_ofNat]
    rw [Nat.mod_eq_of_lt (by omega), Nat.mod_eq_of_lt (by omega)]
  rw [e]
  exact wrapS (by omega) (by omega)
theorem or_add {a c k : Nat} (ha : a < 2 ^ k) : a ||| (c * 2 ^ k) = a + c * 2 ^ k := by
  rw [Nat.or_comm, Nat.add_comm, Nat.mul_comm]
  exact (Nat.two_pow_add_eq_or_of_lt ha c).symm
theorem or_u8 (n : Nat) : bits .or .u8 (IntKind.wrap .u8 (n : Int)) 128 = ((n % 128 + 128 : Nat) : Int) := by
  have h : ∀ m : Fin 256, bits .or .u8 ((m.val : Nat) : Int) 128 = ((m.val % 128 + 128 : Nat) : Int) := by decide +kernel
  rw [wrapU8]
  have := h ⟨n % 256, Nat.mod_lt _ (by omega)⟩
  simp only at this
  rw [show ((n : Int) % 256) = ((n % 256 : Nat) : Int) by omega, this]
  congr 1
  omega
theorem and_u8 (m : Nat) (h : m < 256) : bits .and .u8 (m : Int) 127 = ((m % 128 : Nat) : Int) := by
  have h' : ∀ m : Fin 256, bits .and .u8 ((m.val : Nat) : Int) 127 = ((m.val % 128 : Nat) : Int) := by decide +kernel
  exact h' ⟨m, h⟩

/-! ## Texts as lists of bytes -/
abbrev lB (s : ByteArray) : List UInt8 := s.data.toList
def bS (l : List UInt8) : ByteArray := ⟨l.toArray⟩
theorem lB_bS (l : List UInt8) : lB (bS l) = l := by simp [bS]
theorem bS_lB (s : ByteArray) : bS (lB s) = s := by cases s; simp [bS]
theorem lB_inj {a b : ByteArray} (h : lB a = lB b) : a = b := by rw [← bS_lB a, ← bS_lB b, h]
theorem bS_inj {a b : List UInt8} (h : bS a = bS b) : a = b := by rw [← lB_bS a, ← lB_bS b, h]
theorem lB_length (s : ByteArray) : (lB s).length = s.size := by cases s; simp [ByteArray.size]
theorem bS_size (l : List UInt8) : (bS l).size = l.length := by simp [bS, ByteArray.size]
theorem lB_append (a b : ByteArray) : lB (a ++ b) = lB a ++ lB b := by simp [lB, ByteArray.data_append]
theorem bS_append (a b : List UInt8) : bS a ++ bS b = bS (a ++ b) := lB_inj (by rw [lB_append, lB_bS, lB_bS, lB_bS])
theorem lB_extract (s : ByteArray) (a b : Nat) : lB (s.extract a b) = ((lB s).drop a).take (b - a) := by
  simp [lB, ByteArray.data_extract]
theorem toList_lB (s : ByteArray) : s.toList = lB s := by
  simp [lB, ByteArray.toList_eq]
theorem byteAt_lB (s : ByteArray) (n : Int) : byteAt s n = ((((lB s).getD n.toNat 0).toNat : Nat) : Int) := rfl

/-- bytes as rows -/
abbrev brow (b : Nat) : List AVal := [.int .u8 (b : Int)]
theorem byteRows_bS (l : List UInt8) : byteRows (bS l) = l.map fun b => brow b.toNat := by simp [byteRows, bS]
theorem byteRows_lB (s : ByteArray) : byteRows s = (lB s).map fun b => brow b.toNat := rfl
theorem rowBytes_map (l : List UInt8) : rowBytes (l.map fun b => brow b.toNat) = bS l := by
  unfold rowBytes bS
  congr 2
  rw [List.map_map]
  conv => rhs; rw [← List.map_id l]
  refine List.map_congr_left fun b _ => ?_
  simp [AVal.toInt]

/-! ## Numbers of bytes of seven bits each -/
def vbl (n : Nat) : List UInt8 := if n < 128 then [UInt8.ofNat n] else UInt8.ofNat (n % 128 + 128) :: vbl (n / 128)
termination_by n
decreasing_by omega
theorem vbl_lt {n : Nat} (h : n < 128) : vbl n = [UInt8.ofNat n] := by rw [vbl, if_pos h]
theorem vbl_ge {n : Nat} (h : 128 ≤ n) : vbl n = UInt8.ofNat (n % 128 + 128) :: vbl (n / 128) := by rw [vbl, if_neg (by omega)]
theorem vbl_ne (n : Nat) : vbl n ≠ [] := by
  rw [vbl]; split <;> simp
theorem vbl_len : ∀ (k n : Nat), n < 128 ^ (k + 1) → (vbl n).length ≤ k + 1
  | 0, n, h => by rw [vbl_lt (by simpa using h)]; simp
  | k + 1, n, h => by
    by_cases h1 : n < 128
    · rw [vbl_lt h1]; simp
    · rw [vbl_ge (by omega), List.length_cons]
      have := vbl_len k (n / 128) (by rw [Nat.div_lt_iff_lt_mul (by omega)]; rw [Nat.pow_succ] at h; exact h)
      omega
theorem vbl_len9 {n : Nat} (h : n < 2 ^ 63) : (vbl n).length ≤ 9 := vbl_len 8 n (by simpa using h)

/-- the number that bytes begin with: how many rounds are left, where it stands, what there is so far -/
def rdGo (l : List UInt8) : Nat → Nat → Nat → Nat × Nat × Nat
  | 0, i, acc => if l.length < 9 then (0, 0, 5) else (0, 0, 10)
  | d + 1, i, acc =>
    if (l.getD i 0).toNat < 128 then if (l.getD i 0).toNat = 0 ∧ 0 < i then (0, 0, 10) else (acc + (l.getD i 0).toNat % 128 * 2 ^ (7 * i), i + 1, 0)
    else rdGo l d (i + 1) (acc + (l.getD i 0).toNat % 128 * 2 ^ (7 * i))
def rdV (l : List UInt8) : Nat × Nat × Nat := rdGo l (min l.length 9) 0 0

theorem vbl_getD0 {n : Nat} (h : n < 128) (t : List UInt8) : ((vbl n ++ t).getD 0 0).toNat = n := by
  rw [vbl_lt h]; simp; omega
theorem rdGo_vbl (l : List UInt8) (t : List UInt8) : ∀ (k n i acc d : Nat) (pre : List UInt8), l = pre ++ (vbl n ++ t) → pre.length = i → (vbl n).length ≤ d → (0 < i → 0 < n) → (vbl n).length = k →
    rdGo l d i acc = (acc + n * 2 ^ (7 * i), i + (vbl n).length, 0)
  | 0, n, i, acc, d, pre, _, _, _, _, hk => absurd (List.length_eq_zero_iff.1 hk) (vbl_ne n)
  | k + 1, n, i, acc, 0, pre, _, _, hd, _, hk => by omega
  | k + 1, n, i, acc, d + 1, pre, hl, hi, hd, hpos, hk => by
    have hget : l.getD i 0 = (vbl n ++ t).getD 0 0 := by
      rw [hl, List.getD_eq_getElem?_getD, List.getElem?_append_right (by omega), hi, Nat.sub_self, List.getD_eq_getElem?_getD]
    simp only [rdGo]
    rw [hget]
    by_cases h1 : n < 128
    · rw [vbl_getD0 h1, if_pos h1, if_neg (by rintro ⟨h2, h3⟩; have := hpos h3; omega), vbl_lt h1, Nat.mod_eq_of_lt h1]
      rfl
    · have e : vbl n = UInt8.ofNat (n % 128 + 128) :: vbl (n / 128) := vbl_ge (by omega)
      have hb : ((vbl n ++ t).getD 0 0).toNat = n % 128 + 128 := by rw [e]; simp; omega
      rw [hb, if_neg (by omega)]
      have hk' : (vbl (n / 128)).length = k := by rw [e] at hk; simpa using hk
      rw [rdGo_vbl l t k (n / 128) (i + 1) _ d (pre ++ [UInt8.ofNat (n % 128 + 128)]) (by rw [hl, e]; simp) (by simp [hi]) (by rw [e] at hd; simp at hd; omega) (fun _ => by omega) hk', e]
      have e1 : (n % 128 + 128) % 128 = n % 128 := by omega
      have e2 : acc + n % 128 * 2 ^ (7 * i) + n / 128 * 2 ^ (7 * (i + 1)) = acc + n * 2 ^ (7 * i) := by
        rw [show 7 * (i + 1) = 7 * i + 7 by omega, Nat.pow_add, Nat.add_assoc, ← Nat.mul_assoc, show (2 : Nat) ^ 7 = 128 by rfl]
        have : n / 128 * 2 ^ (7 * i) * 128 = n / 128 * 128 * 2 ^ (7 * i) := by rw [Nat.mul_assoc, Nat.mul_comm (2 ^ (7 * i)) 128, ← Nat.mul_assoc]
        rw [this, ← Nat.add_mul]
        congr 2
        omega
      rw [e1, e2, List.length_cons]
      congr 2
      omega
/-- there and back -/
theorem rdV_vbl {n : Nat} (h : n < 2 ^ 63) (t : List UInt8) : rdV (vbl n ++ t) = (n, (vbl n).length, 0) := by
  have h9 := vbl_len9 h
  unfold rdV
  rw [rdGo_vbl (vbl n ++ t) t _ n 0 0 _ [] (by simp) rfl (by rw [List.length_append]; omega) (by omega) rfl]
  simp

theorem rdGo_back (l : List UInt8) : ∀ (d i acc n k : Nat), i + d ≤ l.length → rdGo l d i acc = (n, k, 0) → ∃ m, n = acc + m * 2 ^ (7 * i) ∧ i < k ∧ k ≤ i + d ∧ (l.drop i).take (k - i) = vbl m ∧ (0 < i → 0 < m)
  | 0, i, acc, n, k, hi, h => by
    simp only [rdGo] at h
    split at h <;> simp at h
  | d + 1, i, acc, n, k, hi, h => by
    simp only [rdGo] at h
    have hlt : i < l.length := by omega
    have hdrop : l.drop i = l.getD i 0 :: l.drop (i + 1) := by
      rw [List.drop_eq_getElem_cons hlt, List.getD_eq_getElem?_getD, List.getElem?_eq_getElem hlt]; rfl
    generalize hb : l.getD i 0 = b at h hdrop
    split at h
    · rename_i h1
      split at h
      · simp at h
      · rename_i h2
        simp only [Prod.mk.injEq] at h
        obtain ⟨rfl, rfl, _⟩ := h
        refine ⟨b.toNat, by rw [Nat.mod_eq_of_lt h1], by omega, by omega, ?_, fun h => ?_⟩
        · rw [hdrop, show i + 1 - i = 1 by omega, vbl_lt h1]; simp
        · omega
    · rename_i h1
      obtain ⟨m, e1, e2, e3, e4, e5⟩ := rdGo_back l d (i + 1) _ n k (by omega) h
      have hm := e5 (by omega)
      have hb256 : b.toNat < 256 := b.toNat_lt
      refine ⟨b.toNat % 128 + 128 * m, ?_, by omega, by omega, ?_, fun _ => by omega⟩
      · rw [e1, show 7 * (i + 1) = 7 * i + 7 by omega, Nat.pow_add, show (2 : Nat) ^ 7 = 128 by rfl, Nat.add_assoc, Nat.add_mul]
        congr 2
        rw [Nat.mul_comm 128 m, Nat.mul_assoc, Nat.mul_comm 128]
      · rw [vbl_ge (by omega), hdrop]
        have q1 : (b.toNat % 128 + 128 * m) % 128 + 128 = b.toNat := by omega
        have q2 : (b.toNat % 128 + 128 * m) / 128 = m := by omega
        rw [q1, q2, ← e4, show k - i = (k - (i + 1)) + 1 by omega, List.take_succ_cons]
        simp
/-- back and there -/
theorem rdV_back {l : List UInt8} {n k : Nat} (h : rdV l = (n, k, 0)) : 0 < k ∧ k ≤ l.length ∧ l.take k = vbl n := by
  unfold rdV at h
  obtain ⟨m, e1, e2, e3, e4, _⟩ := rdGo_back l _ 0 0 n k (by omega) h
  simp at e1 e4
  subst e1
  exact ⟨e2, by omega, e4⟩

theorem rdGo_bound (l : List UInt8) : ∀ (d i acc : Nat), acc < 2 ^ (7 * i) → (rdGo l d i acc).1 < 2 ^ (7 * (i + d))
  | 0, i, acc, h => by
    simp only [rdGo]
    have : 0 < 2 ^ (7 * (i + 0)) := Nat.two_pow_pos _
    split <;> exact this
  | d + 1, i, acc, h => by
    have hs : acc + (l.getD i 0).toNat % 128 * 2 ^ (7 * i) < 2 ^ (7 * (i + 1)) := by
      rw [show 7 * (i + 1) = 7 * i + 7 by omega, Nat.pow_add, show (2 : Nat) ^ 7 = 128 by rfl]
      have : (l.getD i 0).toNat % 128 < 128 := Nat.mod_lt _ (by omega)
      generalize (l.getD i 0).toNat % 128 = c at *
      have : c * 2 ^ (7 * i) ≤ 127 * 2 ^ (7 * i) := Nat.mul_le_mul_right _ (by omega)
      omega
    simp only [rdGo]
    split
    · split
      · exact Nat.two_pow_pos _
      · refine Nat.lt_of_lt_of_le hs (Nat.pow_le_pow_right (by omega) (by omega))
    · have := rdGo_bound l d (i + 1) _ hs
      rw [show i + (d + 1) = i + 1 + d by omega]
      exact this
theorem rdV_bound (l : List UInt8) : (rdV l).1 < 2 ^ 63 := by
  have := rdGo_bound l (min l.length 9) 0 0 (by simp)
  refine Nat.lt_of_lt_of_le this (Nat.pow_le_pow_right (by omega) (by omega))
theorem vbl_inj {a b : Nat} (ha : a < 2 ^ 63) (hb : b < 2 ^ 63) (h : vbl a = vbl b) : a = b := by
  have h1 := rdV_vbl ha []
  have h2 := rdV_vbl hb []
  rw [h] at h1
  rw [h1] at h2
  exact congrArg Prod.fst h2

end Go.Abs
