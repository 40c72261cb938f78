import Derived.Test.YtkecmndppllijaaDoorL01TB
import Derived.Test.YtkecmndppllijaaDoorL01E
set_option linter.unusedVariables false
set_option linter.unusedSimpArgs false
set_option maxRecDepth 100000
namespace Go.L01
open Go Go.Abs Go.Proofs Go.Lib

/-- how many bytes the sign has that bytes begin with, by the document -/
def oneL (l : List UInt8) : Nat :=
  let b0 := (l.getD 0 0).toNat
  let b1 := (l.getD 1 0).toNat
  let b2 := (l.getD 2 0).toNat
  let b3 := (l.getD 3 0).toNat
  if b0 < 128 then 1
  else if 192 ≤ b0 ∧ b0 < 224 ∧ moreL 1 (l.drop 1) = true then (if 128 ≤ b0 % 32 * 64 + b1 % 64 then 2 else 0)
  else if 224 ≤ b0 ∧ b0 < 240 ∧ moreL 2 (l.drop 1) = true then
    (if 2048 ≤ (b0 % 16 * 64 + b1 % 64) * 64 + b2 % 64 ∧ ((b0 % 16 * 64 + b1 % 64) * 64 + b2 % 64 < 55296 ∨ 57343 < (b0 % 16 * 64 + b1 % 64) * 64 + b2 % 64) then 3 else 0)
  else if 240 ≤ b0 ∧ b0 < 248 ∧ moreL 3 (l.drop 1) = true then
    (if 65536 ≤ ((b0 % 8 * 64 + b1 % 64) * 64 + b2 % 64) * 64 + b3 % 64 ∧ ((b0 % 8 * 64 + b1 % 64) * 64 + b2 % 64) * 64 + b3 % 64 ≤ 1114111 then 4 else 0)
  else 0

theorem moreL_at (l : List UInt8) : moreL 1 (l.drop 1) = decide (2 ≤ l.length ∧ 128 ≤ (l.getD 1 0).toNat ∧ (l.getD 1 0).toNat ≤ 191) ∧
    moreL 2 (l.drop 1) = decide (3 ≤ l.length ∧ 128 ≤ (l.getD 1 0).toNat ∧ (l.getD 1 0).toNat ≤ 191 ∧ 128 ≤ (l.getD 2 0).toNat ∧ (l.getD 2 0).toNat ≤ 191) ∧
    moreL 3 (l.drop 1) = decide (4 ≤ l.length ∧ 128 ≤ (l.getD 1 0).toNat ∧ (l.getD 1 0).toNat ≤ 191 ∧ 128 ≤ (l.getD 2 0).toNat ∧ (l.getD 2 0).toNat ≤ 191 ∧ 128 ≤ (l.getD 3 0).toNat ∧ (l.getD 3 0).toNat ≤ 191) := by
  match l with
  | [] => simp [moreL]
  | [a] => simp [moreL]
  | [a, b] => simp [moreL]
  | [a, b, c] => simp [moreL, Bool.decide_and, Bool.and_assoc]
  | a :: b :: c :: d :: t => simp [moreL, Bool.decide_and, Bool.and_assoc]

theorem fT (b : Nat) (h : 128 ≤ b) (h2 : b < 256) :
    (b < 194 ∧ firstT b = 241) ∨ (194 ≤ b ∧ b < 224 ∧ firstT b = 2) ∨ (b = 224 ∧ firstT b = 19) ∨ (225 ≤ b ∧ b < 240 ∧ b ≠ 237 ∧ firstT b = 3) ∨ (b = 237 ∧ firstT b = 35) ∨ (b = 240 ∧ firstT b = 52) ∨ (241 ≤ b ∧ b < 244 ∧ firstT b = 4) ∨ (b = 244 ∧ firstT b = 68) ∨ (245 ≤ b ∧ firstT b = 241) := by
  have : ∀ b : Fin 256, 128 ≤ b.val → (b.val < 194 ∧ firstT b.val = 241) ∨ (194 ≤ b.val ∧ b.val < 224 ∧ firstT b.val = 2) ∨ (b.val = 224 ∧ firstT b.val = 19) ∨ (225 ≤ b.val ∧ b.val < 240 ∧ b.val ≠ 237 ∧ firstT b.val = 3) ∨ (b.val = 237 ∧ firstT b.val = 35) ∨ (b.val = 240 ∧ firstT b.val = 52) ∨ (241 ≤ b.val ∧ b.val < 244 ∧ firstT b.val = 4) ∨ (b.val = 244 ∧ firstT b.val = 68) ∨ (245 ≤ b.val ∧ firstT b.val = 241) := by decide +kernel
  exact this ⟨b, h2⟩ h

theorem ck2 (n b1 b2 b3 lo hi : Nat) : checkN n b1 b2 b3 2 lo hi = if n < 2 ∨ b1 < lo ∨ hi < b1 then none else some 2 := by unfold checkN; rw [if_pos rfl]
theorem ck3 (n b1 b2 b3 lo hi : Nat) : checkN n b1 b2 b3 3 lo hi = if n < 3 ∨ b1 < lo ∨ hi < b1 ∨ b2 < 128 ∨ 191 < b2 then none else some 3 := by unfold checkN; rw [if_neg (by omega), if_pos rfl]
theorem ck4 (n b1 b2 b3 lo hi : Nat) : checkN n b1 b2 b3 4 lo hi = if n < 4 ∨ b1 < lo ∨ hi < b1 ∨ b2 < 128 ∨ 191 < b2 ∨ b3 < 128 ∨ 191 < b3 then none else some 4 := by unfold checkN; rw [if_neg (by omega), if_neg (by omega), if_pos rfl]
theorem oneL_check (l : List UInt8) (h0 : 128 ≤ (l.getD 0 0).toNat) :
    (oneL l = 0 ∧ checkN l.length (l.getD 1 0).toNat (l.getD 2 0).toNat (l.getD 3 0).toNat (firstT (l.getD 0 0).toNat % 8) (accLo (firstT (l.getD 0 0).toNat / 16)) (accHi (firstT (l.getD 0 0).toNat / 16)) = none) ∨
    (0 < oneL l ∧ oneL l ≤ l.length ∧ checkN l.length (l.getD 1 0).toNat (l.getD 2 0).toNat (l.getD 3 0).toNat (firstT (l.getD 0 0).toNat % 8) (accLo (firstT (l.getD 0 0).toNat / 16)) (accHi (firstT (l.getD 0 0).toNat / 16)) = some (oneL l)) := by
  obtain ⟨m1, m2, m3⟩ := moreL_at l
  unfold oneL
  rw [m1, m2, m3]
  have t0 := (l.getD 0 0).toNat_lt
  have t1 := (l.getD 1 0).toNat_lt
  have t2 := (l.getD 2 0).toNat_lt
  have t3 := (l.getD 3 0).toNat_lt
  generalize (l.getD 0 0).toNat = b0 at *
  generalize (l.getD 1 0).toNat = b1 at *
  generalize (l.getD 2 0).toNat = b2 at *
  generalize (l.getD 3 0).toNat = b3 at *
  generalize l.length = n at *
  clear m1 m2 m3
  dsimp only
  simp only [decide_eq_true_eq]
  have hsz : ∀ sz lo hi : Nat, firstT b0 % 8 = sz → accLo (firstT b0 / 16) = lo → accHi (firstT b0 / 16) = hi → checkN n b1 b2 b3 (firstT b0 % 8) (accLo (firstT b0 / 16)) (accHi (firstT b0 / 16)) = checkN n b1 b2 b3 sz lo hi := fun sz lo hi h1 h2 h3 => by rw [h1, h2, h3]
  rcases fT b0 h0 t0 with ⟨c, e⟩ | ⟨c, c', e⟩ | ⟨c, e⟩ | ⟨c, c', c2, e⟩ | ⟨c, e⟩ | ⟨c, e⟩ | ⟨c, c', e⟩ | ⟨c, e⟩ | ⟨c, e⟩
  · rw [hsz 1 _ _ (by rw [e]) rfl rfl, if_neg (by omega)]
    left
    refine ⟨?_, rfl⟩
    split
    · rw [if_neg (by omega)]
    · rw [if_neg (by omega), if_neg (by omega)]
  · rw [hsz 2 128 191 (by rw [e]) (by rw [e]; rfl) (by rw [e]; rfl), if_neg (by omega)]
    rw [ck2]
    by_cases h : 2 ≤ n ∧ 128 ≤ b1 ∧ b1 ≤ 191
    · right; rw [if_pos ⟨by omega, by omega, h⟩, if_pos (by omega), if_neg (by omega)]; exact ⟨by omega, by omega, rfl⟩
    · left; rw [if_neg (by omega), if_neg (by omega), if_neg (by omega), if_pos (by omega)]; exact ⟨rfl, rfl⟩
  · rw [hsz 3 160 191 (by rw [e]) (by rw [e]; rfl) (by rw [e]; rfl), if_neg (by omega), if_neg (by omega)]
    subst c
    rw [ck3]
    by_cases h : 3 ≤ n ∧ 128 ≤ b1 ∧ b1 ≤ 191 ∧ 128 ≤ b2 ∧ b2 ≤ 191
    · rw [if_pos ⟨by omega, by omega, h⟩]
      by_cases g : 160 ≤ b1
      · right; rw [if_pos (by omega), if_neg (by omega)]; exact ⟨by omega, by omega, rfl⟩
      · left; rw [if_neg (by omega), if_pos (by omega)]; exact ⟨rfl, rfl⟩
    · left; rw [if_neg (by omega), if_neg (by omega), if_pos (by omega)]; exact ⟨rfl, rfl⟩
  · rw [hsz 3 128 191 (by rw [e]) (by rw [e]; rfl) (by rw [e]; rfl), if_neg (by omega), if_neg (by omega)]
    rw [ck3]
    by_cases h : 3 ≤ n ∧ 128 ≤ b1 ∧ b1 ≤ 191 ∧ 128 ≤ b2 ∧ b2 ≤ 191
    · right; rw [if_pos ⟨by omega, by omega, h⟩, if_pos (by omega), if_neg (by omega)]; exact ⟨by omega, by omega, rfl⟩
    · left; rw [if_neg (by omega), if_neg (by omega), if_pos (by omega)]; exact ⟨rfl, rfl⟩
  · rw [hsz 3 128 159 (by rw [e]) (by rw [e]; rfl) (by rw [e]; rfl), if_neg (by omega), if_neg (by omega)]
    subst c
    rw [ck3]
    by_cases h : 3 ≤ n ∧ 128 ≤ b1 ∧ b1 ≤ 191 ∧ 128 ≤ b2 ∧ b2 ≤ 191
    · rw [if_pos ⟨by omega, by omega, h⟩]
      by_cases g : b1 ≤ 159
      · right; rw [if_pos (by omega), if_neg (by omega)]; exact ⟨by omega, by omega, rfl⟩
      · left; rw [if_neg (by omega), if_pos (by omega)]; exact ⟨rfl, rfl⟩
    · left; rw [if_neg (by omega), if_neg (by omega), if_pos (by omega)]; exact ⟨rfl, rfl⟩
  · rw [hsz 4 144 191 (by rw [e]) (by rw [e]; rfl) (by rw [e]; rfl), if_neg (by omega), if_neg (by omega), if_neg (by omega)]
    subst c
    rw [ck4]
    by_cases h : 4 ≤ n ∧ 128 ≤ b1 ∧ b1 ≤ 191 ∧ 128 ≤ b2 ∧ b2 ≤ 191 ∧ 128 ≤ b3 ∧ b3 ≤ 191
    · rw [if_pos ⟨by omega, by omega, h⟩]
      by_cases g : 144 ≤ b1
      · right; rw [if_pos (by omega), if_neg (by omega)]; exact ⟨by omega, by omega, rfl⟩
      · left; rw [if_neg (by omega), if_pos (by omega)]; exact ⟨rfl, rfl⟩
    · left; rw [if_neg (by omega), if_pos (by omega)]; exact ⟨rfl, rfl⟩
  · rw [hsz 4 128 191 (by rw [e]) (by rw [e]; rfl) (by rw [e]; rfl), if_neg (by omega), if_neg (by omega), if_neg (by omega)]
    rw [ck4]
    by_cases h : 4 ≤ n ∧ 128 ≤ b1 ∧ b1 ≤ 191 ∧ 128 ≤ b2 ∧ b2 ≤ 191 ∧ 128 ≤ b3 ∧ b3 ≤ 191
    · right; rw [if_pos ⟨by omega, by omega, h⟩, if_pos (by omega), if_neg (by omega)]; exact ⟨by omega, by omega, rfl⟩
    · left; rw [if_neg (by omega), if_pos (by omega)]; exact ⟨rfl, rfl⟩
  · rw [hsz 4 128 143 (by rw [e]) (by rw [e]; rfl) (by rw [e]; rfl), if_neg (by omega), if_neg (by omega), if_neg (by omega)]
    subst c
    rw [ck4]
    by_cases h : 4 ≤ n ∧ 128 ≤ b1 ∧ b1 ≤ 191 ∧ 128 ≤ b2 ∧ b2 ≤ 191 ∧ 128 ≤ b3 ∧ b3 ≤ 191
    · rw [if_pos ⟨by omega, by omega, h⟩]
      by_cases g : b1 ≤ 143
      · right; rw [if_pos (by omega), if_neg (by omega)]; exact ⟨by omega, by omega, rfl⟩
      · left; rw [if_neg (by omega), if_pos (by omega)]; exact ⟨rfl, rfl⟩
    · left; rw [if_neg (by omega), if_pos (by omega)]; exact ⟨rfl, rfl⟩
  · rw [hsz 1 _ _ (by rw [e]) rfl rfl, if_neg (by omega), if_neg (by omega), if_neg (by omega)]
    left
    refine ⟨?_, rfl⟩
    split
    · rw [if_neg (by omega)]
    · rfl
theorem oneL_valid (l : List UInt8) (hne : l ≠ []) : oneL l ≤ l.length ∧ validD l = (if oneL l = 0 then false else validD (l.drop (oneL l))) := by
  by_cases h : (l.getD 0 0).toNat < 128
  · have e : oneL l = 1 := by unfold oneL; rw [if_pos h]
    rw [e]
    cases l with
    | nil => exact absurd rfl hne
    | cons b t => exact ⟨by simp, validD_cons b t h⟩
  · have h := Nat.not_lt.1 h
    rw [validD_lead l hne h]
    rcases oneL_check l h with ⟨e, c⟩ | ⟨e0, e1, c⟩
    · rw [c, e]; exact ⟨by omega, rfl⟩
    · rw [c]; exact ⟨e1, by rw [if_neg (by omega)]⟩
end Go.L01
