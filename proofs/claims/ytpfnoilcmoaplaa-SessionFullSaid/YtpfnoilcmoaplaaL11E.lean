import Derived.Test.YtpfnoilcmoaplaaL11D
set_option linter.unusedVariables false
set_option linter.unusedSimpArgs false
set_option maxRecDepth 100000
namespace Go.L11
open Go Go.Abs Go.Proofs

theorem wrap_small {n : Int} (h0 : -9223372036854775808 ≤ n) (h1 : n ≤ 9223372036854775807) : IntKind.wrap .i64 n = n := by
  simp only [IntKind.wrap, IntKind.bits, IntKind.signed, Bool.true_and]
  split
  · rename_i h; simp at h; omega
  · rename_i h; simp at h; omega

theorem and_small (m : Int) (k : Nat) (hk : k < 4611686018427387904) : 0 ≤ bits .and .i64 m (k : Int) ∧ bits .and .i64 m (k : Int) ≤ k := by
  have h : ((BitVec.ofInt 64 m) &&& (BitVec.ofInt 64 (k : Int))).toNat ≤ k := by
    rw [BitVec.toNat_and]
    refine Nat.le_trans Nat.and_le_right ?_
    simp
    omega
  have e : bits .and .i64 m (k : Int) = (((BitVec.ofInt 64 m) &&& (BitVec.ofInt 64 (k : Int))).toNat : Int) := by
    show IntKind.wrap .i64 (((BitVec.ofInt 64 m) &&& (BitVec.ofInt 64 (k : Int))).toNat : Int) = _
    exact wrap_small (by omega) (by omega)
  rw [e]
  omega

theorem many_ok (m : Int) : ∃ n : Nat, manyOf m = n ∧ 60 ≤ n ∧ n ≤ 67 := by
  obtain ⟨h0, h1⟩ := and_small m 7 (by omega)
  have h1 : bits .and .i64 m 7 ≤ 7 := h1
  have h0 : 0 ≤ bits .and .i64 m 7 := h0
  have e : manyOf m = 60 + bits .and .i64 m 7 := wrap_small (by omega) (by omega)
  exact ⟨(60 + bits .and .i64 m 7).toNat, by rw [e]; omega, by omega, by omega⟩

/-- the first so many sessions, each with its first answer -/
def firsts (k : Nat) : List Ent := (List.range k).map fun (i : Nat) => ⟨(i : Int), 1, zrep⟩
theorem firsts_ok (k : Nat) : tabOk (firsts k) := fun x hx => by
  obtain ⟨i, _, rfl⟩ := List.mem_map.1 hx
  exact zrep_ok
theorem firsts_none (k : Nat) (s : Nat) (h : k ≤ s) : getE (s : Int) (firsts k) = none := by
  have key : ∀ (t : List Ent), (∀ x ∈ t, x.s ≠ (s : Int)) → getE (s : Int) t = none := by
    intro t
    induction t with
    | nil => intro _; rfl
    | cons x t ih =>
      intro hx
      simp only [getE]
      rw [if_neg (Ne.symm (hx x (by simp)))]
      exact ih fun y hy => hx y (by simp [hy])
  refine key _ fun x hx => ?_
  obtain ⟨i, hi, rfl⟩ := List.mem_map.1 hx
  rw [List.mem_range] at hi
  simp only
  omega
theorem putE_none (y : Ent) : ∀ (t : List Ent), getE y.s t = none → putE y t = t ++ [y]
  | [], _ => rfl
  | x :: t, h => by
    simp only [getE] at h
    split at h
    · cases h
    · rename_i hne
      simp only [putE]
      rw [if_neg hne, putE_none y t h]; rfl
theorem firsts_succ (k : Nat) : firsts (k + 1) = firsts k ++ [⟨(k : Int), 1, zrep⟩] := by simp [firsts, List.range_succ]
theorem firsts_len (k : Nat) : (firsts k).length = k := by simp [firsts]

theorem putS_lt (s : Nat) (h : s < 64) : putS (firsts s) s 1 ⟨0, 0, true, []⟩ = (0, firsts (s + 1)) := by
  have hn := firsts_none s s (Nat.le_refl _)
  have hm : mayB (s : Int) 1 = true := by simp [mayB]; omega
  unfold putS
  rw [if_neg (by simp [hm]), if_neg (by simp), if_neg (by simp [seqOf, hn]), if_neg (by rw [firsts_len]; omega), putE_none _ _ hn, firsts_succ]
  rfl
theorem putS_ge (s : Nat) (h : 64 ≤ s) (hs : s < 1000) : putS (firsts 64) s 1 ⟨0, 0, true, []⟩ = (2, firsts 64) := by
  have hn := firsts_none 64 s h
  have hm : mayB (s : Int) 1 = true := by simp [mayB]; omega
  unfold putS
  rw [if_neg (by simp [hm]), if_neg (by simp), if_neg (by simp [seqOf, hn]), if_pos ⟨hn, by rw [firsts_len]; omega⟩]

theorem rounds (m : Int) (n : Nat) (hn : manyOf m = n) (h67 : n ≤ 67) : ∀ (d s : Nat), s + d = n →
    LoopRun Try.prog L4 (rgH m s) (hp ((firsts (min s 64)).map Ent.kv)) (.exit 0) (rgH m n) (hp ((firsts (min n 64)).map Ent.kv))
  | 0, s, h => by
    obtain rfl : s = n := by omega
    refine .done (full_8 m s 0 _ [] ?_) (by simp)
    show decide ((s : Int) < manyOf m) = false
    rw [hn]; simp
  | d + 1, s, h => by
    have hlt : decide ((s : Int) < manyOf m) = true := by rw [hn]; simp; omega
    have hw : IntKind.wrap .i64 ((s : Int) + 1) = ((s + 1 : Nat) : Int) := by rw [wrap_small (by omega) (by omega)]; omega
    have hput := put_lit (firsts (min s 64)) (firsts_ok _) s 1 0 0
    refine .more (rg1 := rgH m ((s + 1 : Nat) : Int)) (σ1 := hp ((firsts (min (s + 1) 64)).map Ent.kv)) ?_ (rounds m n hn h67 d (s + 1) (by omega))
    rcases Nat.lt_or_ge s 64 with hs | hs
    · rw [show min s 64 = s by omega] at hput ⊢
      rw [putS_lt s hs] at hput
      rw [show min (s + 1) 64 = s + 1 by omega]
      have := full_4 m s 0 _ _ (by simp; omega) (by simp) (by simp; omega) hput hlt
      rw [hw] at this
      exact this
    · rw [show min s 64 = 64 by omega] at hput ⊢
      rw [putS_ge s hs (by omega)] at hput
      rw [show min (s + 1) 64 = 64 by omega]
      have := full_6 m s 2 _ _ (by simp) (by simp; omega) (by simp; omega) hput hlt
      rw [hw] at this
      exact this

theorem putE_len (y : Ent) : ∀ (t : List Ent) (x : Ent), getE y.s t = some x → (putE y t).length = t.length
  | [], x, h => by cases h
  | z :: t, x, h => by
    simp only [getE] at h
    simp only [putE]
    split at h
    · rename_i e; rw [if_pos e]; rfl
    · rename_i hne; rw [if_neg hne]; simp [putE_len y t x h]

theorem Trip.impK {P : Program} {c : Code} {rg rg' rg0 : Regs} {σ σ' : AState} {e : AExit} {k : List Bool} (h : Trip P c rg σ e rg' σ') (hk : keepR k rg0 = rg) : Trip P c rg0 σ e rg' σ' := by
  subst hk; exact h.imp (keepR_imp _ _)

theorem full_law (m : Int) : ∃ σ', FOk Try.prog 4 [.int .i64 m] [] (.bool true) σ' := by
  obtain ⟨n, hn, h60, h67⟩ := many_ok m
  have hr : Trip Try.prog (.loop L4) (rgH m 0) (hp []) (.exit 0) (rgH m n) (hp ((firsts (min n 64)).map Ent.kv)) := by
    have h := (rounds m n hn h67 n 0 (by omega)).trip
    have e0 : firsts (min 0 64) = [] := by simp [firsts]
    rw [e0, show ((0 : Nat) : Int) = 0 from rfl] at h
    exact h
  generalize hk : min n 64 = k at hr
  have hk0 : 0 < k := by omega
  have hk64 : k ≤ 64 := by omega
  have hg : getE 0 (firsts k) = some ⟨0, 1, zrep⟩ := by
    obtain ⟨j, rfl⟩ : ∃ j, k = j + 1 := ⟨k - 1, by omega⟩
    simp [firsts, List.range_succ_eq_map, getE]
  have hput := put_lit (firsts k) (firsts_ok _) 0 2 0 9
  have hp2 : putS (firsts k) 0 2 ⟨0, 9, true, []⟩ = (0, putE ⟨0, 2, ⟨0, 9, true, []⟩⟩ (firsts k)) := by
    unfold putS
    rw [if_neg (by simp [mayB]), if_neg (by simp), if_neg (by simp [seqOf, hg]), if_neg (by simp [hg])]
  rw [hp2] at hput
  have hlen := len_ok (putE ⟨0, 2, ⟨0, 9, true, []⟩⟩ (firsts k))
  rw [putE_len _ _ _ hg, firsts_len] at hlen
  exact ⟨_, fullF_1 m n k _ _ awake_ok (by simp; omega) hlen hput (Trip.impK (k := [true, false, true, true, true]) hr (by kernel_rfl)) new_ok⟩

end Go.L11
