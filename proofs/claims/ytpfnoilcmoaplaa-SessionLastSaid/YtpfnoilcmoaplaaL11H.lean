import Derived.Test.YtpfnoilcmoaplaaL11G
set_option linter.unusedVariables false
set_option linter.unusedSimpArgs false
set_option maxRecDepth 100000
namespace Go.L11
open Go Go.Abs Go.Proofs

/-! ## SessionLast -/
theorem manyL_ok (m : Int) (k : Nat) (hk : k < 1000) : ∃ n : Nat, manyL m k = n ∧ 1 ≤ n ∧ n ≤ k + 1 := by
  obtain ⟨x, hx, hx2⟩ := and_at m k (by omega)
  refine ⟨1 + x, ?_, by omega, by omega⟩
  unfold manyL
  rw [hx, wrapS (by omega) (by omega)]; omega

/-- the first so many sessions, all done -/
def doneE (k : Nat) : Nat → List Ent
  | 0 => []
  | s + 1 => doneE k s ++ [⟨7 * (s : Int), k, litR 0 (100 * (s : Int) + k)⟩]
/-- and one more, on its way -/
def onE (k s i : Nat) : List Ent := doneE k s ++ (if i = 0 then [] else [⟨7 * (s : Int), i, litR 0 (100 * (s : Int) + i)⟩])

theorem doneE_len (k : Nat) : ∀ s, (doneE k s).length = s
  | 0 => rfl
  | s + 1 => by simp [doneE, doneE_len k s]
theorem doneE_key (k : Nat) : ∀ s, ∀ x ∈ doneE k s, x.s < 7 * (s : Int)
  | 0, x, hx => by simp [doneE] at hx
  | s + 1, x, hx => by
    simp only [doneE, List.mem_append, List.mem_singleton] at hx
    rcases hx with hx | rfl
    · have := doneE_key k s x hx; omega
    · dsimp only; omega
theorem doneE_ok (k : Nat) : ∀ s, tabOk (doneE k s)
  | 0 => fun x hx => by simp [doneE] at hx
  | s + 1 => fun x hx => by
    simp only [doneE, List.mem_append, List.mem_singleton] at hx
    rcases hx with hx | rfl
    · exact doneE_ok k s x hx
    · exact litR_ok _ _
theorem doneE_none (k s : Nat) : getE (7 * (s : Int)) (doneE k s) = none := getE_none fun x hx => by have := doneE_key k s x hx; omega
theorem doneE_get (k : Nat) (j : Nat) : ∀ s, j < s → getE (7 * (j : Int)) (doneE k s) = some ⟨7 * (j : Int), k, litR 0 (100 * (j : Int) + k)⟩
  | 0, h => by omega
  | s + 1, h => by
    simp only [doneE]
    rw [getE_app]
    by_cases e : j = s
    · subst e
      rw [doneE_none]
      simp [getE]
    · rw [doneE_get k j s (by omega)]; rfl

theorem onE_ok (k s i : Nat) : tabOk (onE k s i) := fun x hx => by
  unfold onE at hx
  rcases List.mem_append.1 hx with hx | hx
  · exact doneE_ok k s x hx
  · split at hx
    · simp at hx
    · simp at hx; subst hx; exact litR_ok _ _
theorem onE_len (k s i : Nat) : (onE k s i).length ≤ s + 1 := by
  unfold onE
  rw [List.length_append, doneE_len]
  split <;> simp
theorem onE_get (k s i : Nat) : getE (7 * (s : Int)) (onE k s i) = if i = 0 then none else some ⟨7 * (s : Int), i, litR 0 (100 * (s : Int) + i)⟩ := by
  unfold onE
  rw [getE_app, doneE_none]
  split
  · rfl
  · simp [getE]
theorem onE_seq (k s i : Nat) : seqOf (onE k s i) (7 * (s : Int)) = i := by
  unfold seqOf
  rw [onE_get]
  split
  · rename_i h; subst h; rfl
  · rfl
theorem onE_rep (k s i : Nat) (h : i ≠ 0) : repOf (onE k s i) (7 * (s : Int)) = litR 0 (100 * (s : Int) + i) := by
  unfold repOf
  rw [onE_get, if_neg h]; rfl
theorem putE_app (y : Ent) (b : List Ent) : ∀ (a : List Ent), getE y.s a = none → putE y (a ++ b) = a ++ putE y b
  | [], _ => rfl
  | x :: a, h => by
    simp only [getE] at h
    split at h
    · cases h
    · rename_i e
      simp only [List.cons_append, putE]
      rw [if_neg e, putE_app y b a h]
theorem onE_put (k s i : Nat) : putE ⟨7 * (s : Int), (i : Int) + 1, litR 0 (100 * (s : Int) + ((i : Int) + 1))⟩ (onE k s i) = onE k s (i + 1) := by
  unfold onE
  rw [putE_app _ _ _ (doneE_none k s)]
  congr 1
  split
  · rename_i h; subst h; rfl
  · simp [putE]
theorem onE_full (k s : Nat) (h : k ≠ 0) : onE k s k = doneE k (s + 1) := by
  unfold onE
  rw [if_neg h]; rfl
theorem onE_zero (k s : Nat) : onE k s 0 = doneE k s := by unfold onE; simp

theorem li_rounds (n k s : Nat) (hs : s < 32) (hk : k ≤ 16) : ∀ (d i : Nat), i + d = k →
    LoopRun Try.prog 0 (loopNo Try.f3 1) (rgLI n k s ((i : Int) + 1)) (Tab ((onE k s i).map Ent.kv)) (.exit 2) (rgLI n k s ((k : Int) + 1)) (Tab ((onE k s k).map Ent.kv))
  | 0, i, hi => by
    obtain rfl : i = k := by omega
    exact .done (lastIe_1 _ _ _ _ _ (decide_eq_false (by omega))) (by simp)
  | d + 1, i, hi => by
    have w1 : IntKind.wrap .i64 (7 * (s : Int)) = 7 * (s : Int) := wrapS (by omega) (by omega)
    have w2 : IntKind.wrap .i64 (100 * (s : Int)) = 100 * (s : Int) := wrapS (by omega) (by omega)
    have w3 : IntKind.wrap .i64 (100 * (s : Int) + ((i : Int) + 1)) = 100 * (s : Int) + ((i : Int) + 1) := wrapS (by omega) (by omega)
    have w4 : IntKind.wrap .i64 ((i : Int) + 1 - 1) = (i : Int) := by rw [wrapS (by omega) (by omega)]; omega
    have w5 : IntKind.wrap .i64 ((i : Int) + 1 + 1) = ((i + 1 : Nat) : Int) + 1 := by rw [wrapS (by omega) (by omega)]; omega
    have m1 := may_ok (s := 7 * (s : Int)) (q := (i : Int) + 1) (by omega) (by omega) (by omega) (by omega)
    have hlen := onE_len k s i
    have f1 := find_ok (onE k s i) (onE_ok k s i) (7 * (s : Int)) ((i : Int) + 1)
    rw [find_lt m1 (by rw [onE_seq]; omega)] at f1
    have p1 := put_ok (onE k s i) (onE_ok k s i) (7 * (s : Int)) ((i : Int) + 1) (litR 0 (100 * (s : Int) + ((i : Int) + 1))) (litR_ok _ _)
    rw [put_lt m1 (by simp [litR]) (by rw [onE_seq]; omega) (by omega), onE_put] at p1
    have e1 : seqOf (onE k s (i + 1)) (7 * (s : Int)) = (i : Int) + 1 := by rw [onE_seq]; omega
    have p2 := put_ok (onE k s (i + 1)) (onE_ok k s (i + 1)) (7 * (s : Int)) ((i : Int) + 1) zrep zrep_ok
    rw [put_ge m1 (by simp [zrep]) (by rw [e1]; omega)] at p2
    have f2 := find_ok (onE k s (i + 1)) (onE_ok k s (i + 1)) (7 * (s : Int)) ((i : Int) + 1)
    rw [find_eq m1 e1, onE_rep k s (i + 1) (by omega)] at f2
    have f3 := find_ok (onE k s (i + 1)) (onE_ok k s (i + 1)) (7 * (s : Int)) (i : Int)
    refine .more ?_ (li_rounds n k s hs hk d (i + 1) (by omega))
    by_cases h0 : i = 0
    · subst h0
      generalize hg : findS (onE k s (0 + 1)) (7 * (s : Int)) ((0 : Nat) : Int) = x at f3
      have key := lastI_3 n k s (((0 : Nat) : Int) + 1) ((onE k s 0).map Ent.kv) ((onE k s (0 + 1)).map Ent.kv) (100 * (s : Int) + (((0 : Nat) : Int) + 1)) x.1.e x.1.a x.2 x.1.b x.1.rs
      rw [w1, w2, w3, w4, w5] at key
      exact key (decide_eq_false (by omega)) f3 (by simp) f2 p2 p1 f1 (decide_eq_true (by omega))
    · have m2 := may_ok (s := 7 * (s : Int)) (q := (i : Int)) (by omega) (by omega) (by omega) (by omega)
      rw [find_gt m2 (by rw [e1]; omega)] at f3
      have key := lastI_2 n k s ((i : Int) + 1) ((onE k s i).map Ent.kv) ((onE k s (i + 1)).map Ent.kv) (100 * (s : Int) + ((i : Int) + 1)) 0 0 110 true []
      rw [w1, w2, w3, w4, w5] at key
      exact key (by rfl) (decide_eq_true (by omega)) f3 (by simp) f2 p2 p1 f1 (decide_eq_true (by omega))

theorem lo_rounds (n k : Nat) (hn : n ≤ 32) (hk : k ≤ 16) (hk0 : k ≠ 0) : ∀ (d s : Nat), s + d = n →
    LoopRun Try.prog 0 (loopNo Try.f3 0) (rgLO n k s) (Tab ((doneE k s).map Ent.kv)) (.exit 0) (rgLO n k n) (Tab ((doneE k n).map Ent.kv))
  | 0, s, hs => by
    obtain rfl : s = n := by omega
    exact .done (lastO_2 _ _ _ 0 _ [] (decide_eq_false (by omega))) (by simp)
  | d + 1, s, hs => by
    have hw : IntKind.wrap .i64 ((s : Int) + 1) = ((s + 1 : Nat) : Int) := by rw [wrapS (by omega) (by omega)]; omega
    have hin := (li_rounds n k s (by omega) hk k 0 (by omega)).trip
    rw [onE_zero, onE_full k s hk0, show ((0 : Nat) : Int) + 1 = 1 from rfl] at hin
    have key := lastO_1 n k s ((k : Int) + 1) ((doneE k s).map Ent.kv) ((doneE k (s + 1)).map Ent.kv)
    rw [hw] at key
    exact .more (key hin (decide_eq_true (by omega))) (lo_rounds n k hn hk hk0 d (s + 1) (by omega))

theorem le_rounds (n k : Nat) (hn : n ≤ 32) (hk : k ≤ 16) (hk0 : k ≠ 0) : ∀ (d s : Nat), s + d = n →
    LoopRun Try.prog 0 (loopNo Try.f3 2) (rgLE n k s) (Tab ((doneE k n).map Ent.kv)) (.exit 4) (rgLE n k n) (Tab ((doneE k n).map Ent.kv))
  | 0, s, hs => by
    obtain rfl : s = n := by omega
    exact .done (lastE_3 _ _ _ 0 _ (decide_eq_false (by omega))) (by simp)
  | d + 1, s, hs => by
    have hw : IntKind.wrap .i64 ((s : Int) + 1) = ((s + 1 : Nat) : Int) := by rw [wrapS (by omega) (by omega)]; omega
    have w1 : IntKind.wrap .i64 (7 * (s : Int)) = 7 * (s : Int) := wrapS (by omega) (by omega)
    have w2 : IntKind.wrap .i64 (100 * (s : Int)) = 100 * (s : Int) := wrapS (by omega) (by omega)
    have w3 : IntKind.wrap .i64 (100 * (s : Int) + (k : Int)) = 100 * (s : Int) + (k : Int) := wrapS (by omega) (by omega)
    have m1 := may_ok (s := 7 * (s : Int)) (q := (k : Int)) (by omega) (by omega) (by omega) (by omega)
    have f1 := find_ok (doneE k n) (doneE_ok k n) (7 * (s : Int)) (k : Int)
    have hg := doneE_get k s n (by omega)
    have e1 : seqOf (doneE k n) (7 * (s : Int)) = (k : Int) := by unfold seqOf; rw [hg]; rfl
    have e2 : repOf (doneE k n) (7 * (s : Int)) = litR 0 (100 * (s : Int) + k) := by unfold repOf; rw [hg]; rfl
    rw [find_eq m1 e1, e2] at f1
    have key := lastE_2 n k s (100 * (s : Int) + (k : Int)) ((doneE k n).map Ent.kv)
    rw [w1, w2, w3, hw] at key
    exact .more (key (by simp) f1 (decide_eq_true (by omega))) (le_rounds n k hn hk hk0 d (s + 1) (by omega))

theorem last_law (m q : Int) : FOk Try.prog 3 [.int .i64 m, .int .i64 q] [] (.bool true) [] := by
  obtain ⟨n, hn, hn1, hn2⟩ := manyL_ok m 31 (by omega)
  obtain ⟨k, hk, hk1, hk2⟩ := manyL_ok q 15 (by omega)
  have hn' : manyL m 31 = (n : Int) := hn
  have hk' : manyL q 15 = (k : Int) := hk
  have h1 := (lo_rounds n k (by omega) (by omega) (by omega) n 0 (by omega)).trip
  have h2 := (le_rounds n k (by omega) (by omega) (by omega) n 0 (by omega)).trip
  have hl := len_ok (doneE k n)
  rw [doneE_len] at hl
  rw [show ((0 : Nat) : Int) = 0 from rfl, ← hn', ← hk'] at h1 h2
  exact lastF_1 m q (manyL m 31) (manyL m 31) n ((doneE k n).map Ent.kv) awake_ok (by rw [hn']; simp) hl h2 h1 new_ok

theorem last_row (xs : List AVal) (h : okArgs Try.prog Try.f3.params.toList [[.int .i64], [.int .i64]] xs) : ∃ σ', FOk Try.prog 3 xs [] (.bool true) σ' := by
  obtain ⟨a, bs, rfl, h1, a2, bs2, rfl, h2, h3⟩ := h
  cases h3
  simp only [okArg, show isAggT Try.prog 3 = false from by kernel_rfl, okKs, okK] at h1 h2
  obtain ⟨v, us, e, ⟨n, rfl, _⟩, rfl⟩ := h1
  cases e
  obtain ⟨v, us, e, ⟨m, rfl, _⟩, rfl⟩ := h2
  cases e
  exact ⟨_, last_law n m⟩

end Go.L11
