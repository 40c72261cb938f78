import Derived.Test.YtpfnoilcmoaplaaL11F
import Derived.Test.YtpfnoilcmoaplaaAbsLaw
set_option linter.unusedVariables false
set_option linter.unusedSimpArgs false
set_option maxRecDepth 100000
namespace Go.L11
open Go Go.Abs Go.Proofs

/-! ## Tables, plainly -/
theorem getE_app (s : Int) (b : List Ent) : ∀ (a : List Ent), getE s (a ++ b) = (getE s a).or (getE s b)
  | [] => by simp [getE]
  | x :: a => by
    simp only [List.cons_append, getE]
    split
    · rfl
    · exact getE_app s b a
theorem getE_none {s : Int} : ∀ {t : List Ent}, (∀ x ∈ t, x.s ≠ s) → getE s t = none
  | [], _ => rfl
  | x :: t, h => by
    simp only [getE]
    rw [if_neg (Ne.symm (h x (by simp)))]
    exact getE_none fun y hy => h y (by simp [hy])
theorem getE_putE (y : Ent) (s : Int) : ∀ (t : List Ent), getE s (putE y t) = if s = y.s then some y else getE s t
  | [] => by simp [putE, getE]
  | x :: t => by
    simp only [putE]
    split
    · rename_i e
      simp only [getE]
      split
      · rfl
      · rename_i h; rw [if_neg (by rw [← e]; exact h)]
    · rename_i e
      simp only [getE]
      rw [getE_putE y s t]
      split
      · rename_i h
        rw [if_neg (by rw [h]; exact fun h' => e h'.symm)]
      · rfl
theorem putE_mem {y x : Ent} : ∀ {t : List Ent}, x ∈ putE y t → x = y ∨ x ∈ t
  | [], h => by simp [putE] at h; exact .inl h
  | z :: t, h => by
    simp only [putE] at h
    split at h
    · rcases List.mem_cons.1 h with h | h
      · exact .inl h
      · exact .inr (by simp [h])
    · rcases List.mem_cons.1 h with h | h
      · exact .inr (by simp [h])
      · rcases putE_mem h with h | h
        · exact .inl h
        · exact .inr (by simp [h])
theorem putE_len (y : Ent) : ∀ (t : List Ent), (putE y t).length = if (getE y.s t).isSome then t.length else t.length + 1
  | [] => rfl
  | x :: t => by
    simp only [putE, getE]
    split
    · simp
    · simp only [List.length_cons, putE_len y t]
      split <;> rfl
theorem seq_putE (y : Ent) (s : Int) (t : List Ent) : seqOf (putE y t) s = if s = y.s then y.q else seqOf t s := by
  unfold seqOf; rw [getE_putE]; split <;> rfl
theorem tabOk_putE {y : Ent} {t : List Ent} (h : tabOk t) (hy : y.r.ok) : tabOk (putE y t) := fun x hx => by
  rcases putE_mem hx with rfl | hx
  · exact hy
  · exact h x hx

theorem find_lt {t : List Ent} {s q : Int} (hm : mayB s q = true) (h : seqOf t s < q) : findS t s q = (zrep, 3) := by
  unfold findS; rw [if_neg (by simp [hm]), if_pos h]
theorem find_gt {t : List Ent} {s q : Int} (hm : mayB s q = true) (h : seqOf t s > q) : findS t s q = (zrep, 110) := by
  unfold findS; rw [if_neg (by simp [hm]), if_neg (by omega), if_pos h]
theorem find_eq {t : List Ent} {s q : Int} (hm : mayB s q = true) (h : seqOf t s = q) : findS t s q = (repOf t s, 0) := by
  unfold findS; rw [if_neg (by simp [hm]), if_neg (by omega), if_neg (by omega)]
theorem put_ge {t : List Ent} {s q : Int} {r : Rep} (hm : mayB s q = true) (hr : r.rs.length ≤ 64) (h : seqOf t s ≥ q) : putS t s q r = (110, t) := by
  unfold putS; rw [if_neg (by simp [hm]), if_neg (by omega), if_pos h]
theorem put_lt {t : List Ent} {s q : Int} {r : Rep} (hm : mayB s q = true) (hr : r.rs.length ≤ 64) (h : seqOf t s < q) (hl : t.length < 64) : putS t s q r = (0, putE ⟨s, q, r⟩ t) := by
  unfold putS; rw [if_neg (by simp [hm]), if_neg (by omega), if_neg (by omega), if_neg (by rintro ⟨_, h⟩; omega)]
theorem may_ok {s q : Int} (h0 : 0 ≤ s) (h1 : s ≤ 2147483647) (h2 : 1 ≤ q) (h3 : q ≤ 2147483647) : mayB s q = true := by
  unfold mayB; exact decide_eq_true ⟨h0, h1, h2, h3⟩

/-! ## SessionApart -/
abbrev irow (x : Int) : List AVal := [.int .i64 x]
abbrev prow (x : Int × Int) : List AVal := [.int .i64 x.1, .int .i64 x.2]
structure InvA (t : List Ent) (n : List Int) : Prop where
  ok : tabOk t
  len : n.length = 8
  q : ∀ x ∈ t, 1 ≤ x.q
  seq : ∀ s : Nat, s < 8 → seqOf t s = n.getD s 0 ∧ 0 ≤ n.getD s 0
  size : t.length = n.countP (fun x => x != 0)

theorem seq_none {t : List Ent} {s : Int} (hq : ∀ x ∈ t, 1 ≤ x.q) : seqOf t s = 0 ↔ getE s t = none := by
  unfold seqOf
  cases h : getE s t with
  | none => simp
  | some x =>
    have := hq x (getE_mem h).1
    simp
    omega

theorem InvA.put {t : List Ent} {n : List Int} (h : InvA t n) (s : Nat) (hs : s < 8) (q a : Int) (hq : 1 ≤ q) : InvA (putE ⟨s, q, litR 0 a⟩ t) (n.set s q) := by
  obtain ⟨e1, e2⟩ := h.seq s hs
  have hsn : s < n.length := by rw [h.len]; exact hs
  refine ⟨tabOk_putE h.ok (litR_ok 0 a), by rw [List.length_set]; exact h.len, fun x hx => ?_, fun s' hs' => ?_, ?_⟩
  · rcases putE_mem hx with rfl | hx
    · exact hq
    · exact h.q x hx
  · rw [seq_putE, getD_set _ _ _ _ _ hsn]
    by_cases e : s = s'
    · subst e; simp; omega
    · rw [if_neg (by dsimp only; omega), if_neg e]; exact h.seq s' hs'
  · rw [putE_len]
    dsimp only
    rw [List.countP_set (by exact hsn)]
    have hD : n[s] = n.getD s 0 := by rw [List.getD_eq_getElem?_getD, List.getElem?_eq_getElem hsn]; rfl
    rw [hD]
    have hq0 : (q != 0) = true := by simp; omega
    rw [hq0]
    by_cases e : n.getD s 0 = 0
    · have hg : getE (s : Int) t = none := (seq_none h.q).1 (by rw [e1]; exact e)
      rw [hg, e, h.size]
      simp
    · have hg : (getE (s : Int) t).isSome = true := by
        cases hg : getE (s : Int) t with
        | none => exact absurd ((seq_none h.q).2 hg) (by rw [e1]; exact e)
        | some x => rfl
      have hp : 0 < n.countP (fun x => x != 0) := by
        rw [List.countP_pos_iff]
        exact ⟨n[s], List.getElem_mem hsn, by rw [hD]; simpa using e⟩
      rw [hg, if_pos rfl, h.size]
      have : (n.getD s 0 != 0) = true := by simpa using e
      rw [this]
      simp
      omega
theorem InvA.small {t : List Ent} {n : List Int} (h : InvA t n) : t.length < 64 := by
  have := List.countP_le_length (l := n) (p := fun x => x != 0)
  rw [h.size]
  have := h.len
  omega

theorem and_at (x : Int) (k : Nat) (hk : k < 4611686018427387904) : ∃ m : Nat, bits .and .i64 x (k : Int) = m ∧ m ≤ k := by
  obtain ⟨h0, h1⟩ := and_small x k hk
  exact ⟨(bits .and .i64 x (k : Int)).toNat, by omega, by omega⟩

theorem ap_rounds {b : Bool} (ids : List (Int × Int)) : ∀ (d i : Nat), i + d = min ids.length 200 → ∀ (t : List Ent) (n : List Int), InvA t n → ∃ (t' : List Ent) (n' : List Int),
    LoopRun Try.prog 0 (loopNo Try.f6 0) (rgA b (ids.map prow) i) (Tab (t.map Ent.kv) ++ [.rows true 1 (n.map irow)]) (.exit 0) (rgA b (ids.map prow) (min ids.length 200 : Nat)) (Tab (t'.map Ent.kv) ++ [.rows true 1 (n'.map irow)])
  | 0, i, hi, t, n, hI => by
    obtain rfl : i = min ids.length 200 := by omega
    refine ⟨t, n, .done ?_ (by simp)⟩
    by_cases h : ids.length ≤ 200
    · exact apY_1 b (ids.map prow) _ _ _ (decide_eq_false (by rw [List.length_map]; omega))
    · exact apX_1 b (ids.map prow) _ _ _ (decide_eq_false (by omega)) (decide_eq_true (by rw [List.length_map]; omega))
  | d + 1, i, hi, t, n, hI => by
    have hl : i < ids.length := by omega
    have hw : IntKind.wrap .i64 ((i : Int) + 1) = ((i + 1 : Nat) : Int) := by rw [wrapS (by omega) (by omega)]; omega
    obtain ⟨s, hs, hs7⟩ := and_at (ids.getD i (0, 0)).1 7 (by omega)
    obtain ⟨m, hm, hm255⟩ := and_at (ids.getD i (0, 0)).2 255 (by omega)
    have hs' : bits .and .i64 (ids.getD i (0, 0)).1 7 = (s : Int) := hs
    have hm' : bits .and .i64 (ids.getD i (0, 0)).2 255 = (m : Int) := hm
    have hq : IntKind.wrap .i64 (1 + bits .and .i64 (ids.getD i (0, 0)).2 255) = 1 + (m : Int) := by rw [hm', wrapS (by omega) (by omega)]
    have small : (i : Int) < 200 := by omega
    have hsn : s < n.length := by rw [hI.len]; omega
    obtain ⟨e1, e2⟩ := hI.seq s (by omega)
    have hmay := may_ok (s := (s : Int)) (q := 1 + (m : Int)) (by omega) (by omega) (by omega) (by omega)
    have hfind := find_ok t hI.ok s (1 + (m : Int))
    have hput := put_ok t hI.ok s (1 + (m : Int)) (litR 0 i) (litR_ok 0 i)
    have hr64 : (litR 0 (i : Int)).rs.length ≤ 64 := by simp [litR]
    have kN := apN_1 b (repOf t s).b (ids.map prow) (n.map irow) (repOf t s).rs i
    have kE := apE_1 b (repOf t s).b (ids.map prow) (n.map irow) (repOf t s).rs i
    have kO := apO_1 b (repOf t s).b (ids.map prow) (n.map irow) (repOf t s).rs i
    rcases Int.lt_trichotomy (n.getD s 0) (1 + (m : Int)) with hc | hc | hc
    · rw [find_lt hmay (by rw [e1]; exact hc)] at hfind
      rw [put_lt hmay hr64 (by rw [e1]; exact hc) hI.small] at hput
      have key := apN_1 b true (ids.map prow) (n.map irow) [] i 0 0 (t.map Ent.kv) ((putE ⟨s, 1 + (m : Int), litR 0 i⟩ t).map Ent.kv)
      simp only [Int.toNat_natCast, getD_map (f := prow) ids i (0, 0) hl, List.getD_cons_zero, List.getD_cons_succ, AVal.toInt, hs', hq, Nat.add_zero, getD_map (f := irow) n s 0 hsn, List.length_map, hw] at key
      obtain ⟨t', n', hrun⟩ := ap_rounds ids d (i + 1) (by omega) _ _ (hI.put s (by omega) (1 + m) i (by omega))
      refine ⟨t', n', .more ?_ hrun⟩
      have := key (decide_eq_true hsn) (decide_eq_true (by omega)) hput (decide_eq_false (by omega)) (by kernel_rfl) (beq_eq_false_iff_ne.2 (by omega)) hfind (decide_eq_true hl) (by kernel_rfl) (decide_eq_true (by omega)) (by kernel_rfl) (decide_eq_true (by omega)) (decide_eq_true (by omega))
      have e4 := set_map (f := irow) n s (1 + (m : Int))
      have e3 : setCells (irow (n.getD s 0)) 0 [.int .i64 (1 + (m : Int))] = irow (1 + (m : Int)) := rfl
      rw [e3, e4] at this
      exact this
    · rw [find_eq hmay (by rw [e1]; exact hc)] at hfind
      rw [put_ge hmay hr64 (by rw [e1]; omega)] at hput
      have key := apE_1 b (repOf t s).b (ids.map prow) (n.map irow) (repOf t s).rs i (repOf t s).e (repOf t s).a (t.map Ent.kv) (t.map Ent.kv)
      simp only [Int.toNat_natCast, getD_map (f := prow) ids i (0, 0) hl, List.getD_cons_zero, List.getD_cons_succ, AVal.toInt, hs', hq, Nat.add_zero, getD_map (f := irow) n s 0 hsn, List.length_map, hw] at key
      obtain ⟨t', n', hrun⟩ := ap_rounds ids d (i + 1) (by omega) t n hI
      refine ⟨t', n', .more ?_ hrun⟩
      exact key hput (decide_eq_false (by omega)) (decide_eq_true hsn) (by kernel_rfl) (decide_eq_true (by omega)) (beq_iff_eq.2 hc) hfind (decide_eq_true hl) (by kernel_rfl) (decide_eq_true (by omega)) (by kernel_rfl) (decide_eq_true (by omega)) (decide_eq_true (by omega))
    · rw [find_gt hmay (by rw [e1]; exact hc)] at hfind
      rw [put_ge hmay hr64 (by rw [e1]; omega)] at hput
      have key := apO_1 b true (ids.map prow) (n.map irow) [] i 0 0 (t.map Ent.kv) (t.map Ent.kv)
      simp only [Int.toNat_natCast, getD_map (f := prow) ids i (0, 0) hl, List.getD_cons_zero, List.getD_cons_succ, AVal.toInt, hs', hq, Nat.add_zero, getD_map (f := irow) n s 0 hsn, List.length_map, hw] at key
      obtain ⟨t', n', hrun⟩ := ap_rounds ids d (i + 1) (by omega) t n hI
      refine ⟨t', n', .more ?_ hrun⟩
      exact key hput (decide_eq_true (by omega)) (decide_eq_true hsn) (by kernel_rfl) (decide_eq_true (by omega)) (beq_eq_false_iff_ne.2 (by omega)) hfind (decide_eq_true hl) (by kernel_rfl) (decide_eq_true (by omega)) (by kernel_rfl) (decide_eq_true (by omega)) (decide_eq_true (by omega))

theorem apart_law (b : Bool) (ids : List (Int × Int)) : FOk Try.prog 6 [.fsl b 2 (ids.map prow) none] [] (.bool true) [] := by
  have hI0 : InvA [] (List.replicate 8 0) := ⟨fun x hx => by simp at hx, rfl, fun x hx => by simp at hx, fun s hs => by
    rw [List.getD_eq_getElem?_getD, List.getElem?_replicate, if_pos hs]; exact ⟨rfl, by simp⟩, rfl⟩
  obtain ⟨t, n, hA⟩ := ap_rounds (b := b) ids (min ids.length 200) 0 (by omega) _ _ hI0
  have hA2 := hA.trip
  rw [show ((0 : Nat) : Int) = 0 from rfl] at hA2
  exact apart_1 b (ids.map prow) (n.map irow) _ (t.map Ent.kv) awake_ok hA2 new_ok

theorem apart_row (xs : List AVal) (h : okArgs Try.prog Try.f6.params.toList [[.sl 16 [.int .i64, .int .i64]]] xs) : ∃ σ', FOk Try.prog 6 xs [] (.bool true) σ' := by
  obtain ⟨a, bs, rfl, h1, h2⟩ := h
  cases h2
  simp only [okArg, show isAggT Try.prog 41 = false from by kernel_rfl, okKs, okK] at h1
  obtain ⟨v, us, e, ⟨b, rows, rfl, _, _, _, hr⟩, rfl⟩ := h1
  cases e
  obtain ⟨ids, rfl⟩ := rows_of (f := prow) rows (fun row hrow => by
    obtain ⟨v, us, rfl, ⟨x, rfl, _⟩, v2, us2, rfl, ⟨y, rfl, _⟩, rfl⟩ := hr row hrow
    exact ⟨(x, y), rfl⟩)
  exact ⟨_, apart_law b ids⟩

end Go.L11
