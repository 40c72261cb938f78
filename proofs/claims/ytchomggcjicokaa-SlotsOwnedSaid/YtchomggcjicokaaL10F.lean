import Derived.Test.YtchomggcjicokaaL10E
set_option linter.unusedVariables false
set_option linter.unusedSimpArgs false
set_option maxRecDepth 100000
namespace Go.L10
open Go Go.Abs Go.Proofs

/-! ## Ranges, plainly -/
/-- ranges one behind the other, from a slot on, behind a group -/
def Chain (l : List Own) : Int → Int → List Rng → Int → Prop
  | nx, lt, [], e => nx = e
  | nx, lt, r :: rs, e => r.lo = nx ∧ r.lo ≤ r.hi ∧ 0 ≤ r.lo ∧ r.hi ≤ 15 ∧ r.g ≠ lt ∧ (∀ s : Nat, r.lo ≤ s → (s : Int) ≤ r.hi → (l.getD s z).g = r.g) ∧ Chain l (r.hi + 1) r.g rs e
def lastG : Int → List Rng → Int
  | lt, [] => lt
  | _, r :: rs => lastG r.g rs

theorem lastG_snoc (r : Rng) : ∀ (rs : List Rng) (lt : Int), lastG lt (rs ++ [r]) = r.g
  | [], lt => rfl
  | x :: rs, lt => by simp only [List.cons_append, lastG]; exact lastG_snoc r rs x.g
theorem chain_snoc {l : List Own} {r : Rng} : ∀ {rs : List Rng} {nx lt e : Int}, Chain l nx lt rs e → r.lo = e → r.lo ≤ r.hi → 0 ≤ r.lo → r.hi ≤ 15 → r.g ≠ lastG lt rs → (∀ s : Nat, r.lo ≤ s → (s : Int) ≤ r.hi → (l.getD s z).g = r.g) → Chain l nx lt (rs ++ [r]) (r.hi + 1)
  | [], nx, lt, e, h, h1, h2, h3, h4, h5, h6 => by
    simp only [Chain] at h
    subst h
    exact ⟨h1, h2, h3, h4, h5, h6, rfl⟩
  | x :: rs, nx, lt, e, h, h1, h2, h3, h4, h5, h6 => by
    obtain ⟨g1, g2, g3, g4, g5, g6, g7⟩ := h
    exact ⟨g1, g2, g3, g4, g5, g6, chain_snoc g7 h1 h2 h3 h4 h5 h6⟩
theorem chain_more {l : List Own} {r : Rng} : ∀ {rs : List Rng} {nx lt : Int} {e : Nat}, Chain l nx lt (rs ++ [r]) e → e ≤ 15 → (l.getD e z).g = r.g → Chain l nx lt (rs ++ [⟨r.lo, e, r.g⟩]) (e + 1)
  | [], nx, lt, e, h, h1, h2 => by
    obtain ⟨g1, g2, g3, g4, g5, g6, g7⟩ := h
    simp only [Chain] at g7
    refine ⟨g1, by dsimp only; omega, g3, by dsimp only; omega, g5, fun s hs1 hs2 => ?_, rfl⟩
    dsimp only at hs1 hs2 ⊢
    by_cases he : (s : Int) ≤ r.hi
    · exact g6 s hs1 he
    · rw [show s = e by omega]; exact h2
  | x :: rs, nx, lt, e, h, h1, h2 => by
    obtain ⟨g1, g2, g3, g4, g5, g6, g7⟩ := h
    exact ⟨g1, g2, g3, g4, g5, g6, chain_more g7 h1 h2⟩

theorem last_split {α : Type} (l : List α) (h : 0 < l.length) : ∃ a x, l = a ++ [x] := by
  rcases List.eq_nil_or_concat l with rfl | ⟨a, x, rfl⟩
  · simp at h
  · exact ⟨a, x, by simp⟩

theorem rng_chain {l : List Own} (hg : ∀ s, s < 16 → 1 ≤ (l.getD s z).g) : ∀ i : Nat, i ≤ 16 → Chain l 0 0 (rngTo l i) i
  | 0, _ => rfl
  | i + 1, hi => by
    have ih := rng_chain hg i (by omega)
    simp only [rngTo]
    generalize rngTo l i = out at ih
    unfold rngAdd
    by_cases h0 : 0 < out.length
    · obtain ⟨a, x, rfl⟩ := last_split out h0
      have e1 : (a ++ [x]).getD ((a ++ [x]).length - 1) zr = x := by simp
      have e2 : ∀ y : Rng, (a ++ [x]).set ((a ++ [x]).length - 1) y = a ++ [y] := fun y => by simp
      rw [e1]
      by_cases h1 : x.g = (l.getD i z).g
      · rw [if_pos ⟨h0, h1⟩, e2]
        exact chain_more ih (by omega) h1.symm
      · rw [if_neg (by rintro ⟨_, h⟩; exact h1 h)]
        exact chain_snoc ih rfl (by dsimp only; omega) (by dsimp only; omega) (by dsimp only; omega) (by rw [lastG_snoc]; exact fun h => h1 h.symm) (fun s h1 h2 => by dsimp only at h1 h2 ⊢; rw [show s = i by omega])
    · rw [if_neg (by rintro ⟨h, _⟩; exact h0 h)]
      have : out = [] := by cases out <;> simp at h0 ⊢
      subst this
      have hgi := hg i (by omega)
      exact chain_snoc ih rfl (by dsimp only; omega) (by dsimp only; omega) (by dsimp only; omega) (by simp only [lastG]; omega) (fun s h1 h2 => by dsimp only at h1 h2 ⊢; rw [show s = i by omega])

structure Chained (l : List Own) (rs : List Rng) : Prop where
  h : Chain l 0 0 rs 16
theorem chained {l : List Own} (hl : l.length = 16) (hg : ∀ s, s < 16 → 1 ≤ (l.getD s z).g) : Chained l (rngS l) := by
  have h := rng_chain hg l.length (Nat.le_of_eq hl)
  have e : (16 : Int) = (l.length : Int) := by rw [hl]; rfl
  refine ⟨?_⟩
  unfold rngS
  rw [e]
  exact h
theorem rngS_len {l : List Own} (hl : l.length = 16) : (rngS l).length ≤ 16 := by
  have := rngTo_len l l.length
  unfold rngS
  omega

/-! ## What is given, counted -/
structure Inv (l : List Own) (n : List Int) (i : Nat) : Prop where
  len : l.length = 16
  lenN : n.length = 16
  ok : ∀ s, s < 16 → (l.getD s z).e = 1 + n.getD s 0 ∧ 0 ≤ n.getD s 0 ∧ n.getD s 0 ≤ i ∧ 1 ≤ (l.getD s z).g
theorem Inv.good {l : List Own} {n : List Int} {i : Nat} (h : Inv l n i) : Good l := ⟨h.len, by have := (h.ok 0 (by omega)).2.2.2; omega⟩

/-- a slot and a group -/
abbrev grow (x : Int × Int) : List AVal := [.int .i64 x.1, .int .i64 x.2]
theorem nset (n : List Int) (k : Nat) : setCells (irow (n.getD k 0)) 0 [.int .i64 (IntKind.wrap .i64 (AVal.toInt (.int .i64 (n.getD k 0)) + 1))] = irow (IntKind.wrap .i64 (n.getD k 0 + 1)) := rfl

theorem ow_rounds {b : Bool} (gs : List (Int × Int)) : ∀ (d i : Nat), i + d = min gs.length 200 → ∀ (l : List Own) (n : List Int), Inv l n i → ∃ l' n', Inv l' n' (min gs.length 200) ∧
    LoopRun Try.prog 0 (loopNo Try.f3 0) (rgO b (gs.map grow) i) [.rows true 32 [flat l], .rows true 1 (n.map irow)] (.exit 0) (rgO b (gs.map grow) (min gs.length 200 : Nat)) [.rows true 32 [flat l'], .rows true 1 (n'.map irow)]
  | 0, i, hi, l, n, hI => by
    obtain rfl : i = min gs.length 200 := by omega
    refine ⟨l, n, hI, .done ?_ (by simp)⟩
    by_cases h : gs.length ≤ 200
    · exact owA_6 _ (flat l) _ _ _ _ 0 (decide_eq_false (by rw [List.length_map]; omega))
    · exact owA_5 _ (flat l) _ _ _ _ 0 (decide_eq_false (by omega)) (decide_eq_true (by rw [List.length_map]; omega))
  | d + 1, i, hi, l, n, hI => by
    have hl : i < gs.length := by omega
    have hw : IntKind.wrap .i64 ((i : Int) + 1) = ((i + 1 : Nat) : Int) := by rw [wrapS (by omega) (by omega)]; omega
    have hgive := give_ok hI.good (gs.getD i (0, 0)).1 (gs.getD i (0, 0)).2
    have k3 := owA_3 (flat l) (flat (giveS l (gs.getD i (0, 0)).1 (gs.getD i (0, 0)).2).2) (n.map irow) (gs.map grow) b i (giveS l (gs.getD i (0, 0)).1 (gs.getD i (0, 0)).2).1
    have k4 := owA_4 (flat l) (flat (giveS l (gs.getD i (0, 0)).1 (gs.getD i (0, 0)).2).2) (n.map irow) (gs.map grow) b i (giveS l (gs.getD i (0, 0)).1 (gs.getD i (0, 0)).2).1
    simp only [Int.toNat_natCast, getD_map (f := grow) gs i (0, 0) hl, List.getD_cons_zero, List.getD_cons_succ, AVal.toInt, List.length_map, Nat.add_zero, hw] at k3 k4
    generalize (gs.getD i (0, 0)).1 = s at *
    generalize (gs.getD i (0, 0)).2 = g at *
    have small : (i : Int) < 200 := by omega
    by_cases h0 : (giveS l s g).1 = 0
    · -- given
      have hs : 0 ≤ s ∧ s ≤ 15 ∧ 1 ≤ g ∧ (giveS l s g).2 = l.set s.toNat ⟨g, IntKind.wrap .i64 ((l.getD s.toNat z).e + 1)⟩ := by
        unfold giveS at h0 ⊢
        by_cases a1 : inB s 0 15 = true
        · rw [if_pos a1] at h0 ⊢
          have b1 : 0 ≤ s ∧ s ≤ 15 := by simpa [inB] using a1
          by_cases a2 : inB g 1 8 = true
          · rw [if_pos a2] at h0 ⊢
            have b2 : 1 ≤ g ∧ g ≤ 8 := by simpa [inB] using a2
            by_cases a3 : (l.getD s.toNat z).g = g
            · rw [if_pos a3] at h0; simp at h0
            · rw [if_neg a3] at h0 ⊢
              by_cases a4 : (l.getD s.toNat z).e ≥ 2147483647
              · rw [if_pos a4] at h0; simp at h0
              · rw [if_neg a4]; exact ⟨b1.1, b1.2, b2.1, rfl⟩
          · rw [if_neg a2] at h0; simp at h0
        · rw [if_neg a1] at h0; simp at h0
      obtain ⟨s0, s15, g1, hset⟩ := hs
      have hsn : s.toNat < n.length := by rw [hI.lenN]; omega
      have hsl : s.toNat < l.length := by rw [hI.len]; omega
      obtain ⟨o1, o2, o3, o4⟩ := hI.ok s.toNat (by omega)
      have hI2 : Inv (giveS l s g).2 (n.set s.toNat (IntKind.wrap .i64 (n.getD s.toNat 0 + 1))) (i + 1) := by
        rw [hset]
        refine ⟨by rw [List.length_set]; exact hI.len, by rw [List.length_set]; exact hI.lenN, fun t ht => ?_⟩
        rw [getD_set _ _ _ _ _ hsl, getD_set _ _ _ _ _ hsn]
        have w1 : IntKind.wrap .i64 ((l.getD s.toNat z).e + 1) = (l.getD s.toNat z).e + 1 := wrapS (by omega) (by omega)
        have w2 : IntKind.wrap .i64 (n.getD s.toNat 0 + 1) = n.getD s.toNat 0 + 1 := wrapS (by omega) (by omega)
        rw [w1, w2]
        by_cases he : s.toNat = t
        · rw [if_pos he, if_pos he]; dsimp only; omega
        · rw [if_neg he, if_neg he]
          obtain ⟨p1, p2, p3, p4⟩ := hI.ok t ht
          exact ⟨p1, p2, by omega, p4⟩
      obtain ⟨l', n', hI', hrun⟩ := ow_rounds gs d (i + 1) (by omega) _ _ hI2
      refine ⟨l', n', hI', .more ?_ hrun⟩
      have key := k3
      simp only [getD_map (f := irow) n _ 0 hsn] at key
      have := key (by simpa using hsn) (decide_eq_true (by omega)) (by kernel_rfl) (by simpa using hl) (by kernel_rfl) (decide_eq_true (by omega)) (decide_eq_false (by omega)) (decide_eq_false (by omega)) (by simpa using h0) hgive (by kernel_rfl) (decide_eq_true (by omega)) (decide_eq_true (by omega))
      have e2 := set_map (f := irow) n s.toNat (IntKind.wrap .i64 (n.getD s.toNat 0 + 1))
      have e3 : setCells (irow (n.getD s.toNat 0)) 0 [.int .i64 (IntKind.wrap .i64 (n.getD s.toNat 0 + 1))] = irow (IntKind.wrap .i64 (n.getD s.toNat 0 + 1)) := rfl
      simp only [List.getD_cons_zero, AVal.toInt, e3, e2] at this
      exact this
    · have hsame : (giveS l s g).2 = l := by
        unfold giveS at h0 ⊢
        split
        · rename_i a1
          rw [if_pos a1] at h0
          split
          · rename_i a2
            rw [if_pos a2] at h0
            split
            · rfl
            · rename_i a3
              rw [if_neg a3] at h0
              split
              · rfl
              · rename_i a4; rw [if_neg a4] at h0; simp at h0
          · rfl
        · rfl
      rw [hsame] at k4 hgive
      obtain ⟨l', n', hI', hrun⟩ := ow_rounds gs d (i + 1) (by omega) l n ⟨hI.len, hI.lenN, fun t ht => let ⟨p1, p2, p3, p4⟩ := hI.ok t ht; ⟨p1, p2, by omega, p4⟩⟩
      exact ⟨l', n', hI', .more (k4 (by simpa using h0) hgive (by simpa using hl) (by kernel_rfl) (decide_eq_true (by omega)) (by kernel_rfl) (decide_eq_true (by omega)) (decide_eq_true (by omega))) hrun⟩

theorem ow_inner {l : List Own} {n : List Int} {i0 : Nat} (hI : Inv l n i0) (h2 : i0 ≤ 200) {b : Bool} (rs : List Rng) (i : Nat) (hi : i < rs.length) (r : Rng) (hr : rs.getD i zr = r) (hlo : 0 ≤ r.lo) (hhi : r.hi ≤ 15) (hle : r.lo ≤ r.hi)
    (hall : ∀ s : Nat, r.lo ≤ s → (s : Int) ≤ r.hi → (l.getD s z).g = r.g) : ∀ (d : Nat) (s : Nat), (s : Int) + d = r.hi + 1 → r.lo ≤ s →
    LoopRun Try.prog 0 (loopNo Try.f3 2) (rgO3 b (rs.map Rng.row) i s) [.rows true 32 [flat l], .rows true 1 (n.map irow)] (.exit 4) (rgO3 b (rs.map Rng.row) i (r.hi + 1)) [.rows true 32 [flat l], .rows true 1 (n.map irow)]
  | 0, s, hs, h1 => by
    have : (s : Int) = r.hi + 1 := by omega
    rw [this]
    have key := owC_5 (flat l) (n.map irow) (rs.map Rng.row) b i (r.hi + 1) 0 0 0
    simp only [Int.toNat_natCast, getD_map (f := Rng.row) rs i zr hi, hr, List.getD_cons_zero, List.getD_cons_succ, AVal.toInt, List.length_map] at key
    exact .done (key (decide_eq_false (by omega)) (decide_eq_true hi) (by kernel_rfl) (decide_eq_true (by omega))) (by simp)
  | d + 1, s, hs, h1 => by
    have hw : IntKind.wrap .i64 ((s : Int) + 1) = ((s + 1 : Nat) : Int) := by rw [wrapS (by omega) (by omega)]; omega
    have hsl : s < 16 := by omega
    have ho := owner_ok hI.good (s : Int)
    have hb : inB (s : Int) 0 15 = true := by simp [inB]; omega
    unfold ownerS at ho
    simp only [hb, if_true, Int.toNat_natCast] at ho
    obtain ⟨o1, o2, o3, o4⟩ := hI.ok s hsl
    have hg := hall s h1 (by omega)
    have key := owC_4 (flat l) (n.map irow) (rs.map Rng.row) b i s (l.getD s z).g (l.getD s z).e 0
    simp only [Int.toNat_natCast, getD_map (f := Rng.row) rs i zr hi, hr, getD_map (f := irow) n s 0 (by rw [hI.lenN]; exact hsl), List.getD_cons_zero, List.getD_cons_succ, AVal.toInt, List.length_map, Nat.add_zero, hw] at key
    have w : IntKind.wrap .i64 (1 + n.getD s 0) = 1 + n.getD s 0 := wrapS (by omega) (by omega)
    rw [w] at key
    refine .more ?_ (ow_inner hI h2 rs i hi r hr hlo hhi hle hall d (s + 1) (by omega) (by omega))
    exact key (by rfl) (by rw [o1]; simp) (decide_eq_true (by rw [hI.lenN]; exact hsl)) (by kernel_rfl) (decide_eq_true (by omega)) (by rw [hg]; simp) (decide_eq_true hi) (by kernel_rfl) (decide_eq_true (by omega)) ho (decide_eq_true (by omega)) (by kernel_rfl)

theorem ow_outer {l : List Own} {n : List Int} {i0 : Nat} (hI : Inv l n i0) (h2 : i0 ≤ 200) {b : Bool} (rs : List Rng) (hlen : rs.length ≤ 16) : ∀ (suf : List Rng) (pre : List Rng) (nx lt : Int), rs = pre ++ suf → Chain l nx lt suf 16 → ∃ lt',
    LoopRun Try.prog 0 (loopNo Try.f3 1) (rgO2 nx lt b (rs.map Rng.row) pre.length) [.rows true 32 [flat l], .rows true 1 (n.map irow)] (.exit 2) (rgO2 16 lt' b (rs.map Rng.row) rs.length) [.rows true 32 [flat l], .rows true 1 (n.map irow)]
  | [], pre, nx, lt, hrs, hc => by
    simp only [Chain] at hc
    subst hc
    simp only [List.append_nil] at hrs
    subst hrs
    refine ⟨lt, .done (owB_6 (flat l) (n.map irow) (rs.map Rng.row) b rs.length 16 lt 0 (decide_eq_false (by rw [List.length_map]; omega))) (by simp)⟩
  | r :: suf, pre, nx, lt, hrs, hc => by
    obtain ⟨c1, c2, c3, c4, c5, c6, c7⟩ := hc
    have hi : pre.length < rs.length := by rw [hrs]; simp
    have hr : rs.getD pre.length zr = r := by rw [hrs]; simp
    obtain ⟨lt', ih⟩ := ow_outer hI h2 rs hlen suf (pre ++ [r]) (r.hi + 1) r.g (by rw [hrs]; simp) c7
    refine ⟨lt', .more ?_ (by rw [List.length_append, List.length_singleton] at ih; exact ih)⟩
    have hin := (ow_inner hI h2 (b := b) rs pre.length hi r hr c3 c4 c2 c6 (r.hi + 1 - r.lo).toNat r.lo.toNat (by omega) (by omega)).trip
    have key := owB_5 (flat l) (n.map irow) (rs.map Rng.row) b pre.length nx lt (r.hi + 1)
    have hw : IntKind.wrap .i64 ((pre.length : Int) + 1) = ((pre.length + 1 : Nat) : Int) := by rw [wrapS (by omega) (by omega)]; omega
    have hw2 : IntKind.wrap .i64 (r.hi + 1) = r.hi + 1 := wrapS (by omega) (by omega)
    simp only [Int.toNat_natCast, getD_map (f := Rng.row) rs _ zr hi, hr, List.getD_cons_zero, List.getD_cons_succ, AVal.toInt, List.length_map, hw, hw2] at key
    rw [show (r.lo.toNat : Int) = r.lo by omega] at hin
    refine key (decide_eq_true hi) (by kernel_rfl) (decide_eq_true (by omega)) (by kernel_rfl) hin (by kernel_rfl) (by simpa using c5) (decide_eq_false (by omega)) (decide_eq_false (by omega)) (by rw [c1]; simp) (decide_eq_true (by omega))

theorem owned_law (m : Int) (b : Bool) (gs : List (Int × Int)) : FOk Try.prog 3 [.int .i64 m, .fsl b 2 (gs.map grow) none] [] (.bool true) [] := by
  obtain ⟨k, hk, h1, h8⟩ := manyG_ok m
  obtain ⟨f1, _, _, f4⟩ := even_facts k h1 h8
  have hI0 : Inv (newS k) (List.replicate 16 0) 0 := ⟨by simp [newS], rfl, fun s hs => by
    have e : (newS k).getD s z = ⟨1 + (s : Int) * k / 16, 1⟩ := by
      unfold newS
      rw [List.getD_eq_getElem?_getD, List.getElem?_map, List.getElem?_range hs]; rfl
    have := (f1 s hs).1
    have e2 : (List.replicate 16 (0 : Int)).getD s 0 = 0 := by
      rw [List.getD_eq_getElem?_getD, List.getElem?_replicate, if_pos hs]; rfl
    rw [e2]
    refine ⟨by rw [e]; rfl, by omega, by omega, this⟩⟩
  have hN : FOk Try.prog 9 [.int .i64 (manyG m)] [] (.tuple [.ptr 0 32 0 0, .int .i64 0]) (MapO (newS k)) := by rw [hk]; exact new_ok k (by omega) (by omega)
  obtain ⟨l, n, hI, hA⟩ := ow_rounds (b := b) gs (min gs.length 200) 0 (by omega) _ _ hI0
  have hch := chained hI.len (fun s hs => (hI.ok s hs).2.2.2)
  obtain ⟨lt', hB⟩ := ow_outer hI (Nat.min_le_right _ _) (b := (rngS l).isEmpty) (rngS l) (rngS_len hI.len) (rngS l) [] 0 0 rfl hch.h
  have hA2 := hA.trip
  have hB2 := hB.trip
  rw [show ((0 : Nat) : Int) = 0 from rfl] at hA2
  rw [show ((([] : List Rng).length : Nat) : Int) = 0 from rfl] at hB2
  refine owned_1 m b (gs.map grow) (flat (newS k)) (flat l) (n.map irow) ((rngS l).map Rng.row) (rngS l).isEmpty (min gs.length 200 : Nat) (rngS l).length 16 lt' awake_ok (by rfl) ?_ ?_ ?_ ?_
  · exact hB2
  · exact ranges_ok hI.good
  · exact hA2
  · exact hN

theorem owned_row (xs : List AVal) (h : okArgs Try.prog Try.f3.params.toList [[.int .i64], [.sl 16 [.int .i64, .int .i64]]] xs) : ∃ σ', FOk Try.prog 3 xs [] (.bool true) σ' := by
  obtain ⟨a, bs, rfl, h1, a2, bs2, rfl, h2, h3⟩ := h
  cases h3
  simp only [okArg, show isAggT Try.prog 3 = false from by kernel_rfl, show isAggT Try.prog 22 = false from by kernel_rfl, okKs, okK] at h1 h2
  obtain ⟨v, us, e, ⟨n, rfl, _⟩, rfl⟩ := h1
  cases e
  obtain ⟨v, us, e, ⟨b, rows, rfl, _, _, _, hr⟩, rfl⟩ := h2
  cases e
  obtain ⟨gs, rfl⟩ := rows_of (f := grow) rows (fun row hrow => by
    obtain ⟨v, us, rfl, ⟨x, rfl, _⟩, v2, us2, rfl, ⟨y, rfl, _⟩, rfl⟩ := hr row hrow
    exact ⟨(x, y), rfl⟩)
  exact ⟨_, owned_law n b gs⟩

end Go.L10
