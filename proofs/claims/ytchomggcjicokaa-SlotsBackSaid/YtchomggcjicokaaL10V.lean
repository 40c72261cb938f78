import Derived.Test.YtchomggcjicokaaL10U
set_option linter.unusedVariables false
set_option linter.unusedSimpArgs false
set_option maxRecDepth 100000
namespace Go.L10
open Go Go.Abs Go.Proofs

theorem step_cons (c : UInt8) (t : List UInt8) : step (c :: t) = if 1 ≤ c.toNat ∧ c.toNat ≤ 8 ∧ (rdV t).2.2 = 0 ∧ 1 ≤ (rdV t).1 ∧ (rdV t).1 ≤ 2147483647 then some (c.toNat, (rdV t).1, (rdV t).2.1) else none := rfl
theorem step_w {l : List UInt8} {g n w : Nat} (h : step l = some (g, n, w)) : 1 ≤ g ∧ g ≤ 8 ∧ 1 ≤ n ∧ n ≤ 2147483647 ∧ w ≤ 9 ∧ 1 + w ≤ l.length ∧ ∃ t, l = UInt8.ofNat g :: t ∧ rdV t = (n, w, 0) := by
  cases l with
  | nil => cases h
  | cons c t =>
    rw [show step (c :: t) = if 1 ≤ c.toNat ∧ c.toNat ≤ 8 ∧ (rdV t).2.2 = 0 ∧ 1 ≤ (rdV t).1 ∧ (rdV t).1 ≤ 2147483647 then some (c.toNat, (rdV t).1, (rdV t).2.1) else none from rfl] at h
    by_cases hc : 1 ≤ c.toNat ∧ c.toNat ≤ 8 ∧ (rdV t).2.2 = 0 ∧ 1 ≤ (rdV t).1 ∧ (rdV t).1 ≤ 2147483647
    · rw [if_pos hc] at h
      injection h with h; injection h with h1 h; injection h with h2 h3
      obtain ⟨a, b, d, e⟩ := rdV_w hc.2.2.1
      subst h1 h2 h3
      exact ⟨hc.1, hc.2.1, hc.2.2.2.1, hc.2.2.2.2, d, by simp only [List.length_cons]; omega, t, by rw [UInt8.ofNat_toNat], by rw [← hc.2.2.1]⟩
    · rw [if_neg hc] at h; cases h
theorem rfl_key (s : ByteArray) (p i : Nat) (h16 : i < 16) (hp : p < 1000) (b : Bool) (gs es : List (List AVal)) (hg : gs.length = i) (he : es.length = i) {Q : AExit → Regs → AState → Prop}
    (hr : step ((lB s).drop p) = none → Q .ret (mkR 85 [(2, .ptr 0 2 0 0), (3, .int .i64 140)]) [zz])
    (hn : ∀ g n w : Nat, step ((lB s).drop p) = some (g, n, w) → Q .normal (mkR 85 [(0, .str s), (2, .ptr 0 2 0 0), (4, .ptr 1 2 0 0), (5, .int .i64 ((p + 1 + w : Nat) : Int)), (6, .int .i64 ((i + 1 : Nat) : Int))]) [zz, .rows false 2 [[.slc (b && false) 2 1 0 (gs.length + 1) none, .slc (b && false) 3 1 0 (es.length + 1) none]], .rows true 1 (gs ++ [[.int .i64 (g : Int)]]), .rows true 1 (es ++ [[.int .i64 (n : Int)]])]) : rfl_T s p i b b gs es Q := by
  have hsz := lB_length s
  have wp : IntKind.wrap .i64 ((p : Int) + 1) = ((p + 1 : Nat) : Int) := w1 hp
  unfold rfl_T
  rw [w1 (i := i) (by omega), wp]
  simp only [byteAt_lB, Int.toNat_natCast, lB_from]
  by_cases hl : p < (lB s).length
  · have e : (lB s).drop p = (lB s).getD p 0 :: (lB s).drop (p + 1) := by
      rw [List.drop_eq_getElem_cons hl, List.getD_eq_getElem?_getD, List.getElem?_eq_getElem hl]; rfl
    have h8 := ((lB s).getD p 0).toNat_lt
    rw [e] at hr hn
    have hdl : ((lB s).drop (p + 1)).length = (lB s).length - (p + 1) := List.length_drop
    obtain ⟨c, hcd⟩ : ∃ c, (lB s).getD p 0 = c := ⟨_, rfl⟩
    obtain ⟨t, htd⟩ : ∃ t, (lB s).drop (p + 1) = t := ⟨_, rfl⟩
    simp only [hcd, htd] at hr hn h8 hdl ⊢
    have wc : IntKind.wrap .i64 (c.toNat : Int) = (c.toNat : Int) := wrapS (by omega) (by omega)
    rw [wc]
    refine ⟨fun _ => ⟨fun c => absurd (of_decide_eq_true c) (by omega), fun _ => ⟨decide_eq_true (by omega), fun c1 => hr (if_neg ?_), fun c1 => ⟨fun c2 => hr (if_neg ?_), fun c2 => ⟨decide_eq_true (by omega), fun c3 => hr (if_neg ?_), fun c3 => ⟨fun c4 => hr (if_neg ?_), fun c4 => ⟨fun c5 => hr (if_neg ?_), fun c5 => ⟨decide_eq_true (by omega), decide_eq_true (by omega), ?_⟩⟩⟩⟩⟩⟩⟩, fun c => absurd (of_decide_eq_false c) (by omega)⟩
    · simp at c1; omega
    · simp at c2; omega
    · simp at c3; omega
    · simp at c4; omega
    · simp at c5; omega
    · simp at c1 c2 c3 c4 c5
      obtain ⟨q1, q2, q3, q4⟩ := rdV_w c3
      have ww : IntKind.wrap .i64 (((p + 1 : Nat) : Int) + ((rdV t).2.1 : Int)) = ((p + 1 + (rdV t).2.1 : Nat) : Int) := by rw [wrapS (by omega) (by omega)]; omega
      rw [ww]
      exact hn _ _ _ (if_pos ⟨by omega, by omega, c3, by omega, by omega⟩)
  · exact ⟨fun _ => ⟨fun _ => hr (by rw [List.drop_eq_nil_of_le (by omega)]; rfl), fun c => absurd (of_decide_eq_false c) (by omega)⟩, fun c => absurd (of_decide_eq_false c) (by omega)⟩
abbrev rfH (i : Nat) (done : List Own) : AState := [zz, .rows false 2 [[.slc (i == 0) 2 1 0 (done.map gR).length none, .slc (i == 0) 3 1 0 (done.map eR).length none]], .rows true 1 (done.map gR), .rows true 1 (done.map eR)]
theorem rf_rounds (s : ByteArray) : ∀ (d i : Nat), i + d = 16 → ∀ (p : Nat) (done : List Own), done.length = i → p ≤ 1 + 10 * i → p ≤ (lB s).length →
    (dec d ((lB s).drop p) = none → LoopRun Try.prog 0 (loopNo Try.f19 0) (rgF s p i) (rfH i done) .ret (mkR 85 [(2, .ptr 0 2 0 0), (3, .int .i64 140)]) [zz]) ∧
    (∀ x, dec d ((lB s).drop p) = some x → ∃ p' : Nat, p' ≤ (lB s).length ∧ (lB s).drop p' = x.2 ∧ LoopRun Try.prog 0 (loopNo Try.f19 0) (rgF s p i) (rfH i done) (.exit 0) (rgF s p' 16) (rfH 16 (done ++ x.1)))
  | 0, i, hi, p, done, hd, hp, hq => by
    obtain rfl : i = 16 := by omega
    refine ⟨fun h => (by cases h), fun x h => ?_⟩
    obtain rfl : ([], (lB s).drop p) = x := Option.some.inj h
    refine ⟨p, hq, rfl, .done (TripN.wp (rfl_wp s _ _ _ _ _ _ ?_)) (by simp)⟩
    unfold rfl_T
    rw [List.append_nil]
    exact ⟨fun h => absurd (of_decide_eq_true h) (by omega), fun _ => ⟨rfl, rfl, rfl⟩⟩
  | d + 1, i, hi, p, done, hd, hp, hq => by
    cases hs : step ((lB s).drop p) with
    | none =>
      refine ⟨fun h => ?_, fun x h => by simp [dec, hs] at h⟩
      exact .done (TripN.wp (rfl_wp s _ _ _ _ _ _ (rfl_key s p i (by omega) (by omega) _ _ _ (by rw [List.length_map, hd]) (by rw [List.length_map, hd]) (fun _ => ⟨rfl, rfl, rfl⟩) (fun g n w h2 => by rw [hs] at h2; cases h2)))) (by simp)
    | some v =>
      obtain ⟨g, n, w⟩ := v
      have hw := step_w hs
      rw [List.length_drop] at hw
      have round : TripN Try.prog 0 (loopNo Try.f19 0) (rgF s p i) (rfH i done) .normal (rgF s ((p + 1 + w : Nat) : Int) ((i + 1 : Nat) : Int)) (rfH (i + 1) (done ++ [⟨g, n⟩])) := by
        refine TripN.wp (rfl_wp s _ _ _ _ _ _ (rfl_key s p i (by omega) (by omega) _ _ _ (by rw [List.length_map, hd]) (by rw [List.length_map, hd]) (fun h2 => by rw [hs] at h2; cases h2) (fun g' n' w' h2 => ?_)))
        rw [hs] at h2
        obtain ⟨rfl, rfl, rfl⟩ : g = g' ∧ n = n' ∧ w = w' := by injection h2 with h2; injection h2 with a b; injection b with b c; exact ⟨a, b, c⟩
        refine ⟨rfl, rfl, ?_⟩
        simp [rfH]
      have ih := rf_rounds s d (i + 1) (by omega) (p + 1 + w) (done ++ [⟨g, n⟩]) (by simp; omega) (by omega) (by omega)
      have ed : ((lB s).drop p).drop (1 + w) = (lB s).drop (p + 1 + w) := by rw [List.drop_drop, Nat.add_assoc]
      refine ⟨fun h => .more round (ih.1 ?_), fun x h => ?_⟩
      · simp only [dec, hs] at h
        rw [ed] at h
        cases hd2 : dec d ((lB s).drop (p + 1 + w)) with
        | none => rfl
        | some v => rw [hd2] at h; cases h
      · simp only [dec, hs] at h
        rw [ed] at h
        cases hd2 : dec d ((lB s).drop (p + 1 + w)) with
        | none => rw [hd2] at h; cases h
        | some v =>
          rw [hd2] at h
          obtain rfl := Option.some.inj h
          obtain ⟨s2, e1, e2, r⟩ := ih.2 v hd2
          refine ⟨s2, e1, e2, .more round ?_⟩
          simpa using r
abbrev qN : AVal := .agg [.fsl true 1 [] none, .fsl true 1 [] none]
theorem byte83 (s : ByteArray) (c : UInt8) (t : List UInt8) (e : lB s = c :: t) : (byteAt s 0 != 83) = !(c == 83) := by
  rw [byteAt_lB, e]
  have : ((([c] ++ t : List UInt8).getD (0 : Int).toNat 0).toNat : Int) = (c.toNat : Int) := rfl
  simp only [Int.toNat_zero, List.getD_cons_zero]
  rw [Bool.eq_iff_iff]
  simp
  rw [← UInt8.toNat_inj]
  simp
  omega
theorem rfrom_none (s : ByteArray) (h : fromS (lB s) = none) : FOk Try.prog 19 [.str s] [] (.tuple [qN, .int .i64 140]) [] := by
  have hsz := lB_length s
  cases e : lB s with
  | nil => exact rfrom_1 s 0 0 true true [] [] (by rw [isE, e]; rfl)
  | cons c t =>
    rw [e] at h
    have hE : (s.toList == (ByteArray.mk #[]).toList) = false := by rw [isE, e]; rfl
    have h83 := byte83 s c t e
    have r := rf_rounds s 16 0 rfl 1 [] rfl (by omega) (by rw [e]; simp)
    rw [e] at hsz; simp only [List.length_cons] at hsz
    by_cases hc : c = 83
    · simp only [fromS, if_pos hc] at h
      have e1 : (lB s).drop 1 = t := by rw [e]; rfl
      rw [e1] at r
      cases hd : dec 16 t with
      | none =>
        refine FOk.wp (rfrmR_wp s ?_)
        unfold rfrmR_T
        rw [hE, h83]
        exact ⟨fun c => absurd c (by simp), fun _ => ⟨decide_eq_true (by omega), fun c => absurd c (by simp [hc]), fun _ => ⟨(r.1 hd).trip, rfl, rfl⟩⟩⟩
      | some x =>
        obtain ⟨p', e3, e2, r2⟩ := r.2 x hd
        rw [hd] at h
        dsimp only at h
        refine FOk.wp (rfrom_wp s p' 16 false false (x.1.map gR) (x.1.map eR) ?_)
        unfold rfrom_T
        rw [hE, h83]
        refine ⟨fun c => absurd c (by simp), fun _ => ⟨decide_eq_true (by omega), fun c => absurd c (by simp [hc]), fun _ => ⟨r2.trip, fun _ => ⟨rfl, rfl⟩, fun c => ?_⟩⟩⟩
        have : x.2 = [] := by rw [← e2, List.drop_eq_nil_of_le]; simp at c; rw [lB_length]; omega
        rw [if_pos (by rw [this]; rfl)] at h
        cases h
    · exact rfrom_2 s 0 0 true true [] [] (by rw [h83]; simp [hc]) (decide_eq_true (by omega)) hE
theorem rfrom_some (s : ByteArray) (l : List Own) (h : fromS (lB s) = some l) : FOk Try.prog 19 [.str s] [] (.tuple [qO l, .int .i64 0]) [] := by
  have hsz := lB_length s
  cases e : lB s with
  | nil => rw [e] at h; cases h
  | cons c t =>
    rw [e] at h
    have hE : (s.toList == (ByteArray.mk #[]).toList) = false := by rw [isE, e]; rfl
    have h83 := byte83 s c t e
    have r := rf_rounds s 16 0 rfl 1 [] rfl (by omega) (by rw [e]; simp)
    rw [e] at hsz; simp only [List.length_cons] at hsz
    by_cases hc : c = 83
    · simp only [fromS, if_pos hc] at h
      have e1 : (lB s).drop 1 = t := by rw [e]; rfl
      rw [e1] at r
      cases hd : dec 16 t with
      | none => rw [hd] at h; cases h
      | some x =>
        obtain ⟨p', e3, e2, r2⟩ := r.2 x hd
        rw [hd] at h
        dsimp only at h
        by_cases hx : x.2.isEmpty
        · rw [if_pos hx] at h
          obtain rfl := Option.some.inj h
          have hx' : x.2 = [] := List.isEmpty_iff.1 hx
          have : p' = s.size := by
            rw [hx', List.drop_eq_nil_iff, lB_length] at e2
            rw [lB_length] at e3
            omega
          subst this
          exact unpack (rfrom_4 s s.size 16 false false (x.1.map gR) (x.1.map eR) (by simp) r2.trip (by rw [h83]; simp [hc]) (decide_eq_true (by omega)) hE)
        · rw [if_neg hx] at h; cases h
    · simp only [fromS, if_neg hc] at h; cases h

/-! ## There and back -/
theorem dec_fine : ∀ (d : Nat) (t : List UInt8) (x : List Own × List UInt8), dec d t = some x → x.1.length = d ∧ (∀ i, i < d → 1 ≤ (x.1.getD i z).g ∧ (x.1.getD i z).g ≤ 8 ∧ 1 ≤ (x.1.getD i z).e ∧ (x.1.getD i z).e ≤ 2147483647) ∧ x.1.flatMap enc1 ++ x.2 = t
  | 0, t, x, h => by
    obtain rfl := Option.some.inj h
    exact ⟨rfl, fun i hi => by omega, rfl⟩
  | d + 1, t, x, h => by
    unfold dec at h
    cases hs : step t with
    | none => rw [hs] at h; cases h
    | some v =>
      obtain ⟨g, n, w⟩ := v
      rw [hs] at h
      dsimp only at h
      obtain ⟨w1, w2, w3, w4, w5, w6, t', e1, e2⟩ := step_w hs
      cases hd : dec d (t.drop (1 + w)) with
      | none => rw [hd] at h; cases h
      | some y =>
        rw [hd] at h
        obtain rfl := Option.some.inj h
        obtain ⟨i1, i2, i3⟩ := dec_fine d _ _ hd
        refine ⟨by simp [i1], fun i hi => ?_, ?_⟩
        · cases i with
          | zero => simp; omega
          | succ i => simpa using i2 i (by omega)
        · obtain ⟨_, _, q⟩ := rdV_back e2
          rw [e1, Nat.add_comm 1 w, List.drop_succ_cons] at i3
          simp only [List.flatMap_cons, enc1, Int.toNat_natCast, List.cons_append, List.append_assoc]
          rw [i3, ← q, List.take_append_drop, ← e1]
theorem fromS_back {s : ByteArray} {l : List Own} (h : fromS (lB s) = some l) : Fine l ∧ bS (enc l) = s := by
  cases e : lB s with
  | nil => rw [e] at h; cases h
  | cons c t =>
    rw [e] at h
    by_cases hc : c = 83
    · simp only [fromS, if_pos hc] at h
      cases hd : dec 16 t with
      | none => rw [hd] at h; cases h
      | some x =>
        rw [hd] at h
        dsimp only at h
        by_cases hx : x.2.isEmpty
        · rw [if_pos hx] at h
          obtain rfl := Option.some.inj h
          obtain ⟨i1, i2, i3⟩ := dec_fine 16 _ _ hd
          refine ⟨⟨i1, i2⟩, lB_inj ?_⟩
          rw [List.isEmpty_iff.1 hx, List.append_nil] at i3
          rw [lB_bS, e, enc, i3, hc]
        · rw [if_neg hx] at h; cases h
    · simp only [fromS, if_neg hc] at h; cases h
theorem dec_enc (t : List UInt8) : ∀ (l : List Own), (∀ i, i < l.length → 1 ≤ (l.getD i z).g ∧ (l.getD i z).g ≤ 8 ∧ 1 ≤ (l.getD i z).e ∧ (l.getD i z).e ≤ 2147483647) → dec l.length (l.flatMap enc1 ++ t) = some (l, t)
  | [], _ => rfl
  | x :: l, h => by
    have h0 := h 0 (by simp)
    simp only [List.getD_cons_zero] at h0
    have ih := dec_enc t l (fun i hi => by simpa using h (i + 1) (by simp; omega))
    have hv := rdV_vbl (n := x.e.toNat) (by omega) (l.flatMap enc1 ++ t)
    have hs : step (UInt8.ofNat x.g.toNat :: (vbl x.e.toNat ++ (l.flatMap enc1 ++ t))) = some (x.g.toNat, x.e.toNat, (vbl x.e.toNat).length) := by
      rw [step_cons]
      have : (UInt8.ofNat x.g.toNat).toNat = x.g.toNat := by rw [UInt8.toNat_ofNat']; omega
      rw [hv, this, if_pos ⟨by omega, by omega, rfl, by omega, by omega⟩]
    simp only [List.length_cons, List.flatMap_cons, enc1, List.cons_append, List.append_assoc]
    unfold dec
    rw [hs]
    dsimp only
    rw [Nat.add_comm 1, List.drop_succ_cons, List.drop_left, ih]
    have e1 : ((x.g.toNat : Nat) : Int) = x.g := by omega
    have e2 : ((x.e.toNat : Nat) : Int) = x.e := by omega
    simp [e1, e2]
theorem fromS_enc {l : List Own} (h : Fine l) : fromS (lB (bS (enc l))) = some l := by
  have := dec_enc [] l (fun i hi => h.at_ i (by rw [← h.len]; exact hi))
  rw [h.len, List.append_nil] at this
  rw [lB_bS]
  simp only [enc, fromS, if_true, this]
  rfl
theorem give_fine {l : List Own} (h : Fine l) (s g : Int) : Fine (giveS l s g).2 := by
  unfold giveS
  split
  · split
    · split
      · exact h
      · split
        · exact h
        · rename_i a b c d
          simp [inB] at a b
          have hf := h.at_ s.toNat (by omega)
          have hw : IntKind.wrap .i64 ((l.getD s.toNat z).e + 1) = (l.getD s.toNat z).e + 1 := wrapS (by omega) (by omega)
          rw [hw]
          refine ⟨by simp [h.len], fun i hi => ?_⟩
          have hv : (l.set s.toNat ⟨g, (l.getD s.toNat z).e + 1⟩).getD i z = if i = s.toNat then ⟨g, (l.getD s.toNat z).e + 1⟩ else l.getD i z := by
            have := h.len
            rw [List.getD_eq_getElem?_getD, List.getElem?_set]
            by_cases c : s.toNat = i
            · rw [if_pos c, if_pos (by omega), if_pos c.symm]; rfl
            · rw [if_neg c, if_neg (Ne.symm c), List.getD_eq_getElem?_getD]
          dsimp only
          rw [hv]
          split
          · dsimp only; omega
          · exact h.at_ i hi
    · exact h
  · exact h
end Go.L10
