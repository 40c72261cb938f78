import Derived.Test.YtpfnoilcmoaplaaL11A
import Derived.Test.YtpfnoilcmoaplaaAbsLib
set_option linter.unusedVariables false
set_option linter.unusedSimpArgs false
set_option maxRecDepth 100000
namespace Go.L11
open Go Go.Abs Go.Proofs

/-- may an id be? -/
def mayB (s q : Int) : Bool := decide (0 ≤ s ∧ s ≤ 2147483647 ∧ 1 ≤ q ∧ q ≤ 2147483647)

theorem given_ok (s q : Int) (ents : List (AVal × AVal)) : FOk Try.prog 21 [.ptr 0 1 0 0, idv s q] (Tab ents) (.bool (mayB s q)) (Tab ents) := by
  by_cases h0 : 0 ≤ s
  · by_cases h1 : s ≤ 2147483647
    · by_cases h2 : 1 ≤ q
      · exact (given_1 s q ents (decide_eq_true h2) (decide_eq_true h1) (decide_eq_true h0)).imp (Imp.bool (by simp [mayB, h0, h1, h2]))
      · exact (given_2 s q ents (decide_eq_false h2) (decide_eq_true h1) (decide_eq_true h0)).imp (Imp.bool (by simp [mayB, h2]))
    · exact (given_3 s q ents (decide_eq_false h1) (decide_eq_true h0)).imp (Imp.bool (by simp [mayB, h1]))
  · exact (given_4 s q ents (decide_eq_false h0)).imp (Imp.bool (by simp [mayB, h0]))

/-- posts: whether nil, so many, each of two texts -/
structure Posts (b : Bool) (rs : List (List AVal)) : Prop where
  nil : b = true → rs = []
  len : rs.length ≤ 1048576
  kind : (rs.all fun r => areKinds [.str, .str] r) = true
theorem Posts.one {b : Bool} {rs : List (List AVal)} (h : Posts b rs) : (rs.all fun r => r.all oneCell) = true := by
  rw [List.all_eq_true]
  intro r hr
  have := List.all_eq_true.1 h.kind r hr
  match r, this with
  | [x, y], h =>
    cases x <;> simp [areKinds, isKind] at h
    cases y <;> simp at h
    rfl
  | [], h => simp [areKinds] at h
  | [x], h => simp [areKinds] at h
  | x :: y :: z :: r, h => simp [areKinds] at h

theorem clone_ok (b : Bool) (rs : List (List AVal)) (h : Posts b rs) : FOk Try.prog 29 [.fsl b 2 rs none] [] (.fsl b 2 rs none) [] := by
  cases b with
  | true =>
    obtain rfl := h.nil rfl
    exact clone_1 true [] rfl
  | false =>
    have h1 := clone_2 false rs (by have := h.len; exact decide_eq_true (by omega)) h.one rfl
    rw [Nat.zero_add] at h1
    exact h1.fsl rfl rfl rfl

/-! ## A table, plainly -/
structure Rep where
  e : Int
  a : Int
  b : Bool
  rs : List (List AVal)
structure Ent where
  s : Int
  q : Int
  r : Rep

def zrep : Rep := ⟨0, 0, true, []⟩
def Rep.ok (r : Rep) : Prop := Posts r.b r.rs
abbrev Rep.av (r : Rep) : AVal := rep r.e r.a r.b r.rs
abbrev Ent.kv (x : Ent) : AVal × AVal := (.int .i64 x.s, last x.q x.r.e x.r.a x.r.b x.r.rs)
theorem zrep_ok : zrep.ok := ⟨fun _ => rfl, by simp [zrep], rfl⟩

def getE (s : Int) : List Ent → Option Ent
  | [] => none
  | x :: t => if s = x.s then some x else getE s t
def putE (y : Ent) : List Ent → List Ent
  | [] => [y]
  | x :: t => if y.s = x.s then y :: t else x :: putE y t

theorem afind_kv (s : Int) : ∀ (t : List Ent), afind (.int .i64 s) (t.map Ent.kv) = (getE s t).map fun x => last x.q x.r.e x.r.a x.r.b x.r.rs
  | [] => rfl
  | x :: t => by
    simp only [List.map_cons, afind, getE, keq, beq_self_eq_true, Bool.true_and, beq_iff_eq]
    split
    · rfl
    · exact afind_kv s t
theorem aput_kv (y : Ent) : ∀ (t : List Ent), aput (.int .i64 y.s) (last y.q y.r.e y.r.a y.r.b y.r.rs) (t.map Ent.kv) = (putE y t).map Ent.kv
  | [] => rfl
  | x :: t => by
    simp only [List.map_cons, aput, putE, keq, beq_self_eq_true, Bool.true_and, beq_iff_eq]
    split
    · rfl
    · rw [List.map_cons, aput_kv y t]
theorem key_ok (s : Int) : keyKind Try.prog 3 (.int .i64 s) = true := by kernel_rfl
theorem keys_ok (t : List Ent) : ((t.map Ent.kv).all fun p => keyKind Try.prog 3 p.1) = true := by
  rw [List.all_eq_true]
  intro p hp
  obtain ⟨x, _, rfl⟩ := List.mem_map.1 hp
  exact key_ok x.s
theorem cells_ok (q e a : Int) (b : Bool) (rs : List (List AVal)) : okCells Try.prog 63 (last q e a b rs) = true := by
  cases b with
  | false => kernel_rfl
  | true => cases rs <;> kernel_rfl
theorem getE_mem {s : Int} : ∀ {t : List Ent} {x : Ent}, getE s t = some x → x ∈ t ∧ x.s = s
  | [], x, h => by cases h
  | y :: t, x, h => by
    simp only [getE] at h
    split at h
    · rename_i e; cases h; exact ⟨by simp, e.symm⟩
    · obtain ⟨h1, h2⟩ := getE_mem h; exact ⟨by simp [h1], h2⟩

def tabOk (t : List Ent) : Prop := ∀ x ∈ t, x.r.ok
def seqOf (t : List Ent) (s : Int) : Int := ((getE s t).map (·.q)).getD 0
def repOf (t : List Ent) (s : Int) : Rep := ((getE s t).map (·.r)).getD zrep
theorem repOf_ok {t : List Ent} (h : tabOk t) (s : Int) : (repOf t s).ok := by
  unfold repOf
  cases hg : getE s t with
  | none => exact zrep_ok
  | some x => exact h x (getE_mem hg).1

/-- what is looked up -/
theorem look_ok (t : List Ent) (s : Int) : (afind (.int .i64 s) (t.map Ent.kv)).getD zlast = (match getE s t with | some x => last x.q x.r.e x.r.a x.r.b x.r.rs | none => zlast) := by
  rw [afind_kv]; cases getE s t <;> rfl
theorem look_cells (t : List Ent) (s : Int) : okCells Try.prog 63 ((afind (.int .i64 s) (t.map Ent.kv)).getD zlast) = true := by
  rw [look_ok]
  cases getE s t with
  | none => kernel_rfl
  | some x => exact cells_ok _ _ _ _ _

def findS (t : List Ent) (s q : Int) : Rep × Int :=
  if mayB s q = false then (zrep, 1) else if seqOf t s < q then (zrep, 3) else if seqOf t s > q then (zrep, 110) else (repOf t s, 0)
def putS (t : List Ent) (s q : Int) (r : Rep) : Int × List Ent :=
  if mayB s q = false then (1, t) else if r.rs.length > 64 then (1, t) else if seqOf t s ≥ q then (110, t)
  else if getE s t = none ∧ t.length ≥ 64 then (2, t) else (0, putE ⟨s, q, r⟩ t)

theorem own_ok (r : Rep) (h : r.ok) : FOk Try.prog 22 [r.av] [] r.av [] := own_1 r.e r.a r.b r.rs (clone_ok r.b r.rs h)

theorem find_ok (t : List Ent) (hT : tabOk t) (s q : Int) : FOk Try.prog 10 [.ptr 0 1 0 0, idv s q] (Tab (t.map Ent.kv)) (.tuple [(findS t s q).1.av, .int .i64 (findS t s q).2]) (Tab (t.map Ent.kv)) := by
  have hg := given_ok s q (t.map Ent.kv)
  have hk := keys_ok t
  have hc := look_cells t s
  unfold findS
  by_cases h1 : mayB s q = false
  · rw [if_pos h1]
    exact findA_1 s q (t.map Ent.kv) 0 0 0 true [] (mayB s q) (by simp [h1]) hg
  · rw [if_neg h1]
    have h1 : (!mayB s q) = false := by simpa using h1
    have hrw : ∀ v, v = (match getE s t with | some x => last x.q x.r.e x.r.a x.r.b x.r.rs | none => zlast) → (afind (.int .i64 s) (t.map Ent.kv)).getD zlast = v := fun v h => by rw [look_ok, h]
    have key : asType Try.prog 63 (reifyL (kindsOf Try.prog 20 63) ((afind (.int .i64 s) (t.map Ent.kv)).getD zlast).cells) = last (seqOf t s) (repOf t s).e (repOf t s).a (repOf t s).b (repOf t s).rs := by
      rw [look_ok]
      unfold seqOf repOf
      cases getE s t with
      | none => kernel_rfl
      | some x => kernel_rfl
    by_cases h2 : seqOf t s < q
    · rw [if_pos h2]
      exact findA_2 s q (t.map Ent.kv) (seqOf t s) (repOf t s).e (repOf t s).a (repOf t s).b (repOf t s).rs (mayB s q) (by simpa using h2) key hc hk h1 hg
    · rw [if_neg h2]
      by_cases h3 : seqOf t s > q
      · rw [if_pos h3]
        exact findA_3 s q (t.map Ent.kv) (seqOf t s) (repOf t s).e (repOf t s).a (repOf t s).b (repOf t s).rs (mayB s q) (by simpa using h3) (by simpa using h2) key hc hk h1 hg
      · rw [if_neg h3]
        exact findA_4 s q (t.map Ent.kv) (seqOf t s) (repOf t s).e (repOf t s).a (repOf t s).b (repOf t s).rs (mayB s q) (own_ok (repOf t s) (repOf_ok hT s)) (by simpa using h3) (by simpa using h2) key hc hk h1 hg

theorem put_ok (t : List Ent) (hT : tabOk t) (s q : Int) (r : Rep) (hr : r.ok) : FOk Try.prog 11 [.ptr 0 1 0 0, idv s q, r.av] (Tab (t.map Ent.kv)) (.int .i64 (putS t s q r).1) (Tab ((putS t s q r).2.map Ent.kv)) := by
  have hg := given_ok s q (t.map Ent.kv)
  have hk := keys_ok t
  have hc := look_cells t s
  have key : (AVal.tuple [asType Try.prog 63 (reifyL (kindsOf Try.prog 20 63) ((afind (.int .i64 s) (t.map Ent.kv)).getD zlast).cells), .bool (afind (.int .i64 s) (t.map Ent.kv)).isSome]) = .tuple [last (seqOf t s) (repOf t s).e (repOf t s).a (repOf t s).b (repOf t s).rs, .bool (getE s t).isSome] := by
    rw [look_ok, afind_kv]
    unfold seqOf repOf
    cases getE s t with
    | none => kernel_rfl
    | some x => kernel_rfl
  unfold putS
  by_cases h1 : mayB s q = false
  · rw [if_pos h1]
    exact putA_1 s q r.e r.a r.b r.rs (t.map Ent.kv) 0 0 0 true [] (mayB s q) true (by simp [h1]) hg
  · rw [if_neg h1]
    have h1 : (!mayB s q) = false := by simpa using h1
    by_cases h2 : r.rs.length > 64
    · rw [if_pos h2]
      exact putA_2 s q r.e r.a r.b r.rs (t.map Ent.kv) 0 0 0 true [] (mayB s q) true (by simp; omega) h1 hg
    · rw [if_neg h2]
      have h2 : decide ((r.rs.length : Int) > 64) = false := by simp; omega
      by_cases h3 : seqOf t s ≥ q
      · rw [if_pos h3]
        exact putA_3 s q r.e r.a r.b r.rs (t.map Ent.kv) (seqOf t s) (repOf t s).e (repOf t s).a (repOf t s).b (repOf t s).rs (mayB s q) (getE s t).isSome (by simpa using h3) key hc hk h2 h1 hg
      · rw [if_neg h3]
        have h3 : decide (seqOf t s ≥ q) = false := by simpa using h3
        have hput : (aput (.int .i64 s) (last q r.e r.a r.b r.rs) (t.map Ent.kv)) = (putE ⟨s, q, r⟩ t).map Ent.kv := aput_kv ⟨s, q, r⟩ t
        cases hgt : getE s t with
        | some x =>
          rw [if_neg (by simp)]
          have := putA_6 s q r.e r.a r.b r.rs (t.map Ent.kv) (seqOf t s) (repOf t s).e (repOf t s).a (repOf t s).b (repOf t s).rs (mayB s q) (getE s t).isSome hk (own_ok r hr) (by simp [hgt]) h3 key hc h2 h1 hg
          rw [← hput]; exact this
        | none =>
          by_cases h4 : t.length ≥ 64
          · rw [if_pos ⟨rfl, h4⟩]
            exact putA_4 s q r.e r.a r.b r.rs (t.map Ent.kv) (seqOf t s) (repOf t s).e (repOf t s).a (repOf t s).b (repOf t s).rs (mayB s q) (getE s t).isSome (by simp; omega) (by simp [hgt]) h3 key hc hk h2 h1 hg
          · rw [if_neg (by rintro ⟨_, h⟩; exact h4 h)]
            have := putA_5 s q r.e r.a r.b r.rs (t.map Ent.kv) (seqOf t s) (repOf t s).e (repOf t s).a (repOf t s).b (repOf t s).rs (mayB s q) (getE s t).isSome hk (own_ok r hr) (by simp; omega) (by simp [hgt]) h3 key hc h2 h1 hg
            rw [← hput]; exact this

theorem len_ok (t : List Ent) : FOk Try.prog 12 [.ptr 0 1 0 0] (Tab (t.map Ent.kv)) (.int .i64 (t.length : Int)) (Tab (t.map Ent.kv)) := by
  have := len_1 (t.map Ent.kv)
  rw [List.length_map] at this
  exact this
theorem new_ok : FOk Try.prog 9 [] [] (.ptr 0 1 0 0) (Tab []) := new_1

end Go.L11
