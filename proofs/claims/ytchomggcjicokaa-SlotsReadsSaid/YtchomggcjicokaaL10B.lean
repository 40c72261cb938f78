import Derived.Test.YtchomggcjicokaaL10A
import Derived.Test.YtchomggcjicokaaAbsLib
set_option linter.unusedVariables false
set_option linter.unusedSimpArgs false
set_option maxRecDepth 100000
namespace Go.L10
open Go Go.Abs Go.Proofs

structure Own where
  g : Int
  e : Int
structure Rng where
  lo : Int
  hi : Int
  g : Int
def z : Own := ⟨0, 0⟩
def zr : Rng := ⟨0, 0, 0⟩
abbrev Own.row (x : Own) : List AVal := [.int .i64 x.g, .int .i64 x.e]
abbrev Rng.row (x : Rng) : List AVal := [.int .i64 x.lo, .int .i64 x.hi, .int .i64 x.g]
abbrev flat (l : List Own) : List AVal := l.flatMap Own.row
abbrev MapO (l : List Own) : AState := [.rows true 32 [flat l]]
theorem own_w (x : Own) : x.row.length = 2 := rfl

structure Good (l : List Own) : Prop where
  len : l.length = 16
  made : (l.getD 0 z).g > 0

theorem flat0 {l : List Own} (i : Nat) (h : i < l.length) : (flat l).getD (i * 2) .any = .int .i64 (l.getD i z).g := flat_getD own_w l i 0 z h (by omega)
theorem flat1 {l : List Own} (i : Nat) (h : i < l.length) : (flat l).getD (i * 2 + 1) .any = .int .i64 (l.getD i z).e := flat_getD own_w l i 1 z h (by omega)

def inB (n a b : Int) : Bool := decide (a ≤ n ∧ n ≤ b)
theorem in_ok (n a b : Int) : FOk Try.prog 20 [.int .i64 n, .int .i64 a, .int .i64 b] [] (.bool (inB n a b)) [] := by
  by_cases h : n ≥ a
  · have := inr_1 n a b (by simpa using h)
    have e : decide (n ≤ b) = inB n a b := by unfold inB; congr 1; simp; omega
    rw [← e]; exact this
  · have := inr_2 n a b (by simpa using h)
    have e : false = inB n a b := by unfold inB; symm; simp; omega
    rw [← e]; exact this

theorem given_ok {l : List Own} (h : Good l) : FOk Try.prog 21 [.ptr 0 32 0 0] (MapO l) (.bool true) (MapO l) := by
  have key := given_1 (flat l)
  have h0 : (flat l).getD 0 .any = .int .i64 (l.getD 0 z).g := by have := flat0 (l := l) 0 (by rw [h.len]; omega); simpa using this
  rw [h0] at key
  have := key (by kernel_rfl)
  exact this.imp (Imp.bool (by simpa [AVal.toInt] using h.made))

def ownerS (l : List Own) (s : Int) : Own × Int := if inB s 0 15 then (l.getD s.toNat z, 0) else (z, 1)
theorem owner_ok {l : List Own} (h : Good l) (s : Int) : FOk Try.prog 12 [.ptr 0 32 0 0, .int .i64 s] (MapO l) (.tuple [.int .i64 (ownerS l s).1.g, .int .i64 (ownerS l s).1.e, .int .i64 (ownerS l s).2]) (MapO l) := by
  have hg := given_ok h
  have hi := in_ok s 0 15
  unfold ownerS
  cases hb : inB s 0 15 with
  | false =>
    rw [hb] at hi
    exact owner_2 (flat l) s true false rfl hi rfl hg
  | true =>
    rw [hb] at hi
    have hs : 0 ≤ s ∧ s ≤ 15 := by simpa [inB] using hb
    have hl : s.toNat < l.length := by rw [h.len]; omega
    have key := owner_3 (flat l) s true true
    simp only [Nat.add_zero, flat0 _ hl, flat1 _ hl, AVal.toInt] at key
    exact key (by simp; omega) (by kernel_rfl) (by simp; omega) (by simp; omega) (by kernel_rfl) rfl hi rfl hg

def giveS (l : List Own) (s g : Int) : Int × List Own :=
  if inB s 0 15 then if inB g 1 8 then
    if (l.getD s.toNat z).g = g then (90, l) else if (l.getD s.toNat z).e ≥ 2147483647 then (1, l) else (0, l.set s.toNat ⟨g, IntKind.wrap .i64 ((l.getD s.toNat z).e + 1)⟩)
  else (1, l) else (1, l)
theorem give_ok {l : List Own} (h : Good l) (s g : Int) : FOk Try.prog 10 [.ptr 0 32 0 0, .int .i64 s, .int .i64 g] (MapO l) (.int .i64 (giveS l s g).1) (MapO (giveS l s g).2) := by
  have hg := given_ok h
  have hi := in_ok s 0 15
  have hj := in_ok g 1 8
  unfold giveS
  cases hb : inB s 0 15 with
  | false =>
    rw [hb] at hi
    exact give_2 (flat l) s g true false true rfl hi rfl hg
  | true =>
    rw [hb] at hi
    cases hc : inB g 1 8 with
    | false =>
      rw [hc] at hj
      exact give_3 (flat l) s g true true false rfl hj rfl hi rfl hg
    | true =>
      rw [hc] at hj
      have hs : 0 ≤ s ∧ s ≤ 15 := by simpa [inB] using hb
      have hl : s.toNat < l.length := by rw [h.len]; omega
      have k4 := give_4 (flat l) s g true true true
      have k5 := give_5 (flat l) s g true true true
      have k6 := give_6 (flat l) s g true true true
      simp only [Nat.add_zero, flat0 _ hl, flat1 _ hl, AVal.toInt] at k4 k5 k6
      simp only [if_true]
      by_cases h1 : (l.getD s.toNat z).g = g
      · rw [if_pos h1]
        exact k4 (by simpa using h1) (by simp; omega) (by kernel_rfl) (by simp; omega) rfl hj rfl hi rfl hg
      · rw [if_neg h1]
        by_cases h2 : (l.getD s.toNat z).e ≥ 2147483647
        · rw [if_pos h2]
          exact k5 (by simpa using h2) (by simp; omega) (by kernel_rfl) (by simpa using h1) (by simp; omega) (by kernel_rfl) (by simp; omega) rfl hj rfl hi rfl hg
        · rw [if_neg h2]
          have := k6 (by simp; omega) (by simp; omega) (by kernel_rfl) (by simpa using h2) (by simpa using h1) (by simp; omega) (by kernel_rfl) (by simp; omega) rfl hj rfl hi rfl hg
          have e := flat_set own_w l s.toNat ⟨g, IntKind.wrap .i64 ((l.getD s.toNat z).e + 1)⟩ hl
          simp only [Own.row] at e
          rw [e] at this
          exact this

/-- one more slot, behind the ranges of those ahead of it -/
def rngAdd (out : List Rng) (i g : Int) : List Rng :=
  if 0 < out.length ∧ (out.getD (out.length - 1) zr).g = g then out.set (out.length - 1) ⟨(out.getD (out.length - 1) zr).lo, i, (out.getD (out.length - 1) zr).g⟩ else out ++ [⟨i, i, g⟩]
def rngTo (l : List Own) : Nat → List Rng
  | 0 => []
  | i + 1 => rngAdd (rngTo l i) (i : Int) (l.getD i z).g

theorem rngAdd_len (out : List Rng) (i g : Int) : (rngAdd out i g).length ≤ out.length + 1 ∧ 0 < (rngAdd out i g).length := by
  unfold rngAdd; split
  · rename_i h; simp; omega
  · simp
theorem rngTo_len (l : List Own) : ∀ i, (rngTo l i).length ≤ i
  | 0 => by simp [rngTo]
  | i + 1 => by have := rngTo_len l i; have := (rngAdd_len (rngTo l i) (i : Int) (l.getD i z).g).1; simp only [rngTo]; omega

theorem rng_rounds {l : List Own} (h : Good l) : ∀ (d i : Nat), i + d = 16 →
    LoopRun Try.prog 1 (loopNo Try.f11 0) (rgR (flat l) (rngTo l i).isEmpty (rngTo l i).length i) [.rows true 32 [flat l], .rows true 3 ((rngTo l i).map Rng.row)] (.exit 0)
      (rgR (flat l) (rngTo l 16).isEmpty (rngTo l 16).length 16) [.rows true 32 [flat l], .rows true 3 ((rngTo l 16).map Rng.row)]
  | 0, i, hi => by
    obtain rfl : i = 16 := by omega
    exact .done (rngB_4 (flat l) _ _ _ 16 (by simp)) (by simp)
  | d + 1, i, hi => by
    have hl : i < l.length := by rw [h.len]; omega
    have hlen := rngTo_len l i
    have hfl : (flat l).length = 32 := by rw [flat_length own_w, h.len]
    refine .more ?_ (rng_rounds h d (i + 1) (by omega))
    have hw : IntKind.wrap .i64 ((i : Int) + 1) = ((i + 1 : Nat) : Int) := by rw [wrapS (by omega) (by omega)]; omega
    have e : rngTo l (i + 1) = rngAdd (rngTo l i) (i : Int) (l.getD i z).g := rfl
    rw [e]
    generalize rngTo l i = out at *
    have hn : (i : Int).toNat = i := by omega
    have k1 := rngB_1 (flat l) (out.map Rng.row) out.isEmpty out.length i
    have k2 := rngB_2 (flat l) (out.map Rng.row) out.isEmpty out.length i
    have k3 := rngB_3 (flat l) (out.map Rng.row) out.isEmpty out.length i
    simp only [hn, Nat.add_zero, flat0 _ hl, flat1 _ hl, AVal.toInt, hw, List.length_map] at k1 k2 k3
    unfold rngAdd
    by_cases h0 : 0 < out.length
    · have hwl : IntKind.wrap .i64 ((out.length : Int) - 1) = ((out.length - 1 : Nat) : Int) := by rw [wrapS (by omega) (by omega)]; omega
      have hlt : out.length - 1 < out.length := by omega
      simp only [hwl, Int.toNat_natCast, getD_map out _ zr hlt] at k1 k2
      by_cases hg : (out.getD (out.length - 1) zr).g = (l.getD i z).g
      · rw [if_pos ⟨h0, hg⟩]
        have := k1 (by simp; omega) (by simp; omega) (by simpa [Rng.row] using hg) (by kernel_rfl) (by simp; omega) (by simp; omega) (by simp [hfl]) (by kernel_rfl) (by simp; omega)
        have e2 := set_map (f := Rng.row) out (out.length - 1) ⟨(out.getD (out.length - 1) zr).lo, i, (out.getD (out.length - 1) zr).g⟩
        have e3 : setCells (Rng.row (out.getD (out.length - 1) zr)) 1 [.int .i64 (i : Int)] = Rng.row ⟨(out.getD (out.length - 1) zr).lo, i, (out.getD (out.length - 1) zr).g⟩ := rfl
        rw [e3, e2] at this
        have e4 : (out.set (out.length - 1) ⟨(out.getD (out.length - 1) zr).lo, i, (out.getD (out.length - 1) zr).g⟩).isEmpty = out.isEmpty := by cases out <;> simp
        rw [e4, List.length_set]
        exact this
      · rw [if_neg (by rintro ⟨_, h⟩; exact hg h)]
        have := k2 (by simp) (by simp; omega) (by simpa [Rng.row] using hg) (by simp; omega) (by kernel_rfl) (by simp; omega) (by simp; omega) (by simp; omega) (by simp [hfl]) (by kernel_rfl) (by simp; omega)
        simpa [rgR, List.map_append, isEmpty_snoc] using this
    · rw [if_neg (by rintro ⟨h, _⟩; exact h0 h)]
      have := k3 (by simp) (by simp; omega) (by simpa using h0) (by simp; omega) (by simp [hfl]) (by kernel_rfl) (by simp; omega)
      simpa [rgR, List.map_append, isEmpty_snoc] using this

def rngS (l : List Own) : List Rng := rngTo l l.length
theorem ranges_ok {l : List Own} (h : Good l) : FOk Try.prog 11 [.ptr 0 32 0 0] (MapO l) (.fsl (rngS l).isEmpty 3 ((rngS l).map Rng.row) none) (MapO l) := by
  have e : rngS l = rngTo l 16 := by unfold rngS; rw [h.len]
  have hr := (rng_rounds h 16 0 rfl).trip
  rw [← e] at hr
  have := ranges_1 (flat l) ((rngS l).map Rng.row) (rngS l).isEmpty (by rw [List.length_map]; exact hr) (given_ok h)
  exact this.fsl rfl rfl rfl

def newS (n : Int) : List Own := (List.range 16).map fun (s : Nat) => ⟨1 + (s : Int) * n / 16, 1⟩
theorem new_ok (n : Int) (h1 : 1 ≤ n) (h8 : n ≤ 8) : FOk Try.prog 9 [.int .i64 n] [] (.tuple [.ptr 0 32 0 0, .int .i64 0]) (MapO (newS n)) := by
  have hb : inB n 1 8 = true := by simp [inB]; omega
  have hi := in_ok n 1 8
  rw [hb] at hi
  have := new_2 n true rfl hi
  have e : ∀ k : Int, 0 ≤ k → k ≤ 16 → IntKind.wrap .i64 (1 + IntKind.wrap .i64 ((IntKind.wrap .i64 (k * n)).tdiv 16)) = 1 + k * n / 16 := by
    intro k h0 h16
    have a0 : 0 ≤ k * n := Int.mul_nonneg h0 (by omega)
    have a1 : k * n ≤ 16 * 8 := Int.mul_le_mul h16 h8 (by omega) (by omega)
    rw [wrapS (n := k * n) (by omega) (by omega), Int.tdiv_eq_ediv_of_nonneg a0, wrapS (n := k * n / 16) (by omega) (by omega), wrapS (by omega) (by omega)]
  have w : ∀ k : Int, 0 ≤ k → k ≤ 16 → IntKind.wrap .i64 k = k := fun k _ _ => wrapS (by omega) (by omega)
  simp only [Int.reduceAdd, w 1 (by omega) (by omega), w 2 (by omega) (by omega), w 3 (by omega) (by omega), w 4 (by omega) (by omega), w 5 (by omega) (by omega), w 6 (by omega) (by omega), w 7 (by omega) (by omega), w 8 (by omega) (by omega), w 9 (by omega) (by omega), w 10 (by omega) (by omega), w 11 (by omega) (by omega), w 12 (by omega) (by omega), w 13 (by omega) (by omega), w 14 (by omega) (by omega), w 15 (by omega) (by omega)] at this
  simp only [e 0 (by omega) (by omega), e 1 (by omega) (by omega), e 2 (by omega) (by omega), e 3 (by omega) (by omega), e 4 (by omega) (by omega), e 5 (by omega) (by omega), e 6 (by omega) (by omega), e 7 (by omega) (by omega), e 8 (by omega) (by omega), e 9 (by omega) (by omega), e 10 (by omega) (by omega), e 11 (by omega) (by omega), e 12 (by omega) (by omega), e 13 (by omega) (by omega), e 14 (by omega) (by omega), e 15 (by omega) (by omega)] at this
  exact this

end Go.L10
