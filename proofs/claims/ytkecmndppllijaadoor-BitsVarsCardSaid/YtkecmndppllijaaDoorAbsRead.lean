import Derived.Test.YtkecmndppllijaaDoorAbsLib
import Derived.OpenShut
import Derived.ChangeOld
import Derived.SizedLaws
import Derived.ReadAgain
import Derived.ProofKit
set_option linter.unusedVariables false
set_option linter.unusedSimpArgs false
open Go.RowKit Go.ChangeShapes Go.WideShapes
namespace Go.Abs

/-! ## Arguments that are read as data, seen as values of ours -/
inductive K where
  | bool
  | int (k : IntKind)
  | str
  | sl (bytes : Nat) (es : List K)

mutual
def okK : K → AVal → Prop
  | .bool, v => ∃ b, v = .bool b
  | .int k, v => ∃ n, v = .int k n ∧ (Lit.int k n).wf = true
  | .str, v => ∃ s, v = .str s ∧ s.size ≤ reachBytes
  | .sl b ks, v => ∃ n rows, v = .fsl n ks.length rows none ∧ (n = true → rows = []) ∧ rows.length * b ≤ reachBytes ∧ rows.length ≤ maxLen ∧ ∀ row ∈ rows, okKs ks row
def okKs : List K → List AVal → Prop
  | [], vs => vs = []
  | k :: ks, vs => ∃ v us, vs = v :: us ∧ okK k v ∧ okKs ks us
end

theorem okKs_len : ∀ {ks : List K} {vs : List AVal}, okKs ks vs → vs.length = ks.length
  | [], vs, h => by simp only [okKs] at h; subst h; rfl
  | k :: ks, vs, h => by
    simp only [okKs] at h
    obtain ⟨v, us, rfl, _, h⟩ := h
    simp [okKs_len h]
theorem okKs_app : ∀ {a b : List K} {xs ys : List AVal}, okKs a xs → okKs b ys → okKs (a ++ b) (xs ++ ys)
  | [], b, xs, ys, h, h' => by simp only [okKs] at h; subst h; exact h'
  | k :: a, b, xs, ys, h, h' => by
    simp only [okKs] at h
    obtain ⟨v, us, rfl, h1, h2⟩ := h
    simp only [List.cons_append, okKs]
    exact ⟨v, us ++ ys, rfl, h1, okKs_app h2 h'⟩

section
variable (P : Program)
def fieldsK (r : TypeId → Option (List K)) : List Field → Nat → Option (List K)
  | [], _ => some []
  | f :: fs, off => (r f.type).bind fun ks => if f.offset == off && P.cellsOf f.type == ks.length then (fieldsK r fs (off + ks.length)).map (ks ++ ·) else none
def kOf : Nat → TypeId → Option (List K)
  | 0, _ => none
  | d + 1, t =>
    match P.underlying t with
    | some .bool => some [.bool]
    | some (.int k) => some [.int k]
    | some .string => some [.str]
    | some (.slice e) => (kOf d e).bind fun ks => if ks.length == P.cellsOf e && P.cellsOf e != 0 then some [.sl (P.bytesOf e) ks] else none
    | some (.struct fs) => (fieldsK P (kOf d) fs.toList 0).bind fun ks => if P.cellsOf t == ks.length then some ks else none
    | some (.array n e) => (kOf d e).bind fun ks => if ks.length == P.cellsOf e && P.cellsOf t == n * ks.length then some (List.replicate n ks).flatten else none
    | _ => none
end

section
variable {H : Type} {enc : TypeId × Value → H} {P : Program} {w : World} {base : Nat} {spare : Nat → Bool} {held : Bool}

theorem cells_get {a : Addr} {n : Nat} {cs : List Value} (h : w.cells? base a n = some cs) : cs.length = n ∧ ∀ j, j < n → ∃ v, cs[j]? = some v ∧ w.cell? (a.add j) = some v := by
  unfold World.cells? at h
  split at h
  · have hl := mapM_some_length h
    refine ⟨by simpa using hl, fun j hj => ?_⟩
    have := mapM_some_get h j j (by simp [hj])
    have hlt : j < cs.length := by rw [hl]; simpa using hj
    exact ⟨cs[j], List.getElem?_eq_getElem hlt, by rw [this, List.getElem?_eq_getElem hlt]⟩
  · cases h

def old' (w : World) : Nat → Prop := fun b => b < w.heap.size

abbrev ReadsAs (w : World) (ks : List K) (cells : List AVal) (cs : List Value) : Prop := PW (old' w) w noId cells cs ∧ okKs ks cells

theorem fields_read {r : TypeId → Option (List K)} {tr : TypeId → List Value → Option (DataW H × List MemPlace)}
    (ih : ∀ t cs x ks, tr t cs = some x → r t = some ks → (∀ n ∈ x.1.weights P t, n ≤ reachBytes) → ∃ cells, ReadsAs w ks cells cs) :
    ∀ (fs : List Field) (off : Nat) (cs : List Value) (ks : List K) (xs : List (DataW H × List MemPlace)), fs.mapM (fun f => tr f.type ((cs.drop f.offset).take (P.cellsOf f.type))) = some xs → fieldsK P r fs off = some ks →
      off + ks.length = cs.length → (∀ n ∈ DataW.weightsEach P (fs.map (·.type)) (xs.map (·.1)), n ≤ reachBytes) → ∃ cells, ReadsAs w ks cells (cs.drop off)
  | [], off, cs, ks, xs, _, h2, h3, _ => by
    cases h2
    simp only [List.length_nil, Nat.add_zero] at h3
    exact ⟨[], ⟨by simp; omega, fun i x y h => by simp at h⟩, by simp [okKs]⟩
  | f :: fs, off, cs, ks, xs, h1, h2, h3, h4 => by
    rw [List.mapM_cons] at h1
    simp only [Option.bind_eq_bind, Option.bind_eq_some_iff, Option.pure_def, Option.some.injEq] at h1
    obtain ⟨x, hx, ys, hy, rfl⟩ := h1
    simp only [fieldsK, Option.bind_eq_some_iff] at h2
    obtain ⟨k1, hk1, h2⟩ := h2
    split at h2
    · rename_i hc
      simp only [Bool.and_eq_true, beq_iff_eq] at hc
      obtain ⟨ho, hl⟩ := hc
      rw [Option.map_eq_some_iff] at h2
      obtain ⟨k2, hk2, rfl⟩ := h2
      simp only [List.length_append] at h3
      simp only [List.map_cons, DataW.weightsEach, List.mem_append] at h4
      obtain ⟨c1, p1, o1⟩ := ih _ _ _ _ hx hk1 (fun n hn => h4 n (.inl hn))
      obtain ⟨c2, p2, o2⟩ := fields_read ih fs (off + k1.length) cs k2 ys hy hk2 (by omega) (fun n hn => h4 n (.inr hn))
      refine ⟨c1 ++ c2, ⟨?_, ?_⟩, okKs_app o1 o2⟩
      · have l1 := p1.1; have l2 := p2.1
        have l3 := okKs_len o1
        simp only [List.length_append, List.length_drop, List.length_take] at *
        omega
      · intro i a b ha hb
        have l3 := okKs_len o1
        rw [List.getElem?_append] at ha
        rw [List.getElem?_drop] at hb
        split at ha
        · rename_i hi
          refine p1.2 i a b ha ?_
          rw [ho, hl, List.getElem?_take, if_pos (by omega), List.getElem?_drop]; exact hb
        · rename_i hi
          refine p2.2 (i - c1.length) a b ha ?_
          rw [List.getElem?_drop, show off + k1.length + (i - c1.length) = off + i by omega]; exact hb
    · cases h2

theorem array_read {ks : List K} {e : TypeId} {c : Nat} {tr : TypeId → List Value → Option (DataW H × List MemPlace)} (hc : c = ks.length)
    (ih : ∀ cs x, tr e cs = some x → (∀ n ∈ x.1.weights P e, n ≤ reachBytes) → ∃ cells, ReadsAs w ks cells cs) :
    ∀ (n i : Nat) (cs : List Value) (xs : List (DataW H × List MemPlace)), (List.range' i n).mapM (fun i => tr e ((cs.drop (i * c)).take c)) = some xs → (i + n) * c = cs.length →
      (∀ m ∈ DataW.weightsAll P e (xs.map (·.1)), m ≤ reachBytes) → ∃ cells, ReadsAs w (List.replicate n ks).flatten cells (cs.drop (i * c))
  | 0, i, cs, xs, _, h3, _ => by
    rw [Nat.add_zero] at h3
    exact ⟨[], ⟨by simp [← h3], fun i x y h => by simp at h⟩, by simp [okKs]⟩
  | n + 1, i, cs, xs, h1, h3, h4 => by
    rw [List.range'_succ, List.mapM_cons] at h1
    simp only [Option.bind_eq_bind, Option.bind_eq_some_iff, Option.pure_def, Option.some.injEq] at h1
    obtain ⟨x, hx, ys, hy, rfl⟩ := h1
    simp only [List.map_cons, DataW.weightsAll, List.mem_append] at h4
    obtain ⟨c1, p1, o1⟩ := ih _ _ hx (fun n hn => h4 n (.inl hn))
    obtain ⟨c2, p2, o2⟩ := array_read hc ih n (i + 1) cs ys hy (by rw [← h3]; congr 1; omega) (fun n hn => h4 n (.inr hn))
    have hfit : i * c + c ≤ cs.length := by
      rw [← h3]
      have : (i + 1) * c ≤ (i + (n + 1)) * c := Nat.mul_le_mul_right _ (by omega)
      rw [Nat.succ_mul] at this; exact this
    refine ⟨c1 ++ c2, ⟨?_, ?_⟩, by rw [List.replicate_succ, List.flatten_cons]; exact okKs_app o1 o2⟩
    · have l2 := p2.1
      have l3 := okKs_len o1
      rw [Nat.succ_mul, List.length_drop] at l2
      rw [List.length_append, List.length_drop, l2, l3, ← hc]
      omega
    · intro j a b ha hb
      have l3 := okKs_len o1
      rw [List.getElem?_append] at ha
      rw [List.getElem?_drop] at hb
      split at ha
      · rename_i hi
        refine p1.2 j a b ha ?_
        rw [List.getElem?_take, if_pos (by omega), List.getElem?_drop]; exact hb
      · rename_i hi
        refine p2.2 (j - c1.length) a b ha ?_
        rw [List.getElem?_drop, Nat.succ_mul, show i * c + c + (j - c1.length) = i * c + j by omega]; exact hb

theorem weightsAll_mem {e : TypeId} : ∀ {ds : List (DataW H)} {d : DataW H} {n : Nat}, d ∈ ds → n ∈ d.weights P e → n ∈ DataW.weightsAll P e ds
  | d' :: ds, d, n, h, hn => by
    simp only [DataW.weightsAll, List.mem_append]
    rcases List.mem_cons.1 h with rfl | h
    · exact .inl hn
    · exact .inr (weightsAll_mem h hn)

theorem trod_struct' {t : TypeId} {fs : Array Field} (hu : P.underlying t = some (.struct fs)) (fuel : Nat) (cs : List Value) : DataW.trod enc P w base spare held (fuel + 1) t cs =
    if cs.length = P.cellsOf t then (fs.toList.mapM fun f => DataW.trod enc P w base spare held fuel f.type ((cs.drop f.offset).take (P.cellsOf f.type))).map fun xs => (.agg (xs.map (·.1)), xs.flatMap (·.2)) else none := by
  simp only [DataW.trod, hu]
theorem trod_array' {t e : TypeId} {n : Nat} (hu : P.underlying t = some (.array n e)) (fuel : Nat) (cs : List Value) : DataW.trod enc P w base spare held (fuel + 1) t cs =
    if cs.length = P.cellsOf t then ((List.range n).mapM fun i => DataW.trod enc P w base spare held fuel e ((cs.drop (i * P.cellsOf e)).take (P.cellsOf e))).map fun xs => (.agg (xs.map (·.1)), xs.flatMap (·.2)) else none := by
  simp only [DataW.trod, hu]

theorem trod_read : ∀ (fuel dep : Nat) (t : TypeId) (cs : List Value) (x : DataW H × List MemPlace) (ks : List K), DataW.trod enc P w base spare held fuel t cs = some x → kOf P dep t = some ks → (∀ n ∈ x.1.weights P t, n ≤ reachBytes) →
    ∃ cells, ReadsAs w ks cells cs
  | 0, dep, t, cs, x, ks, h, _, _ => by simp [DataW.trod] at h
  | fuel + 1, 0, t, cs, x, ks, h, hk, _ => by cases hk
  | fuel + 1, dep + 1, t, cs, x, ks, h, hk, hw => by
    have ih := fun (t : TypeId) (cs : List Value) (x : DataW H × List MemPlace) (ks : List K) => trod_read fuel dep t cs x ks
    unfold kOf at hk
    have h0 := h
    unfold DataW.trod at h
    have one : ∀ {k : K} {v : AVal} {c : Value}, VRel (old' w) w noId v c → okK k v → ∃ cells, ReadsAs w [k] cells [c] := fun {k v c} h1 h2 => ⟨[v], .cons h1 .nil, by simp only [okKs]; exact ⟨v, [], rfl, h2, rfl⟩⟩
    split at hk
    · rename_i hu
      cases hk
      rw [hu] at h
      split at h <;> simp_all
      exact one (.bool _ _) (by simp [okK])
    · rename_i k hu
      cases hk
      rw [hu] at h
      split at h <;> simp_all
      obtain ⟨⟨rfl, hwf⟩, rfl⟩ := h
      exact one (.int _ _ _) (by simp [okK, hwf])
    · rename_i hu
      cases hk
      rw [hu] at h
      split at h <;> simp_all
      obtain ⟨hs, rfl⟩ := h
      rename_i s
      refine one (.str _ s) ?_
      simp only [okK]
      exact ⟨s, rfl, hw _ (by simp [DataW.weights])⟩
    · rename_i e hu
      rw [Option.bind_eq_some_iff] at hk
      obtain ⟨ke, hke, hk⟩ := hk
      split at hk
      · rename_i hc
        cases hk
        simp only [Bool.and_eq_true, beq_iff_eq, bne_iff_ne] at hc
        obtain ⟨hl, hn0⟩ := hc
        rw [hu] at h
        split at h <;> try (simp at h; done)
        all_goals first
          | (rename_i e1; cases e1; done)
          | skip
        · rename_i e1 e2
          exact one (v := .fsl true ke.length [] none) (.fnil _ _ _ (by simp)) (by simp only [okK]; exact ⟨true, [], rfl, by simp, by simp, by simp, by simp⟩)
        · rename_i e' a len cap e1
          cases e1
          dsimp only at h
          split at h
          · rename_i hcap
            rw [Option.bind_eq_some_iff] at h
            obtain ⟨elems, hel, h⟩ := h
            rw [Option.map_eq_some_iff] at h
            obtain ⟨rest, hrest, rfl⟩ := h
            have hlen : elems.length = len := by simpa using mapM_some_length hel
            simp only [DataW.weights, hu, List.mem_cons, List.mem_append, List.length_map] at hw
            have hsz := hw _ (.inl rfl)
            rcases Nat.eq_zero_or_pos len with h0 | h0
            · subst h0
              exact one (v := .fsl false ke.length [] none) (.femp _ _ _ _ _ (by simp)) (by simp [okK])
            · have hget : ∀ i, i < len → ∃ (c : List AVal) (u : List Value), w.cells? base (a.add (i * P.cellsOf e)) (P.cellsOf e) = some u ∧ ReadsAs w ke c u := by
                intro i hi
                have := mapM_some_get hel i i (by simp [hi])
                have hlt : i < elems.length := by omega
                rw [List.getElem?_eq_getElem hlt, Option.bind_eq_some_iff] at this
                obtain ⟨u, hu1, hu2⟩ := this
                obtain ⟨c, hc⟩ := ih _ _ _ _ hu2 hke (fun n hn => hw n (.inr (.inl (weightsAll_mem (List.mem_map.2 ⟨_, List.getElem_mem hlt, rfl⟩) hn))))
                exact ⟨c, u, hu1, hc⟩
              have hspot : a.spot = none ∧ a.block < w.heap.size := by
                obtain ⟨c, u, h1, _⟩ := hget 0 h0
                obtain ⟨_, h2⟩ := cells_get h1
                obtain ⟨v, _, h3⟩ := h2 0 (by omega)
                simp only [Nat.zero_mul, Addr.add, if_true] at h3
                unfold World.cell? at h3
                split at h3
                · rename_i hb
                  refine ⟨?_, (Array.getElem?_eq_some_iff.1 hb).1⟩
                  split at h3
                  · cases h3
                  · rename_i hs; cases hs' : a.spot with
                    | none => rfl
                    | some s => simp [hs'] at hs
                · cases h3
              obtain ⟨b, off, sp⟩ := a
              obtain ⟨hsp, hb⟩ := hspot
              dsimp only at hsp hb
              subst hsp
              let g : Nat → List AVal × List Value := fun i => if hi : i < len then (Classical.choose (hget i hi), Classical.choose (Classical.choose_spec (hget i hi))) else ([], [])
              have hg : ∀ i, i < len → w.cells? base ((⟨b, off, none⟩ : Addr).add (i * P.cellsOf e)) (P.cellsOf e) = some (g i).2 ∧ ReadsAs w ke (g i).1 (g i).2 := fun i hi => by
                have := Classical.choose_spec (Classical.choose_spec (hget i hi))
                simp only [g, hi, dif_pos]
                exact this
              have hrow : ∀ (i : Nat) (row : List AVal), ((List.range len).map fun i => (g i).1)[i]? = some row → i < len ∧ row = (g i).1 := fun i row h => by
                simp only [List.getElem?_map, Option.map_eq_some_iff] at h
                obtain ⟨k, hk, rfl⟩ := h
                have hi : i < len := by have := (List.getElem?_eq_some_iff.1 hk).1; simpa using this
                rw [List.getElem?_range hi] at hk
                cases hk
                exact ⟨hi, rfl⟩
              have hcell : ∀ i j, i < len → j < P.cellsOf e → (g i).2[j]? = some ((g i).2.getD j undef) ∧ w.cell? ⟨b, off + i * P.cellsOf e + j, none⟩ = some ((g i).2.getD j undef) := fun i j hi hj => by
                obtain ⟨_, h2⟩ := cells_get (hg i hi).1
                obtain ⟨v, h3, h4⟩ := h2 j hj
                rw [add_addr, add_addr] at h4
                rw [List.getD_eq_getElem?_getD, h3]
                exact ⟨rfl, h4⟩
              have hwd : ∀ (i : Nat) (row : List AVal), ((List.range len).map fun i => (g i).1)[i]? = some row → row.length = ke.length := fun i row h => by
                obtain ⟨hi, rfl⟩ := hrow i row h
                exact okKs_len (hg i hi).2.2
              refine one (v := .fsl false ke.length ((List.range len).map fun i => (g i).1) none) ?_ ?_
              · have := VRel.fsl (F := old' w) (w := w) noId ke.length ((List.range len).map fun i => (g i).1) b off cap none (fun i j => (g i).2.getD j undef) hb (by simpa using hcap.2.1) (by simp) hwd
                  (fun i j row v h1 h2 => ?_) (fun i j row v h1 h2 => ?_)
                · simpa using this
                · obtain ⟨hi, rfl⟩ := hrow i row h1
                  have hj : j < P.cellsOf e := by rw [← hl, ← hwd i _ h1]; exact (List.getElem?_eq_some_iff.1 h2).1
                  rw [hl]; exact (hcell i j hi hj).2
                · obtain ⟨hi, rfl⟩ := hrow i row h1
                  have hj : j < P.cellsOf e := by rw [← hl, ← hwd i _ h1]; exact (List.getElem?_eq_some_iff.1 h2).1
                  exact (hg i hi).2.1.2 j v _ h2 (hcell i j hi hj).1
              · simp only [okK]
                refine ⟨false, _, rfl, by simp, ?_, by simp; omega, fun row hr => ?_⟩
                · simp only [List.length_map, List.length_range]
                  exact Nat.le_trans (Nat.mul_le_mul_right _ (by omega)) hsz
                · obtain ⟨i, hi⟩ := List.mem_iff_getElem?.1 hr
                  obtain ⟨hi', rfl⟩ := hrow i row hi
                  exact (hg i hi').2.2
          · cases h
      · cases hk
    · rename_i fs hu
      rw [Option.bind_eq_some_iff] at hk
      obtain ⟨ke, hke, hk⟩ := hk
      split at hk
      · rename_i hc
        cases hk
        simp only [beq_iff_eq] at hc
        have h := (trod_struct' (w := w) (enc := enc) hu fuel cs).symm.trans h0
        split at h
        · rename_i hl
          rw [Option.map_eq_some_iff] at h
          obtain ⟨xs, hp, rfl⟩ := h
          simp only [DataW.weights, hu] at hw
          have := fields_read (P := P) (w := w) ih fs.toList 0 cs _ _ hp hke (by omega) hw
          simpa using this
        · cases h
      · cases hk
    · rename_i n e hu
      rw [Option.bind_eq_some_iff] at hk
      obtain ⟨ke, hke, hk⟩ := hk
      split at hk
      · rename_i hc
        cases hk
        simp only [Bool.and_eq_true, beq_iff_eq] at hc
        have h := (trod_array' (w := w) (enc := enc) hu fuel cs).symm.trans h0
        split at h
        · rename_i hl
          rw [Option.map_eq_some_iff] at h
          obtain ⟨xs, hp, rfl⟩ := h
          simp only [DataW.weights, hu] at hw
          rw [List.range_eq_range'] at hp
          have := array_read (P := P) (w := w) (ks := ke) (e := e) (c := P.cellsOf e) hc.1.symm (fun cs x h1 h2 => ih _ _ _ _ h1 hke h2) n 0 cs _ hp (by rw [Nat.zero_add, ← hc.1]; omega) hw
          simpa using this
        · cases h
      · cases hk
    · cases hk

end
end Go.Abs
