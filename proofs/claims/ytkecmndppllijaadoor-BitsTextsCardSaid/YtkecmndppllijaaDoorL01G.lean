import Derived.Test.YtkecmndppllijaaDoorL01A
import Derived.Test.YtkecmndppllijaaDoorAbsF
import Derived.Test.YtkecmndppllijaaDoorRows
import Derived.Lib.LaidU8
import Derived.Lay
import Derived.MakeChecks
set_option linter.unusedVariables false
set_option maxRecDepth 100000
namespace Go.L01
open Go Go.Abs Go.Proofs Go.Lib Go.Proofs.YtkecmndppllijaaDoor

abbrev laidL : List (String × DataW Unit) := [("unicode/utf8.acceptRanges", Rows.laid_unicode_utf8_acceptRanges), ("unicode/utf8.first", Rows.laid_unicode_utf8_first)]
theorem accData : Rows.laid_unicode_utf8_acceptRanges = acceptData := by kernel_rfl
theorem fstData : Rows.laid_unicode_utf8_first = tabData .u8 (Go.Pinned.utf8FirstZ.map fun n : Nat => (n : Int)) := by
  unfold Rows.laid_unicode_utf8_first Go.Pinned.utf8First Go.Pinned.numbers tabData
  rw [List.map_map]; rfl
/-- a table of cells, as a frozen row -/
theorem vrel_row {W : World} {g : Nat} {xs : List Int} {n : Nat} (hn : xs.length = n) (h0 : 0 < n) (hc : ∀ j, j < n → W.cell? ⟨g, j, none⟩ = some (.int .u8 (xs.getD j 0))) :
    VRel (fun b => b < W.heap.size) W noId (.fptr n [xs.map fun z => .int .u8 z] 0 0) (.pointer (some ⟨g, 0, none⟩)) := by
  have hg : g < W.heap.size := by
    have := hc 0 h0
    unfold World.cell? at this
    cases hk : W.heap[g]? with
    | none => rw [hk] at this; simp at this
    | some o => exact (Array.getElem?_eq_some_iff.1 hk).1
  have e0 : (.pointer (some ⟨g, 0, none⟩) : Value) = .pointer (some ⟨g, 0 + 0 * n + 0, none⟩) := by simp
  rw [e0]
  refine VRel.fptr (F := fun b => b < W.heap.size) noId n _ 0 0 g 0 (fun _ j => .int .u8 (xs.getD j 0)) hg ?_ ?_ ?_
  · intro i row h
    cases i with
    | zero => cases h; simpa using hn
    | succ i => simp at h
  · intro i j row v h1 h2
    cases i with
    | zero =>
      cases h1
      have hj : j < n := by
        have := (List.getElem?_eq_some_iff.1 h2).1
        simpa [hn] using this
      simpa using hc j hj
    | succ i => simp at h1
  · intro i j row v h1 h2
    cases i with
    | zero =>
      cases h1
      rw [List.getElem?_map] at h2
      obtain ⟨z, hz, rfl⟩ := Option.map_eq_some_iff.1 h2
      have : xs.getD j 0 = z := by rw [List.getD_eq_getElem?_getD, hz]; rfl
      rw [this]
      exact .int _ _ _
    | succ i => simp at h1
theorem gok {W : World} (h : laidMetH Tryd.prog laidL W) : GOk (fun b => b < W.heap.size) W := by
  rw [MakeChecks.laidMetH_plain _ _ _ (by kernel_rfl)] at h
  have h3 := laidMet.reads h (n := "unicode/utf8.first") (d := Rows.laid_unicode_utf8_first) (by simp [laidL])
  have h4 := laidMet.reads h (n := "unicode/utf8.acceptRanges") (d := Rows.laid_unicode_utf8_acceptRanges) (by simp [laidL])
  rw [fstData] at h3
  rw [accData] at h4
  intro g v hv
  have key : (g = 0 ∧ v = .fptr 256 [Tabs.first] 0 0) ∨ (g = 1 ∧ v = .fptr 32 [Tabs.acc] 0 0) := by
    change (if g = 0 then some (AVal.fptr 256 [Tabs.first] 0 0) else if g = 1 then some (.fptr 32 [Tabs.acc] 0 0) else none) = some v at hv
    by_cases e : g = 0
    · rw [if_pos e] at hv; exact .inl ⟨e, (Option.some.inj hv).symm⟩
    · rw [if_neg e] at hv
      by_cases e1 : g = 1
      · rw [if_pos e1] at hv; exact .inr ⟨e1, (Option.some.inj hv).symm⟩
      · rw [if_neg e1] at hv; cases hv
  rcases key with ⟨rfl, rfl⟩ | ⟨rfl, rfl⟩
  · obtain ⟨g, t, cs, fuel, p, hg, hty, hvar, hd⟩ := h3
    obtain rfl : (0 : Nat) = g := Option.some.inj ((show Tryd.prog.globalNamed "unicode/utf8.first" = some 0 by kernel_rfl).symm.trans hg)
    obtain rfl : (47 : Nat) = t := Option.some.inj ((show (Tryd.prog.globals[0]?).map (·.type) = some 47 by kernel_rfl).symm.trans hty)
    have hcs := cells_of_tab (n := 256) (e := 5) (show Tryd.prog.underlying 47 = some (.array 256 5) by kernel_rfl) (show Tryd.prog.underlying 5 = some (.int .u8) by kernel_rfl) (by kernel_rfl) (by kernel_rfl) hd
    have := vrel_row (W := W) (g := 0) (xs := Go.Pinned.utf8FirstZ.map fun n : Nat => (n : Int)) (n := 256) (by kernel_rfl) (by decide) (fun j hj => by
      rw [World.var?_cell hg hvar j, ← Array.getElem?_toList, hcs, List.getElem?_map]
      have hl : j < (Go.Pinned.utf8FirstZ.map fun n : Nat => (n : Int)).length := by rw [show (Go.Pinned.utf8FirstZ.map fun n : Nat => (n : Int)).length = 256 by kernel_rfl]; exact hj
      rw [List.getElem?_eq_getElem hl, List.getD_eq_getElem?_getD, List.getElem?_eq_getElem hl]; rfl)
    rw [List.map_map] at this
    have e : Tabs.first = List.map ((fun z => AVal.int .u8 z) ∘ fun n : Nat => (n : Int)) Go.Pinned.utf8FirstZ := rfl
    rw [e]
    exact this
  · obtain ⟨g, t, cs, fuel, p, hg, hty, hvar, hd⟩ := h4
    obtain rfl : (1 : Nat) = g := Option.some.inj ((show Tryd.prog.globalNamed "unicode/utf8.acceptRanges" = some 1 by kernel_rfl).symm.trans hg)
    obtain rfl : (50 : Nat) = t := Option.some.inj ((show (Tryd.prog.globals[1]?).map (·.type) = some 50 by kernel_rfl).symm.trans hty)
    have cell : ∀ i, i < 16 → W.cell? ⟨1, 2 * i, none⟩ = some (.int .u8 (accLo i : Int)) ∧ W.cell? ⟨1, 2 * i + 1, none⟩ = some (.int .u8 (accHi i : Int)) := by
      intro i hi
      obtain ⟨fuel', d, q, hdi, he⟩ := array_elem (n := 16) (e := 49) (show Tryd.prog.underlying 50 = some (.array 16 49) by kernel_rfl) hd i hi
      simp only [List.getElem?_map, List.getElem?_range hi, Option.map_some, Option.some.injEq] at hdi
      subst hdi
      rw [show Tryd.prog.cellsOf 49 = 2 by kernel_rfl] at he
      have u5 : Tryd.prog.underlying 5 = some (.int .u8) := by kernel_rfl
      have c5 : Tryd.prog.cellsOf 5 = 1 := by kernel_rfl
      have hcs := ints_of_struct (show Tryd.prog.underlying 49 = some (.struct #[{ name := "lo", type := 5, offset := 0, embedded := false, tag := "", pkgPath := "unicode/utf8", byteOffset := 0 }, { name := "hi", type := 5, offset := 1, embedded := false, tag := "", pkgPath := "unicode/utf8", byteOffset := 1 }]) by kernel_rfl) (fun j f hj => by
        match j, hj with
        | 0, hj => simp at hj; subst hj; exact ⟨u5, rfl, c5⟩
        | 1, hj => simp at hj; subst hj; exact ⟨u5, rfl, c5⟩
        | j + 2, hj => simp at hj) (by kernel_rfl) he
      have e0 := congrArg (·[0]?) hcs
      have e1 := congrArg (·[1]?) hcs
      simp only [List.getElem?_take, List.getElem?_drop] at e0 e1
      constructor
      · rw [World.var?_cell hg hvar (2 * i), ← Array.getElem?_toList]
        simpa [Nat.mul_comm] using e0
      · rw [World.var?_cell hg hvar (2 * i + 1), ← Array.getElem?_toList]
        simpa [Nat.mul_comm] using e1
    have ht : ∀ j : Fin 32, ((([128, 191, 160, 191, 128, 159, 144, 191, 128, 143, 0, 0, 0, 0, 0, 0, 0, 0, 0, 0, 0, 0, 0, 0, 0, 0, 0, 0, 0, 0, 0, 0] : List Int).getD j.val 0) = if j.val % 2 = 0 then (accLo (j.val / 2) : Int) else (accHi (j.val / 2) : Int)) := by decide +kernel
    exact vrel_row (W := W) (g := 1) (n := 32) rfl (by decide) (fun j hj => by
      rw [ht ⟨j, hj⟩]
      dsimp only
      obtain ⟨a, b⟩ := cell (j / 2) (by omega)
      by_cases hm : j % 2 = 0
      · rw [if_pos hm, ← a]; congr 2; omega
      · rw [if_neg hm, ← b]; congr 2; omega)
end Go.L01
