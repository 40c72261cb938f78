import Derived.Test.YtkecmndppllijaaDoorAbsOps5
import Derived.WalkSpells
import Derived.Laws.Cover1
set_option linter.unusedVariables false
set_option linter.unusedSimpArgs false
namespace Go.Abs

section
variable {P : Program} {F : Nat → Prop} {w : World} {ρ : RMap} {σ : AState}

theorem run_sizeOf {t : TypeId} (h : P.cellsOf t ≠ 0) : (sizeOf t).run P w = .ok (P.cellsOf t) w := by
  cases hi : P.info? t with
  | none => unfold Program.cellsOf at h; rw [hi] at h; simp at h
  | some i => simp [sizeOf, typeInfo, hi, Program.cellsOf]

theorem run_fieldAt {s : TypeId} {fs : Array Field} {f : Field} {k : Nat} {a : Addr} (hu : P.underlying s = some (.struct fs)) (hf : fs[k]? = some f) (hn : P.cellsOf f.type ≠ 0) :
    (Instr.fieldAt s (.pointer (some a)) k).run P w = .ok (.pointer (some (a.add f.offset))) w := by
  simp [Instr.fieldAt, run_underlying hu, hf, Instr.sureAddr, fieldPlace, run_sizeOf hn, hn]

theorem add_addr (b o n : Nat) : (⟨b, o, none⟩ : Addr).add n = ⟨b, o + n, none⟩ := by unfold Addr.add; split <;> simp_all

theorem afieldAddr_ok {s : TypeId} {a : AVal} {ca : Value} {k : Nat} {out : Out} (r : Rel ρ F σ w) (ha : VRel F w ρ a ca) (h : afieldAddr P s a k σ = some out) : Fine P F w ρ σ out (Instr.fieldAt s ca k) := by
  unfold afieldAddr at h
  split at h
  · rename_i fs hu
    split at h
    · rename_i f hf
      split at h
      · cases h
      · rename_i hn
        have hn : P.cellsOf f.type ≠ 0 := by simpa using hn
        split at h
        · rename_i id es i j
          cases h
          obtain ⟨b, hb, rfl⟩ := ha.ptr_inv
          refine Fine.same r (run_fieldAt hu hf hn) rfl ?_
          rw [add_addr, Nat.add_assoc]
          exact .ptr _ _ _ _ _ _ hb
        · rename_i es rs i j
          cases h
          obtain ⟨b, o, g, hF, hw, hg, hv, rfl⟩ := ha.fptr_inv
          refine Fine.same r (run_fieldAt hu hf hn) rfl ?_
          rw [add_addr, Nat.add_assoc]
          exact .fptr _ _ _ _ _ _ _ g hF hw hg hv
        · cases h
    · cases h
  · cases h

theorem run_indexAt_arr {t e : TypeId} {len : Nat} {b o : Nat} {k : IntKind} {n : Int} (hu : P.underlying t = some (.array len e)) (h : 0 ≤ n ∧ n < (len : Int)) (hn : P.cellsOf e ≠ 0) :
    (Instr.indexAt t (.pointer (some ⟨b, o, none⟩)) (.int k n)).run P w = .ok (.pointer (some ⟨b, o + n.toNat * P.cellsOf e, none⟩)) w := by
  simp [Instr.indexAt, asIntOf, run_underlying hu, Instr.sureAddr, h, run_sizeOf hn, add_addr]
theorem run_indexAt_slc {t e : TypeId} {len c : Nat} {b o : Nat} {k : IntKind} {n : Int} (hu : P.underlying t = some (.slice e)) (h : 0 ≤ n ∧ n < (len : Int)) (hn : P.cellsOf e ≠ 0) :
    (Instr.indexAt t (.slice (some ⟨b, o, none⟩) len c) (.int k n)).run P w = .ok (.pointer (some ⟨b, o + n.toNat * P.cellsOf e, none⟩)) w := by
  simp [Instr.indexAt, asIntOf, run_underlying hu, h, run_sizeOf hn, add_addr]

theorem aindexAddr_ok {t : TypeId} {x ix : AVal} {cx ci : Value} {out : Out} (r : Rel ρ F σ w) (hx : VRel F w ρ x cx) (hi : VRel F w ρ ix ci) (h : aindexAddr P t x ix σ = some out) (hcs : allP out.cs) :
    Fine P F w ρ σ out (Instr.indexAt t cx ci) := by
  unfold aindexAddr at h
  split at h
  · rename_i k n
    obtain rfl := hi.int_inv
    split at h
    · rename_i len e id es i j hu
      obtain ⟨b, hb, rfl⟩ := hx.ptr_inv
      split at h
      · rename_i hn
        cases h
        have hc := of_decide_eq_true hcs.cons.1
        refine Fine.same r (run_indexAt_arr hu hc (by simpa using hn)) rfl ?_
        have := VRel.ptr (F := F) (w := w) ρ id es i (n.toNat * P.cellsOf e + j) b hb
        rw [show i * es + (n.toNat * P.cellsOf e + j) = i * es + j + n.toNat * P.cellsOf e by omega] at this
        exact this
      · cases h
    · rename_i len e es rs i j hu
      obtain ⟨b, o, g, hF, hw, hg, hv, rfl⟩ := hx.fptr_inv
      split at h
      · rename_i hn
        cases h
        have hc := of_decide_eq_true hcs.cons.1
        refine Fine.same r (run_indexAt_arr hu hc (by simpa using hn)) rfl ?_
        have := VRel.fptr (F := F) (w := w) ρ es rs i (n.toNat * P.cellsOf e + j) b o g hF hw hg hv
        rw [show o + i * es + (n.toNat * P.cellsOf e + j) = o + i * es + j + n.toNat * P.cellsOf e by omega] at this
        exact this
      · cases h
    · rename_i e isnil id es off len cap hu
      split at h
      · rename_i hes
        simp only [Bool.and_eq_true, beq_iff_eq, bne_iff_ne] at hes
        obtain ⟨rfl, hn⟩ := hes
        cases h
        have hc := of_decide_eq_true hcs.cons.1
        rcases hx.slc_inv with ⟨_, c, b, hb, hl, hcp, hs, rfl⟩ | ⟨rfl, _, _, _, _⟩
        · refine Fine.same r (run_indexAt_slc hu hc hn) rfl ?_
          rw [← Nat.add_mul, Nat.add_comm off]
          have := VRel.ptr (F := F) (w := w) ρ id (P.cellsOf e) (n.toNat + off) 0 b hb
          simpa using this
        · omega
      · cases h
    · rename_i e isnil es rs cap hu
      split at h
      · rename_i hes
        simp only [Bool.and_eq_true, beq_iff_eq, bne_iff_ne] at hes
        obtain ⟨rfl, hn⟩ := hes
        cases h
        have hc := of_decide_eq_true hcs.cons.1
        rcases hx.fsl_inv with ⟨_, rfl, _, _⟩ | ⟨_, a, c, hl, _, rfl, h | ⟨b, o, g, rfl, hF, hw, hg, hv⟩⟩
        · simp at hc; omega
        · subst h; simp at hc; omega
        · refine Fine.same r (run_indexAt_slc hu hc hn) rfl ?_
          have := VRel.fptr (F := F) (w := w) ρ (P.cellsOf e) rs n.toNat 0 b o g hF hw hg hv
          simpa using this
      · cases h
    · cases h
  · cases h

theorem byteAt_get {s : ByteArray} {n : Int} (h0 : 0 ≤ n) (h : n < (s.size : Int)) : ∃ b : UInt8, s[n.toNat]? = some b ∧ byteAt s n = (b.toNat : Int) := by
  have hlt : n.toNat < s.size := by omega
  refine ⟨s[n.toNat], by simp [hlt], ?_⟩
  unfold byteAt
  have : s.data.toList.getD n.toNat 0 = s[n.toNat] := by
    rw [List.getD_eq_getElem?_getD, Array.getElem?_toList, Array.getElem?_eq_getElem (by simpa using hlt)]
    rfl
  rw [this]

theorem run_part {t : TypeId} {cs : Array Value} {off : Nat} {d : TypeDesc} (hu : P.underlying t = some d) (hn : P.cellsOf t ≠ 0) (hl : off + P.cellsOf t ≤ cs.size) :
    (part t cs off).run P w = .ok (if isAggT P t then .agg (cs.toList.drop off |>.take (P.cellsOf t)).toArray else (cs.toList.drop off |>.take (P.cellsOf t)).headD undef) w := by
  unfold part
  rw [Sem.run_bind, run_isAgg hu]
  cases isAggT P t with
  | true =>
    simp only [Result.andThen_ok, if_true, Sem.run_bind, run_sizeOf hn, Sem.run_pure]
    congr 2
    apply Array.ext'
    simp [Array.toList_extract, List.extract_eq_take_drop]
  | false =>
    have hlt : off < cs.size := by omega
    obtain ⟨m, hm⟩ : ∃ m, P.cellsOf t = m + 1 := ⟨P.cellsOf t - 1, by omega⟩
    have : (cs.toList.drop off).take (P.cellsOf t) = cs[off] :: (cs.toList.drop (off + 1)).take m := by
      rw [hm, List.drop_eq_getElem_cons (by simpa using hlt)]; simp
    rw [this]
    simp [hlt]

theorem PW.part {xs : List AVal} {ys : Array Value} {off n : Nat} (h : PW F w ρ xs ys.toList) : PW F w ρ ((xs.drop off).take n) ((ys.toList.drop off).take n) := by
  refine ⟨by simp [h.1], fun i x y h1 h2 => ?_⟩
  rw [List.getElem?_take] at h1 h2
  split at h1
  · rename_i hc
    rw [if_pos hc, List.getElem?_drop] at h2
    rw [List.getElem?_drop] at h1
    exact h.2 _ _ _ h1 h2
  · cases h1

theorem aindex_ok {t : TypeId} {x ix : AVal} {cx ci : Value} {out : Out} (r : Rel ρ F σ w) (hx : VRel F w ρ x cx) (hi : VRel F w ρ ix ci) (h : aindex P t x ix σ = some out) (hcs : allP out.cs) :
    Fine P F w ρ σ out (Instr.index t cx ci) := by
  unfold aindex at h
  split at h
  · rename_i k n
    obtain rfl := hi.int_inv
    split at h
    · rename_i s hu
      cases h
      obtain rfl := hx.str_inv
      have hc := of_decide_eq_true hcs.cons.1
      obtain ⟨b, hb, he⟩ := byteAt_get hc.1 hc.2
      refine Fine.same r (cv := .int .u8 (b.toNat : Int)) ?_ rfl (by rw [he]; exact .int _ _ _)
      simp [Instr.index, asIntOf, run_underlying hu, hc.1, hb]
    · rename_i len e cs hu
      split at h
      · rename_i hq
        simp only [Bool.and_eq_true, bne_iff_ne, Option.isSome_iff_exists] at hq
        obtain ⟨hn, d, hd⟩ := hq
        obtain ⟨ys, rfl, hp⟩ := PW.of_agg hx
        have hy : cs.length = ys.size := by simpa using hp.1
        have hrun : (0 ≤ n ∧ n < (len : Int)) → len * P.cellsOf e ≤ cs.length → (Instr.index t (.agg ys) (.int k n)).run P w = .ok (if isAggT P e then .agg ((ys.toList.drop (n.toNat * P.cellsOf e)).take (P.cellsOf e)).toArray else ((ys.toList.drop (n.toNat * P.cellsOf e)).take (P.cellsOf e)).headD undef) w ∧ PW F w ρ (cellsAt [cs] 0 (n.toNat * P.cellsOf e) (P.cellsOf e)) ((ys.toList.drop (n.toNat * P.cellsOf e)).take (P.cellsOf e)) ∧ 0 < (cellsAt [cs] 0 (n.toNat * P.cellsOf e) (P.cellsOf e)).length := by
          intro hc hl
          have hfit : n.toNat * P.cellsOf e + P.cellsOf e ≤ ys.size := by
            have : (n.toNat + 1) * P.cellsOf e ≤ len * P.cellsOf e := Nat.mul_le_mul_right _ (by omega)
            rw [Nat.succ_mul] at this
            omega
          refine ⟨?_, ?_, by simp [cellsAt]; omega⟩
          · simp only [Instr.index, asIntOf, Sem.run_bind, Sem.run_pure, Result.andThen_ok, run_underlying hu]
            rw [if_pos hc]
            simp only [Sem.run_bind, run_sizeOf hn, Result.andThen_ok]
            exact run_part hd hn hfit
          · rw [cellsAt_eq (es := cs.length) rfl (by omega)]
            exact hp.part (off := n.toNat * P.cellsOf e) (n := P.cellsOf e)
        split at h
        · cases h
          obtain ⟨hc, hl⟩ := hcs.cons
          obtain ⟨h1, h2, h3⟩ := hrun (of_decide_eq_true hc) (of_decide_eq_true hl.cons.1)
          exact Fine.same r h1 rfl (asType_ok h2 h3)
        · cases h
          obtain ⟨hc, hl⟩ := hcs.cons
          obtain ⟨hl, hk⟩ := hl.cons
          have hk := hk.cons.1
          obtain ⟨h1, h2, h3⟩ := hrun (of_decide_eq_true hc) (of_decide_eq_true hl)
          have h4 := reifyL_ok _ _ _ h2 hk
          exact Fine.same r h1 rfl (asType_ok h4 (by rw [h4.1, ← h2.1]; exact h3))
      · cases h
    · rename_i len e cs hu
      split at h
      · rename_i hq
        simp only [Bool.and_eq_true, bne_iff_ne, Option.isSome_iff_exists] at hq
        obtain ⟨hn, d, hd⟩ := hq
        obtain ⟨ys, rfl, hp⟩ := PW.of_pagg hx
        have hy : cs.length = ys.size := by simpa using hp.1
        have hrun : (0 ≤ n ∧ n < (len : Int)) → len * P.cellsOf e ≤ cs.length → (Instr.index t (.agg ys) (.int k n)).run P w = .ok (if isAggT P e then .agg ((ys.toList.drop (n.toNat * P.cellsOf e)).take (P.cellsOf e)).toArray else ((ys.toList.drop (n.toNat * P.cellsOf e)).take (P.cellsOf e)).headD undef) w ∧ PW F w noId (cellsAt [cs] 0 (n.toNat * P.cellsOf e) (P.cellsOf e)) ((ys.toList.drop (n.toNat * P.cellsOf e)).take (P.cellsOf e)) ∧ 0 < (cellsAt [cs] 0 (n.toNat * P.cellsOf e) (P.cellsOf e)).length := by
          intro hc hl
          have hfit : n.toNat * P.cellsOf e + P.cellsOf e ≤ ys.size := by
            have : (n.toNat + 1) * P.cellsOf e ≤ len * P.cellsOf e := Nat.mul_le_mul_right _ (by omega)
            rw [Nat.succ_mul] at this
            omega
          refine ⟨?_, ?_, by simp [cellsAt]; omega⟩
          · simp only [Instr.index, asIntOf, Sem.run_bind, Sem.run_pure, Result.andThen_ok, run_underlying hu]
            rw [if_pos hc]
            simp only [Sem.run_bind, run_sizeOf hn, Result.andThen_ok]
            exact run_part hd hn hfit
          · rw [cellsAt_eq (es := cs.length) rfl (by omega)]
            exact hp.part (off := n.toNat * P.cellsOf e) (n := P.cellsOf e)
        cases h
        obtain ⟨hc, hl⟩ := hcs.cons
        obtain ⟨hl, hk⟩ := hl.cons
        have hk := hk.cons.1
        obtain ⟨h1, h2, h3⟩ := hrun (of_decide_eq_true hc) (of_decide_eq_true hl)
        have h4 := reifyL_ok _ _ _ h2 hk
        exact Fine.same r h1 rfl (asType_ok h4.pure (by rw [h4.1, ← h2.1]; exact h3))
      · cases h
    · cases h
  · cases h

theorem afield_ok {t : TypeId} {x : AVal} {cx : Value} {k : Nat} {out : Out} (r : Rel ρ F σ w) (hx : VRel F w ρ x cx) (h : afield P t x k σ = some out) : Fine P F w ρ σ out (Instr.field t cx k) := by
  unfold afield at h
  split at h
  · rename_i fs cs hu
    split at h
    · rename_i f hf
      split at h
      · rename_i hq
        simp only [Bool.and_eq_true, bne_iff_ne, Option.isSome_iff_exists] at hq
        obtain ⟨⟨hn, d, hd⟩, hl⟩ := hq
        have hl := of_decide_eq_true hl
        cases h
        obtain ⟨ys, rfl, hp⟩ := PW.of_agg hx
        have hy : cs.length = ys.size := by simpa using hp.1
        refine Fine.same r ?_ rfl (asType_ok (hp.part (off := f.offset) (n := P.cellsOf f.type)) (by simp; omega))
        simp only [Instr.field, Sem.run_bind, run_underlying hu, Result.andThen_ok, hf, asAgg, Sem.run_pure]
        exact run_part hd hn (by omega)
      · cases h
    · cases h
  · cases h

theorem aextract_ok {x : AVal} {cx : Value} {k : Nat} {out : Out} (r : Rel ρ F σ w) (hx : VRel F w ρ x cx) (h : aextract x k σ = some out) : Fine P F w ρ σ out (Instr.extract cx k) := by
  unfold aextract at h
  split at h
  · rename_i vs
    rw [Option.map_eq_some_iff] at h
    obtain ⟨v, hv, rfl⟩ := h
    obtain ⟨cv, rfl, hp⟩ := hx.tuple_inv
    have hlt : k < cv.size := by have := (List.getElem?_eq_some_iff.1 hv).1; rw [hp.1] at this; simpa using this
    have he : cv[k]? = some cv[k] := Array.getElem?_eq_getElem hlt
    exact Fine.same r (cv := cv[k]) (by simp [Instr.extract, he]) rfl (hp.2 k _ _ hv (by simp))
  · cases h

end
end Go.Abs
