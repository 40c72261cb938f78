import Derived.Test.YtkecmndppllijaaDoorAbsOps11
import Derived.Laws.BytesArg
set_option linter.unusedVariables false
set_option linter.unusedSimpArgs false
namespace Go.Abs

section
variable {P : Program} {F : Nat → Prop} {w : World} {ρ : RMap} {σ : AState}

theorem areKinds_u8 {r : List AVal} (h : areKinds [.int .u8] r = true) : ∃ n, r = [.int .u8 n] := by
  match r with
  | [] => simp [areKinds] at h
  | [v] =>
    simp only [areKinds, Bool.and_eq_true] at h
    cases v <;> simp [isKind] at h
    subst h; exact ⟨_, rfl⟩
  | v :: u :: r => simp [areKinds] at h

theorem aconvert_ok {src dst : TypeId} {x : AVal} {cx : Value} {out : Out} (r : Rel ρ F σ w) (hx : VRel F w ρ x cx) (h : aconvert P src dst x σ = some out) (hcs : allP out.cs)
    (hp : ¬ ((∃ t id es, P.underlying src = some (.pointer t) ∧ P.underlying dst = some .unsafePointer ∧ x = .ptr id es 0 0) ∨ (∃ u id es, P.underlying src = some .unsafePointer ∧ P.underlying dst = some (.pointer u) ∧ x = .ptr id es 0 0))) :
    Fine P F w ρ σ out (convert src dst cx) := by
  unfold aconvert at h
  split at h
  · rename_i k _ n hs hd
    cases h
    obtain rfl := hx.int_inv
    exact Fine.same r (cv := .int k (k.wrap n)) (by simp [convert, run_underlying hs, run_underlying hd, Conv.intToInt]) rfl (.int _ _ _)
  · rename_i s hs hd
    cases h
    obtain rfl := hx.str_inv
    exact Fine.same r (cv := .string s) (by simp [convert, run_underlying hs, run_underlying hd]) rfl (.str _ _)
  · rename_i e hs hd
    split at h
    · rename_i he
      rw [Option.map_eq_some_iff] at h
      obtain ⟨s, hr, rfl⟩ := h
      obtain ⟨hk, hcs⟩ := hcs.cons
      obtain ⟨base, c, news, rfl, hS, hL, hnone, hsome⟩ := src_of (P := P) r hx hr hcs hs
      have hrow : ∀ i row, s.rs[i]? = some row → ∃ n, row = [AVal.int .u8 n] := fun i row h => areKinds_u8 (List.all_eq_true.1 hk _ (List.mem_of_getElem? h))
      have hnews : news = (s.rs.map fun r => (r.headD .any).toInt).map (Value.int .u8) := by
        apply List.ext_getElem?
        intro i
        rcases Nat.lt_or_ge i s.rs.length with hi | hi
        · obtain ⟨n, hn⟩ := hrow i _ (List.getElem?_eq_getElem hi)
          have h1 : s.rs[i]? = some [AVal.int .u8 n] := by rw [List.getElem?_eq_getElem hi, hn]
          obtain ⟨cv, h2, h3⟩ := hL.rel i 0 _ _ h1 rfl
          obtain rfl := h3.int_inv
          simp only [Nat.mul_one, Nat.add_zero] at h2
          rw [h2]
          simp [h1, AVal.toInt]
        · have := hL.len
          rw [List.getElem?_eq_none (by omega), List.getElem?_eq_none (by simpa using hi)]
      cases base with
      | none =>
        refine Fine.same r (cv := .string .empty) (by simp [convert, run_underlying hs, run_underlying hd, run_underlying he, Conv.bytesToString]) rfl ?_
        rw [hnone rfl]
        exact .str _ _
      | some a =>
        have hl : (loadCells a s.rs.length).run P w = .ok ((s.rs.map fun r => (r.headD .any).toInt).map (Value.int .u8)).toArray w := by
          have := run_loadCells_list (P := P) w a news (fun j v hj => hsome a rfl j v hj)
          have hlen : news.length = s.rs.length := by rw [hnews]; simp
          rw [hlen, hnews] at this
          exact this
        refine Fine.same r (cv := .string (rowBytes s.rs)) ?_ rfl (.str _ _)
        rw [run_convert_bytes_string w src dst e _ _ c hs he hd, run_bytesToString w a _ c _ hl, foldl_push_bytes]
        simp [rowBytes, ByteArray.empty, ByteArray.emptyWithCapacity]
        rfl
    · cases h
  · rename_i t id es h1 h2; exact absurd (.inl ⟨t, id, es, h1, h2, rfl⟩) hp
  · rename_i u id es h1 h2; exact absurd (.inr ⟨u, id, es, h1, h2, rfl⟩) hp
  · cases h

theorem amakeIface_ok {t : TypeId} {x : AVal} {cx : Value} {out : Out} (r : Rel ρ F σ w) (hx : VRel F w ρ x cx) (h : amakeIface P t x σ = some out) : Fine P F w ρ σ out (Instr.makeInterface t cx) := by
  unfold amakeIface at h
  split at h
  · cases h
  · rename_i d hne hd
    cases h
    refine Fine.same r (cv := .iface t cx) ?_ rfl (.iface _ _ _ _ hx)
    unfold Instr.makeInterface
    rw [Sem.run_bind, run_underlying hd]
    simp only [Result.andThen]
    first | rfl | (split; · rename_i m; exact (hne _ rfl).elim
                   · rfl)
  · cases h

end
end Go.Abs
