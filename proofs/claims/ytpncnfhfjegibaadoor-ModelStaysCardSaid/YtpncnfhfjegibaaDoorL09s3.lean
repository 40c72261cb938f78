import Derived.Test.YtpncnfhfjegibaaDoorL09s2
section
set_option linter.unusedVariables false
set_option linter.unusedSimpArgs false
set_option linter.unusedSectionVars false
set_option maxRecDepth 100000
namespace Go.MN
open Go Go.Abs Go.Proofs
theorem entAt_z {β : Nat → Nat} : ∀ {zs : Zs}, (bths zs).Nodup → ∀ {z : Ch × Nat}, z ∈ zs → entAt z.2 (hideE β (entsOf (chs zs))) (bths zs) = some (.tuple [ky z.1.s z.1.c, .blk (β z.1.p) 2 0 0])
  | [], _, z, h => by cases h
  | y :: zs, hn, z, h => by
    show (if y.2 == z.2 then some (AVal.tuple [ky y.1.s y.1.c, .blk (β y.1.p) 2 0 0]) else entAt z.2 (hideE β (entsOf (chs zs))) (bths zs)) = _
    by_cases e : y.2 = z.2
    · have : y = z := nodup_at hn (by simp) h e
      subst this; simp
    · rw [if_neg (by simpa using e)]
      have hn' := hn
      unfold bths at hn'
      rw [List.map_cons, List.nodup_cons] at hn'
      rcases List.mem_cons.1 h with rfl | h
      · exact absurd rfl e
      · exact entAt_z hn'.2 h
theorem entV_z {β : Nat → Nat} {zs : Zs} (hn : (bths zs).Nodup) {z : Ch × Nat} (hz : z ∈ zs) (se : List Nat) : entV (hideE β (entsOf (chs zs))) (bths zs) (se ++ [z.2]) = some (.tuple [ky z.1.s z.1.c, .blk (β z.1.p) 2 0 0]) := by
  unfold entV
  simp only [List.getLast?_append, List.getLast?_singleton, Option.some_or, Option.bind_some]
  exact entAt_z hn hz
section
variable {T : AState} {zs : Zs} {offs : List ByteArray} (hM : MT T (chs zs) offs) (hn : (bths zs).Nodup)
include hM hn
theorem gS_new {u : ByteArray} {se : List Nat} {z : Ch × Nat} (hz : z ∈ zs) : gS zs u (se ++ [z.2]) z.1.q = some (.mp true (gms (z.1.us.erase u))) := by
  unfold gS
  rw [find_one hz (by simp) fun y hy hp => ?_]
  · rfl
  · simp at hp
    by_cases e : y = z
    · exact e
    · have := ((zlt hM).2 z hz).2.2.2.2 y hy e y.1.q (by simp [Ch.pl])
      simp [Ch.pl] at this
      exact absurd hp.1 this.2.1
theorem gS_old {u : ByteArray} {se : List Nat} {z : Ch × Nat} (hz : z ∈ zs) {j : Nat} (hj : j ≠ z.1.q) : gS zs u (se ++ [z.2]) j = gS zs u se j := by
  refine gS_ext fun y hy hq => ?_
  by_cases e : y.2 = z.2
  · have := nodup_at hn hy hz e
    subst this
    exact absurd hq.symm hj
  · simp [e]
theorem gS_q {u : ByteArray} {se : List Nat} {z : Ch × Nat} (hz : z ∈ zs) (hs : z.2 ∉ se) : gS zs u se z.1.q = none := by
  unfold gS
  rw [List.find?_eq_none.2 fun y hy => ?_]
  · rfl
  · simp
    intro hq
    by_cases e : y = z
    · subst e; exact hs
    · have := ((zlt hM).2 z hz).2.2.2.2 y hy e y.1.q (by simp [Ch.pl])
      simp [Ch.pl] at this
      exact absurd hq this.2.1
theorem gS_pr {u : ByteArray} {se : List Nat} {z : Ch × Nat} (hz : z ∈ zs) {j : Nat} (hj : j = z.1.p ∨ j = z.1.r) : gS zs u se j = none := by
  refine gS_none fun y hy hq => ?_
  obtain ⟨_, npq, npr, nqr, ho⟩ := (zlt hM).2 z hz
  by_cases e : y = z
  · subst e; rcases hj with rfl | rfl
    · exact npq hq.symm
    · exact nqr hq
  · have := ho y hy e y.1.q (by simp [Ch.pl])
    simp [Ch.pl] at this
    rcases hj with rfl | rfl
    · exact this.1 hq
    · exact this.2.2 hq
theorem SL6 (u : ByteArray) (off : Ents) (k : Nat) (se si : List Nat) (β : Nat → Nat) {z : Ch × Nat} (hz : z ∈ zs) (hs : z.2 ∉ se) :
    plug (Tn T zs u se) [0, 1, 2, z.1.p, z.1.q, z.1.r] (A10 β (entsOf (chs zs)) off (bths zs) si k u z.1.b z.1.us z.1.ps) = plug (Tn T zs u se) [0, 1, 2] (A7 β (entsOf (chs zs)) off (bths zs) si k u) := by
  obtain ⟨hge, npq, npr, nqr, ho⟩ := (zlt hM).2 z hz
  have hx : z.1 ∈ chs zs := List.mem_map.2 ⟨z, hz, rfl⟩
  refine plug6 (Tn_len ..) (Tn_len ..) (zlt hM).1 hge npq npr nqr rfl rfl rfl ?_ ?_ ?_ (fun j _ _ _ => rfl) rfl
  · rw [Tn_get, hM.hp _ hx, Option.map_some, gS_pr hM hn hz (.inl rfl)]; rfl
  · rw [Tn_get, hM.hq _ hx, Option.map_some, gS_q hM hn hz hs]; rfl
  · rw [Tn_get, hM.hr _ hx, Option.map_some, gS_pr hM hn hz (.inr rfl)]; rfl
theorem SL6' (u : ByteArray) (off : Ents) (k : Nat) (se si : List Nat) (β : Nat → Nat) {z : Ch × Nat} (hz : z ∈ zs) :
    plug (Tn T zs u se) [0, 1, 2, z.1.p, z.1.q, z.1.r] (A10 β (entsOf (chs zs)) off (bths zs) si k u z.1.b (z.1.us.erase u) z.1.ps) = plug (Tn T zs u (se ++ [z.2])) [0, 1, 2] (A7 β (entsOf (chs zs)) off (bths zs) si k u) := by
  obtain ⟨hge, npq, npr, nqr, ho⟩ := (zlt hM).2 z hz
  have hx : z.1 ∈ chs zs := List.mem_map.2 ⟨z, hz, rfl⟩
  refine plug6 (Tn_len ..) (Tn_len ..) (zlt hM).1 hge npq npr nqr rfl rfl rfl ?_ ?_ ?_ (fun j _ _ hj => ?_) rfl
  · rw [Tn_get, hM.hp _ hx, Option.map_some, gS_pr hM hn hz (.inl rfl)]; rfl
  · rw [Tn_get, hM.hq _ hx, Option.map_some, gS_new hM hn hz]; rfl
  · rw [Tn_get, hM.hr _ hx, Option.map_some, gS_pr hM hn hz (.inr rfl)]; rfl
  · rw [Tn_get, Tn_get, gS_old hM hn hz (by simp [Ch.pl] at hj; omega)]
abbrev RA79 : Regs := mkR 97 [(3, .ptr 3 9 0 0), (4, .ptr 4 3 0 0), (77, .ptr 6 1 0 0), (79, .tt true)]
theorem offs_round {N : Nat} (hN : N = T.length) (u : ByteArray) (off : Ents) (k : Nat) (se : List Nat) {z : Ch × Nat} (hz : z ∈ zs) (hs : z.2 ∉ se) :
    TripN Tryd.prog N (restOf (loopNo Tryd.f13 0)) (renL (em3 T.length) RA79) (SLo T zs u off k se (.miter (some 1) k (se ++ [z.2]) k)) .normal (renL (em3 T.length) RA) (SLo T zs u off k (se ++ [z.2]) (.miter (some 1) k (se ++ [z.2]) k)) := by
  obtain ⟨hge, npq, npr, nqr, ho⟩ := (zlt hM).2 z hz
  have h3 := (zlt hM).1
  have gp := hge z.1.p (by simp [Ch.pl]); have gq := hge z.1.q (by simp [Ch.pl]); have gr := hge z.1.r (by simp [Ch.pl])
  have hI := ids_lt hM hN
  have hid : z.1.p ∈ (chs zs).map (·.p) := List.mem_map.2 ⟨z.1, List.mem_map.2 ⟨z, hz, rfl⟩, rfl⟩
  have hlt3 : ∀ j ∈ [0, 1, 2], j < (Tn T zs u se).length := fun j hj => by rw [Tn_len]; simp at hj; omega
  have hlt6 : ∀ j ∈ [0, 1, 2, z.1.p, z.1.q, z.1.r], j < (Tn T zs u se).length := fun j hj => by rw [Tn_len]; simp at hj; omega
  have hnd6 : Go.Abs.nodupB [0, 1, 2, z.1.p, z.1.q, z.1.r] = true := by
    simp [Go.Abs.nodupB]; omega
  refine TripB.toN (I := (chs zs).map (·.p)) (fun β => ?_) (SLo_agree hM u off k se (se ++ [z.2]) rfl)
  show TripB Tryd.prog β _ N (.seq (.cond (.tmp 79) .skip (.exit 1)) (.block 2 (.seq (fstOf oBody) (restOf oBody)))) _ _ _ _ _
  refine TripB.seqN hI (rg1 := renL (em3 T.length) RA79) (σ1 := SLo T zs u off k se (.miter (some 1) k (se ++ [z.2]) k)) ?_ ?_
  · refine TripB.cond (b := true) (Imp.refl _) ?_
    exact fun hn F w ρ a Q _ r ha hQ => wp_skip (hQ ρ F w a (TrN.refl _ _ _ _ _ r hn) r ha)
  · refine TripB.block (e := .normal) ?_
    have hA : TripN Tryd.prog 7 (fstOf oBody) RA79 (A7 β (entsOf (chs zs)) off (bths zs) (se ++ [z.2]) k u) .normal (mkR 97 [(3, .ptr 3 9 0 0), (4, .ptr 4 3 0 0), (9, .blk (β z.1.p) 2 0 0), (77, .ptr 6 1 0 0)]) (A7 β (entsOf (chs zs)) off (bths zs) (se ++ [z.2]) k u) := by
      refine TripN.wp (eA_wp β (entsOf (chs zs)) off u (bths zs) (se ++ [z.2]) k (β z.1.p) z.1.s z.1.c ?_)
      unfold eA_T
      rw [entV_z hn hz]
      exact ⟨rfl, rfl, rfl, rfl, rfl⟩
    have hA2 := (TripN.useX (N := N) (T := Tn T zs u se) (es := [0, 1, 2]) (σ := A7 β (entsOf (chs zs)) off (bths zs) (se ++ [z.2]) k u) (σ' := A7 β (entsOf (chs zs)) off (bths zs) (se ++ [z.2]) k u) hA rfl hlt3 (by simp) rfl (Nat.le_refl _)).toB (β := β) (I := (chs zs).map (·.p))
    rw [Tn_len] at hA2
    have hA3 : TripB Tryd.prog β ((chs zs).map (·.p)) N (fstOf oBody) (renL (em3 T.length) RA79) (SLo T zs u off k se (.miter (some 1) k (se ++ [z.2]) k)) .normal (renL (em3 T.length) (mkR 97 [(3, .ptr 3 9 0 0), (4, .ptr 4 3 0 0), (9, .blk (β z.1.p) 2 0 0), (77, .ptr 6 1 0 0)])) (SLo T zs u off k se (.miter (some 1) k (se ++ [z.2]) k)) :=
      TripB.hide hI 1 (SLo_map hM u off k se _) (SLo_map hM u off k se _) (hideOk_ents hM hN) (hideOk_ents hM hN) (by rw [SLo_hid hM]; exact hA2)
    have hA4 := hA3.outB hI (RImpB.set (t := 9) (id := z.1.p) (es := 2) (i := 0) (j := 0) hid rfl)
    refine hA4.seqN hI ?_
    have hB : TripN Tryd.prog 10 (restOf oBody) (mkR 97 [(3, .ptr 6 9 0 0), (4, .ptr 7 3 0 0), (9, .ptr 3 2 0 0), (77, .ptr 9 1 0 0)]) (A10 β (entsOf (chs zs)) off (bths zs) (se ++ [z.2]) k u z.1.b z.1.us z.1.ps) .normal (mkR 97 [(3, .ptr 6 9 0 0), (4, .ptr 7 3 0 0), (77, .ptr 9 1 0 0)]) (A10 β (entsOf (chs zs)) off (bths zs) (se ++ [z.2]) k u z.1.b (z.1.us.erase u) z.1.ps) := by
      refine TripN.wp (eB_wp β (entsOf (chs zs)) off u (bths zs) (se ++ [z.2]) k z.1.b z.1.us z.1.ps ?_)
      unfold eB_T
      rw [adel_gm]
      exact ⟨kk9s _, rfl, rfl, rfl⟩
    have hB2 := (TripN.useX (N := N) (T := Tn T zs u se) (es := [0, 1, 2, z.1.p, z.1.q, z.1.r]) (σ := A10 β (entsOf (chs zs)) off (bths zs) (se ++ [z.2]) k u z.1.b z.1.us z.1.ps) (σ' := A10 β (entsOf (chs zs)) off (bths zs) (se ++ [z.2]) k u z.1.b (z.1.us.erase u) z.1.ps) hB hnd6 hlt6 (by simp) rfl (Nat.le_refl _)).toB (β := β) (I := (chs zs).map (·.p))
    rw [Tn_len, SL6 hM hn u off k se (se ++ [z.2]) β hz hs, SL6' hM hn u off k se (se ++ [z.2]) β hz] at hB2
    exact TripB.hide hI 1 (SLo_map hM u off k se _) (SLo_map hM u off k (se ++ [z.2]) _) (hideOk_ents hM hN) (hideOk_ents hM hN) (by rw [SLo_hid hM, SLo_hid hM]; exact hB2)
end
end Go.MN
end

section
set_option linter.unusedVariables false
set_option linter.unusedSimpArgs false
set_option linter.unusedSectionVars false
set_option maxRecDepth 100000
namespace Go.MN
open Go Go.Abs Go.Proofs
theorem snoc_nodup {l : List Nat} {b : Nat} (h : l.Nodup) (hb : b ∉ l) : (l ++ [b]).Nodup := by
  rw [List.nodup_append]
  exact ⟨h, by simp, fun a ha c hc => by simp at hc; subst hc; exact fun e => hb (e ▸ ha)⟩
section
variable {T : AState} {zs : Zs} {offs : List ByteArray} (hM : MT T (chs zs) offs) (hn : (bths zs).Nodup)
include hM hn
theorem Tn_all {u : ByteArray} {se : List Nat} (h : ∀ b ∈ bths zs, b ∈ se) : Tn T zs u se = Tn T zs u (bths zs) := by
  refine List.ext_getElem? fun j => ?_
  rw [Tn_get, Tn_get, gS_ext (se := se) (se' := bths zs) fun z hz _ => ?_]
  have hb : z.2 ∈ bths zs := List.mem_map.2 ⟨z, hz, rfl⟩
  rw [List.contains_iff_mem.2 hb, List.contains_iff_mem.2 (h _ hb)]
theorem offs_loopX {N : Nat} (hN : N = T.length) (u : ByteArray) (off : Ents) (k : Nat) :
    TripN Tryd.prog N (.loop (loopNo Tryd.f13 0)) (renL (em3 T.length) RA) (SLo T zs u off k [] (.miter (some 1) k [] k)) (.exit 1) (renL (em3 T.length) RE) (SLo T zs u off k (bths zs) .dead) := by
  let I : List Nat → Regs → AState → Prop := fun seen rg σ => seen.Nodup ∧ (∀ b ∈ seen, b ∈ bths zs) ∧ rg = renL (em3 T.length) RA ∧ σ = SLo T zs u off k seen (.miter (some 1) k seen k)
  have hL := mapLoop (P := Tryd.prog) (N := N) (c := loopNo Tryd.f13 0) (rest := restOf (loopNo Tryd.f13 0)) (Post := fun e rg σ => e = .exit 1 ∧ rg = renL (em3 T.length) RA ∧ ∃ seen, σ = SLo T zs u off k (bths zs) (.miter (some 1) k seen k)) rfl (bths zs) I ?_ _ _ [] ⟨List.nodup_nil, by simp, rfl, rfl⟩
  · refine RunD.trip ((LoopD.runD hL).out ?_)
    rintro e rg σ ⟨rfl, rfl, seen, rfl⟩
    refine ⟨renL (em3 T.length) RE, SLo T zs u off k (bths zs) .dead, ?_, rfl, rfl, rfl⟩
    have hk := Weak.kill (N := N) (rg := renL (em3 T.length) RA) (σ := SLo T zs u off k (bths zs) (.miter (some 1) k seen k)) (id := T.length + 3) (by rw [obj_of (SLo_it hM u off k (bths zs) _)]; rfl)
    have ht := SLo_turn hM u off k (bths zs) (.miter (some 1) k seen k) .dead
    rw [show renO (em3 T.length) AObj.dead = .dead from rfl] at ht
    rw [ht] at hk
    refine Weak.trans hk (Weak.regs ?_)
    exact keepR_imp (keepM 97 [3, 4]) _
  · rintro seen rg σ ⟨h1, h2, rfl, rfl⟩
    refine ⟨T.length + 3, 1, 1, k, false, entsOf (chs zs), bths zs, rfl, obj_of (SLo_it hM u off k seen _), obj_of (SLo_map hM u off k seen _), (by show 78 < 97; decide), fun b hb => hb, fun b hb1 hb2 => ?_, fun hall => ?_⟩
    · obtain ⟨z, hz, rfl⟩ := List.mem_map.1 hb1
      have ht := SLo_turn hM u off k seen (.miter (some 1) k seen k) (.miter (some 1) k (seen ++ [z.2]) k)
      rw [show renO (em3 T.length) (AObj.miter (some 1) k (seen ++ [z.2]) k) = .miter (some 1) k (seen ++ [z.2]) k from rfl] at ht
      rw [ht]
      refine (offs_round hM hn hN u off k seen hz hb2).runD (.inl ⟨rfl, snoc_nodup h1 hb2, fun x hx => ?_, rfl, rfl⟩)
      rcases List.mem_append.1 hx with hx | hx
      · exact h2 x hx
      · simp at hx; subst hx; exact hb1
    · have hx : TripN Tryd.prog N (restOf (loopNo Tryd.f13 0)) (((renL (em3 T.length) RA).set 78 .any).set 79 (.tt false)) (SLo T zs u off k seen (.miter (some 1) k seen k)) (.exit 1) (renL (em3 T.length) RA) (SLo T zs u off k seen (.miter (some 1) k seen k)) := by
        have h0 : TripN Tryd.prog N (restOf (loopNo Tryd.f13 0)) (((renL (em3 T.length) RA).set 78 .any).set 79 (.tt false)) (SLo T zs u off k seen (.miter (some 1) k seen k)) (.exit 1) (((renL (em3 T.length) RA).set 78 .any).set 79 (.tt false)) (SLo T zs u off k seen (.miter (some 1) k seen k)) := by
          show TripN Tryd.prog N (.seq (.cond (.tmp 79) .skip (.exit 1)) (.block 2 (.seq (fstOf oBody) (restOf oBody)))) _ _ _ _ _
          refine TripN.seqE (TripN.cond (b := false) (Imp.refl _) ?_) (by simp)
          exact Trip.toN fun F w ρ a Q r ha hQ => wp_exit (hQ ρ F w a (Tr.refl _ _ _ _) r ha)
        refine h0.out ?_
        exact keepR_imp (keepM 97 [3, 4, 77]) _
      refine hx.runD ⟨by simp, rfl, rfl, seen, ?_⟩
      unfold SLo
      rw [Tn_all hM hn hall]
end

def gA (cs : List Ch) (u : ByteArray) (j : Nat) : Option AObj := (cs.find? fun x => x.q == j).map fun x => .mp true (gms (x.us.erase u))
def TA (T : AState) (cs : List Ch) (u : ByteArray) : AState := T.mapIdx fun j o => (gA cs u j).getD o
def TO (T : AState) (cs : List Ch) (u : ByteArray) (off : Ents) : AState := (plug (TA T cs u) [0, 1, 2] (A7o (fun _ => 0) [] off [] 0 u .dead)).set 1 (.mp false (entsOf cs))
theorem TA_len (T : AState) (cs : List Ch) (u : ByteArray) : (TA T cs u).length = T.length := by simp [TA]
theorem TA_get (T : AState) (cs : List Ch) (u : ByteArray) (j : Nat) : (TA T cs u)[j]? = (T[j]?).map fun o => (gA cs u j).getD o := by
  unfold TA; rw [List.getElem?_mapIdx]
theorem Tn_TA (T : AState) (zs : Zs) (u : ByteArray) : Tn T zs u (bths zs) = TA T (chs zs) u := by
  refine List.ext_getElem? fun j => ?_
  rw [Tn_get, TA_get]
  congr 1
  funext o
  have : gS zs u (bths zs) j = gA (chs zs) u j := by
    unfold gS gA chs
    rw [List.find?_map, Option.map_map]
    refine congrArg (Option.map _) (find_congr fun z hz => ?_)
    rw [List.contains_iff_mem.2 (List.mem_map.2 ⟨z, hz, rfl⟩ : z.2 ∈ bths zs), Bool.and_true]; rfl
  rw [this]
theorem SLo_TO {T : AState} {zs : Zs} {offs : List ByteArray} (hM : MT T (chs zs) offs) (u : ByteArray) (off : Ents) (k : Nat) : (SLo T zs u off k (bths zs) .dead).set 1 (.mp false (entsOf (chs zs))) = TO T (chs zs) u off := by
  have h := (zlt hM).1
  unfold SLo TO
  rw [Tn_TA, List.set_set]
  have h1 := plug_set1 (S := TA T (chs zs) u) (by rw [TA_len]; exact h) (.rows false 2 [[.map 1, .map 2]]) (.mpn true (hideE (fun _ => 0) []) [] 0) (.mpn true (hideE (fun _ => 0) []) (bths zs) k) (.mp true off) [opR u, .rows false 3 [[.int .i64 0, .int .i64 0, .fsl true 0 [] (some 0)]], .rows true 2 [[.str w0, .str w0]], .dead]
  show (plug (TA T (chs zs) u) [0, 1, 2] _).set 1 _ = _
  rw [← h1, List.set_set]
abbrev Ch.offU (u : ByteArray) (x : Ch) : Ch := { x with us := x.us.erase u }
theorem TO_get {T : AState} {cs : List Ch} {offs : List ByteArray} (hM : MT T cs offs) (u : ByteArray) (off : Ents) :
    (TO T cs u off)[0]? = some (.rows false 2 [[.map 1, .map 2]]) ∧ (TO T cs u off)[1]? = some (.mp false (entsOf cs)) ∧ (TO T cs u off)[2]? = some (.mp true off) ∧
    (∀ j, j < T.length → 3 ≤ j → (TO T cs u off)[j]? = (T[j]?).map fun o => (gA cs u j).getD o) ∧ (∀ d, (TO T cs u off)[T.length + d]? = ([opR u, .rows false 3 [[.int .i64 0, .int .i64 0, .fsl true 0 [] (some 0)]], .rows true 2 [[.str w0, .str w0]], .dead][d]?).map (renO (em3 T.length))) := by
  have h3 := hM.lt.1
  have hlt3 : ∀ j ∈ [0, 1, 2], j < (TA T cs u).length := fun j hj => by rw [TA_len]; simp at hj; omega
  have hl : [0, 1, 2].length ≤ (A7o (fun _ => 0) [] off [] 0 u .dead).length := by simp
  refine ⟨?_, ?_, ?_, fun j h1 h2 => ?_, fun d => ?_⟩ <;> unfold TO
  · rw [List.getElem?_set_ne (by omega)]; exact plug_in rfl hlt3 hl (i := 0) rfl rfl
  · rw [List.getElem?_set, if_pos rfl, if_pos (by rw [plug_len rfl hlt3 hl, TA_len]; omega)]
  · rw [List.getElem?_set_ne (by omega)]; exact plug_in rfl hlt3 hl (i := 2) rfl rfl
  · rw [List.getElem?_set_ne (by omega), plug_out rfl hlt3 hl (by rw [TA_len]; exact h1) (by simp; omega), TA_get]
  · have := plug_new rfl hlt3 hl d
    rw [TA_len] at this
    rw [List.getElem?_set_ne (by omega), this]
    show Option.map _ ([_, _, _] ++ [opR u, .rows false 3 [[.int .i64 0, .int .i64 0, .fsl true 0 [] (some 0)]], .rows true 2 [[.str w0, .str w0]], .dead])[3 + d]? = _
    rw [List.getElem?_append_right (by simp)]
    simp
theorem MT.off {T : AState} {cs : List Ch} {offs : List ByteArray} (hM : MT T cs offs) (u : ByteArray) (offs' : List ByteArray) : MT (TO T cs u (gms offs')) (cs.map (Ch.offU u)) offs' := by
  obtain ⟨g0, g1, g2, g3, g4⟩ := TO_get hM u (gms offs')
  have hch : chs (cs.zip (List.range cs.length)) = cs := List.map_fst_zip (by simp)
  have hM2 : MT T (chs (cs.zip (List.range cs.length))) offs := by rw [hch]; exact hM
  obtain ⟨_, hz⟩ := zlt hM2
  have hpl : (cs.map (Ch.offU u)).flatMap Ch.pl = cs.flatMap Ch.pl := by rw [List.flatMap_map]
  have hgA : ∀ x ∈ cs, gA cs u x.p = none ∧ gA cs u x.r = none ∧ gA cs u x.q = some (.mp true (gms (x.us.erase u))) ∧ (3 ≤ x.p ∧ x.p < T.length) ∧ (3 ≤ x.q ∧ x.q < T.length) ∧ 3 ≤ x.r ∧ x.r < T.length := fun x hx => by
    obtain ⟨l1, l2, rfl⟩ := List.append_of_mem hx
    have hM3 : MT T (l1 ++ [x] ++ l2) offs := by simpa using hM
    obtain ⟨hge, npq, npr, nqr, hoth⟩ := hM3.one
    obtain ⟨q1, q2, q3⟩ := hM3.lt.2 x (by simp)
    have hne : ∀ y ∈ l1 ++ x :: l2, y.q ≠ x.p ∧ y.q ≠ x.r ∧ (y.q = x.q → y = x ∨ False) := fun y hy => by
      have : y = x ∨ y ∈ l1 ++ l2 := by
        simp only [List.mem_append, List.mem_cons] at hy ⊢
        rcases hy with h | h | h
        · exact .inr (.inl h)
        · exact .inl h
        · exact .inr (.inr h)
      rcases this with rfl | hy2
      · exact ⟨fun e => npq e.symm, nqr, fun _ => .inl rfl⟩
      · have := (hoth y hy2 y.q (by simp [Ch.pl])).2
        simp [Ch.pl] at this
        exact ⟨this.1, this.2.2, fun e => absurd e this.2.1⟩
    refine ⟨?_, ?_, ?_, ⟨hge _ (by simp [Ch.pl]), q1⟩, ⟨hge _ (by simp [Ch.pl]), q2⟩, hge _ (by simp [Ch.pl]), q3⟩
    · unfold gA; rw [List.find?_eq_none.2 fun y hy => by simpa using (hne y hy).1]; rfl
    · unfold gA; rw [List.find?_eq_none.2 fun y hy => by simpa using (hne y hy).2.1]; rfl
    · unfold gA
      cases hf : (l1 ++ x :: l2).find? fun y => y.q == x.q with
      | none => exact absurd (List.find?_eq_none.1 hf x (by simp)) (by simp)
      | some y =>
        have h1 := (hne y (List.mem_of_find?_eq_some hf)).2.2 (by simpa using List.find?_some hf)
        rcases h1 with rfl | h
        · rfl
        · exact h.elim
  have hof : ∀ y ∈ cs.map (Ch.offU u), ∃ x ∈ cs, y = x.offU u := fun y hy => by
    obtain ⟨x, hx, rfl⟩ := List.mem_map.1 hy; exact ⟨x, hx, rfl⟩
  refine ⟨g0, ?_, g2, fun y hy => ?_, fun y hy => ?_, fun y hy => ?_, by rw [hpl]; exact hM.nd, ?_⟩
  · rw [g1]; unfold entsOf; rw [List.map_map]; rfl
  · obtain ⟨x, hx, rfl⟩ := hof y hy
    obtain ⟨a1, a2, a3, a4, a5, a6⟩ := hgA x hx
    rw [g3 _ a4.2 a4.1, hM.hp x hx, Option.map_some, a1]; rfl
  · obtain ⟨x, hx, rfl⟩ := hof y hy
    obtain ⟨a1, a2, a3, a4, a5, a6⟩ := hgA x hx
    rw [g3 _ a5.2 a5.1, hM.hq x hx, Option.map_some, a3]; rfl
  · obtain ⟨x, hx, rfl⟩ := hof y hy
    obtain ⟨a1, a2, a3, a4, a5, a6⟩ := hgA x hx
    rw [g3 _ a6.2 a6.1, hM.hr x hx, Option.map_some, a2]; rfl
  · unfold noGh
    rw [List.all_eq_true]
    intro o ho
    obtain ⟨j, hj⟩ := List.getElem?_of_mem ho
    have key : o.isGh = false := by
      rcases Nat.lt_or_ge j T.length with hl | hl
      · by_cases e0 : j = 0
        · subst e0; rw [g0] at hj; cases hj; rfl
        by_cases e1 : j = 1
        · subst e1; rw [g1] at hj; cases hj; rfl
        by_cases e2 : j = 2
        · subst e2; rw [g2] at hj; cases hj; rfl
        rw [g3 j hl (by omega), Option.map_eq_some_iff] at hj
        obtain ⟨o0, h0, rfl⟩ := hj
        cases hg : gA cs u j with
        | none => exact noGh_get hM.ng h0
        | some o1 =>
          unfold gA at hg
          rw [Option.map_eq_some_iff] at hg
          obtain ⟨x, _, rfl⟩ := hg
          rfl
      · obtain ⟨d, rfl⟩ : ∃ d, j = T.length + d := ⟨j - T.length, by omega⟩
        rw [g4 d, Option.map_eq_some_iff] at hj
        obtain ⟨o0, h0, rfl⟩ := hj
        rw [renO_isGh]
        match d, h0 with
        | 0, h0 => cases h0; rfl
        | 1, h0 => cases h0; rfl
        | 2, h0 => cases h0; rfl
        | 3, h0 => cases h0; rfl
        | d + 4, h0 => cases h0
    rw [key]; rfl
end Go.MN
end

section
set_option linter.unusedVariables false
set_option linter.unusedSimpArgs false
set_option linter.unusedSectionVars false
set_option maxRecDepth 100000
namespace Go.MN
open Go Go.Abs Go.Proofs
theorem plug_A3 {T : AState} {cs : List Ch} {offs : List ByteArray} (hM : MT T cs offs) (β : Nat → Nat) (bs : List Nat) (k : Nat) : plug T [0, 1, 2] (A3 β (entsOf cs) (gms offs) bs k) = (T.set 1 (.mpn false (entsOf cs) bs k)).set 1 (.mpn true (hideE β (entsOf cs)) bs k) := by
  have h3 := hM.lt.1
  have hlt3 : ∀ j ∈ [0, 1, 2], j < T.length := fun j hj => by simp at hj; omega
  have hl : [0, 1, 2].length ≤ (A3 β (entsOf cs) (gms offs) bs k).length := by simp
  refine List.ext_getElem? fun j => ?_
  rw [List.set_set, List.getElem?_set]
  split
  · rename_i e; subst e
    rw [if_pos (by omega), plug_in rfl hlt3 hl (i := 1) rfl rfl]; rfl
  · rename_i hj
    rcases Nat.lt_or_ge j T.length with hjl | hjl
    · by_cases e0 : j = 0
      · subst e0; rw [plug_in rfl hlt3 hl (i := 0) rfl rfl, hM.h0]; rfl
      by_cases e2 : j = 2
      · subst e2; rw [plug_in rfl hlt3 hl (i := 2) rfl rfl, hM.h2]; rfl
      rw [plug_out rfl hlt3 hl hjl (by simp; omega)]
    · rw [List.getElem?_eq_none hjl, List.getElem?_eq_none (by rw [plug_len rfl hlt3 hl]; simpa using hjl)]
theorem off_fok {T : AState} {cs : List Ch} {offs : List ByteArray} (hM : MT T cs offs) (u : ByteArray) (hu : u ∉ offs) (hw : noCh w0 w0 cs) (ck : FOk Tryd.prog 21 [opw 7 w0 w0 u w0 w0 w0 0 0] [] (.int .i64 0) []) :
    FOk Tryd.prog 13 [.ptr 0 2 0 0, opw 7 w0 w0 u w0 w0 w0 0 0] [.gh T] (rep 0 0 nilps) [.gh (TO T cs u (gms (offs ++ [u])))] := by
  have h3 := hM.lt.1
  refine FOkN.gh1 (T := T) ?_ rfl rfl hM.ng rfl (hM.off u (offs ++ [u])).ng ⟨_, (hM.off u (offs ++ [u])).h0, rfl⟩ (by omega)
  refine FOkN.born (id := 1) (p := false) (ents := entsOf cs) (obj_of hM.h1) fun bs k hb hlb => ?_
  have hlb : bs.length = cs.length := by rw [hlb]; simp [entsOf]
  obtain ⟨zs, hz1, hz2⟩ : ∃ zs : Zs, chs zs = cs ∧ bths zs = bs := ⟨cs.zip bs, List.map_fst_zip (by omega), List.map_snd_zip (by omega)⟩
  subst hz1; subst hz2
  have hn := hb.nodup
  rw [← SLo_TO hM u _ k]
  refine FOkN.unborn (id := 1) ?_ (obj_of (SLo_map hM u _ k _ _))
  have hlen : (T.set 1 (.mpn false (entsOf (chs zs)) (bths zs) k)).length = T.length := by simp
  have hT1 : (T.set 1 (.mpn false (entsOf (chs zs)) (bths zs) k))[1]? = some (.mpn false (entsOf (chs zs)) (bths zs) k) := by
    rw [List.getElem?_set, if_pos rfl, if_pos (by omega)]
  refine FOkB.okN (I := (chs zs).map (·.p)) (fun β => ?_) ?_
  · refine FOkB.hide 1 (ids_lt hM hlen) hT1 (SLo_map hM u _ k _ _) (hideOk_ents hM hlen) (hideOk_ents hM hlen) ?_ rfl
    rw [← plug_A3 hM, SLo_hid hM]
    have hlt3 : ∀ j ∈ [0, 1, 2], j < T.length := fun j hj => by simp at hj; omega
    have hN : T.length = (plug T [0, 1, 2] (A3 β (entsOf (chs zs)) (gms offs) (bths zs) k)).length := by rw [plug_len rfl hlt3 (by simp)]; rfl
    have haf := afind_none β w0 w0 (chs zs) hw
    have hloop := TripB.show (ids_lt hM rfl) 1 (SLo_map hM u _ k _ _) (SLo_map hM u _ k _ _) (hideOk_ents hM rfl) (hideOk_ents hM rfl) ((offs_loopX hM hn rfl u (gms (offs ++ [u])) k).toB (β := β) (I := (chs zs).map (·.p)))
    rw [SLo_hid hM, SLo_hid hM, Tn_nil] at hloop
    rw [← aput_gm u offs hu] at hloop ⊢
    exact dOX_1 (gms offs) (entsOf (chs zs)) u (bths zs) k T.length (fun i => if i = 0 then T else Tn T zs u (bths zs)) β (List.map (fun x : Ch => x.p) (chs zs)) T.length (ids_lt hM rfl) rfl hlt3 (fun i => by show (if i = 0 then T else Tn T zs u (bths zs)).length = _; split <;> simp [Tn_len]) hN
      hloop (kk9s _) (by rw [getD_gm, decide_eq_false hu, if_neg (by simp)]; exact as4 false) (by rw [getD_gm]; exact ok4 _) (by rw [haf]; rfl) (by rw [haf]; rfl) (keys_all (hide_keys β _)) ck (FOk.wp (gv3n_wp β _ _ _ _ ⟨rfl, rfl⟩))
  · intro F w ρ args r hp id hid
    obtain ⟨x, hx, rfl⟩ := List.mem_map.1 hid
    obtain ⟨c, hc⟩ : ∃ c, args.toList[0]? = some c := by
      have hl := hp.1
      cases hq : args.toList with
      | nil => rw [hq] at hl; simp at hl
      | cons c l => exact ⟨c, rfl⟩
    obtain ⟨b, hb0, _⟩ := (hp.2 0 _ c rfl hc).ptr_inv
    have h0 : (T.set 1 (.mpn false (entsOf (chs zs)) (bths zs) k))[0]? = some (.rows false 2 [[.map 1, .map 2]]) := by
      rw [List.getElem?_set_ne (by omega)]; exact hM.h0
    obtain ⟨_, _, _, _, _, _, _, hcell⟩ := r.obj _ _ _ h0 hb0
    obtain ⟨cv, _, hv⟩ := hcell 0 0 _ _ rfl rfl
    obtain ⟨m, hm, _⟩ := hv.map_inv
    obtain ⟨es, _, _, _, h4⟩ := r.obj _ _ _ hT1 hm
    obtain ⟨i, hi⟩ := List.getElem?_of_mem hx
    obtain ⟨e, _, _, hv⟩ := h4 i (ky x.s x.c) (.ptr x.p 2 0 0) (by unfold entsOf; rw [List.getElem?_map, hi]; rfl)
    obtain ⟨b2, hb2, _⟩ := hv.ptr_inv
    exact ⟨b2, hb2⟩
theorem doO {T : AState} {m : List Mo} {offs : List ByteArray} (h : MX T m offs) (u : ByteArray) (hu : u ∉ offs) (hw : noMo w0 w0 m) (ck : FOk Tryd.prog 21 [opw 7 w0 w0 u w0 w0 w0 0 0] [] (.int .i64 0) []) : Done (opw 7 w0 w0 u w0 w0 w0 0 0) T (rep 0 0 nilps) (m.map fun k => { k with us := k.us.erase u }) (offs ++ [u]) := by
  obtain ⟨cs, rfl, hM, hb⟩ := h.ex
  refine ⟨_, ⟨cs.map (Ch.offU u), ?_, hM.off u (offs ++ [u]), fun y hy => ?_⟩, off_fok hM u hu (noMo_ch hw) ck⟩
  · rw [List.map_map, List.map_map]; rfl
  · obtain ⟨x, hx, rfl⟩ := List.mem_map.1 hy
    exact hb x hx
theorem doF {T : AState} {m : List Mo} {offs : List ByteArray} (h : MX T m offs) (u : ByteArray) (hu : u ∈ offs) (hw : noMo w0 w0 m) (ck : FOk Tryd.prog 21 [opw 7 w0 w0 u w0 w0 w0 0 0] [] (.int .i64 0) []) : Done (opw 7 w0 w0 u w0 w0 w0 0 0) T (rep 92 0 nilps) m offs := by
  obtain ⟨cs, rfl, hM, hb⟩ := h.ex
  obtain ⟨T', h1, h2⟩ := hM.same3 (f := 13) (rest := [opw 7 w0 w0 u w0 w0 w0 0 0]) (v := rep 92 0 nilps) rfl rfl fun β => by
    refine FOk.wp (dF3_wp (hideE β (entsOf cs)) (gms offs) u ?_)
    unfold dF3_T
    rw [List.append_nil, List.append_nil, afind_none β w0 w0 cs (noMo_ch hw), getD_gm, decide_eq_true hu]
    exact ⟨given3 .., ck, keys_all (hide_keys β cs), rfl, kk9s _, ok4 _, by rw [if_neg (by simp)]; exact as4 true, no_ok 92, rfl, rfl⟩
  exact ⟨T', ⟨cs, rfl, h1, hb⟩, h2⟩
end Go.MN
end

section
set_option linter.unusedVariables false
set_option maxRecDepth 100000
namespace Go.MN
open Go Go.Abs Go.Proofs
abbrev gc (rows : List (List AVal)) (i : Int) (j : Nat) : AVal := List.getD (List.getD rows (Int.toNat i) []) j AVal.any
abbrev rgS (nb : Bool) (rows : List (List AVal)) (b : Bool) (n : Nat) (i : Int) : Regs := mkR 116 [(0, .fsl nb 9 rows none), (3, .ptr 0 2 0 0), (4, .slc b 1 1 0 n none), (5, .int .i64 i)]
abbrev HS (T : AState) (tx : List (List AVal)) : AState := [.gh T, .rows true 1 tx]
abbrev og (rows : List (List AVal)) (i : Int) : List AVal := [AVal.int IntKind.i64 (AVal.toInt (gc rows i 0)), AVal.str (AVal.toStr (gc rows i 1)), AVal.str (AVal.toStr (gc rows i 2)), AVal.str (AVal.toStr (gc rows i 3)), AVal.str (AVal.toStr (gc rows i 4)), AVal.str (AVal.toStr (gc rows i 5)), AVal.str (AVal.toStr (gc rows i 6)), AVal.int IntKind.i64 (AVal.toInt (gc rows i 7)), AVal.int IntKind.i64 (AVal.toInt (gc rows i 8))]
abbrev oc (rows : List (List AVal)) (i : Int) : List AVal := [gc rows i 0, gc rows i 1, gc rows i 2, gc rows i 3, gc rows i 4, gc rows i 5, gc rows i 6, gc rows i 7, gc rows i 8]
abbrev kks : List Kind := [Kind.int IntKind.i64, Kind.str, Kind.str, Kind.str, Kind.str, Kind.str, Kind.str, Kind.int IntKind.i64, Kind.int IntKind.i64]
abbrev iqSA : Int → AVal := AVal.int IntKind.i64
theorem stB_1 (nb : Bool) (rows : List (List AVal)) (tx : List (List AVal)) (b : Bool) (i : Int) (T : AState) (T2 : AState) (e : Int) (a : Int) (nl : Bool) (qs : List (List AVal))
    (h1 : (AVal.toInt (gc rows i 0) == 5) = true)
    (h2 : decide (Int.toNat i < List.length rows) = true)
    (h3 : areKinds kks (oc rows i) = true)
    (h4 : decide (0 ≤ i ∧ i < (↑(List.length rows) : Int)) = true)
    (h5 : decide (i < 200) = true)
    (h6 : decide (i < (↑(List.length rows) : Int)) = true) :
    TripN Tryd.prog 0 (loopNo Tryd.f3 0) (rgS nb rows b (List.length tx) i) (HS T tx) (AExit.normal) (mkR 116 [(0, AVal.fsl nb 9 rows none), (3, AVal.ptr 0 2 0 0), (4, AVal.slc b 1 1 0 (List.length tx) none), (5, iqSA (IntKind.wrap IntKind.i64 (i + 1)))]) ([AObj.gh T, AObj.rows true 1 tx]) :=
  evalT (st := St.mk (rgS nb rows b (List.length tx) i) (HS T tx) ([Dec.br true, Dec.br true, Dec.br true]) []) (st' := St.mk (mkR 116 [(0, AVal.fsl nb 9 rows none), (3, AVal.ptr 0 2 0 0), (4, AVal.slc b 1 1 0 (List.length tx) none), (5, iqSA (IntKind.wrap IntKind.i64 (i + 1))), (6, AVal.ptr 2 9 0 0), (13, iqSA i), (14, AVal.fsl nb 9 rows none), (15, iqSA (↑(List.length rows) : Int)), (16, AVal.bool (decide (i < (↑(List.length rows) : Int)))), (17, AVal.tt true), (18, iqSA i), (19, AVal.bool (decide (i < 200))), (20, AVal.tt true), (21, iqSA i), (22, iqSA (IntKind.wrap IntKind.i64 (i + 1))), (23, AVal.fsl nb 9 rows none), (24, iqSA i), (25, AVal.fptr 9 rows (Int.toNat i) 0), (26, AVal.agg (og rows i)), (27, AVal.ptr 2 9 0 0), (28, iqSA (AVal.toInt (gc rows i 0))), (29, AVal.bool (AVal.toInt (gc rows i 0) == 5)), (30, AVal.tt true), (31, AVal.tuple []), (32, AVal.tuple []), (33, AVal.tuple []), (34, AVal.tt true)]) ([AObj.gh T, AObj.rows true 1 tx, AObj.rows true 9 [(og rows i)]]) ([]) (((AVal.toInt (gc rows i 0) == 5) = true) :: (tr 5 ++ ((decide (Int.toNat i < List.length rows) = true) :: (tr 1 ++ ((areKinds kks (oc rows i) = true) :: ((decide (0 ≤ i ∧ i < (↑(List.length rows) : Int)) = true) :: ((decide (i < 200) = true) :: ((decide (i < (↑(List.length rows) : Int)) = true) :: []))))))))) followed (by kernel_rfl) (allP_of ⟨h1, (trC 5 ⟨h2, (trC 1 ⟨h3, ⟨h4, ⟨h5, ⟨h6, trivial⟩⟩⟩⟩)⟩)⟩) (keepM 116 [0, 3, 4, 5]) ([0, 1]) (by kernel_rfl) (by kernel_rfl) (by kernel_rfl)

theorem stB_2 (nb : Bool) (rows : List (List AVal)) (tx : List (List AVal)) (b : Bool) (i : Int) (T : AState) (T2 : AState) (e : Int) (a : Int) (nl : Bool) (qs : List (List AVal))
    (h1 : (AVal.toInt (gc rows i 0) == 6) = true)
    (h2 : (AVal.toInt (gc rows i 0) == 5) = false)
    (h3 : decide (Int.toNat i < List.length rows) = true)
    (h4 : areKinds kks (oc rows i) = true)
    (h5 : decide (0 ≤ i ∧ i < (↑(List.length rows) : Int)) = true)
    (h6 : decide (i < 200) = true)
    (h7 : decide (i < (↑(List.length rows) : Int)) = true) :
    TripN Tryd.prog 0 (loopNo Tryd.f3 0) (rgS nb rows b (List.length tx) i) (HS T tx) (AExit.normal) (mkR 116 [(0, AVal.fsl nb 9 rows none), (3, AVal.ptr 0 2 0 0), (4, AVal.slc b 1 1 0 (List.length tx) none), (5, iqSA (IntKind.wrap IntKind.i64 (i + 1)))]) ([AObj.gh T, AObj.rows true 1 tx]) :=
  evalT (st := St.mk (rgS nb rows b (List.length tx) i) (HS T tx) ([Dec.br true, Dec.br true, Dec.br false, Dec.br true]) []) (st' := St.mk (mkR 116 [(0, AVal.fsl nb 9 rows none), (3, AVal.ptr 0 2 0 0), (4, AVal.slc b 1 1 0 (List.length tx) none), (5, iqSA (IntKind.wrap IntKind.i64 (i + 1))), (6, AVal.ptr 2 9 0 0), (13, iqSA i), (14, AVal.fsl nb 9 rows none), (15, iqSA (↑(List.length rows) : Int)), (16, AVal.bool (decide (i < (↑(List.length rows) : Int)))), (17, AVal.tt true), (18, iqSA i), (19, AVal.bool (decide (i < 200))), (20, AVal.tt true), (21, iqSA i), (22, iqSA (IntKind.wrap IntKind.i64 (i + 1))), (23, AVal.fsl nb 9 rows none), (24, iqSA i), (25, AVal.fptr 9 rows (Int.toNat i) 0), (26, AVal.agg (og rows i)), (27, AVal.ptr 2 9 0 0), (28, iqSA (AVal.toInt (gc rows i 0))), (29, AVal.bool (AVal.toInt (gc rows i 0) == 5)), (30, AVal.tt false), (31, AVal.ptr 2 9 0 0), (32, iqSA (AVal.toInt (gc rows i 0))), (33, AVal.bool (AVal.toInt (gc rows i 0) == 6)), (34, AVal.tt true)]) ([AObj.gh T, AObj.rows true 1 tx, AObj.rows true 9 [(og rows i)]]) ([]) (((AVal.toInt (gc rows i 0) == 6) = true) :: (tr 3 ++ (((AVal.toInt (gc rows i 0) == 5) = false) :: (tr 5 ++ ((decide (Int.toNat i < List.length rows) = true) :: (tr 1 ++ ((areKinds kks (oc rows i) = true) :: ((decide (0 ≤ i ∧ i < (↑(List.length rows) : Int)) = true) :: ((decide (i < 200) = true) :: ((decide (i < (↑(List.length rows) : Int)) = true) :: []))))))))))) followed (by kernel_rfl) (allP_of ⟨h1, (trC 3 ⟨h2, (trC 5 ⟨h3, (trC 1 ⟨h4, ⟨h5, ⟨h6, ⟨h7, trivial⟩⟩⟩⟩)⟩)⟩)⟩) (keepM 116 [0, 3, 4, 5]) ([0, 1]) (by kernel_rfl) (by kernel_rfl) (by kernel_rfl)

theorem stB_3 (nb : Bool) (rows : List (List AVal)) (tx : List (List AVal)) (b : Bool) (i : Int) (T : AState) (T2 : AState) (e : Int) (a : Int) (nl : Bool) (qs : List (List AVal))
    (h1 : (a != (↑(List.length tx) : Int)) = true)
    (h2 : (e == 0) = true)
    (h3 : (ByteArray.toList (AVal.toStr (gc rows i 2)) == ByteArray.toList (ByteArray.mk #[99])) = true)
    (h4 : (ByteArray.toList (AVal.toStr (gc rows i 1)) == ByteArray.toList (ByteArray.mk #[119])) = true)
    (h5 : (AVal.toInt (gc rows i 0) == 3) = true)
    (h6 : FOk Tryd.prog 13 [AVal.ptr 0 2 0 0, AVal.agg (og rows i)] [AObj.gh T] (AVal.agg [iqSA e, iqSA a, AVal.fsl nl 2 qs none]) [AObj.gh T2])
    (h7 : (AVal.toInt (gc rows i 0) == 6) = false)
    (h8 : (AVal.toInt (gc rows i 0) == 5) = false)
    (h9 : decide (Int.toNat i < List.length rows) = true)
    (h10 : areKinds kks (oc rows i) = true)
    (h11 : decide (0 ≤ i ∧ i < (↑(List.length rows) : Int)) = true)
    (h12 : decide (i < 200) = true)
    (h13 : decide (i < (↑(List.length rows) : Int)) = true) :
    TripN Tryd.prog 0 (loopNo Tryd.f3 0) (rgS nb rows b (List.length tx) i) (HS T tx) (AExit.ret) (mkR 116 [(2, AVal.tt false)]) ([]) :=
  evalT (st := St.mk (rgS nb rows b (List.length tx) i) (HS T tx) ([Dec.br true, Dec.br true, Dec.br false, Dec.br false, Dec.use [0] [AVal.ptr 0 2 0 0, AVal.agg (og rows i)] [AObj.gh T] (rep e a (AVal.fsl nl 2 qs none)) [AObj.gh T2], Dec.br true, Dec.br true, Dec.br true, Dec.br true, Dec.br true]) []) (st' := St.mk (mkR 116 [(0, AVal.fsl nb 9 rows none), (2, AVal.tt false), (3, AVal.ptr 0 2 0 0), (4, AVal.slc b 1 1 0 (List.length tx) none), (5, iqSA i), (6, AVal.ptr 2 9 0 0), (7, AVal.ptr 3 3 0 0), (13, iqSA i), (14, AVal.fsl nb 9 rows none), (15, iqSA (↑(List.length rows) : Int)), (16, AVal.bool (decide (i < (↑(List.length rows) : Int)))), (17, AVal.tt true), (18, iqSA i), (19, AVal.bool (decide (i < 200))), (20, AVal.tt true), (23, AVal.fsl nb 9 rows none), (24, iqSA i), (25, AVal.fptr 9 rows (Int.toNat i) 0), (26, AVal.agg (og rows i)), (27, AVal.ptr 2 9 0 0), (28, iqSA (AVal.toInt (gc rows i 0))), (29, AVal.bool (AVal.toInt (gc rows i 0) == 5)), (30, AVal.tt false), (31, AVal.ptr 2 9 0 0), (32, iqSA (AVal.toInt (gc rows i 0))), (33, AVal.bool (AVal.toInt (gc rows i 0) == 6)), (34, AVal.tt false), (35, AVal.ptr 0 2 0 0), (36, AVal.agg (og rows i)), (37, AVal.agg [iqSA e, iqSA a, AVal.fsl nl 2 qs none]), (38, AVal.ptr 2 9 0 0), (39, iqSA (AVal.toInt (gc rows i 0))), (40, AVal.bool (AVal.toInt (gc rows i 0) == 3)), (41, AVal.tt true), (42, AVal.ptr 2 9 0 1), (43, AVal.str (AVal.toStr (gc rows i 1))), (44, AVal.bool (ByteArray.toList (AVal.toStr (gc rows i 1)) == ByteArray.toList (ByteArray.mk #[119]))), (45, AVal.bool (ByteArray.toList (AVal.toStr (gc rows i 1)) == ByteArray.toList (ByteArray.mk #[119]))), (46, AVal.tt true), (47, AVal.ptr 2 9 0 2), (48, AVal.str (AVal.toStr (gc rows i 2))), (49, AVal.bool (ByteArray.toList (AVal.toStr (gc rows i 2)) == ByteArray.toList (ByteArray.mk #[99]))), (50, AVal.bool (ByteArray.toList (AVal.toStr (gc rows i 2)) == ByteArray.toList (ByteArray.mk #[99]))), (51, AVal.tt true), (52, AVal.ptr 3 3 0 0), (53, iqSA e), (54, AVal.bool (e == 0)), (55, AVal.tt true), (56, AVal.ptr 3 3 0 1), (57, iqSA a), (58, AVal.slc b 1 1 0 (List.length tx) none), (59, iqSA (↑(List.length tx) : Int)), (60, AVal.tt true)]) ([AObj.gh T2, AObj.rows true 1 tx, AObj.rows true 9 [(og rows i)], AObj.rows false 3 [[iqSA e, iqSA a, AVal.fsl nl 2 qs none]]]) ([]) (((a != (↑(List.length tx) : Int)) = true) :: (tr 2 ++ (((e == 0) = true) :: (tr 2 ++ (((ByteArray.toList (AVal.toStr (gc rows i 2)) == ByteArray.toList (ByteArray.mk #[99])) = true) :: (tr 3 ++ (((ByteArray.toList (AVal.toStr (gc rows i 1)) == ByteArray.toList (ByteArray.mk #[119])) = true) :: (tr 3 ++ (((AVal.toInt (gc rows i 0) == 3) = true) :: (tr 5 ++ ((Owed.use (owed Tryd.prog 0) 13 [0] [AVal.ptr 0 2 0 0, AVal.agg (og rows i)] [AObj.gh T, AObj.rows true 1 tx, AObj.rows true 9 [(og rows i)]] [AVal.ptr 0 2 0 0, AVal.agg (og rows i)] [AObj.gh T] (AVal.agg [iqSA e, iqSA a, AVal.fsl nl 2 qs none]) [AObj.gh T2]) :: (tr 3 ++ (((AVal.toInt (gc rows i 0) == 6) = false) :: (tr 3 ++ (((AVal.toInt (gc rows i 0) == 5) = false) :: (tr 5 ++ ((decide (Int.toNat i < List.length rows) = true) :: (tr 1 ++ ((areKinds kks (oc rows i) = true) :: ((decide (0 ≤ i ∧ i < (↑(List.length rows) : Int)) = true) :: ((decide (i < 200) = true) :: ((decide (i < (↑(List.length rows) : Int)) = true) :: []))))))))))))))))))))))) followed (by kernel_rfl) (allP_of ⟨h1, (trC 2 ⟨h2, (trC 2 ⟨h3, (trC 3 ⟨h4, (trC 3 ⟨h5, (trC 5 ⟨⟨h6, rfl, rfl, rfl⟩, (trC 3 ⟨h7, (trC 3 ⟨h8, (trC 5 ⟨h9, (trC 1 ⟨h10, ⟨h11, ⟨h12, ⟨h13, trivial⟩⟩⟩⟩)⟩)⟩)⟩)⟩)⟩)⟩)⟩)⟩)⟩) (keepM 116 [2]) ([]) (by kernel_rfl) (by kernel_rfl) (by kernel_rfl)

theorem stB_4 (nb : Bool) (rows : List (List AVal)) (tx : List (List AVal)) (b : Bool) (i : Int) (T : AState) (T2 : AState) (e : Int) (a : Int) (nl : Bool) (qs : List (List AVal))
    (h1 : decide ((List.length tx + 1) * 16 ≤ 140737488355328 ∧ List.length tx + 1 ≤ 9223372036854775807) = true)
    (h2 : decide (ByteArray.size (AVal.toStr (gc rows i 3) ++ ByteArray.mk #[47]) + ByteArray.size (AVal.toStr (gc rows i 4)) ≤ 9223372036854775807) = true)
    (h3 : decide (ByteArray.size (AVal.toStr (gc rows i 3)) + 1 ≤ 9223372036854775807) = true)
    (h4 : (a != (↑(List.length tx) : Int)) = false)
    (h5 : (e == 0) = true)
    (h6 : (ByteArray.toList (AVal.toStr (gc rows i 2)) == ByteArray.toList (ByteArray.mk #[99])) = true)
    (h7 : (ByteArray.toList (AVal.toStr (gc rows i 1)) == ByteArray.toList (ByteArray.mk #[119])) = true)
    (h8 : (AVal.toInt (gc rows i 0) == 3) = true)
    (h9 : FOk Tryd.prog 13 [AVal.ptr 0 2 0 0, AVal.agg (og rows i)] [AObj.gh T] (AVal.agg [iqSA e, iqSA a, AVal.fsl nl 2 qs none]) [AObj.gh T2])
    (h10 : (AVal.toInt (gc rows i 0) == 6) = false)
    (h11 : (AVal.toInt (gc rows i 0) == 5) = false)
    (h12 : decide (Int.toNat i < List.length rows) = true)
    (h13 : areKinds kks (oc rows i) = true)
    (h14 : decide (0 ≤ i ∧ i < (↑(List.length rows) : Int)) = true)
    (h15 : decide (i < 200) = true)
    (h16 : decide (i < (↑(List.length rows) : Int)) = true) :
    TripN Tryd.prog 0 (loopNo Tryd.f3 0) (rgS nb rows b (List.length tx) i) (HS T tx) (AExit.normal) (mkR 116 [(0, AVal.fsl nb 9 rows none), (3, AVal.ptr 0 2 0 0), (4, AVal.slc (b && false) 1 1 0 (List.length tx + 1) none), (5, iqSA (IntKind.wrap IntKind.i64 (i + 1)))]) ([AObj.gh T2, AObj.rows true 1 (tx ++ [[AVal.str (AVal.toStr (gc rows i 3) ++ ByteArray.mk #[47] ++ AVal.toStr (gc rows i 4))]])]) :=
  evalT (st := St.mk (rgS nb rows b (List.length tx) i) (HS T tx) ([Dec.br true, Dec.br true, Dec.br false, Dec.br false, Dec.use [0] [AVal.ptr 0 2 0 0, AVal.agg (og rows i)] [AObj.gh T] (rep e a (AVal.fsl nl 2 qs none)) [AObj.gh T2], Dec.br true, Dec.br true, Dec.br true, Dec.br true, Dec.br false]) []) (st' := St.mk (mkR 116 [(0, AVal.fsl nb 9 rows none), (3, AVal.ptr 0 2 0 0), (4, AVal.slc (b && false) 5 1 0 (List.length tx + 1) none), (5, iqSA (IntKind.wrap IntKind.i64 (i + 1))), (6, AVal.ptr 2 9 0 0), (7, AVal.ptr 3 3 0 0), (13, iqSA i), (14, AVal.fsl nb 9 rows none), (15, iqSA (↑(List.length rows) : Int)), (16, AVal.bool (decide (i < (↑(List.length rows) : Int)))), (17, AVal.tt true), (18, iqSA i), (19, AVal.bool (decide (i < 200))), (20, AVal.tt true), (21, iqSA i), (22, iqSA (IntKind.wrap IntKind.i64 (i + 1))), (23, AVal.fsl nb 9 rows none), (24, iqSA i), (25, AVal.fptr 9 rows (Int.toNat i) 0), (26, AVal.agg (og rows i)), (27, AVal.ptr 2 9 0 0), (28, iqSA (AVal.toInt (gc rows i 0))), (29, AVal.bool (AVal.toInt (gc rows i 0) == 5)), (30, AVal.tt false), (31, AVal.ptr 2 9 0 0), (32, iqSA (AVal.toInt (gc rows i 0))), (33, AVal.bool (AVal.toInt (gc rows i 0) == 6)), (34, AVal.tt false), (35, AVal.ptr 0 2 0 0), (36, AVal.agg (og rows i)), (37, AVal.agg [iqSA e, iqSA a, AVal.fsl nl 2 qs none]), (38, AVal.ptr 2 9 0 0), (39, iqSA (AVal.toInt (gc rows i 0))), (40, AVal.bool (AVal.toInt (gc rows i 0) == 3)), (41, AVal.tt true), (42, AVal.ptr 2 9 0 1), (43, AVal.str (AVal.toStr (gc rows i 1))), (44, AVal.bool (ByteArray.toList (AVal.toStr (gc rows i 1)) == ByteArray.toList (ByteArray.mk #[119]))), (45, AVal.bool (ByteArray.toList (AVal.toStr (gc rows i 1)) == ByteArray.toList (ByteArray.mk #[119]))), (46, AVal.tt true), (47, AVal.ptr 2 9 0 2), (48, AVal.str (AVal.toStr (gc rows i 2))), (49, AVal.bool (ByteArray.toList (AVal.toStr (gc rows i 2)) == ByteArray.toList (ByteArray.mk #[99]))), (50, AVal.bool (ByteArray.toList (AVal.toStr (gc rows i 2)) == ByteArray.toList (ByteArray.mk #[99]))), (51, AVal.tt true), (52, AVal.ptr 3 3 0 0), (53, iqSA e), (54, AVal.bool (e == 0)), (55, AVal.tt true), (56, AVal.ptr 3 3 0 1), (57, iqSA a), (58, AVal.slc b 1 1 0 (List.length tx) none), (59, iqSA (↑(List.length tx) : Int)), (60, AVal.tt false), (61, AVal.slc b 1 1 0 (List.length tx) none), (62, AVal.ptr 2 9 0 3), (63, AVal.str (AVal.toStr (gc rows i 3))), (64, AVal.str (AVal.toStr (gc rows i 3) ++ ByteArray.mk #[47])), (65, AVal.ptr 2 9 0 4), (66, AVal.str (AVal.toStr (gc rows i 4))), (67, AVal.str (AVal.toStr (gc rows i 3) ++ ByteArray.mk #[47] ++ AVal.toStr (gc rows i 4))), (68, AVal.slc false 4 1 0 1 (some 1)), (69, AVal.slc (b && false) 5 1 0 (List.length tx + 1) none)]) ([AObj.gh T2, AObj.dead, AObj.rows true 9 [(og rows i)], AObj.rows false 3 [[iqSA e, iqSA a, AVal.fsl nl 2 qs none]], AObj.rows true 1 [[AVal.str (AVal.toStr (gc rows i 3) ++ ByteArray.mk #[47] ++ AVal.toStr (gc rows i 4))]], AObj.rows true 1 (tx ++ [[AVal.str (AVal.toStr (gc rows i 3) ++ ByteArray.mk #[47] ++ AVal.toStr (gc rows i 4))]])]) ([]) ((decide (List.length tx = List.length tx) = true) :: ((decide ((List.length tx + 1) * 16 ≤ 140737488355328 ∧ List.length tx + 1 ≤ 9223372036854775807) = true) :: (tr 2 ++ ((decide (ByteArray.size (AVal.toStr (gc rows i 3) ++ ByteArray.mk #[47]) + ByteArray.size (AVal.toStr (gc rows i 4)) ≤ 9223372036854775807) = true) :: (tr 3 ++ ((decide (ByteArray.size (AVal.toStr (gc rows i 3)) + 1 ≤ 9223372036854775807) = true) :: (tr 3 ++ (((a != (↑(List.length tx) : Int)) = false) :: (tr 2 ++ (((e == 0) = true) :: (tr 2 ++ (((ByteArray.toList (AVal.toStr (gc rows i 2)) == ByteArray.toList (ByteArray.mk #[99])) = true) :: (tr 3 ++ (((ByteArray.toList (AVal.toStr (gc rows i 1)) == ByteArray.toList (ByteArray.mk #[119])) = true) :: (tr 3 ++ (((AVal.toInt (gc rows i 0) == 3) = true) :: (tr 5 ++ ((Owed.use (owed Tryd.prog 0) 13 [0] [AVal.ptr 0 2 0 0, AVal.agg (og rows i)] [AObj.gh T, AObj.rows true 1 tx, AObj.rows true 9 [(og rows i)]] [AVal.ptr 0 2 0 0, AVal.agg (og rows i)] [AObj.gh T] (AVal.agg [iqSA e, iqSA a, AVal.fsl nl 2 qs none]) [AObj.gh T2]) :: (tr 3 ++ (((AVal.toInt (gc rows i 0) == 6) = false) :: (tr 3 ++ (((AVal.toInt (gc rows i 0) == 5) = false) :: (tr 5 ++ ((decide (Int.toNat i < List.length rows) = true) :: (tr 1 ++ ((areKinds kks (oc rows i) = true) :: ((decide (0 ≤ i ∧ i < (↑(List.length rows) : Int)) = true) :: ((decide (i < 200) = true) :: ((decide (i < (↑(List.length rows) : Int)) = true) :: [])))))))))))))))))))))))))))))) followed (by kernel_rfl) (allP_of ⟨decide_eq_true rfl, ⟨h1, (trC 2 ⟨h2, (trC 3 ⟨h3, (trC 3 ⟨h4, (trC 2 ⟨h5, (trC 2 ⟨h6, (trC 3 ⟨h7, (trC 3 ⟨h8, (trC 5 ⟨⟨h9, rfl, rfl, rfl⟩, (trC 3 ⟨h10, (trC 3 ⟨h11, (trC 5 ⟨h12, (trC 1 ⟨h13, ⟨h14, ⟨h15, ⟨h16, trivial⟩⟩⟩⟩)⟩)⟩)⟩)⟩)⟩)⟩)⟩)⟩)⟩)⟩)⟩)⟩⟩) (keepM 116 [0, 3, 4, 5]) ([0, 5]) (by kernel_rfl) (by kernel_rfl) (by kernel_rfl)

theorem stB_5 (nb : Bool) (rows : List (List AVal)) (tx : List (List AVal)) (b : Bool) (i : Int) (T : AState) (T2 : AState) (e : Int) (a : Int) (nl : Bool) (qs : List (List AVal))
    (h1 : (e == 0) = false)
    (h2 : (ByteArray.toList (AVal.toStr (gc rows i 2)) == ByteArray.toList (ByteArray.mk #[99])) = true)
    (h3 : (ByteArray.toList (AVal.toStr (gc rows i 1)) == ByteArray.toList (ByteArray.mk #[119])) = true)
    (h4 : (AVal.toInt (gc rows i 0) == 3) = true)
    (h5 : FOk Tryd.prog 13 [AVal.ptr 0 2 0 0, AVal.agg (og rows i)] [AObj.gh T] (AVal.agg [iqSA e, iqSA a, AVal.fsl nl 2 qs none]) [AObj.gh T2])
    (h6 : (AVal.toInt (gc rows i 0) == 6) = false)
    (h7 : (AVal.toInt (gc rows i 0) == 5) = false)
    (h8 : decide (Int.toNat i < List.length rows) = true)
    (h9 : areKinds kks (oc rows i) = true)
    (h10 : decide (0 ≤ i ∧ i < (↑(List.length rows) : Int)) = true)
    (h11 : decide (i < 200) = true)
    (h12 : decide (i < (↑(List.length rows) : Int)) = true) :
    TripN Tryd.prog 0 (loopNo Tryd.f3 0) (rgS nb rows b (List.length tx) i) (HS T tx) (AExit.normal) (mkR 116 [(0, AVal.fsl nb 9 rows none), (3, AVal.ptr 0 2 0 0), (4, AVal.slc b 1 1 0 (List.length tx) none), (5, iqSA (IntKind.wrap IntKind.i64 (i + 1)))]) ([AObj.gh T2, AObj.rows true 1 tx]) :=
  evalT (st := St.mk (rgS nb rows b (List.length tx) i) (HS T tx) ([Dec.br true, Dec.br true, Dec.br false, Dec.br false, Dec.use [0] [AVal.ptr 0 2 0 0, AVal.agg (og rows i)] [AObj.gh T] (rep e a (AVal.fsl nl 2 qs none)) [AObj.gh T2], Dec.br true, Dec.br true, Dec.br true, Dec.br false]) []) (st' := St.mk (mkR 116 [(0, AVal.fsl nb 9 rows none), (3, AVal.ptr 0 2 0 0), (4, AVal.slc b 1 1 0 (List.length tx) none), (5, iqSA (IntKind.wrap IntKind.i64 (i + 1))), (6, AVal.ptr 2 9 0 0), (7, AVal.ptr 3 3 0 0), (13, iqSA i), (14, AVal.fsl nb 9 rows none), (15, iqSA (↑(List.length rows) : Int)), (16, AVal.bool (decide (i < (↑(List.length rows) : Int)))), (17, AVal.tt true), (18, iqSA i), (19, AVal.bool (decide (i < 200))), (20, AVal.tt true), (21, iqSA i), (22, iqSA (IntKind.wrap IntKind.i64 (i + 1))), (23, AVal.fsl nb 9 rows none), (24, iqSA i), (25, AVal.fptr 9 rows (Int.toNat i) 0), (26, AVal.agg (og rows i)), (27, AVal.ptr 2 9 0 0), (28, iqSA (AVal.toInt (gc rows i 0))), (29, AVal.bool (AVal.toInt (gc rows i 0) == 5)), (30, AVal.tt false), (31, AVal.ptr 2 9 0 0), (32, iqSA (AVal.toInt (gc rows i 0))), (33, AVal.bool (AVal.toInt (gc rows i 0) == 6)), (34, AVal.tt false), (35, AVal.ptr 0 2 0 0), (36, AVal.agg (og rows i)), (37, AVal.agg [iqSA e, iqSA a, AVal.fsl nl 2 qs none]), (38, AVal.ptr 2 9 0 0), (39, iqSA (AVal.toInt (gc rows i 0))), (40, AVal.bool (AVal.toInt (gc rows i 0) == 3)), (41, AVal.tt true), (42, AVal.ptr 2 9 0 1), (43, AVal.str (AVal.toStr (gc rows i 1))), (44, AVal.bool (ByteArray.toList (AVal.toStr (gc rows i 1)) == ByteArray.toList (ByteArray.mk #[119]))), (45, AVal.bool (ByteArray.toList (AVal.toStr (gc rows i 1)) == ByteArray.toList (ByteArray.mk #[119]))), (46, AVal.tt true), (47, AVal.ptr 2 9 0 2), (48, AVal.str (AVal.toStr (gc rows i 2))), (49, AVal.bool (ByteArray.toList (AVal.toStr (gc rows i 2)) == ByteArray.toList (ByteArray.mk #[99]))), (50, AVal.bool (ByteArray.toList (AVal.toStr (gc rows i 2)) == ByteArray.toList (ByteArray.mk #[99]))), (51, AVal.tt true), (52, AVal.ptr 3 3 0 0), (53, iqSA e), (54, AVal.bool (e == 0)), (55, AVal.tt false)]) ([AObj.gh T2, AObj.rows true 1 tx, AObj.rows true 9 [(og rows i)], AObj.rows false 3 [[iqSA e, iqSA a, AVal.fsl nl 2 qs none]]]) ([]) (((e == 0) = false) :: (tr 2 ++ (((ByteArray.toList (AVal.toStr (gc rows i 2)) == ByteArray.toList (ByteArray.mk #[99])) = true) :: (tr 3 ++ (((ByteArray.toList (AVal.toStr (gc rows i 1)) == ByteArray.toList (ByteArray.mk #[119])) = true) :: (tr 3 ++ (((AVal.toInt (gc rows i 0) == 3) = true) :: (tr 5 ++ ((Owed.use (owed Tryd.prog 0) 13 [0] [AVal.ptr 0 2 0 0, AVal.agg (og rows i)] [AObj.gh T, AObj.rows true 1 tx, AObj.rows true 9 [(og rows i)]] [AVal.ptr 0 2 0 0, AVal.agg (og rows i)] [AObj.gh T] (AVal.agg [iqSA e, iqSA a, AVal.fsl nl 2 qs none]) [AObj.gh T2]) :: (tr 3 ++ (((AVal.toInt (gc rows i 0) == 6) = false) :: (tr 3 ++ (((AVal.toInt (gc rows i 0) == 5) = false) :: (tr 5 ++ ((decide (Int.toNat i < List.length rows) = true) :: (tr 1 ++ ((areKinds kks (oc rows i) = true) :: ((decide (0 ≤ i ∧ i < (↑(List.length rows) : Int)) = true) :: ((decide (i < 200) = true) :: ((decide (i < (↑(List.length rows) : Int)) = true) :: []))))))))))))))))))))) followed (by kernel_rfl) (allP_of ⟨h1, (trC 2 ⟨h2, (trC 3 ⟨h3, (trC 3 ⟨h4, (trC 5 ⟨⟨h5, rfl, rfl, rfl⟩, (trC 3 ⟨h6, (trC 3 ⟨h7, (trC 5 ⟨h8, (trC 1 ⟨h9, ⟨h10, ⟨h11, ⟨h12, trivial⟩⟩⟩⟩)⟩)⟩)⟩)⟩)⟩)⟩)⟩)⟩) (keepM 116 [0, 3, 4, 5]) ([0, 1]) (by kernel_rfl) (by kernel_rfl) (by kernel_rfl)

theorem stB_6 (nb : Bool) (rows : List (List AVal)) (tx : List (List AVal)) (b : Bool) (i : Int) (T : AState) (T2 : AState) (e : Int) (a : Int) (nl : Bool) (qs : List (List AVal))
    (h1 : (ByteArray.toList (AVal.toStr (gc rows i 2)) == ByteArray.toList (ByteArray.mk #[99])) = false)
    (h2 : (ByteArray.toList (AVal.toStr (gc rows i 1)) == ByteArray.toList (ByteArray.mk #[119])) = true)
    (h3 : (AVal.toInt (gc rows i 0) == 3) = true)
    (h4 : FOk Tryd.prog 13 [AVal.ptr 0 2 0 0, AVal.agg (og rows i)] [AObj.gh T] (AVal.agg [iqSA e, iqSA a, AVal.fsl nl 2 qs none]) [AObj.gh T2])
    (h5 : (AVal.toInt (gc rows i 0) == 6) = false)
    (h6 : (AVal.toInt (gc rows i 0) == 5) = false)
    (h7 : decide (Int.toNat i < List.length rows) = true)
    (h8 : areKinds kks (oc rows i) = true)
    (h9 : decide (0 ≤ i ∧ i < (↑(List.length rows) : Int)) = true)
    (h10 : decide (i < 200) = true)
    (h11 : decide (i < (↑(List.length rows) : Int)) = true) :
    TripN Tryd.prog 0 (loopNo Tryd.f3 0) (rgS nb rows b (List.length tx) i) (HS T tx) (AExit.normal) (mkR 116 [(0, AVal.fsl nb 9 rows none), (3, AVal.ptr 0 2 0 0), (4, AVal.slc b 1 1 0 (List.length tx) none), (5, iqSA (IntKind.wrap IntKind.i64 (i + 1)))]) ([AObj.gh T2, AObj.rows true 1 tx]) :=
  evalT (st := St.mk (rgS nb rows b (List.length tx) i) (HS T tx) ([Dec.br true, Dec.br true, Dec.br false, Dec.br false, Dec.use [0] [AVal.ptr 0 2 0 0, AVal.agg (og rows i)] [AObj.gh T] (rep e a (AVal.fsl nl 2 qs none)) [AObj.gh T2], Dec.br true, Dec.br true, Dec.br false]) []) (st' := St.mk (mkR 116 [(0, AVal.fsl nb 9 rows none), (3, AVal.ptr 0 2 0 0), (4, AVal.slc b 1 1 0 (List.length tx) none), (5, iqSA (IntKind.wrap IntKind.i64 (i + 1))), (6, AVal.ptr 2 9 0 0), (7, AVal.ptr 3 3 0 0), (13, iqSA i), (14, AVal.fsl nb 9 rows none), (15, iqSA (↑(List.length rows) : Int)), (16, AVal.bool (decide (i < (↑(List.length rows) : Int)))), (17, AVal.tt true), (18, iqSA i), (19, AVal.bool (decide (i < 200))), (20, AVal.tt true), (21, iqSA i), (22, iqSA (IntKind.wrap IntKind.i64 (i + 1))), (23, AVal.fsl nb 9 rows none), (24, iqSA i), (25, AVal.fptr 9 rows (Int.toNat i) 0), (26, AVal.agg (og rows i)), (27, AVal.ptr 2 9 0 0), (28, iqSA (AVal.toInt (gc rows i 0))), (29, AVal.bool (AVal.toInt (gc rows i 0) == 5)), (30, AVal.tt false), (31, AVal.ptr 2 9 0 0), (32, iqSA (AVal.toInt (gc rows i 0))), (33, AVal.bool (AVal.toInt (gc rows i 0) == 6)), (34, AVal.tt false), (35, AVal.ptr 0 2 0 0), (36, AVal.agg (og rows i)), (37, AVal.agg [iqSA e, iqSA a, AVal.fsl nl 2 qs none]), (38, AVal.ptr 2 9 0 0), (39, iqSA (AVal.toInt (gc rows i 0))), (40, AVal.bool (AVal.toInt (gc rows i 0) == 3)), (41, AVal.tt true), (42, AVal.ptr 2 9 0 1), (43, AVal.str (AVal.toStr (gc rows i 1))), (44, AVal.bool (ByteArray.toList (AVal.toStr (gc rows i 1)) == ByteArray.toList (ByteArray.mk #[119]))), (45, AVal.bool (ByteArray.toList (AVal.toStr (gc rows i 1)) == ByteArray.toList (ByteArray.mk #[119]))), (46, AVal.tt true), (47, AVal.ptr 2 9 0 2), (48, AVal.str (AVal.toStr (gc rows i 2))), (49, AVal.bool (ByteArray.toList (AVal.toStr (gc rows i 2)) == ByteArray.toList (ByteArray.mk #[99]))), (50, AVal.bool (ByteArray.toList (AVal.toStr (gc rows i 2)) == ByteArray.toList (ByteArray.mk #[99]))), (51, AVal.tt false), (52, AVal.tuple []), (53, AVal.tuple []), (54, AVal.tuple []), (55, AVal.tt false)]) ([AObj.gh T2, AObj.rows true 1 tx, AObj.rows true 9 [(og rows i)], AObj.rows false 3 [[iqSA e, iqSA a, AVal.fsl nl 2 qs none]]]) ([]) (((ByteArray.toList (AVal.toStr (gc rows i 2)) == ByteArray.toList (ByteArray.mk #[99])) = false) :: (tr 3 ++ (((ByteArray.toList (AVal.toStr (gc rows i 1)) == ByteArray.toList (ByteArray.mk #[119])) = true) :: (tr 3 ++ (((AVal.toInt (gc rows i 0) == 3) = true) :: (tr 5 ++ ((Owed.use (owed Tryd.prog 0) 13 [0] [AVal.ptr 0 2 0 0, AVal.agg (og rows i)] [AObj.gh T, AObj.rows true 1 tx, AObj.rows true 9 [(og rows i)]] [AVal.ptr 0 2 0 0, AVal.agg (og rows i)] [AObj.gh T] (AVal.agg [iqSA e, iqSA a, AVal.fsl nl 2 qs none]) [AObj.gh T2]) :: (tr 3 ++ (((AVal.toInt (gc rows i 0) == 6) = false) :: (tr 3 ++ (((AVal.toInt (gc rows i 0) == 5) = false) :: (tr 5 ++ ((decide (Int.toNat i < List.length rows) = true) :: (tr 1 ++ ((areKinds kks (oc rows i) = true) :: ((decide (0 ≤ i ∧ i < (↑(List.length rows) : Int)) = true) :: ((decide (i < 200) = true) :: ((decide (i < (↑(List.length rows) : Int)) = true) :: []))))))))))))))))))) followed (by kernel_rfl) (allP_of ⟨h1, (trC 3 ⟨h2, (trC 3 ⟨h3, (trC 5 ⟨⟨h4, rfl, rfl, rfl⟩, (trC 3 ⟨h5, (trC 3 ⟨h6, (trC 5 ⟨h7, (trC 1 ⟨h8, ⟨h9, ⟨h10, ⟨h11, trivial⟩⟩⟩⟩)⟩)⟩)⟩)⟩)⟩)⟩)⟩) (keepM 116 [0, 3, 4, 5]) ([0, 1]) (by kernel_rfl) (by kernel_rfl) (by kernel_rfl)

theorem stB_7 (nb : Bool) (rows : List (List AVal)) (tx : List (List AVal)) (b : Bool) (i : Int) (T : AState) (T2 : AState) (e : Int) (a : Int) (nl : Bool) (qs : List (List AVal))
    (h1 : (ByteArray.toList (AVal.toStr (gc rows i 1)) == ByteArray.toList (ByteArray.mk #[119])) = false)
    (h2 : (AVal.toInt (gc rows i 0) == 3) = true)
    (h3 : FOk Tryd.prog 13 [AVal.ptr 0 2 0 0, AVal.agg (og rows i)] [AObj.gh T] (AVal.agg [iqSA e, iqSA a, AVal.fsl nl 2 qs none]) [AObj.gh T2])
    (h4 : (AVal.toInt (gc rows i 0) == 6) = false)
    (h5 : (AVal.toInt (gc rows i 0) == 5) = false)
    (h6 : decide (Int.toNat i < List.length rows) = true)
    (h7 : areKinds kks (oc rows i) = true)
    (h8 : decide (0 ≤ i ∧ i < (↑(List.length rows) : Int)) = true)
    (h9 : decide (i < 200) = true)
    (h10 : decide (i < (↑(List.length rows) : Int)) = true) :
    TripN Tryd.prog 0 (loopNo Tryd.f3 0) (rgS nb rows b (List.length tx) i) (HS T tx) (AExit.normal) (mkR 116 [(0, AVal.fsl nb 9 rows none), (3, AVal.ptr 0 2 0 0), (4, AVal.slc b 1 1 0 (List.length tx) none), (5, iqSA (IntKind.wrap IntKind.i64 (i + 1)))]) ([AObj.gh T2, AObj.rows true 1 tx]) :=
  evalT (st := St.mk (rgS nb rows b (List.length tx) i) (HS T tx) ([Dec.br true, Dec.br true, Dec.br false, Dec.br false, Dec.use [0] [AVal.ptr 0 2 0 0, AVal.agg (og rows i)] [AObj.gh T] (rep e a (AVal.fsl nl 2 qs none)) [AObj.gh T2], Dec.br true, Dec.br false]) []) (st' := St.mk (mkR 116 [(0, AVal.fsl nb 9 rows none), (3, AVal.ptr 0 2 0 0), (4, AVal.slc b 1 1 0 (List.length tx) none), (5, iqSA (IntKind.wrap IntKind.i64 (i + 1))), (6, AVal.ptr 2 9 0 0), (7, AVal.ptr 3 3 0 0), (13, iqSA i), (14, AVal.fsl nb 9 rows none), (15, iqSA (↑(List.length rows) : Int)), (16, AVal.bool (decide (i < (↑(List.length rows) : Int)))), (17, AVal.tt true), (18, iqSA i), (19, AVal.bool (decide (i < 200))), (20, AVal.tt true), (21, iqSA i), (22, iqSA (IntKind.wrap IntKind.i64 (i + 1))), (23, AVal.fsl nb 9 rows none), (24, iqSA i), (25, AVal.fptr 9 rows (Int.toNat i) 0), (26, AVal.agg (og rows i)), (27, AVal.ptr 2 9 0 0), (28, iqSA (AVal.toInt (gc rows i 0))), (29, AVal.bool (AVal.toInt (gc rows i 0) == 5)), (30, AVal.tt false), (31, AVal.ptr 2 9 0 0), (32, iqSA (AVal.toInt (gc rows i 0))), (33, AVal.bool (AVal.toInt (gc rows i 0) == 6)), (34, AVal.tt false), (35, AVal.ptr 0 2 0 0), (36, AVal.agg (og rows i)), (37, AVal.agg [iqSA e, iqSA a, AVal.fsl nl 2 qs none]), (38, AVal.ptr 2 9 0 0), (39, iqSA (AVal.toInt (gc rows i 0))), (40, AVal.bool (AVal.toInt (gc rows i 0) == 3)), (41, AVal.tt true), (42, AVal.ptr 2 9 0 1), (43, AVal.str (AVal.toStr (gc rows i 1))), (44, AVal.bool (ByteArray.toList (AVal.toStr (gc rows i 1)) == ByteArray.toList (ByteArray.mk #[119]))), (45, AVal.bool (ByteArray.toList (AVal.toStr (gc rows i 1)) == ByteArray.toList (ByteArray.mk #[119]))), (46, AVal.tt false), (47, AVal.tuple []), (48, AVal.tuple []), (49, AVal.tuple []), (50, AVal.tt false), (51, AVal.tt false), (52, AVal.tuple []), (53, AVal.tuple []), (54, AVal.tuple []), (55, AVal.tt false)]) ([AObj.gh T2, AObj.rows true 1 tx, AObj.rows true 9 [(og rows i)], AObj.rows false 3 [[iqSA e, iqSA a, AVal.fsl nl 2 qs none]]]) ([]) (((ByteArray.toList (AVal.toStr (gc rows i 1)) == ByteArray.toList (ByteArray.mk #[119])) = false) :: (tr 3 ++ (((AVal.toInt (gc rows i 0) == 3) = true) :: (tr 5 ++ ((Owed.use (owed Tryd.prog 0) 13 [0] [AVal.ptr 0 2 0 0, AVal.agg (og rows i)] [AObj.gh T, AObj.rows true 1 tx, AObj.rows true 9 [(og rows i)]] [AVal.ptr 0 2 0 0, AVal.agg (og rows i)] [AObj.gh T] (AVal.agg [iqSA e, iqSA a, AVal.fsl nl 2 qs none]) [AObj.gh T2]) :: (tr 3 ++ (((AVal.toInt (gc rows i 0) == 6) = false) :: (tr 3 ++ (((AVal.toInt (gc rows i 0) == 5) = false) :: (tr 5 ++ ((decide (Int.toNat i < List.length rows) = true) :: (tr 1 ++ ((areKinds kks (oc rows i) = true) :: ((decide (0 ≤ i ∧ i < (↑(List.length rows) : Int)) = true) :: ((decide (i < 200) = true) :: ((decide (i < (↑(List.length rows) : Int)) = true) :: []))))))))))))))))) followed (by kernel_rfl) (allP_of ⟨h1, (trC 3 ⟨h2, (trC 5 ⟨⟨h3, rfl, rfl, rfl⟩, (trC 3 ⟨h4, (trC 3 ⟨h5, (trC 5 ⟨h6, (trC 1 ⟨h7, ⟨h8, ⟨h9, ⟨h10, trivial⟩⟩⟩⟩)⟩)⟩)⟩)⟩)⟩)⟩) (keepM 116 [0, 3, 4, 5]) ([0, 1]) (by kernel_rfl) (by kernel_rfl) (by kernel_rfl)

theorem stB_8 (nb : Bool) (rows : List (List AVal)) (tx : List (List AVal)) (b : Bool) (i : Int) (T : AState) (T2 : AState) (e : Int) (a : Int) (nl : Bool) (qs : List (List AVal))
    (h1 : (AVal.toInt (gc rows i 0) == 3) = false)
    (h2 : FOk Tryd.prog 13 [AVal.ptr 0 2 0 0, AVal.agg (og rows i)] [AObj.gh T] (AVal.agg [iqSA e, iqSA a, AVal.fsl nl 2 qs none]) [AObj.gh T2])
    (h3 : (AVal.toInt (gc rows i 0) == 6) = false)
    (h4 : (AVal.toInt (gc rows i 0) == 5) = false)
    (h5 : decide (Int.toNat i < List.length rows) = true)
    (h6 : areKinds kks (oc rows i) = true)
    (h7 : decide (0 ≤ i ∧ i < (↑(List.length rows) : Int)) = true)
    (h8 : decide (i < 200) = true)
    (h9 : decide (i < (↑(List.length rows) : Int)) = true) :
    TripN Tryd.prog 0 (loopNo Tryd.f3 0) (rgS nb rows b (List.length tx) i) (HS T tx) (AExit.normal) (mkR 116 [(0, AVal.fsl nb 9 rows none), (3, AVal.ptr 0 2 0 0), (4, AVal.slc b 1 1 0 (List.length tx) none), (5, iqSA (IntKind.wrap IntKind.i64 (i + 1)))]) ([AObj.gh T2, AObj.rows true 1 tx]) :=
  evalT (st := St.mk (rgS nb rows b (List.length tx) i) (HS T tx) ([Dec.br true, Dec.br true, Dec.br false, Dec.br false, Dec.use [0] [AVal.ptr 0 2 0 0, AVal.agg (og rows i)] [AObj.gh T] (rep e a (AVal.fsl nl 2 qs none)) [AObj.gh T2], Dec.br false]) []) (st' := St.mk (mkR 116 [(0, AVal.fsl nb 9 rows none), (3, AVal.ptr 0 2 0 0), (4, AVal.slc b 1 1 0 (List.length tx) none), (5, iqSA (IntKind.wrap IntKind.i64 (i + 1))), (6, AVal.ptr 2 9 0 0), (7, AVal.ptr 3 3 0 0), (13, iqSA i), (14, AVal.fsl nb 9 rows none), (15, iqSA (↑(List.length rows) : Int)), (16, AVal.bool (decide (i < (↑(List.length rows) : Int)))), (17, AVal.tt true), (18, iqSA i), (19, AVal.bool (decide (i < 200))), (20, AVal.tt true), (21, iqSA i), (22, iqSA (IntKind.wrap IntKind.i64 (i + 1))), (23, AVal.fsl nb 9 rows none), (24, iqSA i), (25, AVal.fptr 9 rows (Int.toNat i) 0), (26, AVal.agg (og rows i)), (27, AVal.ptr 2 9 0 0), (28, iqSA (AVal.toInt (gc rows i 0))), (29, AVal.bool (AVal.toInt (gc rows i 0) == 5)), (30, AVal.tt false), (31, AVal.ptr 2 9 0 0), (32, iqSA (AVal.toInt (gc rows i 0))), (33, AVal.bool (AVal.toInt (gc rows i 0) == 6)), (34, AVal.tt false), (35, AVal.ptr 0 2 0 0), (36, AVal.agg (og rows i)), (37, AVal.agg [iqSA e, iqSA a, AVal.fsl nl 2 qs none]), (38, AVal.ptr 2 9 0 0), (39, iqSA (AVal.toInt (gc rows i 0))), (40, AVal.bool (AVal.toInt (gc rows i 0) == 3)), (41, AVal.tt false), (42, AVal.tuple []), (43, AVal.tuple []), (44, AVal.tuple []), (45, AVal.tt false), (46, AVal.tt false), (47, AVal.tuple []), (48, AVal.tuple []), (49, AVal.tuple []), (50, AVal.tt false), (51, AVal.tt false), (52, AVal.tuple []), (53, AVal.tuple []), (54, AVal.tuple []), (55, AVal.tt false)]) ([AObj.gh T2, AObj.rows true 1 tx, AObj.rows true 9 [(og rows i)], AObj.rows false 3 [[iqSA e, iqSA a, AVal.fsl nl 2 qs none]]]) ([]) (((AVal.toInt (gc rows i 0) == 3) = false) :: (tr 5 ++ ((Owed.use (owed Tryd.prog 0) 13 [0] [AVal.ptr 0 2 0 0, AVal.agg (og rows i)] [AObj.gh T, AObj.rows true 1 tx, AObj.rows true 9 [(og rows i)]] [AVal.ptr 0 2 0 0, AVal.agg (og rows i)] [AObj.gh T] (AVal.agg [iqSA e, iqSA a, AVal.fsl nl 2 qs none]) [AObj.gh T2]) :: (tr 3 ++ (((AVal.toInt (gc rows i 0) == 6) = false) :: (tr 3 ++ (((AVal.toInt (gc rows i 0) == 5) = false) :: (tr 5 ++ ((decide (Int.toNat i < List.length rows) = true) :: (tr 1 ++ ((areKinds kks (oc rows i) = true) :: ((decide (0 ≤ i ∧ i < (↑(List.length rows) : Int)) = true) :: ((decide (i < 200) = true) :: ((decide (i < (↑(List.length rows) : Int)) = true) :: []))))))))))))))) followed (by kernel_rfl) (allP_of ⟨h1, (trC 5 ⟨⟨h2, rfl, rfl, rfl⟩, (trC 3 ⟨h3, (trC 3 ⟨h4, (trC 5 ⟨h5, (trC 1 ⟨h6, ⟨h7, ⟨h8, ⟨h9, trivial⟩⟩⟩⟩)⟩)⟩)⟩)⟩)⟩) (keepM 116 [0, 3, 4, 5]) ([0, 1]) (by kernel_rfl) (by kernel_rfl) (by kernel_rfl)

theorem stB_9 (nb : Bool) (rows : List (List AVal)) (tx : List (List AVal)) (b : Bool) (i : Int) (T : AState) (T2 : AState) (e : Int) (a : Int) (nl : Bool) (qs : List (List AVal))
    (h1 : decide (i < 200) = false)
    (h2 : decide (i < (↑(List.length rows) : Int)) = true) :
    TripN Tryd.prog 0 (loopNo Tryd.f3 0) (rgS nb rows b (List.length tx) i) (HS T tx) (AExit.exit 0) (mkR 116 [(0, AVal.fsl nb 9 rows none), (3, AVal.ptr 0 2 0 0), (4, AVal.slc b 1 1 0 (List.length tx) none), (5, iqSA i)]) ([AObj.gh T, AObj.rows true 1 tx]) :=
  evalT (st := St.mk (rgS nb rows b (List.length tx) i) (HS T tx) ([Dec.br true, Dec.br false]) []) (st' := St.mk (mkR 116 [(0, AVal.fsl nb 9 rows none), (3, AVal.ptr 0 2 0 0), (4, AVal.slc b 1 1 0 (List.length tx) none), (5, iqSA i), (13, iqSA i), (14, AVal.fsl nb 9 rows none), (15, iqSA (↑(List.length rows) : Int)), (16, AVal.bool (decide (i < (↑(List.length rows) : Int)))), (17, AVal.tt true), (18, iqSA i), (19, AVal.bool (decide (i < 200))), (20, AVal.tt false)]) ([AObj.gh T, AObj.rows true 1 tx]) ([]) ((decide (i < 200) = false) :: ((decide (i < (↑(List.length rows) : Int)) = true) :: []))) followed (by kernel_rfl) (allP_of ⟨h1, ⟨h2, trivial⟩⟩) (keepM 116 [0, 3, 4, 5]) ([0, 1]) (by kernel_rfl) (by kernel_rfl) (by kernel_rfl)

theorem stB_10 (nb : Bool) (rows : List (List AVal)) (tx : List (List AVal)) (b : Bool) (i : Int) (T : AState) (T2 : AState) (e : Int) (a : Int) (nl : Bool) (qs : List (List AVal))
    (h1 : decide (i < (↑(List.length rows) : Int)) = false) :
    TripN Tryd.prog 0 (loopNo Tryd.f3 0) (rgS nb rows b (List.length tx) i) (HS T tx) (AExit.exit 0) (mkR 116 [(0, AVal.fsl nb 9 rows none), (3, AVal.ptr 0 2 0 0), (4, AVal.slc b 1 1 0 (List.length tx) none), (5, iqSA i)]) ([AObj.gh T, AObj.rows true 1 tx]) :=
  evalT (st := St.mk (rgS nb rows b (List.length tx) i) (HS T tx) ([Dec.br false]) []) (st' := St.mk (mkR 116 [(0, AVal.fsl nb 9 rows none), (3, AVal.ptr 0 2 0 0), (4, AVal.slc b 1 1 0 (List.length tx) none), (5, iqSA i), (13, iqSA i), (14, AVal.fsl nb 9 rows none), (15, iqSA (↑(List.length rows) : Int)), (16, AVal.bool (decide (i < (↑(List.length rows) : Int)))), (17, AVal.tt false), (18, AVal.tuple []), (19, AVal.tuple []), (20, AVal.tt false)]) ([AObj.gh T, AObj.rows true 1 tx]) ([]) ((decide (i < (↑(List.length rows) : Int)) = false) :: [])) followed (by kernel_rfl) (allP_of ⟨h1, trivial⟩) (keepM 116 [0, 3, 4, 5]) ([0, 1]) (by kernel_rfl) (by kernel_rfl) (by kernel_rfl)

def stB_T (nb : Bool) (rows : List (List AVal)) (tx : List (List AVal)) (b : Bool) (i : Int) (T : AState) (T2 : AState) (e : Int) (a : Int) (nl : Bool) (qs : List (List AVal)) (Q : AExit → Regs → AState → Prop) : Prop := ((decide (i < (↑(List.length rows) : Int)) = true) → ((decide (i < 200) = true) → (decide (0 ≤ i ∧ i < (↑(List.length rows) : Int)) = true) ∧ (areKinds [Kind.int IntKind.i64, Kind.str, Kind.str, Kind.str, Kind.str, Kind.str, Kind.str, Kind.int IntKind.i64, Kind.int IntKind.i64] [gc rows i 0, gc rows i 1, gc rows i 2, gc rows i 3, gc rows i 4, gc rows i 5, gc rows i 6, gc rows i 7, gc rows i 8] = true) ∧ (decide (Int.toNat i < List.length rows) = true) ∧ (((AVal.toInt (gc rows i 0) == 5) = true) → Q (AExit.normal) (mkR 116 [(0, AVal.fsl nb 9 rows none), (3, AVal.ptr 0 2 0 0), (4, AVal.slc b 1 1 0 (List.length tx) none), (5, AVal.int IntKind.i64 (IntKind.wrap IntKind.i64 (i + 1)))]) ([AObj.gh T, AObj.rows true 1 tx])) ∧ (((AVal.toInt (gc rows i 0) == 5) = false) → (((AVal.toInt (gc rows i 0) == 6) = true) → Q (AExit.normal) (mkR 116 [(0, AVal.fsl nb 9 rows none), (3, AVal.ptr 0 2 0 0), (4, AVal.slc b 1 1 0 (List.length tx) none), (5, AVal.int IntKind.i64 (IntKind.wrap IntKind.i64 (i + 1)))]) ([AObj.gh T, AObj.rows true 1 tx])) ∧ (((AVal.toInt (gc rows i 0) == 6) = false) → (FOk Tryd.prog 13 [AVal.ptr 0 2 0 0, AVal.agg [AVal.int IntKind.i64 (AVal.toInt (gc rows i 0)), AVal.str (AVal.toStr (gc rows i 1)), AVal.str (AVal.toStr (gc rows i 2)), AVal.str (AVal.toStr (gc rows i 3)), AVal.str (AVal.toStr (gc rows i 4)), AVal.str (AVal.toStr (gc rows i 5)), AVal.str (AVal.toStr (gc rows i 6)), AVal.int IntKind.i64 (AVal.toInt (gc rows i 7)), AVal.int IntKind.i64 (AVal.toInt (gc rows i 8))]] [AObj.gh T] (AVal.agg [AVal.int IntKind.i64 e, AVal.int IntKind.i64 a, AVal.fsl nl 2 qs none]) [AObj.gh T2]) ∧ (((AVal.toInt (gc rows i 0) == 3) = true) → (((ByteArray.toList (AVal.toStr (gc rows i 1)) == ByteArray.toList (ByteArray.mk #[119])) = true) → (((ByteArray.toList (AVal.toStr (gc rows i 2)) == ByteArray.toList (ByteArray.mk #[99])) = true) → (((e == 0) = true) → (((a != (↑(List.length tx) : Int)) = true) → Q (AExit.ret) (mkR 116 [(2, AVal.tt false)]) ([])) ∧ (((a != (↑(List.length tx) : Int)) = false) → (decide (ByteArray.size (AVal.toStr (gc rows i 3)) + 1 ≤ 9223372036854775807) = true) ∧ (decide (ByteArray.size (AVal.toStr (gc rows i 3) ++ ByteArray.mk #[47]) + ByteArray.size (AVal.toStr (gc rows i 4)) ≤ 9223372036854775807) = true) ∧ (decide ((List.length tx + 1) * 16 ≤ 140737488355328 ∧ List.length tx + 1 ≤ 9223372036854775807) = true) ∧ Q (AExit.normal) (mkR 116 [(0, AVal.fsl nb 9 rows none), (3, AVal.ptr 0 2 0 0), (4, AVal.slc (b && false) 1 1 0 (List.length tx + 1) none), (5, AVal.int IntKind.i64 (IntKind.wrap IntKind.i64 (i + 1)))]) ([AObj.gh T2, AObj.rows true 1 (tx ++ [[AVal.str (AVal.toStr (gc rows i 3) ++ ByteArray.mk #[47] ++ AVal.toStr (gc rows i 4))]])]))) ∧ (((e == 0) = false) → Q (AExit.normal) (mkR 116 [(0, AVal.fsl nb 9 rows none), (3, AVal.ptr 0 2 0 0), (4, AVal.slc b 1 1 0 (List.length tx) none), (5, AVal.int IntKind.i64 (IntKind.wrap IntKind.i64 (i + 1)))]) ([AObj.gh T2, AObj.rows true 1 tx]))) ∧ (((ByteArray.toList (AVal.toStr (gc rows i 2)) == ByteArray.toList (ByteArray.mk #[99])) = false) → Q (AExit.normal) (mkR 116 [(0, AVal.fsl nb 9 rows none), (3, AVal.ptr 0 2 0 0), (4, AVal.slc b 1 1 0 (List.length tx) none), (5, AVal.int IntKind.i64 (IntKind.wrap IntKind.i64 (i + 1)))]) ([AObj.gh T2, AObj.rows true 1 tx]))) ∧ (((ByteArray.toList (AVal.toStr (gc rows i 1)) == ByteArray.toList (ByteArray.mk #[119])) = false) → Q (AExit.normal) (mkR 116 [(0, AVal.fsl nb 9 rows none), (3, AVal.ptr 0 2 0 0), (4, AVal.slc b 1 1 0 (List.length tx) none), (5, AVal.int IntKind.i64 (IntKind.wrap IntKind.i64 (i + 1)))]) ([AObj.gh T2, AObj.rows true 1 tx]))) ∧ (((AVal.toInt (gc rows i 0) == 3) = false) → Q (AExit.normal) (mkR 116 [(0, AVal.fsl nb 9 rows none), (3, AVal.ptr 0 2 0 0), (4, AVal.slc b 1 1 0 (List.length tx) none), (5, AVal.int IntKind.i64 (IntKind.wrap IntKind.i64 (i + 1)))]) ([AObj.gh T2, AObj.rows true 1 tx]))))) ∧ ((decide (i < 200) = false) → Q (AExit.exit 0) (mkR 116 [(0, AVal.fsl nb 9 rows none), (3, AVal.ptr 0 2 0 0), (4, AVal.slc b 1 1 0 (List.length tx) none), (5, AVal.int IntKind.i64 i)]) ([AObj.gh T, AObj.rows true 1 tx]))) ∧ ((decide (i < (↑(List.length rows) : Int)) = false) → Q (AExit.exit 0) (mkR 116 [(0, AVal.fsl nb 9 rows none), (3, AVal.ptr 0 2 0 0), (4, AVal.slc b 1 1 0 (List.length tx) none), (5, AVal.int IntKind.i64 i)]) ([AObj.gh T, AObj.rows true 1 tx]))
theorem stB_wp (nb : Bool) (rows : List (List AVal)) (tx : List (List AVal)) (b : Bool) (i : Int) (T : AState) (T2 : AState) (e : Int) (a : Int) (nl : Bool) (qs : List (List AVal)) {Q : AExit → Regs → AState → Prop} (h : stB_T nb rows tx b i T T2 e a nl qs Q) : ∃ e rg' σ', TripN Tryd.prog 0 (loopNo Tryd.f3 0) (rgS nb rows b (List.length tx) i) (HS T tx) e rg' σ' ∧ Q e rg' σ' :=
  brE (fun (c0 : decide (i < (↑(List.length rows) : Int)) = true) => brE (fun (c1 : decide (i < 200) = true) => brE (fun (c2 : (AVal.toInt (gc rows i 0) == 5) = true) => ⟨_, _, _, stB_1 nb rows tx b i T T2 e a nl qs (c2) (((h.1 c0).1 c1).2.2.1) (((h.1 c0).1 c1).2.1) (((h.1 c0).1 c1).1) (c1) (c0), (((h.1 c0).1 c1).2.2.2.1 c2)⟩) (fun (c2 : (AVal.toInt (gc rows i 0) == 5) = false) => brE (fun (c3 : (AVal.toInt (gc rows i 0) == 6) = true) => ⟨_, _, _, stB_2 nb rows tx b i T T2 e a nl qs (c3) (c2) (((h.1 c0).1 c1).2.2.1) (((h.1 c0).1 c1).2.1) (((h.1 c0).1 c1).1) (c1) (c0), ((((h.1 c0).1 c1).2.2.2.2 c2).1 c3)⟩) (fun (c3 : (AVal.toInt (gc rows i 0) == 6) = false) => brE (fun (c4 : (AVal.toInt (gc rows i 0) == 3) = true) => brE (fun (c5 : (ByteArray.toList (AVal.toStr (gc rows i 1)) == ByteArray.toList (ByteArray.mk #[119])) = true) => brE (fun (c6 : (ByteArray.toList (AVal.toStr (gc rows i 2)) == ByteArray.toList (ByteArray.mk #[99])) = true) => brE (fun (c7 : (e == 0) = true) => brE (fun (c8 : (a != (↑(List.length tx) : Int)) = true) => ⟨_, _, _, stB_3 nb rows tx b i T T2 e a nl qs (c8) (c7) (c6) (c5) (c4) (((((h.1 c0).1 c1).2.2.2.2 c2).2 c3).1) (c3) (c2) (((h.1 c0).1 c1).2.2.1) (((h.1 c0).1 c1).2.1) (((h.1 c0).1 c1).1) (c1) (c0), (((((((((h.1 c0).1 c1).2.2.2.2 c2).2 c3).2.1 c4).1 c5).1 c6).1 c7).1 c8)⟩) (fun (c8 : (a != (↑(List.length tx) : Int)) = false) => ⟨_, _, _, stB_4 nb rows tx b i T T2 e a nl qs ((((((((((h.1 c0).1 c1).2.2.2.2 c2).2 c3).2.1 c4).1 c5).1 c6).1 c7).2 c8).2.2.1) ((((((((((h.1 c0).1 c1).2.2.2.2 c2).2 c3).2.1 c4).1 c5).1 c6).1 c7).2 c8).2.1) ((((((((((h.1 c0).1 c1).2.2.2.2 c2).2 c3).2.1 c4).1 c5).1 c6).1 c7).2 c8).1) (c8) (c7) (c6) (c5) (c4) (((((h.1 c0).1 c1).2.2.2.2 c2).2 c3).1) (c3) (c2) (((h.1 c0).1 c1).2.2.1) (((h.1 c0).1 c1).2.1) (((h.1 c0).1 c1).1) (c1) (c0), (((((((((h.1 c0).1 c1).2.2.2.2 c2).2 c3).2.1 c4).1 c5).1 c6).1 c7).2 c8).2.2.2⟩)) (fun (c7 : (e == 0) = false) => ⟨_, _, _, stB_5 nb rows tx b i T T2 e a nl qs (c7) (c6) (c5) (c4) (((((h.1 c0).1 c1).2.2.2.2 c2).2 c3).1) (c3) (c2) (((h.1 c0).1 c1).2.2.1) (((h.1 c0).1 c1).2.1) (((h.1 c0).1 c1).1) (c1) (c0), ((((((((h.1 c0).1 c1).2.2.2.2 c2).2 c3).2.1 c4).1 c5).1 c6).2 c7)⟩)) (fun (c6 : (ByteArray.toList (AVal.toStr (gc rows i 2)) == ByteArray.toList (ByteArray.mk #[99])) = false) => ⟨_, _, _, stB_6 nb rows tx b i T T2 e a nl qs (c6) (c5) (c4) (((((h.1 c0).1 c1).2.2.2.2 c2).2 c3).1) (c3) (c2) (((h.1 c0).1 c1).2.2.1) (((h.1 c0).1 c1).2.1) (((h.1 c0).1 c1).1) (c1) (c0), (((((((h.1 c0).1 c1).2.2.2.2 c2).2 c3).2.1 c4).1 c5).2 c6)⟩)) (fun (c5 : (ByteArray.toList (AVal.toStr (gc rows i 1)) == ByteArray.toList (ByteArray.mk #[119])) = false) => ⟨_, _, _, stB_7 nb rows tx b i T T2 e a nl qs (c5) (c4) (((((h.1 c0).1 c1).2.2.2.2 c2).2 c3).1) (c3) (c2) (((h.1 c0).1 c1).2.2.1) (((h.1 c0).1 c1).2.1) (((h.1 c0).1 c1).1) (c1) (c0), ((((((h.1 c0).1 c1).2.2.2.2 c2).2 c3).2.1 c4).2 c5)⟩)) (fun (c4 : (AVal.toInt (gc rows i 0) == 3) = false) => ⟨_, _, _, stB_8 nb rows tx b i T T2 e a nl qs (c4) (((((h.1 c0).1 c1).2.2.2.2 c2).2 c3).1) (c3) (c2) (((h.1 c0).1 c1).2.2.1) (((h.1 c0).1 c1).2.1) (((h.1 c0).1 c1).1) (c1) (c0), (((((h.1 c0).1 c1).2.2.2.2 c2).2 c3).2.2 c4)⟩)))) (fun (c1 : decide (i < 200) = false) => ⟨_, _, _, stB_9 nb rows tx b i T T2 e a nl qs (c1) (c0), ((h.1 c0).2 c1)⟩)) (fun (c0 : decide (i < (↑(List.length rows) : Int)) = false) => ⟨_, _, _, stB_10 nb rows tx b i T T2 e a nl qs (c0), (h.2 c0)⟩)


end Go.MN
end

section
set_option linter.unusedVariables false
set_option maxRecDepth 100000
namespace Go.MN
open Go Go.Abs Go.Proofs
abbrev HS' (T : AState) (tx : List (List AVal)) : AState := [.gh T, .rows true 1 tx]
abbrev rgR (b : Bool) (n : Nat) (i : Int) : Regs := mkR 116 [(3, .ptr 0 2 0 0), (4, .slc b 1 1 0 n none), (8, .int .i64 i)]
abbrev iqSC : Int → AVal := AVal.int IntKind.i64
abbrev bqSC : ByteArray := ByteArray.mk #[]
theorem rdB_1 (tx : List (List AVal)) (b : Bool) (i : Int) (a : Int) (T : AState) (T2 : AState) (u : ByteArray) (x : ByteArray)
    (h1 : (!ByteArray.toList (u ++ ByteArray.mk #[47] ++ x) == ByteArray.toList (AVal.toStr (List.getD (List.getD tx (Int.toNat i) []) 0 AVal.any))) = false)
    (h2 : decide (Int.toNat i < List.length tx) = true)
    (h3 : areKinds [Kind.str] [List.getD (List.getD tx (Int.toNat i) []) 0 AVal.any] = true)
    (h4 : decide (0 ≤ i ∧ i < (↑(List.length tx) : Int)) = true)
    (h5 : decide (ByteArray.size (u ++ ByteArray.mk #[47]) + ByteArray.size x ≤ 9223372036854775807) = true)
    (h6 : decide (ByteArray.size u + 1 ≤ 9223372036854775807) = true)
    (h7 : (a != IntKind.wrap IntKind.i64 (i + 1)) = false)
    (h8 : FOk Tryd.prog 13 [AVal.ptr 0 2 0 0, AVal.agg [iqSC 4, AVal.str (ByteArray.mk #[119]), AVal.str (ByteArray.mk #[99]), AVal.str bqSC, AVal.str bqSC, AVal.str bqSC, AVal.str bqSC, iqSC i, iqSC 1]] [AObj.gh T] (AVal.agg [iqSC 0, iqSC a, AVal.fsl false 2 [[AVal.str u, AVal.str x]] none]) [AObj.gh T2])
    (h9 : decide (i < (↑(List.length tx) : Int)) = true) :
    TripN Tryd.prog 0 (loopNo Tryd.f3 1) (rgR b (List.length tx) i) (HS' T tx) (AExit.normal) (mkR 116 [(3, AVal.ptr 0 2 0 0), (4, AVal.slc b 1 1 0 (List.length tx) none), (8, iqSC (IntKind.wrap IntKind.i64 (i + 1)))]) ([AObj.gh T2, AObj.rows true 1 tx]) :=
  evalT (st := St.mk (rgR b (List.length tx) i) (HS' T tx) ([Dec.br true, Dec.use [0] [AVal.ptr 0 2 0 0, AVal.agg [iqSC 4, AVal.str (ByteArray.mk #[119]), AVal.str (ByteArray.mk #[99]), AVal.str bqSC, AVal.str bqSC, AVal.str bqSC, AVal.str bqSC, iqSC i, iqSC 1]] [AObj.gh T] (rep 0 a (AVal.fsl false 2 [[AVal.str u, AVal.str x]] none)) [AObj.gh T2], Dec.br false, Dec.br false, Dec.br false, Dec.br false]) []) (st' := St.mk (mkR 116 [(3, AVal.ptr 0 2 0 0), (4, AVal.slc b 1 1 0 (List.length tx) none), (8, iqSC (IntKind.wrap IntKind.i64 (i + 1))), (9, AVal.ptr 2 3 0 0), (70, iqSC i), (71, AVal.slc b 1 1 0 (List.length tx) none), (72, iqSC (↑(List.length tx) : Int)), (73, AVal.tt true), (74, iqSC i), (75, iqSC (IntKind.wrap IntKind.i64 (i + 1))), (76, AVal.ptr 0 2 0 0), (77, iqSC i), (78, AVal.agg [iqSC 4, AVal.str (ByteArray.mk #[119]), AVal.str (ByteArray.mk #[99]), AVal.str bqSC, AVal.str bqSC, AVal.str bqSC, AVal.str bqSC, iqSC i, iqSC 1]), (79, AVal.agg [iqSC 0, iqSC a, AVal.fsl false 2 [[AVal.str u, AVal.str x]] none]), (80, AVal.ptr 2 3 0 0), (81, iqSC 0), (82, AVal.bool false), (83, AVal.tt false), (84, AVal.ptr 2 3 0 1), (85, iqSC a), (86, iqSC i), (87, iqSC (IntKind.wrap IntKind.i64 (i + 1))), (88, AVal.bool (a != IntKind.wrap IntKind.i64 (i + 1))), (89, AVal.bool (a != IntKind.wrap IntKind.i64 (i + 1))), (90, AVal.tt false), (91, AVal.ptr 2 3 0 2), (92, AVal.fsl false 2 [[AVal.str u, AVal.str x]] none), (93, iqSC 1), (94, AVal.bool false), (95, AVal.bool false), (96, AVal.tt false), (97, AVal.ptr 2 3 0 2), (98, AVal.fsl false 2 [[AVal.str u, AVal.str x]] none), (99, AVal.fptr 2 [[AVal.str u, AVal.str x]] 0 0), (100, AVal.fptr 2 [[AVal.str u, AVal.str x]] 0 0), (101, AVal.str u), (102, AVal.str (u ++ ByteArray.mk #[47])), (103, AVal.ptr 2 3 0 2), (104, AVal.fsl false 2 [[AVal.str u, AVal.str x]] none), (105, AVal.fptr 2 [[AVal.str u, AVal.str x]] 0 0), (106, AVal.fptr 2 [[AVal.str u, AVal.str x]] 0 1), (107, AVal.str x), (108, AVal.str (u ++ ByteArray.mk #[47] ++ x)), (109, AVal.slc b 1 1 0 (List.length tx) none), (110, iqSC i), (111, AVal.ptr 1 1 (Int.toNat i) 0), (112, AVal.str (AVal.toStr (List.getD (List.getD tx (Int.toNat i) []) 0 AVal.any))), (113, AVal.bool !ByteArray.toList (u ++ ByteArray.mk #[47] ++ x) == ByteArray.toList (AVal.toStr (List.getD (List.getD tx (Int.toNat i) []) 0 AVal.any))), (114, AVal.tt false)]) ([AObj.gh T2, AObj.rows true 1 tx, AObj.rows false 3 [[iqSC 0, iqSC a, AVal.fsl false 2 [[AVal.str u, AVal.str x]] none]]]) ([]) (((!ByteArray.toList (u ++ ByteArray.mk #[47] ++ x) == ByteArray.toList (AVal.toStr (List.getD (List.getD tx (Int.toNat i) []) 0 AVal.any))) = false) :: (tr 18 ++ ((decide (Int.toNat i < List.length tx) = true) :: (tr 1 ++ ((areKinds [Kind.str] [List.getD (List.getD tx (Int.toNat i) []) 0 AVal.any] = true) :: (tr 2 ++ ((decide (0 ≤ i ∧ i < (↑(List.length tx) : Int)) = true) :: (tr 6 ++ ((decide (ByteArray.size (u ++ ByteArray.mk #[47]) + ByteArray.size x ≤ 9223372036854775807) = true) :: (tr 24 ++ ((decide (ByteArray.size u + 1 ≤ 9223372036854775807) = true) :: (tr 16 ++ ((false = false) :: (tr 14 ++ (((a != IntKind.wrap IntKind.i64 (i + 1)) = false) :: (tr 16 ++ ((false = false) :: (tr 13 ++ ((Owed.use (owed Tryd.prog 0) 13 [0] [AVal.ptr 0 2 0 0, AVal.agg [iqSC 4, AVal.str (ByteArray.mk #[119]), AVal.str (ByteArray.mk #[99]), AVal.str bqSC, AVal.str bqSC, AVal.str bqSC, AVal.str bqSC, iqSC i, iqSC 1]] [AObj.gh T, AObj.rows true 1 tx] [AVal.ptr 0 2 0 0, AVal.agg [iqSC 4, AVal.str (ByteArray.mk #[119]), AVal.str (ByteArray.mk #[99]), AVal.str bqSC, AVal.str bqSC, AVal.str bqSC, AVal.str bqSC, iqSC i, iqSC 1]] [AObj.gh T] (AVal.agg [iqSC 0, iqSC a, AVal.fsl false 2 [[AVal.str u, AVal.str x]] none]) [AObj.gh T2]) :: ((decide (i < (↑(List.length tx) : Int)) = true) :: []))))))))))))))))))))) followed (by kernel_rfl) (allP_of ⟨h1, (trC 18 ⟨h2, (trC 1 ⟨h3, (trC 2 ⟨h4, (trC 6 ⟨h5, (trC 24 ⟨h6, (trC 16 ⟨rfl, (trC 14 ⟨h7, (trC 16 ⟨rfl, (trC 13 ⟨⟨h8, rfl, rfl, rfl⟩, ⟨h9, trivial⟩⟩)⟩)⟩)⟩)⟩)⟩)⟩)⟩)⟩)⟩) (keepM 116 [3, 4, 8]) ([0, 1]) (by kernel_rfl) (by kernel_rfl) (by kernel_rfl)

def rdB_T (tx : List (List AVal)) (b : Bool) (i : Int) (a : Int) (T : AState) (T2 : AState) (u : ByteArray) (x : ByteArray) (Q : AExit → Regs → AState → Prop) : Prop := (decide (i < (↑(List.length tx) : Int)) = true) ∧ (FOk Tryd.prog 13 [AVal.ptr 0 2 0 0, AVal.agg [AVal.int IntKind.i64 4, AVal.str (ByteArray.mk #[119]), AVal.str (ByteArray.mk #[99]), AVal.str (ByteArray.mk #[]), AVal.str (ByteArray.mk #[]), AVal.str (ByteArray.mk #[]), AVal.str (ByteArray.mk #[]), AVal.int IntKind.i64 i, AVal.int IntKind.i64 1]] [AObj.gh T] (AVal.agg [AVal.int IntKind.i64 0, AVal.int IntKind.i64 a, AVal.fsl false 2 [[AVal.str u, AVal.str x]] none]) [AObj.gh T2]) ∧ ((a != IntKind.wrap IntKind.i64 (i + 1)) = false) ∧ (decide (ByteArray.size u + 1 ≤ 9223372036854775807) = true) ∧ (decide (ByteArray.size (u ++ ByteArray.mk #[47]) + ByteArray.size x ≤ 9223372036854775807) = true) ∧ (decide (0 ≤ i ∧ i < (↑(List.length tx) : Int)) = true) ∧ (areKinds [Kind.str] [List.getD (List.getD tx (Int.toNat i) []) 0 AVal.any] = true) ∧ (decide (Int.toNat i < List.length tx) = true) ∧ ((!ByteArray.toList (u ++ ByteArray.mk #[47] ++ x) == ByteArray.toList (AVal.toStr (List.getD (List.getD tx (Int.toNat i) []) 0 AVal.any))) = false) ∧ Q (AExit.normal) (mkR 116 [(3, AVal.ptr 0 2 0 0), (4, AVal.slc b 1 1 0 (List.length tx) none), (8, AVal.int IntKind.i64 (IntKind.wrap IntKind.i64 (i + 1)))]) ([AObj.gh T2, AObj.rows true 1 tx])
theorem rdB_wp (tx : List (List AVal)) (b : Bool) (i : Int) (a : Int) (T : AState) (T2 : AState) (u : ByteArray) (x : ByteArray) {Q : AExit → Regs → AState → Prop} (h : rdB_T tx b i a T T2 u x Q) : ∃ e rg' σ', TripN Tryd.prog 0 (loopNo Tryd.f3 1) (rgR b (List.length tx) i) (HS' T tx) e rg' σ' ∧ Q e rg' σ' :=
  ⟨_, _, _, rdB_1 tx b i a T T2 u x (h.2.2.2.2.2.2.2.2.1) (h.2.2.2.2.2.2.2.1) (h.2.2.2.2.2.2.1) (h.2.2.2.2.2.1) (h.2.2.2.2.1) (h.2.2.2.1) (h.2.2.1) (h.2.1) (h.1), h.2.2.2.2.2.2.2.2.2⟩


theorem rdX_1 (tx : List (List AVal)) (b : Bool) (i : Int) (T : AState)
    (h1 : decide (i < (↑(List.length tx) : Int)) = false) :
    TripN Tryd.prog 0 (loopNo Tryd.f3 1) (rgR b (List.length tx) i) (HS' T tx) (AExit.exit 2) (mkR 116 [(3, AVal.ptr 0 2 0 0), (4, AVal.slc b 1 1 0 (List.length tx) none), (8, iqSC i)]) ([AObj.gh T, AObj.rows true 1 tx]) :=
  evalT (st := St.mk (rgR b (List.length tx) i) (HS' T tx) ([Dec.br false]) []) (st' := St.mk (mkR 116 [(3, AVal.ptr 0 2 0 0), (4, AVal.slc b 1 1 0 (List.length tx) none), (8, iqSC i), (70, iqSC i), (71, AVal.slc b 1 1 0 (List.length tx) none), (72, iqSC (↑(List.length tx) : Int)), (73, AVal.tt false)]) ([AObj.gh T, AObj.rows true 1 tx]) ([]) ((decide (i < (↑(List.length tx) : Int)) = false) :: [])) followed (by kernel_rfl) (allP_of ⟨h1, trivial⟩) (keepM 116 [3, 4, 8]) ([0, 1]) (by kernel_rfl) (by kernel_rfl) (by kernel_rfl)

def rdX_T (tx : List (List AVal)) (b : Bool) (i : Int) (T : AState) (Q : AExit → Regs → AState → Prop) : Prop := (decide (i < (↑(List.length tx) : Int)) = false) ∧ Q (AExit.exit 2) (mkR 116 [(3, AVal.ptr 0 2 0 0), (4, AVal.slc b 1 1 0 (List.length tx) none), (8, AVal.int IntKind.i64 i)]) ([AObj.gh T, AObj.rows true 1 tx])
theorem rdX_wp (tx : List (List AVal)) (b : Bool) (i : Int) (T : AState) {Q : AExit → Regs → AState → Prop} (h : rdX_T tx b i T Q) : ∃ e rg' σ', TripN Tryd.prog 0 (loopNo Tryd.f3 1) (rgR b (List.length tx) i) (HS' T tx) e rg' σ' ∧ Q e rg' σ' :=
  ⟨_, _, _, rdX_1 tx b i T (h.1), h.2⟩


theorem sy_1 (nb : Bool) (rows : List (List AVal)) (tx : List (List AVal)) (b : Bool) (T0 : AState) (T2 : AState) (T3 : AState) (j : Int) (n : Int)
    (h1 : FOk Tryd.prog 14 [] [] (AVal.bool true) [])
    (h2 : TripN Tryd.prog 0 (Code.loop (loopNo Tryd.f3 1)) (mkR 116 [(3, AVal.ptr 0 2 0 0), (4, AVal.slc b 1 1 0 (List.length tx) none), (8, iqSC 0)]) [AObj.gh T2, AObj.rows true 1 tx] (AExit.exit 2) (mkR 116 [(3, AVal.ptr 0 2 0 0), (4, AVal.slc b 1 1 0 (List.length tx) none), (8, iqSC n)]) [AObj.gh T3, AObj.rows true 1 tx])
    (h3 : TripN Tryd.prog 0 (Code.loop (loopNo Tryd.f3 0)) (mkR 116 [(0, AVal.fsl nb 9 rows none), (3, AVal.ptr 0 2 0 0), (4, AVal.slc true 1 1 0 0 none), (5, iqSC 0)]) [AObj.gh T0, AObj.rows true 1 []] (AExit.exit 0) (mkR 116 [(0, AVal.fsl nb 9 rows none), (3, AVal.ptr 0 2 0 0), (4, AVal.slc b 1 1 0 (List.length tx) none), (5, iqSC j)]) [AObj.gh T2, AObj.rows true 1 tx])
    (h4 : FOk Tryd.prog 12 [] [] (AVal.ptr 0 2 0 0) [AObj.gh T0]) :
    FOk Tryd.prog 3 ([AVal.fsl nb 9 rows none]) ([]) (AVal.bool true) ([]) :=
  (evalF_ok followed Tryd.func3 (by kernel_rfl) (show evalF Tryd.prog Tryd.f3 ([AVal.fsl nb 9 rows none]) ([]) ([Dec.use [] [] [] (AVal.ptr 0 2 0 0) [AObj.gh T0], Dec.br false, Dec.place 4 1 true, Dec.compact (keepM 116 [0, 3, 4, 5]) [0, 1], Dec.loop (AExit.exit 0) (mkR 116 [(0, AVal.fsl nb 9 rows none), (3, AVal.ptr 0 2 0 0), (4, AVal.slc b 1 1 0 (List.length tx) none), (5, iqSC j)]) (HS' T2 tx), Dec.compact (keepM 116 [3, 4, 8]) [0, 1], Dec.loop (AExit.exit 2) (rgR b (List.length tx) n) (HS' T3 tx), Dec.use [] [] [] (AVal.bool true) []]) = .ok (FRes.mk (AVal.bool true) ([AObj.gh T3, AObj.rows true 1 tx]) ((Owed.use (owed Tryd.prog 0) 14 [] [] [AObj.gh T3, AObj.rows true 1 tx] [] [] (AVal.bool true) []) :: ((Owed.loop (owed Tryd.prog 0) (loopNo Tryd.f3 1) (mkR 116 [(3, AVal.ptr 0 2 0 0), (4, AVal.slc b 1 1 0 (List.length tx) none), (8, iqSC 0)]) [AObj.gh T2, AObj.rows true 1 tx] (AExit.exit 2) (mkR 116 [(3, AVal.ptr 0 2 0 0), (4, AVal.slc b 1 1 0 (List.length tx) none), (8, iqSC n)]) [AObj.gh T3, AObj.rows true 1 tx]) :: ((Owed.loop (owed Tryd.prog 0) (loopNo Tryd.f3 0) (mkR 116 [(0, AVal.fsl nb 9 rows none), (3, AVal.ptr 0 2 0 0), (4, AVal.slc true 1 1 0 0 none), (5, iqSC 0)]) [AObj.gh T0, AObj.rows true 1 []] (AExit.exit 0) (mkR 116 [(0, AVal.fsl nb 9 rows none), (3, AVal.ptr 0 2 0 0), (4, AVal.slc b 1 1 0 (List.length tx) none), (5, iqSC j)]) [AObj.gh T2, AObj.rows true 1 tx]) :: ((false = false) :: ((Owed.use (owed Tryd.prog 0) 12 [] [] [] [] [] (AVal.ptr 0 2 0 0) [AObj.gh T0]) :: [])))))) by kernel_rfl) (allP_of ⟨⟨h1, rfl, rfl, rfl⟩, ⟨h2, ⟨h3, ⟨rfl, ⟨⟨h4, rfl, rfl, rfl⟩, trivial⟩⟩⟩⟩⟩)).move ([]) (by kernel_rfl) (by kernel_rfl) (by kernel_rfl)

def sy_T (nb : Bool) (rows : List (List AVal)) (tx : List (List AVal)) (b : Bool) (T0 : AState) (T2 : AState) (T3 : AState) (j : Int) (n : Int) (Q : AVal → AState → Prop) : Prop := (FOk Tryd.prog 12 [] [] (AVal.ptr 0 2 0 0) [AObj.gh T0]) ∧ (TripN Tryd.prog 0 (Code.loop (loopNo Tryd.f3 0)) (mkR 116 [(0, AVal.fsl nb 9 rows none), (3, AVal.ptr 0 2 0 0), (4, AVal.slc true 1 1 0 0 none), (5, AVal.int IntKind.i64 0)]) [AObj.gh T0, AObj.rows true 1 []] (AExit.exit 0) (mkR 116 [(0, AVal.fsl nb 9 rows none), (3, AVal.ptr 0 2 0 0), (4, AVal.slc b 1 1 0 (List.length tx) none), (5, AVal.int IntKind.i64 j)]) [AObj.gh T2, AObj.rows true 1 tx]) ∧ (TripN Tryd.prog 0 (Code.loop (loopNo Tryd.f3 1)) (mkR 116 [(3, AVal.ptr 0 2 0 0), (4, AVal.slc b 1 1 0 (List.length tx) none), (8, AVal.int IntKind.i64 0)]) [AObj.gh T2, AObj.rows true 1 tx] (AExit.exit 2) (mkR 116 [(3, AVal.ptr 0 2 0 0), (4, AVal.slc b 1 1 0 (List.length tx) none), (8, AVal.int IntKind.i64 n)]) [AObj.gh T3, AObj.rows true 1 tx]) ∧ (FOk Tryd.prog 14 [] [] (AVal.bool true) []) ∧ Q (AVal.bool true) ([])
theorem sy_wp (nb : Bool) (rows : List (List AVal)) (tx : List (List AVal)) (b : Bool) (T0 : AState) (T2 : AState) (T3 : AState) (j : Int) (n : Int) {Q : AVal → AState → Prop} (h : sy_T nb rows tx b T0 T2 T3 j n Q) : ∃ r σ', FOk Tryd.prog 3 ([AVal.fsl nb 9 rows none]) ([]) r σ' ∧ Q r σ' :=
  ⟨_, _, sy_1 nb rows tx b T0 T2 T3 j n (h.2.2.2.1) (h.2.2.1) (h.2.1) (h.1), h.2.2.2.2⟩


end Go.MN
end

section
set_option linter.unusedVariables false
set_option linter.unusedSimpArgs false
set_option linter.unusedSectionVars false
set_option maxRecDepth 100000
namespace Go.MN
open Go Go.Abs Go.Proofs
theorem size0 {x : ByteArray} (h : x.size = 0) : x = w0 := by
  obtain ⟨d⟩ := x
  have : d = #[] := Array.eq_empty_of_size_eq_zero h
  subst this; rfl
theorem lab_ne {s : ByteArray} (h : labB s = true) : s ≠ w0 := fun e => by
  subst e
  unfold labB at h
  simp at h
  exact absurd h.1 (by decide)
theorem mo_find (s c : ByteArray) : ∀ m : List Mo, noMo s c m ∨ ∃ m1 k m2, m = m1 ++ [k] ++ m2 ∧ k.s = s ∧ k.c = c ∧ noMo s c m1
  | [] => .inl fun k hk => by cases hk
  | k :: m => by
    by_cases h : k.s = s ∧ k.c = c
    · exact .inr ⟨[], k, m, rfl, h.1, h.2, fun k hk => by cases hk⟩
    · rcases mo_find s c m with h2 | ⟨m1, k', m2, rfl, h3, h4, h5⟩
      · exact .inl fun x hx => by
          rcases List.mem_cons.1 hx with rfl | hx
          · exact h
          · exact h2 x hx
      · exact .inr ⟨k :: m1, k', m2, rfl, h3, h4, fun x hx => by
          rcases List.mem_cons.1 hx with rfl | hx
          · exact h
          · exact h5 x hx⟩
def psOf : List Mo → List (List AVal)
  | [] => []
  | k :: m => if k.s = tw ∧ k.c = tc then k.ps else psOf m
theorem psOf_no : ∀ {m1 m2 : List Mo}, noMo tw tc m1 → psOf (m1 ++ m2) = psOf m2
  | [], _, _ => rfl
  | k :: m1, m2, h => by
    show (if k.s = tw ∧ k.c = tc then k.ps else psOf (m1 ++ m2)) = _
    rw [if_neg (h k (by simp)), psOf_no fun x hx => h x (by simp [hx])]
theorem psOf_mid : ∀ (m1 : List Mo) {m2 : List Mo} {k k' : Mo}, k'.s = k.s → k'.c = k.c → (k'.ps = k.ps ∨ ¬ (k.s = tw ∧ k.c = tc)) → psOf (m1 ++ [k'] ++ m2) = psOf (m1 ++ [k] ++ m2)
  | [], m2, k, k', h1, h2, h3 => by
    show (if k'.s = tw ∧ k'.c = tc then k'.ps else psOf m2) = if k.s = tw ∧ k.c = tc then k.ps else psOf m2
    rw [h1, h2]
    split
    · rename_i h
      rcases h3 with h3 | h3
      · exact h3
      · exact absurd h h3
    · rfl
  | x :: m1, m2, k, k', h1, h2, h3 => by
    show (if x.s = tw ∧ x.c = tc then x.ps else psOf (m1 ++ [k'] ++ m2)) = if x.s = tw ∧ x.c = tc then x.ps else psOf (m1 ++ [k] ++ m2)
    rw [psOf_mid m1 h1 h2 h3]
theorem psOf_new (s c : ByteArray) : ∀ m : List Mo, psOf (m ++ [⟨s, c, [], []⟩]) = psOf m
  | [] => by
    show (if s = tw ∧ c = tc then [] else []) = []
    split <;> rfl
  | k :: m => by
    show (if k.s = tw ∧ k.c = tc then k.ps else psOf (m ++ [⟨s, c, [], []⟩])) = if k.s = tw ∧ k.c = tc then k.ps else psOf m
    rw [psOf_new s c m]
theorem psOf_off (u : ByteArray) : ∀ m : List Mo, psOf (m.map fun k => { k with us := k.us.erase u }) = psOf m
  | [] => rfl
  | k :: m => by
    show (if k.s = tw ∧ k.c = tc then k.ps else psOf (m.map fun k => { k with us := k.us.erase u })) = if k.s = tw ∧ k.c = tc then k.ps else psOf m
    rw [psOf_off u m]
structure Inv (m : List Mo) : Prop where
  ok : ∀ k ∈ m, MoOk k
  nw : noMo w0 w0 m
theorem Inv.put {m1 m2 : List Mo} {k k' : Mo} (h : Inv (m1 ++ [k] ++ m2)) (hs : k'.s = k.s) (hc : k'.c = k.c) (hk : MoOk k') : Inv (m1 ++ [k'] ++ m2) := by
  refine ⟨fun x hx => ?_, fun x hx => ?_⟩
  · simp only [List.mem_append, List.mem_singleton] at hx
    rcases hx with (hx | rfl) | hx
    · exact h.ok x (by simp [hx])
    · exact hk
    · exact h.ok x (by simp [hx])
  · simp only [List.mem_append, List.mem_singleton] at hx
    rcases hx with (hx | rfl) | hx
    · exact h.nw x (by simp [hx])
    · rw [hs, hc]; exact h.nw k (by simp)
    · exact h.nw x (by simp [hx])
def Goes (T : AState) (m : List Mo) (k : Int) (s c u x y z : ByteArray) (f n : Int) : Prop :=
  ∃ e a nl qs T' m' offs', MX T' m' offs' ∧ Inv m' ∧ FOk Tryd.prog 13 [.ptr 0 2 0 0, opw k s c u x y z f n] [.gh T] (rep e a (.fsl nl 2 qs none)) [.gh T'] ∧
    ((psOf m' = psOf m ∧ ¬ (k = 3 ∧ s = tw ∧ c = tc ∧ e = 0)) ∨ (k = 3 ∧ s = tw ∧ c = tc ∧ e = 0 ∧ a = (psOf m).length ∧ psOf m' = psOf m ++ [[.str u, .str x]] ∧ (psOf m).length < 1024 ∧ u.size ≤ 16 ∧ x.size ≤ 1024))
theorem goes {T : AState} {m m' : List Mo} {offs' : List ByteArray} {k : Int} {s c u x y z : ByteArray} {f n : Int} {e a : Int} {nl : Bool} {qs : List (List AVal)} (h : Done (opw k s c u x y z f n) T (rep e a (.fsl nl 2 qs none)) m' offs') (hi : Inv m') (hp : psOf m' = psOf m) (hk : ¬ (k = 3 ∧ s = tw ∧ c = tc ∧ e = 0)) : Goes T m k s c u x y z f n := by
  obtain ⟨T', h1, h2⟩ := h
  exact ⟨e, a, nl, qs, T', m', offs', h1, hi, h2, .inl ⟨hp, hk⟩⟩
theorem do_any {T : AState} {m : List Mo} {offs : List ByteArray} (h : MX T m offs) (hi : Inv m) (k : Int) (s c u x y z : ByteArray) (f n : Int) (hk5 : k ≠ 5) (hk6 : k ≠ 6) (hx : x.size ≤ 140737488355328) : Goes T m k s c u x y z f n := by
  have hbad : ∀ {b : Bool}, FOk Tryd.prog 21 [opv k s c u x y z f n] [] (.int .i64 (if b = true then 0 else 1)) [] → b = false → Goes T m k s c u x y z f n := fun {b} ck hb => by
    subst hb
    exact goes (doA h k s c u x y z f n ck) hi rfl (by rintro ⟨_, _, _, h⟩; cases h)
  rcases mayOp_cases k with rfl | rfl | rfl | rfl | rfl | rfl | rfl | h1
  · have ck := ck1_ok s c u x y z f n hx
    cases hm : may1 s c u x y z f n with
    | false => exact hbad ck hm
    | true =>
      rw [hm] at ck
      unfold may1 at hm
      simp only [Bool.and_eq_true, decide_eq_true_eq] at hm
      obtain ⟨⟨a1, a2, a3, a4, rfl, rfl⟩, a5, a6⟩ := hm
      obtain rfl := size0 a1; obtain rfl := size0 a2; obtain rfl := size0 a3; obtain rfl := size0 a4
      rcases mo_find s c m with hno | ⟨m1, k, m2, rfl, rfl, rfl, hno⟩
      · refine goes (doM h s c ck hno) ⟨fun k hk => ?_, fun k hk => ?_⟩ (psOf_new s c m) (by simp)
        · rcases List.mem_append.1 hk with hk | hk
          · exact hi.ok k hk
          · simp at hk; subst hk; exact ⟨List.nodup_nil, by simp, fun r hr => by cases hr⟩
        · rcases List.mem_append.1 hk with hk | hk
          · exact hi.nw k hk
          · simp at hk; subst hk; exact fun e => lab_ne a5 e.1
      · exact goes (doK h rfl rfl hno fun pre post b hk hn hb => doM6 pre post k.s k.c (gms offs) (gms k.us) b k.ps ck hk hn) hi rfl (by simp)
  · have ck := ck2_ok s c u x y z f n hx
    cases hm : may2 s c u x y z f n with
    | false => exact hbad ck hm
    | true =>
      rw [hm] at ck
      unfold may2 at hm
      simp only [Bool.and_eq_true, decide_eq_true_eq] at hm
      obtain ⟨⟨a1, a2, a3, rfl, rfl⟩, a5, a6⟩ := hm
      obtain rfl := size0 a1; obtain rfl := size0 a2; obtain rfl := size0 a3
      rcases mo_find s c m with hno | ⟨m1, k, m2, rfl, rfl, rfl, hno⟩
      · exact goes (doN h 2 s c u w0 w0 w0 0 0 ck hno (by decide) (by decide) (by decide)) hi rfl (by simp)
      · by_cases ho : u ∈ offs
        · exact goes (doK h rfl rfl hno fun pre post b hk hn hb => doS pre post 2 k.s k.c u w0 w0 w0 0 0 (gms offs) (gms k.us) b k.ps 92 0 true [] ck hk hn (by decide) (by decide) (by decide) (wJ_off pre post k.s k.c u offs k.us b k.ps ho)) hi rfl (by simp)
        by_cases hu : u ∈ k.us
        · exact goes (doK h rfl rfl hno fun pre post b hk hn hb => doS pre post 2 k.s k.c u w0 w0 w0 0 0 (gms offs) (gms k.us) b k.ps 90 0 true [] ck hk hn (by decide) (by decide) (by decide) (wJ_there pre post k.s k.c u offs k.us b k.ps ho hu)) hi rfl (by simp)
        · have hko := hi.ok k (by simp)
          refine goes (doU h rfl rfl hno fun pre post b hk hn hb => doJ pre post k.s k.c u offs k.us b k.ps ck hk hn ho hu) (hi.put rfl rfl ⟨?_, hko.len, hko.posts⟩) (psOf_mid m1 rfl rfl (.inl rfl)) (by simp)
          rw [List.nodup_append]
          exact ⟨hko.nd, by simp, fun a ha b hb => by simp at hb; subst hb; exact fun e => hu (e ▸ ha)⟩
  · have ck := ck3_ok s c u x y z f n hx
    cases hm : may3 s c u x y z f n with
    | false => exact hbad ck hm
    | true =>
      rw [hm] at ck
      unfold may3 at hm
      simp only [Bool.and_eq_true, decide_eq_true_eq] at hm
      obtain ⟨⟨a1, a2, rfl, rfl⟩, ⟨a5, a6⟩, a7, _⟩ := hm
      obtain rfl := size0 a1; obtain rfl := size0 a2
      have hus : u.size ≤ 16 := by
        unfold labB at a6
        simp only [Bool.and_eq_true, decide_eq_true_eq] at a6
        exact a6.2.1
      rcases mo_find s c m with hno | ⟨m1, k, m2, rfl, rfl, rfl, hno⟩
      · exact goes (doN h 3 s c u x w0 w0 0 0 ck hno (by decide) (by decide) (by decide)) hi rfl (by rintro ⟨_, _, _, h⟩; cases h)
      · have hko := hi.ok k (by simp)
        by_cases ho : u ∈ offs
        · exact goes (doK h rfl rfl hno fun pre post b hk hn hb => doS pre post 3 k.s k.c u x w0 w0 0 0 (gms offs) (gms k.us) b k.ps 92 0 true [] ck hk hn (by decide) (by decide) (by decide) (wP_off pre post k.s k.c u x offs k.us b k.ps ho)) hi rfl (by rintro ⟨_, _, _, h⟩; cases h)
        by_cases hu : u ∈ k.us
        · by_cases hf : 1024 ≤ k.ps.length
          · exact goes (doK h rfl rfl hno fun pre post b hk hn hb => doS pre post 3 k.s k.c u x w0 w0 0 0 (gms offs) (gms k.us) b k.ps 2 0 true [] ck hk hn (by decide) (by decide) (by decide) (wP_full pre post k.s k.c u x offs k.us b k.ps ho hu hf)) hi rfl (by rintro ⟨_, _, _, h⟩; cases h)
          · obtain ⟨T', h1, h2⟩ := doT h u x ck hno ho hu (by omega)
            have hiv := hi.put (k' := ⟨k.s, k.c, k.us, k.ps ++ [[.str u, .str x]]⟩) rfl rfl ⟨hko.nd, by simp; omega, fun r hr => by
              rcases List.mem_append.1 hr with hr | hr
              · exact hko.posts r hr
              · simp at hr; exact ⟨u, x, hr⟩⟩
            by_cases hw : k.s = tw ∧ k.c = tc
            · have e1 : psOf (m1 ++ [k] ++ m2) = k.ps := by
                rw [List.append_assoc, psOf_no (by rw [← hw.1, ← hw.2]; exact hno)]
                show (if k.s = tw ∧ k.c = tc then k.ps else _) = _
                rw [if_pos hw]
              have e2 : psOf (m1 ++ [⟨k.s, k.c, k.us, k.ps ++ [[.str u, .str x]]⟩] ++ m2) = k.ps ++ [[.str u, .str x]] := by
                rw [List.append_assoc, psOf_no (by rw [← hw.1, ← hw.2]; exact hno)]
                show (if k.s = tw ∧ k.c = tc then _ else _) = _
                rw [if_pos hw]
              exact ⟨0, k.ps.length, true, [], T', _, offs, h1, hiv, h2, .inr ⟨rfl, hw.1, hw.2, rfl, by rw [e1], by rw [e1, e2], by rw [e1]; omega, hus, a7⟩⟩
            · exact ⟨0, k.ps.length, true, [], T', _, offs, h1, hiv, h2, .inl ⟨psOf_mid m1 rfl rfl (.inr hw), fun h => hw ⟨h.2.1, h.2.2.1⟩⟩⟩
        · exact goes (doK h rfl rfl hno fun pre post b hk hn hb => doS pre post 3 k.s k.c u x w0 w0 0 0 (gms offs) (gms k.us) b k.ps 91 0 true [] ck hk hn (by decide) (by decide) (by decide) (wP_no pre post k.s k.c u x offs k.us b k.ps ho hu)) hi rfl (by rintro ⟨_, _, _, h⟩; cases h)
  · have ck := ck4_ok s c u x y z f n hx
    cases hm : may4 s c u x y z f n with
    | false => exact hbad ck hm
    | true =>
      rw [hm] at ck
      unfold may4 at hm
      simp only [Bool.and_eq_true, decide_eq_true_eq] at hm
      obtain ⟨⟨a1, a2, a3, a4⟩, a5, b1, b2, b3, b4⟩ := hm
      obtain rfl := size0 a1; obtain rfl := size0 a2; obtain rfl := size0 a3; obtain rfl := size0 a4
      rcases mo_find s c m with hno | ⟨m1, k, m2, rfl, rfl, rfl, hno⟩
      · exact goes (doN h 4 s c w0 w0 w0 w0 f n ck hno (by decide) (by decide) (by decide)) hi rfl (by simp)
      · have hko := hi.ok k (by simp)
        have hd : ∃ b0, (b0 = true → k.ps = []) ∧ Done (opw 4 k.s k.c w0 w0 w0 w0 f n) T (rdR b0 k.ps f n) (m1 ++ [k] ++ m2) offs := by
          obtain ⟨cs1, y, cs2, rfl, rfl, rfl, hM, hb⟩ := h.split
          refine ⟨y.b, hb y (by simp), ?_⟩
          obtain ⟨T', g1, g2⟩ := hM.step6 (f := 13) (rest := [opw 4 y.s y.c w0 w0 w0 w0 f n]) (v := rdR y.b y.ps f n) rfl rfl y cs1 cs2 (fun y hy => hy) offs [] 5 (.rows true 2 y.ps) rfl rfl (.inl ⟨rfl, rfl, rfl, rfl⟩) hM.nd fun β => doS (hideE β (entsOf cs1)) (hideE β (entsOf cs2)) 4 y.s y.c w0 w0 w0 w0 f n (gms offs) (gms y.us) y.b y.ps _ _ _ _ ck (by rw [← hide_app, show entsOf cs1 ++ entsOf cs2 = entsOf (cs1 ++ cs2) by simp [entsOf]]; exact hide_keys β _) (afind_none β _ _ cs1 (noMo_ch hno)) (by decide) (by decide) (by decide) (wR_ok _ _ y.s y.c f n (gms offs) (gms y.us) y.b y.ps (hb y (by simp)) hko.posts hko.len b1 b2 b3 b4)
          exact ⟨T', ⟨_, by simp, g1, hb⟩, g2⟩
        obtain ⟨b0, _, hd⟩ := hd
        exact goes hd hi rfl (by simp)
  · exact absurd rfl hk5
  · exact absurd rfl hk6
  · have ck := ck7_ok s c u x y z f n hx
    cases hm : may7 s c u x y z f n with
    | false => exact hbad ck hm
    | true =>
      rw [hm] at ck
      unfold may7 at hm
      simp only [Bool.and_eq_true, decide_eq_true_eq] at hm
      obtain ⟨⟨a1, a2, a3, a4, a5, rfl, rfl⟩, a6⟩ := hm
      obtain rfl := size0 a1; obtain rfl := size0 a2; obtain rfl := size0 a3; obtain rfl := size0 a4; obtain rfl := size0 a5
      by_cases ho : u ∈ offs
      · exact goes (doF h u ho hi.nw ck) hi rfl (by simp)
      · refine goes (doO h u ho hi.nw ck) ⟨fun k hk => ?_, fun k hk => ?_⟩ (psOf_off u m) (by simp)
        · obtain ⟨k0, hk0, rfl⟩ := List.mem_map.1 hk
          have := hi.ok k0 hk0
          exact ⟨this.nd.erase _, this.len, this.posts⟩
        · obtain ⟨k0, hk0, rfl⟩ := List.mem_map.1 hk
          exact hi.nw k0 hk0
  · exact goes (doA h k s c u x y z f n (ck0_ok k s c u x y z f n h1)) hi rfl (by rintro ⟨_, _, _, h⟩; cases h)
end Go.MN
end

section
set_option linter.unusedVariables false
set_option linter.unusedSimpArgs false
set_option linter.unusedSectionVars false
set_option maxRecDepth 100000
namespace Go.MN
open Go Go.Abs Go.Proofs
theorem do_read {T : AState} {m : List Mo} {offs : List ByteArray} (h : MX T m offs) (hi : Inv m) {i : Nat} {u x : ByteArray} (hp : (psOf m)[i]? = some [.str u, .str x]) (hil : i < 2147483647) :
    ∃ T', MX T' m offs ∧ FOk Tryd.prog 13 [.ptr 0 2 0 0, opw 4 tw tc w0 w0 w0 w0 (i : Int) 1] [.gh T] (rep 0 ((i : Int) + 1) (.fsl false 2 [[.str u, .str x]] none)) [.gh T'] := by
  rcases mo_find tw tc m with hno | ⟨m1, k, m2, rfl, hs, hc, hno⟩
  · have := psOf_no (m2 := []) hno
    rw [List.append_nil] at this
    rw [this] at hp
    cases hp
  · have hko := hi.ok k (by simp)
    have e1 : psOf (m1 ++ [k] ++ m2) = k.ps := by
      rw [List.append_assoc, psOf_no hno]
      show (if k.s = tw ∧ k.c = tc then k.ps else _) = _
      rw [if_pos ⟨hs, hc⟩]
    rw [e1] at hp
    have hlt := (List.getElem?_eq_some_iff.1 hp).1
    have ck := ck4_ok tw tc w0 w0 w0 w0 (i : Int) 1 (small w0)
    rw [show may4 tw tc w0 w0 w0 w0 (i : Int) 1 = true from by
      unfold may4
      rw [show labB tw = true from by decide +kernel, show labB tc = true from by decide +kernel]
      have e : w0.size = 0 := rfl
      rw [e, decide_eq_true (by omega : (0 : Int) ≤ (i : Int)), decide_eq_true (by omega : (i : Int) ≤ 2147483647)]
      rfl] at ck
    rw [← hs, ← hc] at ck hno
    obtain ⟨cs1, y, cs2, rfl, rfl, rfl, hM, hb⟩ := h.split
    have hyb : y.b = false := by
      cases hyb : y.b with
      | false => rfl
      | true => have := hb y (by simp) hyb; have hlt : i < y.ps.length := hlt; rw [this] at hlt; simp at hlt
    have hv : rdR y.b y.ps (i : Int) 1 = rep 0 ((i : Int) + 1) (.fsl false 2 [[.str u, .str x]] none) := by
      have hlt : i < y.ps.length := hlt
      have a1 : rdA y.ps (i : Int) = i := by unfold rdA; rw [Int.toNat_natCast]; omega
      have a2 : rdK y.ps (i : Int) 1 = 1 := by unfold rdK; rw [a1]; show min 1 _ = 1; omega
      unfold rdR
      rw [a1, a2, hyb]
      have : (y.ps.drop i).take 1 = [[.str u, .str x]] := by
        refine List.ext_getElem? fun j => ?_
        rw [List.getElem?_take]
        match j with
        | 0 => rw [if_pos (by omega), List.getElem?_drop]; exact hp
        | j + 1 => rw [if_neg (by omega)]; rfl
      rw [this]; rfl
    obtain ⟨T', g1, g2⟩ := hM.step6 (f := 13) (rest := [opw 4 y.s y.c w0 w0 w0 w0 (i : Int) 1]) (v := rdR y.b y.ps (i : Int) 1) rfl rfl y cs1 cs2 (fun y hy => hy) offs [] 5 (.rows true 2 y.ps) rfl rfl (.inl ⟨rfl, rfl, rfl, rfl⟩) hM.nd fun β => doS (hideE β (entsOf cs1)) (hideE β (entsOf cs2)) 4 y.s y.c w0 w0 w0 w0 (i : Int) 1 (gms offs) (gms y.us) y.b y.ps _ _ _ _ ck (by rw [← hide_app, show entsOf cs1 ++ entsOf cs2 = entsOf (cs1 ++ cs2) by simp [entsOf]]; exact hide_keys β _) (afind_none β _ _ cs1 (noMo_ch hno)) (by decide) (by decide) (by decide) (wR_ok _ _ y.s y.c (i : Int) 1 (gms offs) (gms y.us) y.b y.ps (hb y (by simp)) hko.posts hko.len (by omega) (by omega) (by omega) (by omega))
    rw [hv] at g2
    have hs : y.s = tw := hs
    have hc : y.c = tc := hc
    rw [hs, hc] at g2
    exact ⟨T', ⟨_, by simp, g1, hb⟩, g2⟩
structure Opx where
  k : Int
  s : ByteArray
  c : ByteArray
  u : ByteArray
  x : ByteArray
  y : ByteArray
  z : ByteArray
  f : Int
  n : Int
abbrev opr (o : Opx) : List AVal := [.int .i64 o.k, .str o.s, .str o.c, .str o.u, .str o.x, .str o.y, .str o.z, .int .i64 o.f, .int .i64 o.n]
abbrev oprs (os : List Opx) : List (List AVal) := os.map opr
theorem oprs_get (os : List Opx) {i : Nat} (h : i < os.length) : (oprs os).getD i [] = opr os[i] := by
  rw [List.getD_eq_getElem?_getD, List.getElem?_map, List.getElem?_eq_getElem h]; rfl
abbrev Pst := List (ByteArray × ByteArray)
abbrev pr (p : ByteArray × ByteArray) : List AVal := [.str p.1, .str p.2]
abbrev txt (p : ByteArray × ByteArray) : List AVal := [.str (p.1 ++ ByteArray.mk #[47] ++ p.2)]
theorem txeq (a b : ByteArray) : (a.toList == b.toList) = decide (a = b) := by
  rw [toList_lB, toList_lB]
  by_cases h : a = b
  · subst h; simp
  · rw [decide_eq_false h]
    have : lB a ≠ lB b := fun e => h (by
      have e : a.data.toList = b.data.toList := e
      obtain ⟨⟨a⟩⟩ := a; obtain ⟨⟨b⟩⟩ := b
      simp at e; subst e; rfl)
    simpa using this
structure LI (i : Nat) (T : AState) (m : List Mo) (offs : List ByteArray) (b : Bool) (p : Pst) : Prop where
  mx : MX T m offs
  inv : Inv m
  ps : psOf m = p.map pr
  len : p.length ≤ i
  sz : ∀ q ∈ p, q.1.size ≤ 16 ∧ q.2.size ≤ 1024
theorem sy_rounds (nb : Bool) (os : List Opx) (hsz : ∀ o ∈ os, o.x.size ≤ 140737488355328) : ∀ (d i : Nat) (T : AState) (m : List Mo) (offs : List ByteArray) (b : Bool) (p : Pst), i + d = min os.length 200 → LI i T m offs b p →
    ∃ T' m' offs' b' p', LI (min os.length 200) T' m' offs' b' p' ∧ LoopRun Tryd.prog 0 (loopNo Tryd.f3 0) (rgS nb (oprs os) b (p.map txt).length (i : Nat)) (HS T (p.map txt)) (.exit 0) (rgS nb (oprs os) b' (p'.map txt).length ((min os.length 200 : Nat) : Int)) (HS T' (p'.map txt))
  | 0, i, T, m, offs, b, p, hi, hI => by
    have hi' : i = min os.length 200 := by omega
    rw [← hi']
    refine ⟨T, m, offs, b, p, hI, .done (TripN.wp (stB_wp nb (oprs os) (p.map txt) b (i : Nat) T T 0 0 true [] ?_)) (by simp)⟩
    unfold stB_T
    by_cases h : i < os.length
    · refine ⟨fun _ => ⟨fun h2 => absurd (of_decide_eq_true h2) (by omega), fun _ => ⟨rfl, rfl, rfl⟩⟩, fun h2 => absurd (of_decide_eq_false h2) (by simp; omega)⟩
    · exact ⟨fun h2 => absurd (of_decide_eq_true h2) (by simp; omega), fun _ => ⟨rfl, rfl, rfl⟩⟩
  | d + 1, i, T, m, offs, b, p, hi, hI => by
    have hin : i < os.length := by omega
    have hi200 : i < 200 := by omega
    have w1 : IntKind.wrap .i64 ((i : Int) + 1) = ((i + 1 : Nat) : Int) := by rw [wrapS (by omega) (by omega)]; omega
    have hrow := oprs_get os hin
    have hgo := fun (h5 : os[i].k ≠ 5) (h6 : os[i].k ≠ 6) => do_any hI.mx hI.inv os[i].k os[i].s os[i].c os[i].u os[i].x os[i].y os[i].z os[i].f os[i].n h5 h6 (hsz _ (List.getElem_mem hin))
    by_cases h56 : os[i].k = 5 ∨ os[i].k = 6
    · obtain ⟨T', m', offs', b', p', h1, r⟩ := sy_rounds nb os hsz d (i + 1) T m offs b p (by omega) ⟨hI.mx, hI.inv, hI.ps, by have := hI.len; omega, hI.sz⟩
      refine ⟨T', m', offs', b', p', h1, .more (TripN.wp (stB_wp nb (oprs os) (p.map txt) b (i : Nat) T T 0 0 true [] ?_)) r⟩
      unfold stB_T
      simp only [gc, Int.toNat_natCast, hrow, List.getD_cons_zero, List.getD_cons_succ, AVal.toInt, AVal.toStr, w1]
      refine ⟨fun _ => ⟨fun _ => ⟨decide_eq_true (by simp; omega), rfl, decide_eq_true (by simp; omega), fun _ => (by refine ⟨?_, ?_, ?_⟩ <;> first | rfl | trivial | simp), fun h5 => ⟨fun _ => (by refine ⟨?_, ?_, ?_⟩ <;> first | rfl | trivial | simp), fun h6 => ?_⟩⟩, fun h2 => absurd (of_decide_eq_false h2) (by omega)⟩, fun h2 => absurd (of_decide_eq_false h2) (by simp; omega)⟩
      simp at h5 h6
      exact absurd h56 (by omega)
    · obtain ⟨e, a, nl, qs, T2, m2, offs2, g1, g2, g3, g4⟩ := hgo (by omega) (by omega)
      rcases g4 with ⟨g5, g6⟩ | ⟨k1, k2, k3, k4, k5, k6, k7, k8, k9⟩
      · obtain ⟨T', m', offs', b', p', h1, r⟩ := sy_rounds nb os hsz d (i + 1) T2 m2 offs2 b p (by omega) ⟨g1, g2, by rw [g5]; exact hI.ps, by have := hI.len; omega, hI.sz⟩
        refine ⟨T', m', offs', b', p', h1, .more (TripN.wp (stB_wp nb (oprs os) (p.map txt) b (i : Nat) T T2 e a nl qs ?_)) r⟩
        unfold stB_T
        simp only [gc, Int.toNat_natCast, hrow, List.getD_cons_zero, List.getD_cons_succ, AVal.toInt, AVal.toStr, w1]
        refine ⟨fun _ => ⟨fun _ => ⟨decide_eq_true (by simp; omega), rfl, decide_eq_true (by simp; omega), fun h5 => absurd (of_decide_eq_true h5) (by omega), fun h5 => ⟨fun h6 => absurd (of_decide_eq_true h6) (by omega), fun h6 => ⟨g3, fun q1 => ⟨fun q2 => ⟨fun q3 => ⟨fun q4 => ?_, fun q4 => (by refine ⟨?_, ?_, ?_⟩ <;> first | rfl | trivial | simp)⟩, fun q3 => (by refine ⟨?_, ?_, ?_⟩ <;> first | rfl | trivial | simp)⟩, fun q2 => (by refine ⟨?_, ?_, ?_⟩ <;> first | rfl | trivial | simp)⟩, fun q1 => (by refine ⟨?_, ?_, ?_⟩ <;> first | rfl | trivial | simp)⟩⟩⟩, fun h2 => absurd (of_decide_eq_false h2) (by omega)⟩, fun h2 => absurd (of_decide_eq_false h2) (by simp; omega)⟩
        rw [txeq] at q2 q3
        exact absurd ⟨by simpa using q1, of_decide_eq_true q2, of_decide_eq_true q3, by simpa using q4⟩ g6
      · have hpl : (psOf m).length = p.length := by rw [hI.ps]; simp
        obtain ⟨T', m', offs', b', p', h1, r⟩ := sy_rounds nb os hsz d (i + 1) T2 m2 offs2 (b && false) (p ++ [(os[i].u, os[i].x)]) (by omega) ⟨g1, g2, by rw [k6, hI.ps]; simp, by have := hI.len; simp; omega, fun q hq => by
          rcases List.mem_append.1 hq with hq | hq
          · exact hI.sz q hq
          · simp at hq; subst hq; exact ⟨k8, k9⟩⟩
        have htx : (p ++ [(os[i].u, os[i].x)]).map txt = p.map txt ++ [txt (os[i].u, os[i].x)] := by simp
        rw [htx] at r
        refine ⟨T', m', offs', b', p', h1, .more (TripN.wp (stB_wp nb (oprs os) (p.map txt) b (i : Nat) T T2 e a nl qs ?_)) r⟩
        unfold stB_T
        simp only [gc, Int.toNat_natCast, hrow, List.getD_cons_zero, List.getD_cons_succ, AVal.toInt, AVal.toStr, w1]
        have hsz1 : (os[i].u ++ ByteArray.mk #[47]).size ≤ 17 := by rw [ByteArray.size_append]; show os[i].u.size + 1 ≤ 17; omega
        refine ⟨fun _ => ⟨fun _ => ⟨decide_eq_true (by simp; omega), rfl, decide_eq_true (by simp; omega), fun h5 => absurd (of_decide_eq_true h5) (by omega), fun h5 => ⟨fun h6 => absurd (of_decide_eq_true h6) (by omega), fun h6 => ⟨g3, fun q1 => ⟨fun q2 => ⟨fun q3 => ⟨fun q4 => ⟨fun q5 => ?_, fun q5 => ⟨decide_eq_true (by omega), decide_eq_true (by omega), decide_eq_true (by simp; omega), (by refine ⟨?_, ?_, ?_⟩ <;> first | rfl | trivial | simp)⟩⟩, fun q4 => ?_⟩, fun q3 => ?_⟩, fun q2 => ?_⟩, fun q1 => ?_⟩⟩⟩, fun h2 => absurd (of_decide_eq_false h2) (by omega)⟩, fun h2 => absurd (of_decide_eq_false h2) (by simp; omega)⟩
        · rw [k5, hpl] at q5; simp at q5
        · rw [k4] at q4; cases q4
        · rw [txeq] at q3; exact absurd k3 (of_decide_eq_false q3)
        · rw [txeq] at q2; exact absurd k2 (of_decide_eq_false q2)
        · exact absurd k1 (by simpa using q1)
end Go.MN
end

section
set_option linter.unusedVariables false
set_option linter.unusedSimpArgs false
set_option linter.unusedSectionVars false
set_option maxRecDepth 100000
namespace Go.MN
open Go Go.Abs Go.Proofs
theorem rd_rounds {m : List Mo} {offs : List ByteArray} (hi : Inv m) (b : Bool) (p : Pst) (hp : psOf m = p.map pr) (hl : p.length ≤ 200) (hsz : ∀ q ∈ p, q.1.size ≤ 16 ∧ q.2.size ≤ 1024) : ∀ (d i : Nat) (T : AState), i + d = p.length → MX T m offs →
    ∃ T', MX T' m offs ∧ LoopRun Tryd.prog 0 (loopNo Tryd.f3 1) (rgR b (p.map txt).length (i : Nat)) (HS' T (p.map txt)) (.exit 2) (rgR b (p.map txt).length ((p.length : Nat) : Int)) (HS' T' (p.map txt))
  | 0, i, T, hid, hM => by
    have hi' : i = p.length := by omega
    rw [← hi']
    refine ⟨T, hM, .done (TripN.wp (rdX_wp (p.map txt) b (i : Nat) T ?_)) (by simp)⟩
    unfold rdX_T
    exact ⟨decide_eq_false (by simp; omega), rfl, rfl, rfl⟩
  | d + 1, i, T, hid, hM => by
    have hil : i < p.length := by omega
    have hq := hsz _ (List.getElem_mem hil)
    obtain ⟨T2, h1, h2⟩ := do_read (u := p[i].1) (x := p[i].2) hM hi (i := i) (by rw [hp, List.getElem?_map, List.getElem?_eq_getElem hil]; rfl) (by omega)
    obtain ⟨T', h3, r⟩ := rd_rounds hi b p hp hl hsz d (i + 1) T2 (by omega) h1
    have w1 : IntKind.wrap .i64 ((i : Int) + 1) = ((i + 1 : Nat) : Int) := by rw [wrapS (by omega) (by omega)]; omega
    have hg : (p.map txt).getD i [] = txt p[i] := by
      rw [List.getD_eq_getElem?_getD, List.getElem?_map, List.getElem?_eq_getElem hil]; rfl
    have hs1 : (p[i].1 ++ ByteArray.mk #[47]).size ≤ 17 := by rw [ByteArray.size_append]; show p[i].1.size + 1 ≤ 17; omega
    refine ⟨T', h3, .more (TripN.wp (rdB_wp (p.map txt) b (i : Nat) ((i : Int) + 1) T T2 p[i].1 p[i].2 ?_)) r⟩
    unfold rdB_T
    rw [w1, Int.toNat_natCast, hg]
    refine ⟨decide_eq_true (by simp; omega), h2, ?_, decide_eq_true (by omega), decide_eq_true (by omega), decide_eq_true (by simp; omega), rfl, decide_eq_true (by simp; omega), ?_, rfl, rfl, rfl⟩
    · simp
    · show (!(_ == (p[i].1 ++ ByteArray.mk #[47] ++ p[i].2).toList)) = false
      simp
abbrev T00 : AState := [.rows false 2 [[.map 1, .map 2]], .mp false [], .mp true []]
theorem new_gh : FOk Tryd.prog 12 [] [] (.ptr 0 2 0 0) [.gh T00] := FOk.mkgh (FOk.wp (new__wp ⟨rfl, rfl⟩)) rfl ⟨_, rfl, rfl⟩
theorem mx00 : MX T00 [] [] := ⟨[], rfl, ⟨rfl, rfl, rfl, (fun x hx => by cases hx), (fun x hx => by cases hx), (fun x hx => by cases hx), (by decide), rfl⟩, (fun x hx => by cases hx)⟩
theorem stays_law (nb : Bool) (os : List Opx) (hsz : ∀ o ∈ os, o.x.size ≤ 140737488355328) : FOk Tryd.prog 3 [.fsl nb 9 (oprs os) none] [] (.bool true) [] := by
  obtain ⟨T2, m, offs, b, p, hI, r1⟩ := sy_rounds nb os hsz (min os.length 200) 0 T00 [] [] true [] (by omega) ⟨mx00, ⟨(fun k hk => by cases hk), (fun k hk => by cases hk)⟩, rfl, Nat.le_refl _, (fun q hq => by cases hq)⟩
  obtain ⟨T3, h3, r2⟩ := rd_rounds hI.inv b p hI.ps (by have := hI.len; omega) hI.sz p.length 0 T2 (by omega) hI.mx
  refine FOk.wp (sy_wp nb (oprs os) (p.map txt) b T00 T2 T3 ((min os.length 200 : Nat) : Int) ((p.length : Nat) : Int) ?_)
  unfold sy_T
  exact ⟨new_gh, r1.trip, r2.trip, awake_ok, rfl, rfl⟩
theorem ops_rows : ∀ (rows : List (List AVal)), (∀ row ∈ rows, okKs [.int .i64, .str, .str, .str, .str, .str, .str, .int .i64, .int .i64] row) → ∃ os : List Opx, rows = oprs os ∧ ∀ o ∈ os, o.x.size ≤ Go.reachBytes
  | [], _ => ⟨[], rfl, fun o ho => by cases ho⟩
  | row :: rows, h => by
    obtain ⟨os, rfl, hz⟩ := ops_rows rows fun r hr => h r (by simp [hr])
    have h1 := h row (by simp)
    simp only [okKs, okK] at h1
    obtain ⟨v, us, rfl, ⟨k, rfl, _⟩, v, us, rfl, ⟨s, rfl, _⟩, v, us, rfl, ⟨c, rfl, _⟩, v, us, rfl, ⟨u, rfl, _⟩, v, us, rfl, ⟨x, rfl, hx⟩, v, us, rfl, ⟨y, rfl, _⟩, v, us, rfl, ⟨z, rfl, _⟩, v, us, rfl, ⟨f, rfl, _⟩, v, us, rfl, ⟨n, rfl, _⟩, rfl⟩ := h1
    exact ⟨⟨k, s, c, u, x, y, z, f, n⟩ :: os, rfl, fun o ho => by
      rcases List.mem_cons.1 ho with rfl | ho
      · exact hx
      · exact hz o ho⟩
theorem stays_row (xs : List AVal) (h : okArgs Tryd.prog Tryd.f3.params.toList [[.sl 120 [.int .i64, .str, .str, .str, .str, .str, .str, .int .i64, .int .i64]]] xs) : ∃ σ', FOk Tryd.prog 3 xs [] (.bool true) σ' := by
  obtain ⟨a, bs, rfl, h1, h3⟩ := h
  cases h3
  unfold okArg at h1
  rw [if_neg (by rw [show isAggT Tryd.prog 22 = false from by kernel_rfl]; simp)] at h1
  simp only [okKs, okK] at h1
  obtain ⟨v, us, e, ⟨nb, rows, rfl, _, _, _, hr⟩, rfl⟩ := h1
  cases e
  obtain ⟨os, rfl, hz⟩ := ops_rows rows hr
  exact ⟨_, stays_law nb os fun o ho => Nat.le_trans (hz o ho) (by decide)⟩
end Go.MN
end
