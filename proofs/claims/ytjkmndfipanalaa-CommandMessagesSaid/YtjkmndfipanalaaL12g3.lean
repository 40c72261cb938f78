import Derived.Test.YtjkmndfipanalaaL12g2
section
set_option linter.unusedVariables false
set_option linter.unusedSimpArgs false
set_option maxRecDepth 100000
namespace Go.L12
open Go Go.Abs Go.Proofs

def FM : List (Nat × Nat × Nat) := [(100, 0, 0), (100, 0, 1), (100, 0, 2), (100, 0, 3), (100, 0, 4), (100, 0, 5), (100, 0, 6), (100, 0, 8), (101, 0, 9), (111, 0, 7), (104, 0, 10)]
abbrev flMp : List (List AVal) := (flM 3)
abbrev flMt : List (List AVal) := (flM 2)
theorem pMI0_r (u0 : List AVal) (i j : Nat) (hi : i < 11) (hfl : asType Try.prog 20 [List.getD (List.getD flMp i []) 0 .any] = .iface 100 (.ptr 3 11 0 j)) (hj : j + 1 ≤ 11) (hk : oI (u0.getD j .any)) (l : List UInt8) (hl : l.length ≤ 35184372088832) :
    (∀ b, putF 100 (u0.getD j .any) = some b → TripN Try.prog 4 (loopNo Try.f64 0) (rgpM (i : Nat)) (hppM u0 l.length (rowsL l)) .normal (rgpM ((i + 1 : Nat) : Int)) (hppM u0 (l ++ b).length (rowsL (l ++ b)))) ∧ (putF 100 (u0.getD j .any) = none → ∃ rg' σ', TripN Try.prog 4 (loopNo Try.f64 0) (rgpM (i : Nat)) (hppM u0 l.length (rowsL l)) (.pan 117) rg' σ') := by
  have w1 : IntKind.wrap .i64 ((i : Int) + 1) = ((i + 1 : Nat) : Int) := by rw [wrapS (by omega) (by omega)]; omega
  have hlr : (rowsL l).length = l.length := List.length_map _
  obtain ⟨v, hn, hv1, hv2⟩ := hk
  rw [hn]
  refine ⟨fun b hb => TripN.wp (pMI0_wp u0 i j l.length (rowsL l) ?_), fun hb => TripN.wpE (pMI0_wp u0 i j l.length (rowsL l) ?_)⟩
  · unfold pMI0_T
    rw [Int.toNat_natCast, w1, hn]
    simp only [AVal.toInt]
    have hb : pI v = some b := hb
    unfold pI at hb
    split at hb
    · rename_i ho
      cases hb
      refine ⟨decide_eq_true (by omega), decide_eq_true (by omega), decide_eq_true (by omega), hfl, rfl, decide_eq_true (by omega), fun _ => ⟨by trivial, by first | rfl | trivial, ?_⟩, fun c => absurd c.1 (by rw [ho]; simp), .inl ⟨ho, hlr.symm, by rw [hlr]; omega⟩⟩
      rw [nRows_rowsL, rowsL_append, List.length_append, List.length_map]
    · cases hb
  · unfold pMI0_T
    rw [Int.toNat_natCast, w1, hn]
    simp only [AVal.toInt]
    have hb : pI v = none := hb
    unfold pI at hb
    split at hb
    · cases hb
    · rename_i ho
      have ho : nOk v = false := by simpa using ho
      exact ⟨decide_eq_true (by omega), decide_eq_true (by omega), decide_eq_true (by omega), hfl, rfl, decide_eq_true (by omega), fun c => absurd c.1 (by rw [ho]; simp), fun _ => by trivial, .inr ⟨ho, hv2⟩⟩

theorem pMB0_r (u0 : List AVal) (i j : Nat) (hi : i < 11) (hfl : asType Try.prog 20 [List.getD (List.getD flMp i []) 0 .any] = .iface 101 (.ptr 3 11 0 j)) (hj : j + 1 ≤ 11) (hk : (∃ b, u0.getD j .any = .bool b)) (l : List UInt8) (hl : l.length ≤ 35184372088832) :
    (∀ b, putF 101 (u0.getD j .any) = some b → TripN Try.prog 4 (loopNo Try.f64 0) (rgpM (i : Nat)) (hppM u0 l.length (rowsL l)) .normal (rgpM ((i + 1 : Nat) : Int)) (hppM u0 (l ++ b).length (rowsL (l ++ b)))) ∧ (putF 101 (u0.getD j .any) = none → ∃ rg' σ', TripN Try.prog 4 (loopNo Try.f64 0) (rgpM (i : Nat)) (hppM u0 l.length (rowsL l)) (.pan 117) rg' σ') := by
  have w1 : IntKind.wrap .i64 ((i : Int) + 1) = ((i + 1 : Nat) : Int) := by rw [wrapS (by omega) (by omega)]; omega
  have hlr : (rowsL l).length = l.length := List.length_map _
  obtain ⟨v, hn⟩ := hk
  rw [hn]
  have num1 := fun (n : Int) (x : UInt8) (hx : (x.toNat : Int) = n) (h : 0 ≤ n ∧ n < 2) => by
    have h1 := num_ok n (rowsL l) l.length (decide_eq_true (by omega)) hlr.symm (by rw [hlr]; omega)
    rw [show nRows n = [[.int .u8 n]] by rw [nRows_rowsL, vbl_lt (by omega)]; simp [brow]; omega] at h1
    exact h1
  refine ⟨fun b hb => TripN.wp (pMB0_wp u0 i j l.length (rowsL l) ?_), fun hb => by cases hb⟩
  unfold pMB0_T
  rw [Int.toNat_natCast, w1, hn]
  simp only [AVal.toBool]
  cases hb
  cases v with
  | true =>
    refine ⟨decide_eq_true (by omega), decide_eq_true (by omega), decide_eq_true (by omega), hfl, rfl, decide_eq_true (by omega), fun _ => ⟨num1 1 1 rfl (by omega), by trivial, by first | rfl | trivial, ?_⟩, fun c => by cases c⟩
    rw [List.length_append]; simp [AVal.toBool, brow]
  | false =>
    refine ⟨decide_eq_true (by omega), decide_eq_true (by omega), decide_eq_true (by omega), hfl, rfl, decide_eq_true (by omega), fun c => (by cases c), fun _ => ⟨num1 0 0 rfl (by omega), by trivial, by first | rfl | trivial, ?_⟩⟩
    rw [List.length_append]; simp [AVal.toBool, brow]

theorem pMS0_r (u0 : List AVal) (i j : Nat) (hi : i < 11) (hfl : asType Try.prog 20 [List.getD (List.getD flMp i []) 0 .any] = .iface 104 (.ptr 3 11 0 j)) (hj : j + 1 ≤ 11) (hk : (∃ s, u0.getD j .any = .str s)) (l : List UInt8) (hl : l.length ≤ 35184372088832) :
    (∀ b, putF 104 (u0.getD j .any) = some b → TripN Try.prog 4 (loopNo Try.f64 0) (rgpM (i : Nat)) (hppM u0 l.length (rowsL l)) .normal (rgpM ((i + 1 : Nat) : Int)) (hppM u0 (l ++ b).length (rowsL (l ++ b)))) ∧ (putF 104 (u0.getD j .any) = none → ∃ rg' σ', TripN Try.prog 4 (loopNo Try.f64 0) (rgpM (i : Nat)) (hppM u0 l.length (rowsL l)) (.pan 117) rg' σ') := by
  have w1 : IntKind.wrap .i64 ((i : Int) + 1) = ((i + 1 : Nat) : Int) := by rw [wrapS (by omega) (by omega)]; omega
  have hlr : (rowsL l).length = l.length := List.length_map _
  obtain ⟨v, hn⟩ := hk
  rw [hn]
  refine ⟨fun b hb => TripN.wp (pMS0_wp u0 i j l.length (rowsL l) ?_), fun hb => TripN.wpE (pMS0_wp u0 i j l.length (rowsL l) ?_)⟩
  · unfold pMS0_T
    rw [Int.toNat_natCast, w1, hn]
    simp only [AVal.toStr]
    have hb : pS v = some b := hb
    unfold pS at hb
    split at hb
    · rename_i ho
      cases hb
      have h9 := nRows_len (n := (v.size : Int)) (by omega)
      have hok : nOk (v.size : Int) = true := decide_eq_true ⟨by omega, by omega⟩
      refine ⟨decide_eq_true (by omega), decide_eq_true (by omega), decide_eq_true (by omega), hfl, rfl, decide_eq_true (by omega), fun _ => ⟨fun _ => ⟨by rw [List.length_append, hlr], ho, by rw [List.length_append, hlr]; omega, by trivial, by first | rfl | trivial, ?_⟩, fun c => absurd c.1 (by rw [hok]; simp), .inl ⟨hok, hlr.symm, by rw [hlr]; omega⟩⟩, fun c => absurd (of_decide_eq_false c) (by omega), .inl (decide_eq_true (by omega))⟩
      rw [nRows_rowsL, byteRows_rowsL, rowsL_append, rowsL_append, List.length_map, List.length_map, Int.toNat_natCast, List.length_append, List.length_append, List.append_assoc, Nat.add_assoc]
    · cases hb
  · unfold pMS0_T
    rw [Int.toNat_natCast, w1, hn]
    simp only [AVal.toStr]
    have hb : pS v = none := hb
    unfold pS at hb
    split at hb
    · cases hb
    · rename_i ho
      exact ⟨decide_eq_true (by omega), decide_eq_true (by omega), decide_eq_true (by omega), hfl, rfl, decide_eq_true (by omega), fun c => absurd (of_decide_eq_true c) (by omega), fun _ => by trivial, .inr (decide_eq_false (by omega))⟩

def objM (u0 : List AVal) (o : Nat) : List AVal := u0
def fpM (u0 : List AVal) (i : Nat) : Option (List UInt8) := putF (FM.getD i (0, 0, 0)).1 ((objM u0 (FM.getD i (0, 0, 0)).2.1).getD (FM.getD i (0, 0, 0)).2.2 .any)
def bdM (m0 m1 m2 m3 m4 m5 m6 m8 : Int) : Prop := (-9223372036854775808 ≤ m0 ∧ m0 < 9223372036854775808) ∧ (-9223372036854775808 ≤ m1 ∧ m1 < 9223372036854775808) ∧ (-9223372036854775808 ≤ m2 ∧ m2 < 9223372036854775808) ∧ (-9223372036854775808 ≤ m3 ∧ m3 < 9223372036854775808) ∧ (-9223372036854775808 ≤ m4 ∧ m4 < 9223372036854775808) ∧ (-9223372036854775808 ≤ m5 ∧ m5 < 9223372036854775808) ∧ (-9223372036854775808 ≤ m6 ∧ m6 < 9223372036854775808) ∧ (-9223372036854775808 ≤ m8 ∧ m8 < 9223372036854775808)
def kM (m0 m1 m2 m3 m4 m5 m6 m8 : Int) (rs : List (List AVal)) : Prop := bdM m0 m1 m2 m3 m4 m5 m6 m8 ∧ (∀ q, q < rs.length → rowK 111 rs q) ∧ rs.length < 4611686018427387904
theorem pM_round (m0 m1 m2 m3 m4 m5 m6 m8 : Int) (m9 : Bool) (m10 : ByteArray) (nb : Bool) (rs : List (List AVal)) (hk : kM m0 m1 m2 m3 m4 m5 m6 m8 rs) : ∀ i, i < 11 → ∀ l : List UInt8, l.length ≤ 17592186044416 + i * 40000000 → (∀ b, fpM (rM m0 m1 m2 m3 m4 m5 m6 (.fsl nb 2 rs none) m8 m9 m10) i = some b → TripN Try.prog 4 (loopNo Try.f64 0) (rgpM (i : Nat)) (hppM (rM m0 m1 m2 m3 m4 m5 m6 (.fsl nb 2 rs none) m8 m9 m10) l.length (rowsL l)) .normal (rgpM ((i + 1 : Nat) : Int)) (hppM (rM m0 m1 m2 m3 m4 m5 m6 (.fsl nb 2 rs none) m8 m9 m10) (l ++ b).length (rowsL (l ++ b)))) ∧ (fpM (rM m0 m1 m2 m3 m4 m5 m6 (.fsl nb 2 rs none) m8 m9 m10) i = none → ∃ rg' σ', TripN Try.prog 4 (loopNo Try.f64 0) (rgpM (i : Nat)) (hppM (rM m0 m1 m2 m3 m4 m5 m6 (.fsl nb 2 rs none) m8 m9 m10) l.length (rowsL l)) (.pan 117) rg' σ')
  | 0, hi, l, hl => pMI0_r (rM m0 m1 m2 m3 m4 m5 m6 (.fsl nb 2 rs none) m8 m9 m10) 0 0 hi (by kernel_rfl) (by omega) ⟨_, rfl, hk.1.1⟩ l (by omega)
  | 1, hi, l, hl => pMI0_r (rM m0 m1 m2 m3 m4 m5 m6 (.fsl nb 2 rs none) m8 m9 m10) 1 1 hi (by kernel_rfl) (by omega) ⟨_, rfl, hk.1.2.1⟩ l (by omega)
  | 2, hi, l, hl => pMI0_r (rM m0 m1 m2 m3 m4 m5 m6 (.fsl nb 2 rs none) m8 m9 m10) 2 2 hi (by kernel_rfl) (by omega) ⟨_, rfl, hk.1.2.2.1⟩ l (by omega)
  | 3, hi, l, hl => pMI0_r (rM m0 m1 m2 m3 m4 m5 m6 (.fsl nb 2 rs none) m8 m9 m10) 3 3 hi (by kernel_rfl) (by omega) ⟨_, rfl, hk.1.2.2.2.1⟩ l (by omega)
  | 4, hi, l, hl => pMI0_r (rM m0 m1 m2 m3 m4 m5 m6 (.fsl nb 2 rs none) m8 m9 m10) 4 4 hi (by kernel_rfl) (by omega) ⟨_, rfl, hk.1.2.2.2.2.1⟩ l (by omega)
  | 5, hi, l, hl => pMI0_r (rM m0 m1 m2 m3 m4 m5 m6 (.fsl nb 2 rs none) m8 m9 m10) 5 5 hi (by kernel_rfl) (by omega) ⟨_, rfl, hk.1.2.2.2.2.2.1⟩ l (by omega)
  | 6, hi, l, hl => pMI0_r (rM m0 m1 m2 m3 m4 m5 m6 (.fsl nb 2 rs none) m8 m9 m10) 6 6 hi (by kernel_rfl) (by omega) ⟨_, rfl, hk.1.2.2.2.2.2.2.1⟩ l (by omega)
  | 7, hi, l, hl => pMI0_r (rM m0 m1 m2 m3 m4 m5 m6 (.fsl nb 2 rs none) m8 m9 m10) 7 8 hi (by kernel_rfl) (by omega) ⟨_, rfl, hk.1.2.2.2.2.2.2.2⟩ l (by omega)
  | 8, hi, l, hl => pMB0_r (rM m0 m1 m2 m3 m4 m5 m6 (.fsl nb 2 rs none) m8 m9 m10) 8 9 hi (by kernel_rfl) (by omega) ⟨_, rfl⟩ l (by omega)
  | 9, hi, l, hl => pMN_r m0 m1 m2 m3 m4 m5 m6 m8 m9 m10 nb rs hk.2.1 hk.2.2 l (by omega)
  | 10, hi, l, hl => pMS0_r (rM m0 m1 m2 m3 m4 m5 m6 (.fsl nb 2 rs none) m8 m9 m10) 10 10 hi (by kernel_rfl) (by omega) ⟨_, rfl⟩ l (by omega)
  | n + 11, hi, l, hl => absurd hi (by omega)
theorem putsM_ok (m0 m1 m2 m3 m4 m5 m6 m8 : Int) (m9 : Bool) (m10 : ByteArray) (nb : Bool) (rs : List (List AVal)) (hk : kM m0 m1 m2 m3 m4 m5 m6 m8 rs) (l b : List UInt8) (hl : l.length ≤ 17592186044416) (hb : seqO (fpM (rM m0 m1 m2 m3 m4 m5 m6 (.fsl nb 2 rs none) m8 m9 m10)) 11 0 = some b) :
    FOk Try.prog 64 [.ptr 0 2 0 0, .slc false 1 1 0 11 none] [.rows false 2 [[.ptr 0 2 0 0, .slc false 2 1 0 l.length none]], .rows false 1 flMp, .trows 5 true 1 (rowsL l), .rows true 11 [(rM m0 m1 m2 m3 m4 m5 m6 (.fsl nb 2 rs none) m8 m9 m10)]] (.tuple []) [.rows false 2 [[.ptr 0 2 0 0, .slc false 4 1 0 (l ++ b).length none]], .rows false 1 flMp, .dead, .rows true 11 [(rM m0 m1 m2 m3 m4 m5 m6 (.fsl nb 2 rs none) m8 m9 m10)], .trows 5 true 1 (rowsL (l ++ b))] := by
  have r := (puts_run (c := loopNo Try.f64 0) 11 (fun i => rgpM (i : Nat)) (fun l => hppM (rM m0 m1 m2 m3 m4 m5 m6 (.fsl nb 2 rs none) m8 m9 m10) l.length (rowsL l)) (fpM (rM m0 m1 m2 m3 m4 m5 m6 (.fsl nb 2 rs none) m8 m9 m10)) 17592186044416 40000000 0 (fun i b h => putF_len h) (fun l => TripN.wp (pMX_wp (rM m0 m1 m2 m3 m4 m5 m6 (.fsl nb 2 rs none) m8 m9 m10) 11 l.length (rowsL l) ⟨by kernel_rfl, rfl, rfl, rfl⟩)) (pM_round m0 m1 m2 m3 m4 m5 m6 m8 m9 m10 nb rs hk) 11 0 (by omega) l (by omega)).1 b hb
  exact (evalF_ok followed Try.func64 (by kernel_rfl) (show evalF Try.prog Try.f64 [.ptr 0 2 0 0, .slc false 1 1 0 11 none] [.rows false 2 [[.ptr 0 2 0 0, .slc false 2 1 0 l.length none]], .rows false 1 flMp, .trows 5 true 1 (rowsL l), .rows true 11 [(rM m0 m1 m2 m3 m4 m5 m6 (.fsl nb 2 rs none) m8 m9 m10)]] [Dec.lift 2, Dec.compact (keepM 148 [0, 15, 16, 17]) [0, 1, 2, 3, 4], Dec.loop (.exit 0) (rgpM 11) (hppM (rM m0 m1 m2 m3 m4 m5 m6 (.fsl nb 2 rs none) m8 m9 m10) (l ++ b).length (rowsL (l ++ b)))] = .ok (FRes.mk (.tuple []) (hppM (rM m0 m1 m2 m3 m4 m5 m6 (.fsl nb 2 rs none) m8 m9 m10) (l ++ b).length (rowsL (l ++ b))) [(owed Try.prog 4).loop (loopNo Try.f64 0) (rgpM 0) (hppM (rM m0 m1 m2 m3 m4 m5 m6 (.fsl nb 2 rs none) m8 m9 m10) l.length (rowsL l)) (.exit 0) (rgpM 11) (hppM (rM m0 m1 m2 m3 m4 m5 m6 (.fsl nb 2 rs none) m8 m9 m10) (l ++ b).length (rowsL (l ++ b)))]) by kernel_rfl) (allP_of ⟨r.trip, trivial⟩)).move [0, 1, 2, 3, 4] (by kernel_rfl) (by kernel_rfl) (by kernel_rfl)
theorem putsM_no (m0 m1 m2 m3 m4 m5 m6 m8 : Int) (m9 : Bool) (m10 : ByteArray) (nb : Bool) (rs : List (List AVal)) (hk : kM m0 m1 m2 m3 m4 m5 m6 m8 rs) (l : List UInt8) (hl : l.length ≤ 17592186044416) (hb : seqO (fpM (rM m0 m1 m2 m3 m4 m5 m6 (.fsl nb 2 rs none) m8 m9 m10)) 11 0 = none) :
    FOk Try.prog 64 [.ptr 0 2 0 0, .slc false 1 1 0 11 none] [.rows false 2 [[.ptr 0 2 0 0, .slc false 2 1 0 l.length none]], .rows false 1 flMp, .trows 5 true 1 (rowsL l), .rows true 11 [(rM m0 m1 m2 m3 m4 m5 m6 (.fsl nb 2 rs none) m8 m9 m10)]] (.pan 117) [.dead, .dead, .dead, .dead] := by
  obtain ⟨rg', σ', r⟩ := (puts_run (c := loopNo Try.f64 0) 11 (fun i => rgpM (i : Nat)) (fun l => hppM (rM m0 m1 m2 m3 m4 m5 m6 (.fsl nb 2 rs none) m8 m9 m10) l.length (rowsL l)) (fpM (rM m0 m1 m2 m3 m4 m5 m6 (.fsl nb 2 rs none) m8 m9 m10)) 17592186044416 40000000 0 (fun i b h => putF_len h) (fun l => TripN.wp (pMX_wp (rM m0 m1 m2 m3 m4 m5 m6 (.fsl nb 2 rs none) m8 m9 m10) 11 l.length (rowsL l) ⟨by kernel_rfl, rfl, rfl, rfl⟩)) (pM_round m0 m1 m2 m3 m4 m5 m6 m8 m9 m10 nb rs hk) 11 0 (by omega) l (by omega)).2 hb
  exact (evalF_ok followed Try.func64 (by kernel_rfl) (show evalF Try.prog Try.f64 [.ptr 0 2 0 0, .slc false 1 1 0 11 none] [.rows false 2 [[.ptr 0 2 0 0, .slc false 2 1 0 l.length none]], .rows false 1 flMp, .trows 5 true 1 (rowsL l), .rows true 11 [(rM m0 m1 m2 m3 m4 m5 m6 (.fsl nb 2 rs none) m8 m9 m10)]] [Dec.lift 2, Dec.compact (keepM 148 [0, 15, 16, 17]) [0, 1, 2, 3, 4], Dec.loop (.pan 117) rg' σ'] = .ok (FRes.mk (.pan 117) σ' [(owed Try.prog 4).loop (loopNo Try.f64 0) (rgpM 0) (hppM (rM m0 m1 m2 m3 m4 m5 m6 (.fsl nb 2 rs none) m8 m9 m10) l.length (rowsL l)) (.pan 117) rg' σ']) by kernel_rfl) (allP_of ⟨r.trip, trivial⟩)).pan

theorem tMI0_r (u0 : List AVal) (i j : Nat) (hi : i < 11) (hfl : asType Try.prog 20 [List.getD (List.getD flMt i []) 0 .any] = .iface 100 (.ptr 2 11 0 j)) (hj : j + 1 ≤ 11) (s : ByteArray) :
    (∀ x, takeF 100 s = some x → TripN Try.prog 3 (loopNo Try.f60 0) (rgtM (i : Nat)) (hptM u0 s) .normal (rgtM ((i + 1 : Nat) : Int)) (hptM (u0.set j x.1) x.2)) ∧ (takeF 100 s = none → ∃ rg' σ', TripN Try.prog 3 (loopNo Try.f60 0) (rgtM (i : Nat)) (hptM u0 s) (.pan 117) rg' σ') := by
  have w1 : IntKind.wrap .i64 ((i : Int) + 1) = ((i + 1 : Nat) : Int) := by rw [wrapS (by omega) (by omega)]; omega
  have h0 : 0 ≤ tkV s := Int.natCast_nonneg _
  have e : takeF 100 s = (tI 1099511627776 s).map fun x => (.int .i64 x.1, x.2) := rfl
  rw [e]
  unfold tI
  cases ho : tkOk s 1099511627776 with
  | true =>
    refine ⟨fun x hx => ?_, fun h => by cases h⟩
    cases hx
    refine TripN.wp (tMI0_wp u0 i j s ?_)
    unfold tMI0_T
    rw [Int.toNat_natCast, w1]
    exact ⟨decide_eq_true (by omega), decide_eq_true (by omega), decide_eq_true (by omega), hfl, fun _ => ⟨decide_eq_true (by omega), rfl, rfl, rfl⟩, fun c => absurd c (by rw [ho]; simp), .inl ho⟩
  | false =>
    refine ⟨fun x hx => (by cases hx), fun h => TripN.wpE (tMI0_wp u0 i j s ?_)⟩
    unfold tMI0_T
    rw [Int.toNat_natCast, w1]
    exact ⟨decide_eq_true (by omega), decide_eq_true (by omega), decide_eq_true (by omega), hfl, fun c => absurd c (by rw [ho]; simp), fun _ => rfl, .inr ho⟩

theorem tMB0_r (u0 : List AVal) (i j : Nat) (hi : i < 11) (hfl : asType Try.prog 20 [List.getD (List.getD flMt i []) 0 .any] = .iface 101 (.ptr 2 11 0 j)) (hj : j + 1 ≤ 11) (s : ByteArray) :
    (∀ x, takeF 101 s = some x → TripN Try.prog 3 (loopNo Try.f60 0) (rgtM (i : Nat)) (hptM u0 s) .normal (rgtM ((i + 1 : Nat) : Int)) (hptM (u0.set j x.1) x.2)) ∧ (takeF 101 s = none → ∃ rg' σ', TripN Try.prog 3 (loopNo Try.f60 0) (rgtM (i : Nat)) (hptM u0 s) (.pan 117) rg' σ') := by
  have w1 : IntKind.wrap .i64 ((i : Int) + 1) = ((i + 1 : Nat) : Int) := by rw [wrapS (by omega) (by omega)]; omega
  have h0 : 0 ≤ tkV s := Int.natCast_nonneg _
  have e : takeF 101 s = (tB s).map fun x => (.bool x.1, x.2) := rfl
  rw [e]
  unfold tB
  cases ho : tkOk s 1 with
  | true =>
    refine ⟨fun x hx => ?_, fun h => by cases h⟩
    cases hx
    refine TripN.wp (tMB0_wp u0 i j s ?_)
    unfold tMB0_T
    rw [Int.toNat_natCast, w1]
    exact ⟨decide_eq_true (by omega), decide_eq_true (by omega), decide_eq_true (by omega), hfl, fun _ => ⟨decide_eq_true (by omega), rfl, rfl, rfl⟩, fun c => absurd c (by rw [ho]; simp), .inl ho⟩
  | false =>
    refine ⟨fun x hx => (by cases hx), fun h => TripN.wpE (tMB0_wp u0 i j s ?_)⟩
    unfold tMB0_T
    rw [Int.toNat_natCast, w1]
    exact ⟨decide_eq_true (by omega), decide_eq_true (by omega), decide_eq_true (by omega), hfl, fun c => absurd c (by rw [ho]; simp), fun _ => rfl, .inr ho⟩

theorem tMS0_r (u0 : List AVal) (i j : Nat) (hi : i < 11) (hfl : asType Try.prog 20 [List.getD (List.getD flMt i []) 0 .any] = .iface 104 (.ptr 2 11 0 j)) (hj : j + 1 ≤ 11) (s : ByteArray) :
    (∀ x, takeF 104 s = some x → TripN Try.prog 3 (loopNo Try.f60 0) (rgtM (i : Nat)) (hptM u0 s) .normal (rgtM ((i + 1 : Nat) : Int)) (hptM (u0.set j x.1) x.2)) ∧ (takeF 104 s = none → ∃ rg' σ', TripN Try.prog 3 (loopNo Try.f60 0) (rgtM (i : Nat)) (hptM u0 s) (.pan 117) rg' σ') := by
  have w1 : IntKind.wrap .i64 ((i : Int) + 1) = ((i + 1 : Nat) : Int) := by rw [wrapS (by omega) (by omega)]; omega
  have h0 : 0 ≤ tkV s := Int.natCast_nonneg _
  have e : takeF 104 s = (tS s).map fun x => (.str x.1, x.2) := rfl
  rw [e]
  unfold tS
  cases ho : tkOk s 262144 with
  | true =>
    rw [if_pos rfl]
    by_cases hv : tkV s ≤ ((tkR s).size : Int)
    · rw [if_pos hv]
      refine ⟨fun x hx => ?_, fun h => by cases h⟩
      cases hx
      refine TripN.wp (tMS0_wp u0 i j s ?_)
      unfold tMS0_T
      rw [Int.toNat_natCast, Int.toNat_natCast, w1]
      exact ⟨decide_eq_true (by omega), decide_eq_true (by omega), decide_eq_true (by omega), hfl, fun _ => ⟨fun _ => ⟨decide_eq_true (by omega), decide_eq_true (by omega), decide_eq_true (by omega), rfl, rfl, rfl⟩, fun c => absurd (of_decide_eq_false c) (by omega), .inl (decide_eq_true hv)⟩, fun c => absurd c (by rw [ho]; simp), .inl ho⟩
    · rw [if_neg hv]
      refine ⟨fun x hx => (by cases hx), fun h => TripN.wpE (tMS0_wp u0 i j s ?_)⟩
      unfold tMS0_T
      rw [Int.toNat_natCast, Int.toNat_natCast, w1]
      exact ⟨decide_eq_true (by omega), decide_eq_true (by omega), decide_eq_true (by omega), hfl, fun _ => ⟨fun c => absurd (of_decide_eq_true c) (by omega), fun _ => rfl, .inr (decide_eq_false hv)⟩, fun c => absurd c (by rw [ho]; simp), .inl ho⟩
  | false =>
    refine ⟨fun x hx => (by cases hx), fun h => TripN.wpE (tMS0_wp u0 i j s ?_)⟩
    unfold tMS0_T
    rw [Int.toNat_natCast, Int.toNat_natCast, w1]
    exact ⟨decide_eq_true (by omega), decide_eq_true (by omega), decide_eq_true (by omega), hfl, fun c => absurd c (by rw [ho]; simp), fun _ => rfl, .inr ho⟩

def gtM (i : Nat) (u : List AVal) (s : ByteArray) : Option ((List AVal) × ByteArray) := (takeF (FM.getD i (0, 0, 0)).1 s).map fun x => (u.set (FM.getD i (0, 0, 0)).2.2 x.1, x.2)
def ivM (i : Nat) (u : List AVal) : Prop := ∃ (m0 m1 m2 m3 m4 m5 m6 : Int) (v : AVal) (m8 : Int) (m9 : Bool) (m10 : ByteArray), u = rM m0 m1 m2 m3 m4 m5 m6 v m8 m9 m10 ∧ (i ≤ 9 → v = .fsl true 0 [] (some 0))
theorem takeF_I {t : Nat} (ht : t = 100 ∨ t = 102) {s : ByteArray} {x : AVal × ByteArray} (h : takeF t s = some x) : ∃ n, x.1 = .int .i64 n := by
  have h : (tI 1099511627776 s).map (fun x => ((AVal.int .i64 x.1), x.2)) = some x := by rcases ht with rfl | rfl <;> exact h
  rw [Option.map_eq_some_iff] at h
  obtain ⟨y, _, rfl⟩ := h
  exact ⟨_, rfl⟩
theorem takeF_B {s : ByteArray} {x : AVal × ByteArray} (h : takeF 101 s = some x) : ∃ n, x.1 = .bool n := by
  have h : (tB s).map (fun x => ((AVal.bool x.1), x.2)) = some x := h
  rw [Option.map_eq_some_iff] at h
  obtain ⟨y, _, rfl⟩ := h
  exact ⟨_, rfl⟩
theorem takeF_S {s : ByteArray} {x : AVal × ByteArray} (h : takeF 104 s = some x) : ∃ n, x.1 = .str n := by
  have h : (tS s).map (fun x => ((AVal.str x.1), x.2)) = some x := h
  rw [Option.map_eq_some_iff] at h
  obtain ⟨y, _, rfl⟩ := h
  exact ⟨_, rfl⟩
theorem tM_round : ∀ i, i < 11 → ∀ (u : List AVal) (s : ByteArray), ivM i u → (∀ x, gtM i u s = some x → ivM (i + 1) x.1 ∧ TripN Try.prog 3 (loopNo Try.f60 0) (rgtM (i : Nat)) (hptM u s) .normal (rgtM ((i + 1 : Nat) : Int)) (hptM x.1 x.2)) ∧ (gtM i u s = none → ∃ rg' σ', TripN Try.prog 3 (loopNo Try.f60 0) (rgtM (i : Nat)) (hptM u s) (.pan 117) rg' σ')
  | 0, hi, u, s, hI => by
    obtain ⟨h1, h2⟩ := tMI0_r u 0 0 hi (by kernel_rfl) (by omega) s
    have e : gtM 0 u s = (takeF 100 s).map fun x => (u.set 0 x.1, x.2) := rfl
    rw [e]
    cases ht : takeF 100 s with
    | none => exact ⟨fun x hx => (by cases hx), fun _ => h2 ht⟩
    | some x =>
      refine ⟨fun y hy => ?_, fun h => by cases h⟩
      cases hy
      refine ⟨?_, h1 x ht⟩
      obtain ⟨m0, m1, m2, m3, m4, m5, m6, v, m8, m9, m10, rfl, hv⟩ := hI
      obtain ⟨z, hz⟩ := takeF_I (.inl rfl) ht
      refine ⟨z, m1, m2, m3, m4, m5, m6, v, m8, m9, m10, ?_, fun h => hv (by omega)⟩
      dsimp only
      rw [hz]; rfl
  | 1, hi, u, s, hI => by
    obtain ⟨h1, h2⟩ := tMI0_r u 1 1 hi (by kernel_rfl) (by omega) s
    have e : gtM 1 u s = (takeF 100 s).map fun x => (u.set 1 x.1, x.2) := rfl
    rw [e]
    cases ht : takeF 100 s with
    | none => exact ⟨fun x hx => (by cases hx), fun _ => h2 ht⟩
    | some x =>
      refine ⟨fun y hy => ?_, fun h => by cases h⟩
      cases hy
      refine ⟨?_, h1 x ht⟩
      obtain ⟨m0, m1, m2, m3, m4, m5, m6, v, m8, m9, m10, rfl, hv⟩ := hI
      obtain ⟨z, hz⟩ := takeF_I (.inl rfl) ht
      refine ⟨m0, z, m2, m3, m4, m5, m6, v, m8, m9, m10, ?_, fun h => hv (by omega)⟩
      dsimp only
      rw [hz]; rfl
  | 2, hi, u, s, hI => by
    obtain ⟨h1, h2⟩ := tMI0_r u 2 2 hi (by kernel_rfl) (by omega) s
    have e : gtM 2 u s = (takeF 100 s).map fun x => (u.set 2 x.1, x.2) := rfl
    rw [e]
    cases ht : takeF 100 s with
    | none => exact ⟨fun x hx => (by cases hx), fun _ => h2 ht⟩
    | some x =>
      refine ⟨fun y hy => ?_, fun h => by cases h⟩
      cases hy
      refine ⟨?_, h1 x ht⟩
      obtain ⟨m0, m1, m2, m3, m4, m5, m6, v, m8, m9, m10, rfl, hv⟩ := hI
      obtain ⟨z, hz⟩ := takeF_I (.inl rfl) ht
      refine ⟨m0, m1, z, m3, m4, m5, m6, v, m8, m9, m10, ?_, fun h => hv (by omega)⟩
      dsimp only
      rw [hz]; rfl
  | 3, hi, u, s, hI => by
    obtain ⟨h1, h2⟩ := tMI0_r u 3 3 hi (by kernel_rfl) (by omega) s
    have e : gtM 3 u s = (takeF 100 s).map fun x => (u.set 3 x.1, x.2) := rfl
    rw [e]
    cases ht : takeF 100 s with
    | none => exact ⟨fun x hx => (by cases hx), fun _ => h2 ht⟩
    | some x =>
      refine ⟨fun y hy => ?_, fun h => by cases h⟩
      cases hy
      refine ⟨?_, h1 x ht⟩
      obtain ⟨m0, m1, m2, m3, m4, m5, m6, v, m8, m9, m10, rfl, hv⟩ := hI
      obtain ⟨z, hz⟩ := takeF_I (.inl rfl) ht
      refine ⟨m0, m1, m2, z, m4, m5, m6, v, m8, m9, m10, ?_, fun h => hv (by omega)⟩
      dsimp only
      rw [hz]; rfl
  | 4, hi, u, s, hI => by
    obtain ⟨h1, h2⟩ := tMI0_r u 4 4 hi (by kernel_rfl) (by omega) s
    have e : gtM 4 u s = (takeF 100 s).map fun x => (u.set 4 x.1, x.2) := rfl
    rw [e]
    cases ht : takeF 100 s with
    | none => exact ⟨fun x hx => (by cases hx), fun _ => h2 ht⟩
    | some x =>
      refine ⟨fun y hy => ?_, fun h => by cases h⟩
      cases hy
      refine ⟨?_, h1 x ht⟩
      obtain ⟨m0, m1, m2, m3, m4, m5, m6, v, m8, m9, m10, rfl, hv⟩ := hI
      obtain ⟨z, hz⟩ := takeF_I (.inl rfl) ht
      refine ⟨m0, m1, m2, m3, z, m5, m6, v, m8, m9, m10, ?_, fun h => hv (by omega)⟩
      dsimp only
      rw [hz]; rfl
  | 5, hi, u, s, hI => by
    obtain ⟨h1, h2⟩ := tMI0_r u 5 5 hi (by kernel_rfl) (by omega) s
    have e : gtM 5 u s = (takeF 100 s).map fun x => (u.set 5 x.1, x.2) := rfl
    rw [e]
    cases ht : takeF 100 s with
    | none => exact ⟨fun x hx => (by cases hx), fun _ => h2 ht⟩
    | some x =>
      refine ⟨fun y hy => ?_, fun h => by cases h⟩
      cases hy
      refine ⟨?_, h1 x ht⟩
      obtain ⟨m0, m1, m2, m3, m4, m5, m6, v, m8, m9, m10, rfl, hv⟩ := hI
      obtain ⟨z, hz⟩ := takeF_I (.inl rfl) ht
      refine ⟨m0, m1, m2, m3, m4, z, m6, v, m8, m9, m10, ?_, fun h => hv (by omega)⟩
      dsimp only
      rw [hz]; rfl
  | 6, hi, u, s, hI => by
    obtain ⟨h1, h2⟩ := tMI0_r u 6 6 hi (by kernel_rfl) (by omega) s
    have e : gtM 6 u s = (takeF 100 s).map fun x => (u.set 6 x.1, x.2) := rfl
    rw [e]
    cases ht : takeF 100 s with
    | none => exact ⟨fun x hx => (by cases hx), fun _ => h2 ht⟩
    | some x =>
      refine ⟨fun y hy => ?_, fun h => by cases h⟩
      cases hy
      refine ⟨?_, h1 x ht⟩
      obtain ⟨m0, m1, m2, m3, m4, m5, m6, v, m8, m9, m10, rfl, hv⟩ := hI
      obtain ⟨z, hz⟩ := takeF_I (.inl rfl) ht
      refine ⟨m0, m1, m2, m3, m4, m5, z, v, m8, m9, m10, ?_, fun h => hv (by omega)⟩
      dsimp only
      rw [hz]; rfl
  | 7, hi, u, s, hI => by
    obtain ⟨h1, h2⟩ := tMI0_r u 7 8 hi (by kernel_rfl) (by omega) s
    have e : gtM 7 u s = (takeF 100 s).map fun x => (u.set 8 x.1, x.2) := rfl
    rw [e]
    cases ht : takeF 100 s with
    | none => exact ⟨fun x hx => (by cases hx), fun _ => h2 ht⟩
    | some x =>
      refine ⟨fun y hy => ?_, fun h => by cases h⟩
      cases hy
      refine ⟨?_, h1 x ht⟩
      obtain ⟨m0, m1, m2, m3, m4, m5, m6, v, m8, m9, m10, rfl, hv⟩ := hI
      obtain ⟨z, hz⟩ := takeF_I (.inl rfl) ht
      refine ⟨m0, m1, m2, m3, m4, m5, m6, v, z, m9, m10, ?_, fun h => hv (by omega)⟩
      dsimp only
      rw [hz]; rfl
  | 8, hi, u, s, hI => by
    obtain ⟨h1, h2⟩ := tMB0_r u 8 9 hi (by kernel_rfl) (by omega) s
    have e : gtM 8 u s = (takeF 101 s).map fun x => (u.set 9 x.1, x.2) := rfl
    rw [e]
    cases ht : takeF 101 s with
    | none => exact ⟨fun x hx => (by cases hx), fun _ => h2 ht⟩
    | some x =>
      refine ⟨fun y hy => ?_, fun h => by cases h⟩
      cases hy
      refine ⟨?_, h1 x ht⟩
      obtain ⟨m0, m1, m2, m3, m4, m5, m6, v, m8, m9, m10, rfl, hv⟩ := hI
      obtain ⟨z, hz⟩ := takeF_B ht
      refine ⟨m0, m1, m2, m3, m4, m5, m6, v, m8, z, m10, ?_, fun h => hv (by omega)⟩
      dsimp only
      rw [hz]; rfl
  | 9, hi, u, s, hI => by
    obtain ⟨m0, m1, m2, m3, m4, m5, m6, v, m8, m9, m10, rfl, hv⟩ := hI
    obtain rfl := hv (by omega)
    obtain ⟨h1, h2⟩ := tMN_r m0 m1 m2 m3 m4 m5 m6 m8 m9 m10 s
    have e : gtM 9 (rM m0 m1 m2 m3 m4 m5 m6 (.fsl true 0 [] (some 0)) m8 m9 m10) s = (tL 111 s).map fun x => (rM m0 m1 m2 m3 m4 m5 m6 (listV x.1) m8 m9 m10, x.2) := by
      show Option.map _ ((tL 111 s).map _) = _
      cases tL 111 s <;> rfl
    rw [e]
    cases ht : tL 111 s with
    | none => exact ⟨fun x hx => (by cases hx), fun _ => h2 ht⟩
    | some x => exact ⟨fun y hy => (by cases hy; exact ⟨⟨_, _, _, _, _, _, _, _, _, _, _, rfl, fun h => absurd h (by omega)⟩, h1 x ht⟩), fun h => by cases h⟩
  | 10, hi, u, s, hI => by
    obtain ⟨h1, h2⟩ := tMS0_r u 10 10 hi (by kernel_rfl) (by omega) s
    have e : gtM 10 u s = (takeF 104 s).map fun x => (u.set 10 x.1, x.2) := rfl
    rw [e]
    cases ht : takeF 104 s with
    | none => exact ⟨fun x hx => (by cases hx), fun _ => h2 ht⟩
    | some x =>
      refine ⟨fun y hy => ?_, fun h => by cases h⟩
      cases hy
      refine ⟨?_, h1 x ht⟩
      obtain ⟨m0, m1, m2, m3, m4, m5, m6, v, m8, m9, m10, rfl, hv⟩ := hI
      obtain ⟨z, hz⟩ := takeF_S ht
      refine ⟨m0, m1, m2, m3, m4, m5, m6, v, m8, m9, z, ?_, fun h => absurd h (by omega)⟩
      dsimp only
      rw [hz]; rfl
  | n + 11, hi, u, s, _ => absurd hi (by omega)
theorem takesM_ok (u : List AVal) (hI : ivM 0 u) (s : ByteArray) (x : (List AVal) × ByteArray) (hb : seqG gtM 11 0 u s = some x) :
    FOk Try.prog 60 [.ptr 0 1 0 0, .slc false 1 1 0 11 none] [.rows true 1 [[.str s]], .rows false 1 flMt, .rows true 11 [u]] (.tuple []) [.rows true 1 [[.str x.2]], .rows false 1 flMt, .rows true 11 [x.1]] := by
  have r := (takes_run (c := loopNo Try.f60 0) 11 (fun i => rgtM (i : Nat)) (fun (u : List AVal) s => hptM u s) gtM ivM 0 (fun u s _ => TripN.wp (tMX_wp u 11 s ⟨by kernel_rfl, rfl, rfl, rfl⟩)) tM_round 11 0 (by omega) u s hI).1 x hb
  exact (evalF_ok followed Try.func60 (by kernel_rfl) (show evalF Try.prog Try.f60 [.ptr 0 1 0 0, .slc false 1 1 0 11 none] [.rows true 1 [[.str s]], .rows false 1 flMt, .rows true 11 [u]] [Dec.compact (keepM 117 [0, 15, 16, 17]) [0, 1, 2], Dec.loop (.exit 0) (rgtM 11) (hptM x.1 x.2)] = .ok (FRes.mk (.tuple []) (hptM x.1 x.2) [(owed Try.prog 3).loop (loopNo Try.f60 0) (rgtM 0) (hptM u s) (.exit 0) (rgtM 11) (hptM x.1 x.2)]) by kernel_rfl) (allP_of ⟨r.trip, trivial⟩)).move [0, 1, 2] (by kernel_rfl) (by kernel_rfl) (by kernel_rfl)
end Go.L12
end

section
set_option linter.unusedVariables false
set_option maxRecDepth 100000
namespace Go.L12
open Go Go.Abs Go.Proofs

theorem rTM_1 (u0 : List AVal) (k k2 : Nat) (bs bs2 : List (List AVal))
    (h1 : FOk Try.prog 64 [AVal.ptr 0 2 0 0, AVal.slc false 1 1 0 11 none] [AObj.rows false 2 [[AVal.ptr 0 2 0 0, AVal.slc false 2 1 0 k none]], AObj.rows false 1 (flM 3), AObj.trows 5 true 1 bs, AObj.rows true 11 [u0]] (AVal.tuple []) [AObj.rows false 2 [[AVal.ptr 0 2 0 0, AVal.slc false 4 1 0 k2 none]], AObj.rows false 1 (flM 3), AObj.dead, AObj.rows true 11 [u0], AObj.trows 5 true 1 bs2]) :
    TripN Try.prog 5 (codeTail (codeTail (bodyOf Try.f53))) (mkR 8 [(0, AVal.ptr 0 2 0 0), (1, AVal.slc false 1 1 0 11 none), (4, AVal.ptr 4 1 0 0)]) ([AObj.rows false 2 [[AVal.ptr 0 2 0 0, AVal.slc false 2 1 0 k none]], AObj.rows false 1 (flM 3), AObj.trows 5 true 1 bs, AObj.rows true 11 [u0], AObj.rows true 1 [[iI 0]]]) (AExit.ret) (mkR 8 [(4, AVal.ptr 4 1 0 0)]) ([AObj.rows false 2 [[AVal.ptr 0 2 0 0, AVal.slc false 5 1 0 k2 none]], AObj.rows false 1 (flM 3), AObj.dead, AObj.rows true 11 [u0], AObj.rows true 1 [[iI 0]], AObj.trows 5 true 1 bs2]) :=
  evalT (st := St.mk (mkR 8 [(0, AVal.ptr 0 2 0 0), (1, AVal.slc false 1 1 0 11 none), (4, AVal.ptr 4 1 0 0)]) ([AObj.rows false 2 [[AVal.ptr 0 2 0 0, AVal.slc false 2 1 0 k none]], AObj.rows false 1 (flM 3), AObj.trows 5 true 1 bs, AObj.rows true 11 [u0], AObj.rows true 1 [[iI 0]]]) ([Dec.use [0, 1, 2, 3] [AVal.ptr 0 2 0 0, AVal.slc false 1 1 0 11 none] [AObj.rows false 2 [[AVal.ptr 0 2 0 0, AVal.slc false 2 1 0 k none]], AObj.rows false 1 (flM 3), AObj.trows 5 true 1 bs, AObj.rows true 11 [u0]] (AVal.tuple []) [AObj.rows false 2 [[AVal.ptr 0 2 0 0, AVal.slc false 4 1 0 k2 none]], AObj.rows false 1 (flM 3), AObj.dead, AObj.rows true 11 [u0], AObj.trows 5 true 1 bs2]]) []) (st' := St.mk (mkR 8 [(0, AVal.ptr 0 2 0 0), (1, AVal.slc false 1 1 0 11 none), (4, AVal.ptr 4 1 0 0), (5, AVal.ptr 0 2 0 0), (6, AVal.slc false 1 1 0 11 none), (7, AVal.tuple [])]) ([AObj.rows false 2 [[AVal.ptr 0 2 0 0, AVal.slc false 5 1 0 k2 none]], AObj.rows false 1 (flM 3), AObj.dead, AObj.rows true 11 [u0], AObj.rows true 1 [[iI 0]], AObj.trows 5 true 1 bs2]) ([]) (tr 2 ++ ((Owed.use (owed Try.prog 5) 64 [0, 1, 2, 3] [AVal.ptr 0 2 0 0, AVal.slc false 1 1 0 11 none] [AObj.rows false 2 [[AVal.ptr 0 2 0 0, AVal.slc false 2 1 0 k none]], AObj.rows false 1 (flM 3), AObj.trows 5 true 1 bs, AObj.rows true 11 [u0], AObj.rows true 1 [[iI 0]]] [AVal.ptr 0 2 0 0, AVal.slc false 1 1 0 11 none] [AObj.rows false 2 [[AVal.ptr 0 2 0 0, AVal.slc false 2 1 0 k none]], AObj.rows false 1 (flM 3), AObj.trows 5 true 1 bs, AObj.rows true 11 [u0]] (AVal.tuple []) [AObj.rows false 2 [[AVal.ptr 0 2 0 0, AVal.slc false 4 1 0 k2 none]], AObj.rows false 1 (flM 3), AObj.dead, AObj.rows true 11 [u0], AObj.trows 5 true 1 bs2]) :: []))) followed (by kernel_rfl) (allP_of (trC 2 ⟨⟨h1, rfl, rfl, rfl⟩, trivial⟩)) (keepM 8 [4]) ([0, 1, 2, 3, 4, 5]) (by kernel_rfl) (by kernel_rfl) (by kernel_rfl)

theorem rTnM_1 (u0 : List AVal) (k : Nat) (bs : List (List AVal))
    (h1 : FOk Try.prog 64 [AVal.ptr 0 2 0 0, AVal.slc false 1 1 0 11 none] [AObj.rows false 2 [[AVal.ptr 0 2 0 0, AVal.slc false 2 1 0 k none]], AObj.rows false 1 (flM 3), AObj.trows 5 true 1 bs, AObj.rows true 11 [u0]] (AVal.pan 117) [AObj.dead, AObj.dead, AObj.dead, AObj.dead]) :
    TripN Try.prog 5 (codeTail (codeTail (bodyOf Try.f53))) (mkR 8 [(0, AVal.ptr 0 2 0 0), (1, AVal.slc false 1 1 0 11 none), (4, AVal.ptr 4 1 0 0)]) ([AObj.rows false 2 [[AVal.ptr 0 2 0 0, AVal.slc false 2 1 0 k none]], AObj.rows false 1 (flM 3), AObj.trows 5 true 1 bs, AObj.rows true 11 [u0], AObj.rows true 1 [[iI 0]]]) (AExit.pan 117) (mkR 8 [(4, AVal.ptr 4 1 0 0)]) ([AObj.dead, AObj.dead, AObj.dead, AObj.dead, AObj.rows true 1 [[iI 0]]]) :=
  evalT (st := St.mk (mkR 8 [(0, AVal.ptr 0 2 0 0), (1, AVal.slc false 1 1 0 11 none), (4, AVal.ptr 4 1 0 0)]) ([AObj.rows false 2 [[AVal.ptr 0 2 0 0, AVal.slc false 2 1 0 k none]], AObj.rows false 1 (flM 3), AObj.trows 5 true 1 bs, AObj.rows true 11 [u0], AObj.rows true 1 [[iI 0]]]) ([Dec.use [0, 1, 2, 3] [AVal.ptr 0 2 0 0, AVal.slc false 1 1 0 11 none] [AObj.rows false 2 [[AVal.ptr 0 2 0 0, AVal.slc false 2 1 0 k none]], AObj.rows false 1 (flM 3), AObj.trows 5 true 1 bs, AObj.rows true 11 [u0]] (AVal.pan 117) [AObj.dead, AObj.dead, AObj.dead, AObj.dead]]) []) (st' := St.mk (mkR 8 [(0, AVal.ptr 0 2 0 0), (1, AVal.slc false 1 1 0 11 none), (4, AVal.ptr 4 1 0 0), (5, AVal.ptr 0 2 0 0), (6, AVal.slc false 1 1 0 11 none)]) ([AObj.dead, AObj.dead, AObj.dead, AObj.dead, AObj.rows true 1 [[iI 0]]]) ([]) ((Owed.use (owed Try.prog 5) 64 [0, 1, 2, 3] [AVal.ptr 0 2 0 0, AVal.slc false 1 1 0 11 none] [AObj.rows false 2 [[AVal.ptr 0 2 0 0, AVal.slc false 2 1 0 k none]], AObj.rows false 1 (flM 3), AObj.trows 5 true 1 bs, AObj.rows true 11 [u0], AObj.rows true 1 [[iI 0]]] [AVal.ptr 0 2 0 0, AVal.slc false 1 1 0 11 none] [AObj.rows false 2 [[AVal.ptr 0 2 0 0, AVal.slc false 2 1 0 k none]], AObj.rows false 1 (flM 3), AObj.trows 5 true 1 bs, AObj.rows true 11 [u0]] (AVal.pan 117) [AObj.dead, AObj.dead, AObj.dead, AObj.dead]) :: [])) followed (by kernel_rfl) (allP_of ⟨⟨h1, rfl, rfl, rfl⟩, trivial⟩) (keepM 8 [4]) ([0, 1, 2, 3, 4]) (by kernel_rfl) (by kernel_rfl) (by kernel_rfl)

theorem rFM_1 (u0 v0 : List AVal) (m s s2 : ByteArray) (b : Bool)
    (h1 : FOk Try.prog 58 [AVal.bool (ByteArray.toList s2 == ByteArray.toList (ByteArray.mk #[]))] [] (AVal.tuple []) [])
    (h2 : FOk Try.prog 60 [AVal.ptr 0 1 0 0, AVal.slc false 1 1 0 11 none] [AObj.rows true 1 [[AVal.str (ByteArray.extract s (Int.toNat (↑(ByteArray.size m) : Int)) (Int.toNat (↑(ByteArray.size s) : Int)))]], AObj.rows false 1 (flM 2), AObj.rows true 11 [u0]] (AVal.tuple []) [AObj.rows true 1 [[AVal.str s2]], AObj.rows false 1 (flM 2), AObj.rows true 11 [v0]])
    (h3 : decide (0 ≤ (↑(ByteArray.size m) : Int) ∧ (↑(ByteArray.size m) : Int) ≤ (↑(ByteArray.size s) : Int) ∧ (↑(ByteArray.size s) : Int) ≤ (↑(ByteArray.size s) : Int)) = true)
    (h4 : FOk Try.prog 58 [AVal.bool true] [] (AVal.tuple []) [])
    (h5 : FOk Try.prog 59 [AVal.str s, AVal.str m] [] (AVal.bool true) []) :
    TripN Try.prog 4 (codeTail (codeTail (bodyOf Try.f40))) (mkR 20 [(1, AVal.str m), (2, AVal.slc false 0 1 0 11 none), (3, AVal.ptr 2 1 0 0), (6, AVal.ptr 3 1 0 0)]) ([AObj.rows false 1 (flM 1), AObj.rows true 11 [u0], AObj.rows true 1 [[AVal.str s]], AObj.rows true 1 [[iI 0]]]) (AExit.ret) (mkR 20 [(6, AVal.ptr 3 1 0 0)]) ([AObj.rows false 1 (flM 1), AObj.rows true 11 [v0], AObj.rows true 1 [[AVal.str s2]], AObj.rows true 1 [[iI 0]]]) :=
  evalT (st := St.mk (mkR 20 [(1, AVal.str m), (2, AVal.slc false 0 1 0 11 none), (3, AVal.ptr 2 1 0 0), (6, AVal.ptr 3 1 0 0)]) ([AObj.rows false 1 (flM 1), AObj.rows true 11 [u0], AObj.rows true 1 [[AVal.str s]], AObj.rows true 1 [[iI 0]]]) ([Dec.use [] [AVal.str s, AVal.str m] [] (AVal.bool true) [], Dec.use [] [AVal.bool true] [] (AVal.tuple []) [], Dec.use [2, 0, 1] [AVal.ptr 0 1 0 0, AVal.slc false 1 1 0 11 none] [AObj.rows true 1 [[AVal.str (ByteArray.extract s (Int.toNat (↑(ByteArray.size m) : Int)) (Int.toNat (↑(ByteArray.size s) : Int)))]], AObj.rows false 1 (flM 2), AObj.rows true 11 [u0]] (AVal.tuple []) [AObj.rows true 1 [[AVal.str s2]], AObj.rows false 1 (flM 2), AObj.rows true 11 [v0]], Dec.use [] [AVal.bool (ByteArray.toList s2 == ByteArray.toList (ByteArray.mk #[]))] [] (AVal.tuple []) []]) []) (st' := St.mk (mkR 20 [(1, AVal.str m), (2, AVal.slc false 0 1 0 11 none), (3, AVal.ptr 2 1 0 0), (6, AVal.ptr 3 1 0 0), (7, AVal.str s), (8, AVal.str m), (9, AVal.bool true), (10, AVal.tuple []), (11, AVal.str s), (12, AVal.str m), (13, iI (↑(ByteArray.size m) : Int)), (14, AVal.str (ByteArray.extract s (Int.toNat (↑(ByteArray.size m) : Int)) (Int.toNat (↑(ByteArray.size s) : Int)))), (15, AVal.slc false 0 1 0 11 none), (16, AVal.tuple []), (17, AVal.str s2), (18, AVal.bool (ByteArray.toList s2 == ByteArray.toList (ByteArray.mk #[]))), (19, AVal.tuple [])]) ([AObj.rows false 1 (flM 1), AObj.rows true 11 [v0], AObj.rows true 1 [[AVal.str s2]], AObj.rows true 1 [[iI 0]]]) ([]) (tr 2 ++ ((Owed.use (owed Try.prog 4) 58 [] [AVal.bool (ByteArray.toList s2 == ByteArray.toList (ByteArray.mk #[]))] [AObj.rows false 1 (flM 1), AObj.rows true 11 [v0], AObj.rows true 1 [[AVal.str s2]], AObj.rows true 1 [[iI 0]]] [AVal.bool (ByteArray.toList s2 == ByteArray.toList (ByteArray.mk #[]))] [] (AVal.tuple []) []) :: (tr 3 ++ ((Owed.use (owed Try.prog 4) 60 [2, 0, 1] [AVal.ptr 2 1 0 0, AVal.slc false 0 1 0 11 none] [AObj.rows false 1 (flM 1), AObj.rows true 11 [u0], AObj.rows true 1 [[AVal.str (ByteArray.extract s (Int.toNat (↑(ByteArray.size m) : Int)) (Int.toNat (↑(ByteArray.size s) : Int)))]], AObj.rows true 1 [[iI 0]]] [AVal.ptr 0 1 0 0, AVal.slc false 1 1 0 11 none] [AObj.rows true 1 [[AVal.str (ByteArray.extract s (Int.toNat (↑(ByteArray.size m) : Int)) (Int.toNat (↑(ByteArray.size s) : Int)))]], AObj.rows false 1 (flM 2), AObj.rows true 11 [u0]] (AVal.tuple []) [AObj.rows true 1 [[AVal.str s2]], AObj.rows false 1 (flM 2), AObj.rows true 11 [v0]]) :: (tr 2 ++ ((decide (0 ≤ (↑(ByteArray.size m) : Int) ∧ (↑(ByteArray.size m) : Int) ≤ (↑(ByteArray.size s) : Int) ∧ (↑(ByteArray.size s) : Int) ≤ (↑(ByteArray.size s) : Int)) = true) :: (tr 3 ++ ((Owed.use (owed Try.prog 4) 58 [] [AVal.bool true] [AObj.rows false 1 (flM 1), AObj.rows true 11 [u0], AObj.rows true 1 [[AVal.str s]], AObj.rows true 1 [[iI 0]]] [AVal.bool true] [] (AVal.tuple []) []) :: ((Owed.use (owed Try.prog 4) 59 [] [AVal.str s, AVal.str m] [AObj.rows false 1 (flM 1), AObj.rows true 11 [u0], AObj.rows true 1 [[AVal.str s]], AObj.rows true 1 [[iI 0]]] [AVal.str s, AVal.str m] [] (AVal.bool true) []) :: (tr 3 ++ []))))))))))) followed (by kernel_rfl) (allP_of (trC 2 ⟨⟨h1, rfl, rfl, rfl⟩, (trC 3 ⟨⟨h2, rfl, rfl, rfl⟩, (trC 2 ⟨h3, (trC 3 ⟨⟨h4, rfl, rfl, rfl⟩, ⟨⟨h5, rfl, rfl, rfl⟩, (trC 3 trivial)⟩⟩)⟩)⟩)⟩)) (keepM 20 [6]) ([0, 1, 2, 3]) (by kernel_rfl) (by kernel_rfl) (by kernel_rfl)

theorem bTM_1 (u0 : List AVal) (k2 : Nat) (bs2 : List (List AVal)) :
    TripN Try.prog 6 (codeTail (bodyOf Try.f57)) (catchRegs 16 4 1 7 AVal.nili) ([AObj.rows false 2 [[AVal.ptr 0 2 0 0, AVal.slc false 5 1 0 k2 none]], AObj.rows false 1 (flM 3), AObj.dead, AObj.rows true 11 [u0], AObj.rows true 1 [[iI 0]], AObj.trows 5 true 1 bs2]) (AExit.normal) (mkR 16 []) ([AObj.rows false 2 [[AVal.ptr 0 2 0 0, AVal.slc false 5 1 0 k2 none]], AObj.rows false 1 (flM 3), AObj.dead, AObj.rows true 11 [u0], AObj.rows true 1 [[iI 0]], AObj.trows 5 true 1 bs2]) :=
  evalT (st := St.mk (catchRegs 16 4 1 7 AVal.nili) ([AObj.rows false 2 [[AVal.ptr 0 2 0 0, AVal.slc false 5 1 0 k2 none]], AObj.rows false 1 (flM 3), AObj.dead, AObj.rows true 11 [u0], AObj.rows true 1 [[iI 0]], AObj.trows 5 true 1 bs2]) ([Dec.br true]) []) (st' := St.mk (mkR 16 [(0, AVal.ptr 4 1 0 0), (1, iI 1), (2, AVal.tuple []), (3, AVal.tuple []), (4, AVal.nili), (5, AVal.tuple []), (6, AVal.tuple []), (7, AVal.nili), (8, AVal.tuple []), (9, AVal.tt true), (10, AVal.tuple []), (11, AVal.tuple []), (12, AVal.tuple []), (13, AVal.tuple []), (14, AVal.tuple []), (15, AVal.tuple [])]) ([AObj.rows false 2 [[AVal.ptr 0 2 0 0, AVal.slc false 5 1 0 k2 none]], AObj.rows false 1 (flM 3), AObj.dead, AObj.rows true 11 [u0], AObj.rows true 1 [[iI 0]], AObj.trows 5 true 1 bs2]) ([]) (tr 1 ++ [])) followed (by kernel_rfl) (allP_of (trC 1 trivial)) (keepM 16 []) ([0, 1, 2, 3, 4, 5]) (by kernel_rfl) (by kernel_rfl) (by kernel_rfl)

theorem bTnM_1 (x : Nat) :
    TripN Try.prog 5 (codeTail (bodyOf Try.f57)) (catchRegs 16 4 1 7 (AVal.iface 117 (AVal.agg []))) ([AObj.dead, AObj.dead, AObj.dead, AObj.dead, AObj.rows true 1 [[iI 0]]]) (AExit.normal) (mkR 16 []) ([AObj.dead, AObj.dead, AObj.dead, AObj.dead, AObj.rows true 1 [[iI 1]]]) :=
  evalT (st := St.mk (catchRegs 16 4 1 7 (AVal.iface 117 (AVal.agg []))) ([AObj.dead, AObj.dead, AObj.dead, AObj.dead, AObj.rows true 1 [[iI 0]]]) ([Dec.br false]) []) (st' := St.mk (mkR 16 [(0, AVal.ptr 4 1 0 0), (1, iI 1), (2, AVal.tuple []), (3, AVal.tuple []), (4, AVal.tuple []), (5, AVal.ptr 5 0 0 0), (6, AVal.tuple []), (7, AVal.iface 117 (AVal.agg [])), (8, AVal.tuple []), (9, AVal.tt false), (10, AVal.tuple [AVal.agg [], AVal.tt true]), (11, AVal.tt true), (12, AVal.agg []), (13, AVal.ptr 4 1 0 0), (14, iI 1), (15, AVal.ptr 4 1 0 0)]) ([AObj.dead, AObj.dead, AObj.dead, AObj.dead, AObj.rows true 1 [[iI 1]], AObj.rows true 0 [[]]]) ([]) (tr 4 ++ ((false = false) :: []))) followed (by kernel_rfl) (allP_of (trC 4 ⟨rfl, trivial⟩)) (keepM 16 []) ([0, 1, 2, 3, 4]) (by kernel_rfl) (by kernel_rfl) (by kernel_rfl)

theorem bFM_1 (v0 : List AVal) (s2 : ByteArray) :
    TripN Try.prog 4 (codeTail (bodyOf Try.f57)) (catchRegs 16 3 140 7 AVal.nili) ([AObj.rows false 1 (flM 1), AObj.rows true 11 [v0], AObj.rows true 1 [[AVal.str s2]], AObj.rows true 1 [[iI 0]]]) (AExit.normal) (mkR 16 []) ([AObj.rows false 1 (flM 1), AObj.rows true 11 [v0], AObj.rows true 1 [[AVal.str s2]], AObj.rows true 1 [[iI 0]]]) :=
  evalT (st := St.mk (catchRegs 16 3 140 7 AVal.nili) ([AObj.rows false 1 (flM 1), AObj.rows true 11 [v0], AObj.rows true 1 [[AVal.str s2]], AObj.rows true 1 [[iI 0]]]) ([Dec.br true]) []) (st' := St.mk (mkR 16 [(0, AVal.ptr 3 1 0 0), (1, iI 140), (2, AVal.tuple []), (3, AVal.tuple []), (4, AVal.nili), (5, AVal.tuple []), (6, AVal.tuple []), (7, AVal.nili), (8, AVal.tuple []), (9, AVal.tt true), (10, AVal.tuple []), (11, AVal.tuple []), (12, AVal.tuple []), (13, AVal.tuple []), (14, AVal.tuple []), (15, AVal.tuple [])]) ([AObj.rows false 1 (flM 1), AObj.rows true 11 [v0], AObj.rows true 1 [[AVal.str s2]], AObj.rows true 1 [[iI 0]]]) ([]) (tr 1 ++ [])) followed (by kernel_rfl) (allP_of (trC 1 trivial)) (keepM 16 []) ([0, 1, 2, 3]) (by kernel_rfl) (by kernel_rfl) (by kernel_rfl)

theorem hTM_1 (u0 : List AVal) (k : Nat) (bs : List (List AVal)) :
    TripN Try.prog 4 (codeHd (bodyOf Try.f53)) ([AVal.ptr 0 2 0 0, AVal.slc false 1 1 0 11 none] ++ List.replicate (8 - 2) aundef) ([AObj.rows false 2 [[AVal.ptr 0 2 0 0, AVal.slc false 2 1 0 k none]], AObj.rows false 1 (flM 3), AObj.trows 5 true 1 bs, AObj.rows true 11 [u0]]) (AExit.normal) (mkR 8 [(0, AVal.ptr 0 2 0 0), (1, AVal.slc false 1 1 0 11 none), (4, AVal.ptr 4 1 0 0)]) ([AObj.rows false 2 [[AVal.ptr 0 2 0 0, AVal.slc false 2 1 0 k none]], AObj.rows false 1 (flM 3), AObj.trows 5 true 1 bs, AObj.rows true 11 [u0], AObj.rows true 1 [[iI 0]]]) :=
  evalT (st := St.mk ([AVal.ptr 0 2 0 0, AVal.slc false 1 1 0 11 none] ++ List.replicate (8 - 2) aundef) ([AObj.rows false 2 [[AVal.ptr 0 2 0 0, AVal.slc false 2 1 0 k none]], AObj.rows false 1 (flM 3), AObj.trows 5 true 1 bs, AObj.rows true 11 [u0]]) ([]) []) (st' := St.mk (mkR 8 [(0, AVal.ptr 0 2 0 0), (1, AVal.slc false 1 1 0 11 none), (2, AVal.tuple []), (3, AVal.tuple []), (4, AVal.ptr 4 1 0 0), (5, AVal.tuple []), (6, AVal.tuple []), (7, AVal.tuple [])]) ([AObj.rows false 2 [[AVal.ptr 0 2 0 0, AVal.slc false 2 1 0 k none]], AObj.rows false 1 (flM 3), AObj.trows 5 true 1 bs, AObj.rows true 11 [u0], AObj.rows true 1 [[iI 0]]]) ([]) []) followed (by kernel_rfl) (allP_of trivial) (keepM 8 [0, 1, 4]) ([0, 1, 2, 3, 4]) (by kernel_rfl) (by kernel_rfl) (by kernel_rfl)

theorem hFM_1 (u0 : List AVal) (s m : ByteArray) :
    TripN Try.prog 2 (codeHd (bodyOf Try.f40)) ([AVal.str s, AVal.str m, AVal.slc false 0 1 0 11 none] ++ List.replicate (20 - 3) aundef) ([AObj.rows false 1 (flM 1), AObj.rows true 11 [u0]]) (AExit.normal) (mkR 20 [(1, AVal.str m), (2, AVal.slc false 0 1 0 11 none), (3, AVal.ptr 2 1 0 0), (6, AVal.ptr 3 1 0 0)]) ([AObj.rows false 1 (flM 1), AObj.rows true 11 [u0], AObj.rows true 1 [[AVal.str s]], AObj.rows true 1 [[iI 0]]]) :=
  evalT (st := St.mk ([AVal.str s, AVal.str m, AVal.slc false 0 1 0 11 none] ++ List.replicate (20 - 3) aundef) ([AObj.rows false 1 (flM 1), AObj.rows true 11 [u0]]) ([]) []) (st' := St.mk (mkR 20 [(0, AVal.str s), (1, AVal.str m), (2, AVal.slc false 0 1 0 11 none), (3, AVal.ptr 2 1 0 0), (4, AVal.tuple []), (5, AVal.tuple []), (6, AVal.ptr 3 1 0 0), (7, AVal.tuple []), (8, AVal.tuple []), (9, AVal.tuple []), (10, AVal.tuple []), (11, AVal.tuple []), (12, AVal.tuple []), (13, AVal.tuple []), (14, AVal.tuple []), (15, AVal.tuple []), (16, AVal.tuple []), (17, AVal.tuple []), (18, AVal.tuple []), (19, AVal.tuple [])]) ([AObj.rows false 1 (flM 1), AObj.rows true 11 [u0], AObj.rows true 1 [[AVal.str s]], AObj.rows true 1 [[iI 0]]]) ([]) []) followed (by kernel_rfl) (allP_of trivial) (keepM 20 [1, 2, 3, 6]) ([0, 1, 2, 3]) (by kernel_rfl) (by kernel_rfl) (by kernel_rfl)

end Go.L12
end

section
set_option linter.unusedVariables false
set_option maxRecDepth 100000
namespace Go.L12.D
open Go Go.Abs Go.Proofs Go.L12
variable [DS]

theorem rTM_1 (u0 : List AVal) (k k2 : Nat) (bs bs2 : List (List AVal))
    (h1 : FOk Try.prog 64 [AVal.ptr 0 2 0 0, AVal.slc false 1 1 0 11 none] [AObj.rows false 2 [[AVal.ptr 0 2 0 0, AVal.slc false 2 1 0 k none]], AObj.rows false 1 (flM 3), AObj.trows 5 true 1 bs, AObj.rows true 11 [u0]] (AVal.tuple []) [AObj.rows false 2 [[AVal.ptr 0 2 0 0, AVal.slc false 4 1 0 k2 none]], AObj.rows false 1 (flM 3), AObj.dead, AObj.rows true 11 [u0], AObj.trows 5 true 1 bs2]) :
    TripN Try.prog 5 (codeTail (codeTail (bodyOf Try.f53))) (mkR 8 [(0, AVal.ptr 0 2 0 0), (1, AVal.slc false 1 1 0 11 none), (4, AVal.ptr 4 1 0 0)]) ([AObj.rows false 2 [[AVal.ptr 0 2 0 0, AVal.slc false 2 1 0 k none]], AObj.rows false 1 (flM 3), AObj.trows 5 true 1 bs, AObj.rows true 11 [u0], AObj.rows true 1 [[AVal.int IntKind.i64 0]]]) (AExit.ret) (mkR 8 [(4, AVal.ptr 4 1 0 0)]) ([AObj.rows false 2 [[AVal.ptr 0 2 0 0, AVal.slc false 5 1 0 k2 none]], AObj.rows false 1 (flM 3), AObj.dead, AObj.rows true 11 [u0], AObj.rows true 1 [[AVal.int IntKind.i64 0]], AObj.trows 5 true 1 bs2]) :=
  evalT (st := St.mk (mkR 8 [(0, AVal.ptr 0 2 0 0), (1, AVal.slc false 1 1 0 11 none), (4, AVal.ptr 4 1 0 0)]) ([AObj.rows false 2 [[AVal.ptr 0 2 0 0, AVal.slc false 2 1 0 k none]], AObj.rows false 1 (flM 3), AObj.trows 5 true 1 bs, AObj.rows true 11 [u0], AObj.rows true 1 [[AVal.int IntKind.i64 0]]]) ([Dec.use [0, 1, 2, 3] [AVal.ptr 0 2 0 0, AVal.slc false 1 1 0 11 none] [AObj.rows false 2 [[AVal.ptr 0 2 0 0, AVal.slc false 2 1 0 k none]], AObj.rows false 1 (flM 3), AObj.trows 5 true 1 bs, AObj.rows true 11 [u0]] (AVal.tuple []) [AObj.rows false 2 [[AVal.ptr 0 2 0 0, AVal.slc false 4 1 0 k2 none]], AObj.rows false 1 (flM 3), AObj.dead, AObj.rows true 11 [u0], AObj.trows 5 true 1 bs2]]) []) (st' := St.mk (mkR 8 [(0, AVal.ptr 0 2 0 0), (1, AVal.slc false 1 1 0 11 none), (4, AVal.ptr 4 1 0 0), (5, AVal.ptr 0 2 0 0), (6, AVal.slc false 1 1 0 11 none), (7, AVal.tuple [])]) ([AObj.rows false 2 [[AVal.ptr 0 2 0 0, AVal.slc false 5 1 0 k2 none]], AObj.rows false 1 (flM 3), AObj.dead, AObj.rows true 11 [u0], AObj.rows true 1 [[AVal.int IntKind.i64 0]], AObj.trows 5 true 1 bs2]) ([]) (tr 2 ++ ((Owed.use (owed Try.prog 5) 64 [0, 1, 2, 3] [AVal.ptr 0 2 0 0, AVal.slc false 1 1 0 11 none] [AObj.rows false 2 [[AVal.ptr 0 2 0 0, AVal.slc false 2 1 0 k none]], AObj.rows false 1 (flM 3), AObj.trows 5 true 1 bs, AObj.rows true 11 [u0], AObj.rows true 1 [[AVal.int IntKind.i64 0]]] [AVal.ptr 0 2 0 0, AVal.slc false 1 1 0 11 none] [AObj.rows false 2 [[AVal.ptr 0 2 0 0, AVal.slc false 2 1 0 k none]], AObj.rows false 1 (flM 3), AObj.trows 5 true 1 bs, AObj.rows true 11 [u0]] (AVal.tuple []) [AObj.rows false 2 [[AVal.ptr 0 2 0 0, AVal.slc false 4 1 0 k2 none]], AObj.rows false 1 (flM 3), AObj.dead, AObj.rows true 11 [u0], AObj.trows 5 true 1 bs2]) :: []))) followed (by kernel_rfl) (allP_of (trC 2 ⟨⟨h1, rfl, rfl, rfl⟩, trivial⟩)) (keepM 8 [4]) ([0, 1, 2, 3, 4, 5]) (by kernel_rfl) (by kernel_rfl) (by kernel_rfl)

theorem rTnM_1 (u0 : List AVal) (k : Nat) (bs : List (List AVal))
    (h1 : FOk Try.prog 64 [AVal.ptr 0 2 0 0, AVal.slc false 1 1 0 11 none] [AObj.rows false 2 [[AVal.ptr 0 2 0 0, AVal.slc false 2 1 0 k none]], AObj.rows false 1 (flM 3), AObj.trows 5 true 1 bs, AObj.rows true 11 [u0]] (AVal.pan 117) [AObj.dead, AObj.dead, AObj.dead, AObj.dead]) :
    TripN Try.prog 5 (codeTail (codeTail (bodyOf Try.f53))) (mkR 8 [(0, AVal.ptr 0 2 0 0), (1, AVal.slc false 1 1 0 11 none), (4, AVal.ptr 4 1 0 0)]) ([AObj.rows false 2 [[AVal.ptr 0 2 0 0, AVal.slc false 2 1 0 k none]], AObj.rows false 1 (flM 3), AObj.trows 5 true 1 bs, AObj.rows true 11 [u0], AObj.rows true 1 [[AVal.int IntKind.i64 0]]]) (AExit.pan 117) (mkR 8 [(4, AVal.ptr 4 1 0 0)]) ([AObj.dead, AObj.dead, AObj.dead, AObj.dead, AObj.rows true 1 [[AVal.int IntKind.i64 0]]]) :=
  evalT (st := St.mk (mkR 8 [(0, AVal.ptr 0 2 0 0), (1, AVal.slc false 1 1 0 11 none), (4, AVal.ptr 4 1 0 0)]) ([AObj.rows false 2 [[AVal.ptr 0 2 0 0, AVal.slc false 2 1 0 k none]], AObj.rows false 1 (flM 3), AObj.trows 5 true 1 bs, AObj.rows true 11 [u0], AObj.rows true 1 [[AVal.int IntKind.i64 0]]]) ([Dec.use [0, 1, 2, 3] [AVal.ptr 0 2 0 0, AVal.slc false 1 1 0 11 none] [AObj.rows false 2 [[AVal.ptr 0 2 0 0, AVal.slc false 2 1 0 k none]], AObj.rows false 1 (flM 3), AObj.trows 5 true 1 bs, AObj.rows true 11 [u0]] (AVal.pan 117) [AObj.dead, AObj.dead, AObj.dead, AObj.dead]]) []) (st' := St.mk (mkR 8 [(0, AVal.ptr 0 2 0 0), (1, AVal.slc false 1 1 0 11 none), (4, AVal.ptr 4 1 0 0), (5, AVal.ptr 0 2 0 0), (6, AVal.slc false 1 1 0 11 none)]) ([AObj.dead, AObj.dead, AObj.dead, AObj.dead, AObj.rows true 1 [[AVal.int IntKind.i64 0]]]) ([]) ((Owed.use (owed Try.prog 5) 64 [0, 1, 2, 3] [AVal.ptr 0 2 0 0, AVal.slc false 1 1 0 11 none] [AObj.rows false 2 [[AVal.ptr 0 2 0 0, AVal.slc false 2 1 0 k none]], AObj.rows false 1 (flM 3), AObj.trows 5 true 1 bs, AObj.rows true 11 [u0], AObj.rows true 1 [[AVal.int IntKind.i64 0]]] [AVal.ptr 0 2 0 0, AVal.slc false 1 1 0 11 none] [AObj.rows false 2 [[AVal.ptr 0 2 0 0, AVal.slc false 2 1 0 k none]], AObj.rows false 1 (flM 3), AObj.trows 5 true 1 bs, AObj.rows true 11 [u0]] (AVal.pan 117) [AObj.dead, AObj.dead, AObj.dead, AObj.dead]) :: [])) followed (by kernel_rfl) (allP_of ⟨⟨h1, rfl, rfl, rfl⟩, trivial⟩) (keepM 8 [4]) ([0, 1, 2, 3, 4]) (by kernel_rfl) (by kernel_rfl) (by kernel_rfl)

theorem rFM_1 (u0 v0 : List AVal) (m s s2 : ByteArray) (b : Bool)
    (h1 : FOk Try.prog 58 [AVal.bool (ByteArray.toList s2 == ByteArray.toList (ByteArray.mk #[]))] [] (AVal.tuple []) [])
    (h2 : FOk Try.prog 60 [AVal.ptr 0 1 0 0, AVal.slc false 1 1 0 11 none] [AObj.rows true 1 [[AVal.str (ByteArray.extract s (Int.toNat (↑(ByteArray.size m) : Int)) (Int.toNat (↑(ByteArray.size s) : Int)))]], AObj.rows false 1 (flM 2), AObj.rows true 11 [u0]] (AVal.tuple []) [AObj.rows true 1 [[AVal.str s2]], AObj.rows false 1 (flM 2), AObj.rows true 11 [v0]])
    (h3 : decide (0 ≤ (↑(ByteArray.size m) : Int) ∧ (↑(ByteArray.size m) : Int) ≤ (↑(ByteArray.size s) : Int) ∧ (↑(ByteArray.size s) : Int) ≤ (↑(ByteArray.size s) : Int)) = true)
    (h4 : FOk Try.prog 58 [AVal.bool true] [] (AVal.tuple []) [])
    (h5 : FOk Try.prog 59 [AVal.str s, AVal.str m] [] (AVal.bool true) []) :
    TripN Try.prog 4 (codeTail (codeTail (bodyOf Try.f40))) (mkR 20 [(1, AVal.str m), (2, AVal.slc false 0 1 0 11 none), (3, AVal.ptr 2 1 0 0), (6, AVal.ptr 3 1 0 0)]) ([AObj.rows false 1 (flM 1), AObj.rows true 11 [u0], AObj.rows true 1 [[AVal.str s]], AObj.rows true 1 [[AVal.int IntKind.i64 0]]]) (AExit.ret) (mkR 20 [(6, AVal.ptr 3 1 0 0)]) ([AObj.rows false 1 (flM 1), AObj.rows true 11 [v0], AObj.rows true 1 [[AVal.str s2]], AObj.rows true 1 [[AVal.int IntKind.i64 0]]]) :=
  evalT (st := St.mk (mkR 20 [(1, AVal.str m), (2, AVal.slc false 0 1 0 11 none), (3, AVal.ptr 2 1 0 0), (6, AVal.ptr 3 1 0 0)]) ([AObj.rows false 1 (flM 1), AObj.rows true 11 [u0], AObj.rows true 1 [[AVal.str s]], AObj.rows true 1 [[AVal.int IntKind.i64 0]]]) ([Dec.use [] [AVal.str s, AVal.str m] [] (AVal.bool true) [], Dec.use [] [AVal.bool true] [] (AVal.tuple []) [], Dec.use [2, 0, 1] [AVal.ptr 0 1 0 0, AVal.slc false 1 1 0 11 none] [AObj.rows true 1 [[AVal.str (ByteArray.extract s (Int.toNat (↑(ByteArray.size m) : Int)) (Int.toNat (↑(ByteArray.size s) : Int)))]], AObj.rows false 1 (flM 2), AObj.rows true 11 [u0]] (AVal.tuple []) [AObj.rows true 1 [[AVal.str s2]], AObj.rows false 1 (flM 2), AObj.rows true 11 [v0]], Dec.use [] [AVal.bool (ByteArray.toList s2 == ByteArray.toList (ByteArray.mk #[]))] [] (AVal.tuple []) []]) []) (st' := St.mk (mkR 20 [(1, AVal.str m), (2, AVal.slc false 0 1 0 11 none), (3, AVal.ptr 2 1 0 0), (6, AVal.ptr 3 1 0 0), (7, AVal.str s), (8, AVal.str m), (9, AVal.bool true), (10, AVal.tuple []), (11, AVal.str s), (12, AVal.str m), (13, AVal.int IntKind.i64 (↑(ByteArray.size m) : Int)), (14, AVal.str (ByteArray.extract s (Int.toNat (↑(ByteArray.size m) : Int)) (Int.toNat (↑(ByteArray.size s) : Int)))), (15, AVal.slc false 0 1 0 11 none), (16, AVal.tuple []), (17, AVal.str s2), (18, AVal.bool (ByteArray.toList s2 == ByteArray.toList (ByteArray.mk #[]))), (19, AVal.tuple [])]) ([AObj.rows false 1 (flM 1), AObj.rows true 11 [v0], AObj.rows true 1 [[AVal.str s2]], AObj.rows true 1 [[AVal.int IntKind.i64 0]]]) ([]) (tr 2 ++ ((Owed.use (owed Try.prog 4) 58 [] [AVal.bool (ByteArray.toList s2 == ByteArray.toList (ByteArray.mk #[]))] [AObj.rows false 1 (flM 1), AObj.rows true 11 [v0], AObj.rows true 1 [[AVal.str s2]], AObj.rows true 1 [[AVal.int IntKind.i64 0]]] [AVal.bool (ByteArray.toList s2 == ByteArray.toList (ByteArray.mk #[]))] [] (AVal.tuple []) []) :: (tr 3 ++ ((Owed.use (owed Try.prog 4) 60 [2, 0, 1] [AVal.ptr 2 1 0 0, AVal.slc false 0 1 0 11 none] [AObj.rows false 1 (flM 1), AObj.rows true 11 [u0], AObj.rows true 1 [[AVal.str (ByteArray.extract s (Int.toNat (↑(ByteArray.size m) : Int)) (Int.toNat (↑(ByteArray.size s) : Int)))]], AObj.rows true 1 [[AVal.int IntKind.i64 0]]] [AVal.ptr 0 1 0 0, AVal.slc false 1 1 0 11 none] [AObj.rows true 1 [[AVal.str (ByteArray.extract s (Int.toNat (↑(ByteArray.size m) : Int)) (Int.toNat (↑(ByteArray.size s) : Int)))]], AObj.rows false 1 (flM 2), AObj.rows true 11 [u0]] (AVal.tuple []) [AObj.rows true 1 [[AVal.str s2]], AObj.rows false 1 (flM 2), AObj.rows true 11 [v0]]) :: (tr 2 ++ ((decide (0 ≤ (↑(ByteArray.size m) : Int) ∧ (↑(ByteArray.size m) : Int) ≤ (↑(ByteArray.size s) : Int) ∧ (↑(ByteArray.size s) : Int) ≤ (↑(ByteArray.size s) : Int)) = true) :: (tr 3 ++ ((Owed.use (owed Try.prog 4) 58 [] [AVal.bool true] [AObj.rows false 1 (flM 1), AObj.rows true 11 [u0], AObj.rows true 1 [[AVal.str s]], AObj.rows true 1 [[AVal.int IntKind.i64 0]]] [AVal.bool true] [] (AVal.tuple []) []) :: ((Owed.use (owed Try.prog 4) 59 [] [AVal.str s, AVal.str m] [AObj.rows false 1 (flM 1), AObj.rows true 11 [u0], AObj.rows true 1 [[AVal.str s]], AObj.rows true 1 [[AVal.int IntKind.i64 0]]] [AVal.str s, AVal.str m] [] (AVal.bool true) []) :: (tr 3 ++ []))))))))))) followed (by kernel_rfl) (allP_of (trC 2 ⟨⟨h1, rfl, rfl, rfl⟩, (trC 3 ⟨⟨h2, rfl, rfl, rfl⟩, (trC 2 ⟨h3, (trC 3 ⟨⟨h4, rfl, rfl, rfl⟩, ⟨⟨h5, rfl, rfl, rfl⟩, (trC 3 trivial)⟩⟩)⟩)⟩)⟩)) (keepM 20 [6]) ([0, 1, 2, 3]) (by kernel_rfl) (by kernel_rfl) (by kernel_rfl)

end Go.L12.D
end

section
set_option linter.unusedVariables false
set_option linter.unusedSimpArgs false
set_option maxRecDepth 100000
namespace Go.L12
open Go Go.Abs Go.Proofs

theorem triedM_ok (u0 : List AVal) (k k2 : Nat) (bs bs2 : List (List AVal)) (h : FOk Try.prog 64 [.ptr 0 2 0 0, .slc false 1 1 0 11 none] [.rows false 2 [[.ptr 0 2 0 0, .slc false 2 1 0 k none]], .rows false 1 (flM 3), .trows 5 true 1 bs, .rows true 11 [u0]] (.tuple []) [.rows false 2 [[.ptr 0 2 0 0, .slc false 4 1 0 k2 none]], .rows false 1 (flM 3), .dead, .rows true 11 [u0], .trows 5 true 1 bs2]) :
    FOk Try.prog 53 [.ptr 0 2 0 0, .slc false 1 1 0 11 none] [.rows false 2 [[.ptr 0 2 0 0, .slc false 2 1 0 k none]], .rows false 1 (flM 3), .trows 5 true 1 bs, .rows true 11 [u0]] (.int .i64 0) [.rows false 2 [[.ptr 0 2 0 0, .slc false 4 1 0 k2 none]], .rows false 1 (flM 3), .dead, .rows true 11 [u0], .trows 5 true 1 bs2] :=
  (defer_calls (P := Try.prog) (f := 53) (fn := Try.f53) (c0 := .seq (codeHd (bodyOf Try.f53)) (.seq (.region 1 #[firstOp (codeTail (bodyOf Try.f53))] false) (codeTail (codeTail (bodyOf Try.f53))))) (rest := codeTail (codeTail (bodyOf Try.f53))) (blk := codeTail (bodyOf Try.f57)) (dop := firstOp (codeTail (bodyOf Try.f53))) (rop := firstOp (bodyOf Try.f57)) (gn := Try.f57) (g := 57) (no := 1) (k := 4) (kk := 7) (id := 4) (rid := 1) (rid2 := 0) (ts := #[102, 26]) (tsr := #[]) (xs := [.ptr 0 2 0 0, .slc false 1 1 0 11 none]) (σ := [.rows false 2 [[.ptr 0 2 0 0, .slc false 2 1 0 k none]], .rows false 1 (flM 3), .trows 5 true 1 bs, .rows true 11 [u0]]) (σ1 := [.rows false 2 [[.ptr 0 2 0 0, .slc false 2 1 0 k none]], .rows false 1 (flM 3), .trows 5 true 1 bs, .rows true 11 [u0], .rows true 1 [[.int .i64 0]]]) (y := ([.int .i64 0], tr 3 ++ []))
    rfl Try.func53 (by kernel_rfl) (by kernel_rfl) (by kernel_rfl) (by kernel_rfl) (by kernel_rfl) Try.func57 (by kernel_rfl) (by kernel_rfl) (by kernel_rfl) (by kernel_rfl) (by kernel_rfl) (by kernel_rfl)
    (Pre.one (hTM_1 u0 k bs)) (fun ds => @D.rTM_1 ⟨ds⟩ u0 k k2 bs bs2 h) (by kernel_rfl) (.inl ⟨rfl, rfl⟩) (bTM_1 u0 k2 bs2) (by kernel_rfl) tr3).move [0, 1, 2, 3, 5] (by kernel_rfl) (by kernel_rfl) (by kernel_rfl)
theorem triedM_no (u0 : List AVal) (k : Nat) (bs : List (List AVal)) (h : FOk Try.prog 64 [.ptr 0 2 0 0, .slc false 1 1 0 11 none] [.rows false 2 [[.ptr 0 2 0 0, .slc false 2 1 0 k none]], .rows false 1 (flM 3), .trows 5 true 1 bs, .rows true 11 [u0]] (.pan 117) [.dead, .dead, .dead, .dead]) :
    FOk Try.prog 53 [.ptr 0 2 0 0, .slc false 1 1 0 11 none] [.rows false 2 [[.ptr 0 2 0 0, .slc false 2 1 0 k none]], .rows false 1 (flM 3), .trows 5 true 1 bs, .rows true 11 [u0]] (.int .i64 1) [.dead, .dead, .dead, .dead] :=
  (defer_calls (P := Try.prog) (f := 53) (fn := Try.f53) (c0 := .seq (codeHd (bodyOf Try.f53)) (.seq (.region 1 #[firstOp (codeTail (bodyOf Try.f53))] false) (codeTail (codeTail (bodyOf Try.f53))))) (rest := codeTail (codeTail (bodyOf Try.f53))) (blk := codeTail (bodyOf Try.f57)) (dop := firstOp (codeTail (bodyOf Try.f53))) (rop := firstOp (bodyOf Try.f57)) (gn := Try.f57) (g := 57) (no := 1) (k := 4) (kk := 7) (id := 4) (rid := 1) (rid2 := 0) (ts := #[102, 26]) (tsr := #[]) (xs := [.ptr 0 2 0 0, .slc false 1 1 0 11 none]) (σ := [.rows false 2 [[.ptr 0 2 0 0, .slc false 2 1 0 k none]], .rows false 1 (flM 3), .trows 5 true 1 bs, .rows true 11 [u0]]) (σ1 := [.rows false 2 [[.ptr 0 2 0 0, .slc false 2 1 0 k none]], .rows false 1 (flM 3), .trows 5 true 1 bs, .rows true 11 [u0], .rows true 1 [[.int .i64 0]]]) (y := ([.int .i64 1], tr 3 ++ []))
    rfl Try.func53 (by kernel_rfl) (by kernel_rfl) (by kernel_rfl) (by kernel_rfl) (by kernel_rfl) Try.func57 (by kernel_rfl) (by kernel_rfl) (by kernel_rfl) (by kernel_rfl) (by kernel_rfl) (by kernel_rfl)
    (Pre.one (hTM_1 u0 k bs)) (fun ds => @D.rTnM_1 ⟨ds⟩ u0 k bs h) (by kernel_rfl) (.inr ⟨117, rfl, rfl⟩) (bTnM_1 0) (by kernel_rfl) tr3).move [0, 1, 2, 3] (by kernel_rfl) (by kernel_rfl) (by kernel_rfl)
theorem fromM_ok (u0 v0 : List AVal) (s m : ByteArray) (hp : (lB m <+: lB s)) (h : FOk Try.prog 60 [.ptr 0 1 0 0, .slc false 1 1 0 11 none] [.rows true 1 [[.str (s.extract m.size s.size)]], .rows false 1 (flM 2), .rows true 11 [u0]] (.tuple []) [.rows true 1 [[.str ⟨#[]⟩]], .rows false 1 (flM 2), .rows true 11 [v0]]) :
    FOk Try.prog 40 [.str s, .str m, .slc false 0 1 0 11 none] [.rows false 1 (flM 1), .rows true 11 [u0]] (.int .i64 0) [.rows false 1 (flM 1), .rows true 11 [v0]] :=
  have hl := hp.length_le
  have hl : m.size ≤ s.size := by rw [lB_length, lB_length] at hl; exact hl
  (defer_calls (P := Try.prog) (f := 40) (fn := Try.f40) (c0 := .seq (codeHd (bodyOf Try.f40)) (.seq (.region 1 #[firstOp (codeTail (bodyOf Try.f40))] false) (codeTail (codeTail (bodyOf Try.f40))))) (rest := codeTail (codeTail (bodyOf Try.f40))) (blk := codeTail (bodyOf Try.f57)) (dop := firstOp (codeTail (bodyOf Try.f40))) (rop := firstOp (bodyOf Try.f57)) (gn := Try.f57) (g := 57) (no := 140) (k := 6) (kk := 7) (id := 3) (rid := 1) (rid2 := 0) (ts := #[102, 26]) (tsr := #[]) (xs := [.str s, .str m, .slc false 0 1 0 11 none]) (σ := [.rows false 1 (flM 1), .rows true 11 [u0]]) (σ1 := [.rows false 1 (flM 1), .rows true 11 [u0], .rows true 1 [[.str s]], .rows true 1 [[.int .i64 0]]]) (y := ([.int .i64 0], tr 3 ++ []))
    rfl Try.func40 (by kernel_rfl) (by kernel_rfl) (by kernel_rfl) (by kernel_rfl) (by kernel_rfl) Try.func57 (by kernel_rfl) (by kernel_rfl) (by kernel_rfl) (by kernel_rfl) (by kernel_rfl) (by kernel_rfl)
    (Pre.one (hFM_1 u0 s m)) (fun ds => @D.rFM_1 ⟨ds⟩ u0 v0 m s ⟨#[]⟩ true (right_ok _ (by simp)) h (decide_eq_true (by omega)) (right_ok _ rfl) (by have := hasPrefix_ok s m; rw [decide_eq_true hp] at this; exact this)) (by kernel_rfl) (.inl ⟨rfl, rfl⟩) (bFM_1 v0 ⟨#[]⟩) (by kernel_rfl) tr3).move [0, 1] (by kernel_rfl) (by kernel_rfl) (by kernel_rfl)
end Go.L12
end

section
set_option linter.unusedVariables false
set_option linter.unusedSimpArgs false
set_option maxRecDepth 100000
namespace Go.L12
open Go Go.Abs Go.Proofs

theorem wsM_ok : FOk Try.prog 52 [.ptr 0 2 0 0, .str ⟨#[77]⟩] [.trows 94 false 2 [[.nilp, .fsl true 0 [] (some 0)]]] (.tuple [.int .i64 1, .nili]) [.rows false 2 [[.ptr 0 2 0 0, .slc false 1 1 0 1 none]], .trows 5 true 1 [brow 77]] := ws0_1 ⟨#[77]⟩ (by decide)
end Go.L12
end

section
set_option linter.unusedVariables false
set_option linter.unusedSimpArgs false
set_option maxRecDepth 100000
namespace Go.L12
open Go Go.Abs Go.Proofs

theorem fldM_1 (m0 m1 m2 m3 m4 m5 m6 m8 : Int) (m9 : Bool) (m10 : ByteArray) (nb : Bool) (rs : List (List AVal)) :
    FOk Try.prog 47 ([AVal.ptr 0 11 0 0]) ([AObj.rows false 11 [rM m0 m1 m2 m3 m4 m5 m6 (AVal.fsl nb 2 rs none) m8 m9 m10]]) (AVal.slc false 1 1 0 11 (some 11)) ([AObj.rows false 11 [(rM m0 m1 m2 m3 m4 m5 m6 (AVal.fsl nb 2 rs none) m8 m9 m10)], AObj.rows false 1 (flM 0)]) :=
  (evalF_ok followed Try.func47 (by kernel_rfl) (show evalF Try.prog Try.f47 ([AVal.ptr 0 11 0 0]) ([AObj.rows false 11 [rM m0 m1 m2 m3 m4 m5 m6 (AVal.fsl nb 2 rs none) m8 m9 m10]]) ([]) = .ok (FRes.mk (AVal.slc false 1 1 0 11 (some 11)) ([AObj.rows false 11 [(rM m0 m1 m2 m3 m4 m5 m6 (AVal.fsl nb 2 rs none) m8 m9 m10)], AObj.rows false 1 (flM 0)]) (tr 93 ++ [])) by kernel_rfl) (allP_of (trC 93 trivial))).move ([0, 1]) (by kernel_rfl) (by kernel_rfl) (by kernel_rfl)

theorem fldzM_1 (z : Int) :
    FOk Try.prog 47 ([AVal.ptr 0 11 0 0]) ([AObj.rows false 11 [[iI z, iI 0, iI 0, iI 0, iI 0, iI 0, iI 0, AVal.fsl true 0 [] (some 0), iI 0, AVal.tt false, AVal.str (ByteArray.mk #[])]]]) (AVal.slc false 1 1 0 11 (some 11)) ([AObj.rows false 11 [[iI z, iI 0, iI 0, iI 0, iI 0, iI 0, iI 0, AVal.fsl true 0 [] (some 0), iI 0, AVal.tt false, AVal.str (ByteArray.mk #[])]], AObj.rows false 1 (flM 0)]) :=
  (evalF_ok followed Try.func47 (by kernel_rfl) (show evalF Try.prog Try.f47 ([AVal.ptr 0 11 0 0]) ([AObj.rows false 11 [[iI z, iI 0, iI 0, iI 0, iI 0, iI 0, iI 0, AVal.fsl true 0 [] (some 0), iI 0, AVal.tt false, AVal.str (ByteArray.mk #[])]]]) ([]) = .ok (FRes.mk (AVal.slc false 1 1 0 11 (some 11)) ([AObj.rows false 11 [[iI z, iI 0, iI 0, iI 0, iI 0, iI 0, iI 0, AVal.fsl true 0 [] (some 0), iI 0, AVal.tt false, AVal.str (ByteArray.mk #[])]], AObj.rows false 1 (flM 0)]) (tr 93 ++ [])) by kernel_rfl) (allP_of (trC 93 trivial))).move ([0, 1]) (by kernel_rfl) (by kernel_rfl) (by kernel_rfl)

theorem putM_1 (u0 : List AVal) (l : List UInt8)
    (h1 : FOk Try.prog 54 [AVal.ptr 0 2 0 0] [AObj.rows false 2 [[AVal.ptr 0 2 0 0, AVal.slc false 1 1 0 (List.length l) none]], AObj.trows 5 true 1 (rowsL l)] (AVal.str (bS l)) [AObj.rows false 2 [[AVal.ptr 0 2 0 0, AVal.slc false 1 1 0 (List.length l) none]], AObj.dead])
    (h2 : FOk Try.prog 53 [AVal.ptr 0 2 0 0, AVal.slc false 1 1 0 11 none] [AObj.rows false 2 [[AVal.ptr 0 2 0 0, AVal.slc false 2 1 0 1 none]], AObj.rows false 1 (flM 3), AObj.trows 5 true 1 [[AVal.int IntKind.u8 77]], AObj.rows true 11 [u0]] (iI 0) [AObj.rows false 2 [[AVal.ptr 0 2 0 0, AVal.slc false 4 1 0 (List.length l) none]], AObj.rows false 1 (flM 3), AObj.dead, AObj.rows true 11 [u0], AObj.trows 5 true 1 (rowsL l)]) :
    FOk Try.prog 33 ([AVal.str (ByteArray.mk #[77]), AVal.slc false 0 1 0 11 none]) ([AObj.rows false 1 (flM 1), AObj.rows true 11 [u0]]) (AVal.tuple [AVal.str (bS l), iI 0]) ([AObj.rows false 1 (flM 1), AObj.rows true 11 [u0]]) :=
  (evalF_ok followed Try.func33 (by kernel_rfl) (show evalF Try.prog Try.f33 ([AVal.str (ByteArray.mk #[77]), AVal.slc false 0 1 0 11 none]) ([AObj.rows false 1 (flM 1), AObj.rows true 11 [u0]]) ([Dec.use [2] [AVal.ptr 0 2 0 0, AVal.str (ByteArray.mk #[77])] [AObj.trows 94 false 2 [[AVal.nilp, AVal.fsl true 0 [] (some 0)]]] (AVal.tuple [iI 1, AVal.nili]) [AObj.rows false 2 [[AVal.ptr 0 2 0 0, AVal.slc false 1 1 0 1 none]], AObj.trows 5 true 1 [[AVal.int IntKind.u8 77]]], Dec.use [2, 0, 3, 1] [AVal.ptr 0 2 0 0, AVal.slc false 1 1 0 11 none] [AObj.rows false 2 [[AVal.ptr 0 2 0 0, AVal.slc false 2 1 0 1 none]], AObj.rows false 1 (flM 3), AObj.trows 5 true 1 [[AVal.int IntKind.u8 77]], AObj.rows true 11 [u0]] (iI 0) [AObj.rows false 2 [[AVal.ptr 0 2 0 0, AVal.slc false 4 1 0 (List.length l) none]], AObj.rows false 1 (flM 3), AObj.dead, AObj.rows true 11 [u0], AObj.trows 5 true 1 (rowsL l)], Dec.br false, Dec.use [2, 4] [AVal.ptr 0 2 0 0] [AObj.rows false 2 [[AVal.ptr 0 2 0 0, AVal.slc false 1 1 0 (List.length l) none]], AObj.trows 5 true 1 (rowsL l)] (AVal.str (bS l)) [AObj.rows false 2 [[AVal.ptr 0 2 0 0, AVal.slc false 1 1 0 (List.length l) none]], AObj.dead]]) = .ok (FRes.mk (AVal.tuple [AVal.str (bS l), iI 0]) ([AObj.rows false 1 (flM 1), AObj.rows true 11 [u0], AObj.rows false 2 [[AVal.ptr 2 2 0 0, AVal.slc false 4 1 0 (List.length l) none]], AObj.dead, AObj.dead]) ((Owed.use (owed Try.prog 2) 54 [2, 4] [AVal.ptr 2 2 0 0] [AObj.rows false 1 (flM 1), AObj.rows true 11 [u0], AObj.rows false 2 [[AVal.ptr 2 2 0 0, AVal.slc false 4 1 0 (List.length l) none]], AObj.dead, AObj.trows 5 true 1 (rowsL l)] [AVal.ptr 0 2 0 0] [AObj.rows false 2 [[AVal.ptr 0 2 0 0, AVal.slc false 1 1 0 (List.length l) none]], AObj.trows 5 true 1 (rowsL l)] (AVal.str (bS l)) [AObj.rows false 2 [[AVal.ptr 0 2 0 0, AVal.slc false 1 1 0 (List.length l) none]], AObj.dead]) :: ((false = false) :: ((Owed.use (owed Try.prog 2) 53 [2, 0, 3, 1] [AVal.ptr 2 2 0 0, AVal.slc false 0 1 0 11 none] [AObj.rows false 1 (flM 1), AObj.rows true 11 [u0], AObj.rows false 2 [[AVal.ptr 2 2 0 0, AVal.slc false 3 1 0 1 none]], AObj.trows 5 true 1 [[AVal.int IntKind.u8 77]]] [AVal.ptr 0 2 0 0, AVal.slc false 1 1 0 11 none] [AObj.rows false 2 [[AVal.ptr 0 2 0 0, AVal.slc false 2 1 0 1 none]], AObj.rows false 1 (flM 3), AObj.trows 5 true 1 [[AVal.int IntKind.u8 77]], AObj.rows true 11 [u0]] (iI 0) [AObj.rows false 2 [[AVal.ptr 0 2 0 0, AVal.slc false 4 1 0 (List.length l) none]], AObj.rows false 1 (flM 3), AObj.dead, AObj.rows true 11 [u0], AObj.trows 5 true 1 (rowsL l)]) :: ((Owed.use (owed Try.prog 2) 52 [2] [AVal.ptr 2 2 0 0, AVal.str (ByteArray.mk #[77])] [AObj.rows false 1 (flM 1), AObj.rows true 11 [u0], AObj.trows 94 false 2 [[AVal.nilp, AVal.fsl true 0 [] (some 0)]]] [AVal.ptr 0 2 0 0, AVal.str (ByteArray.mk #[77])] [AObj.trows 94 false 2 [[AVal.nilp, AVal.fsl true 0 [] (some 0)]]] (AVal.tuple [iI 1, AVal.nili]) [AObj.rows false 2 [[AVal.ptr 0 2 0 0, AVal.slc false 1 1 0 1 none]], AObj.trows 5 true 1 [[AVal.int IntKind.u8 77]]]) :: []))))) by kernel_rfl) (allP_of ⟨⟨h1, rfl, rfl, rfl⟩, ⟨rfl, ⟨⟨h2, rfl, rfl, rfl⟩, ⟨⟨(@Go.L12.wsM_ok), rfl, rfl, rfl⟩, trivial⟩⟩⟩⟩)).move ([0, 1]) (by kernel_rfl) (by kernel_rfl) (by kernel_rfl)

def putM_T (u0 : List AVal) (l : List UInt8) (Q : AVal → AState → Prop) : Prop := (FOk Try.prog 53 [AVal.ptr 0 2 0 0, AVal.slc false 1 1 0 11 none] [AObj.rows false 2 [[AVal.ptr 0 2 0 0, AVal.slc false 2 1 0 1 none]], AObj.rows false 1 (flM 3), AObj.trows 5 true 1 [[AVal.int IntKind.u8 77]], AObj.rows true 11 [u0]] (iI 0) [AObj.rows false 2 [[AVal.ptr 0 2 0 0, AVal.slc false 4 1 0 (List.length l) none]], AObj.rows false 1 (flM 3), AObj.dead, AObj.rows true 11 [u0], AObj.trows 5 true 1 (rowsL l)]) ∧ (FOk Try.prog 54 [AVal.ptr 0 2 0 0] [AObj.rows false 2 [[AVal.ptr 0 2 0 0, AVal.slc false 1 1 0 (List.length l) none]], AObj.trows 5 true 1 (rowsL l)] (AVal.str (bS l)) [AObj.rows false 2 [[AVal.ptr 0 2 0 0, AVal.slc false 1 1 0 (List.length l) none]], AObj.dead]) ∧ Q (AVal.tuple [AVal.str (bS l), iI 0]) ([AObj.rows false 1 (flM 1), AObj.rows true 11 [u0]])
theorem putM_wp (u0 : List AVal) (l : List UInt8) {Q : AVal → AState → Prop} (h : putM_T u0 l Q) : ∃ r σ', FOk Try.prog 33 ([AVal.str (ByteArray.mk #[77]), AVal.slc false 0 1 0 11 none]) ([AObj.rows false 1 (flM 1), AObj.rows true 11 [u0]]) r σ' ∧ Q r σ' :=
  ⟨_, _, putM_1 u0 l (h.2.1) (h.1), h.2.2⟩


theorem putNM_1 (u0 : List AVal)
    (h1 : FOk Try.prog 53 [AVal.ptr 0 2 0 0, AVal.slc false 1 1 0 11 none] [AObj.rows false 2 [[AVal.ptr 0 2 0 0, AVal.slc false 2 1 0 1 none]], AObj.rows false 1 (flM 3), AObj.trows 5 true 1 [[AVal.int IntKind.u8 77]], AObj.rows true 11 [u0]] (iI 1) [AObj.dead, AObj.dead, AObj.dead, AObj.dead]) :
    FOk Try.prog 33 ([AVal.str (ByteArray.mk #[77]), AVal.slc false 0 1 0 11 none]) ([AObj.rows false 1 (flM 1), AObj.rows true 11 [u0]]) (AVal.tuple [AVal.str (ByteArray.mk #[]), iI 1]) ([AObj.dead, AObj.dead]) :=
  (evalF_ok followed Try.func33 (by kernel_rfl) (show evalF Try.prog Try.f33 ([AVal.str (ByteArray.mk #[77]), AVal.slc false 0 1 0 11 none]) ([AObj.rows false 1 (flM 1), AObj.rows true 11 [u0]]) ([Dec.use [2] [AVal.ptr 0 2 0 0, AVal.str (ByteArray.mk #[77])] [AObj.trows 94 false 2 [[AVal.nilp, AVal.fsl true 0 [] (some 0)]]] (AVal.tuple [iI 1, AVal.nili]) [AObj.rows false 2 [[AVal.ptr 0 2 0 0, AVal.slc false 1 1 0 1 none]], AObj.trows 5 true 1 [[AVal.int IntKind.u8 77]]], Dec.use [2, 0, 3, 1] [AVal.ptr 0 2 0 0, AVal.slc false 1 1 0 11 none] [AObj.rows false 2 [[AVal.ptr 0 2 0 0, AVal.slc false 2 1 0 1 none]], AObj.rows false 1 (flM 3), AObj.trows 5 true 1 [[AVal.int IntKind.u8 77]], AObj.rows true 11 [u0]] (iI 1) [AObj.dead, AObj.dead, AObj.dead, AObj.dead], Dec.br true]) = .ok (FRes.mk (AVal.tuple [AVal.str (ByteArray.mk #[]), iI 1]) ([AObj.dead, AObj.dead, AObj.dead, AObj.dead]) (tr 1 ++ ((Owed.use (owed Try.prog 2) 53 [2, 0, 3, 1] [AVal.ptr 2 2 0 0, AVal.slc false 0 1 0 11 none] [AObj.rows false 1 (flM 1), AObj.rows true 11 [u0], AObj.rows false 2 [[AVal.ptr 2 2 0 0, AVal.slc false 3 1 0 1 none]], AObj.trows 5 true 1 [[AVal.int IntKind.u8 77]]] [AVal.ptr 0 2 0 0, AVal.slc false 1 1 0 11 none] [AObj.rows false 2 [[AVal.ptr 0 2 0 0, AVal.slc false 2 1 0 1 none]], AObj.rows false 1 (flM 3), AObj.trows 5 true 1 [[AVal.int IntKind.u8 77]], AObj.rows true 11 [u0]] (iI 1) [AObj.dead, AObj.dead, AObj.dead, AObj.dead]) :: ((Owed.use (owed Try.prog 2) 52 [2] [AVal.ptr 2 2 0 0, AVal.str (ByteArray.mk #[77])] [AObj.rows false 1 (flM 1), AObj.rows true 11 [u0], AObj.trows 94 false 2 [[AVal.nilp, AVal.fsl true 0 [] (some 0)]]] [AVal.ptr 0 2 0 0, AVal.str (ByteArray.mk #[77])] [AObj.trows 94 false 2 [[AVal.nilp, AVal.fsl true 0 [] (some 0)]]] (AVal.tuple [iI 1, AVal.nili]) [AObj.rows false 2 [[AVal.ptr 0 2 0 0, AVal.slc false 1 1 0 1 none]], AObj.trows 5 true 1 [[AVal.int IntKind.u8 77]]]) :: [])))) by kernel_rfl) (allP_of (trC 1 ⟨⟨h1, rfl, rfl, rfl⟩, ⟨⟨(@Go.L12.wsM_ok), rfl, rfl, rfl⟩, trivial⟩⟩))).move ([0, 1]) (by kernel_rfl) (by kernel_rfl) (by kernel_rfl)

def putNM_T (u0 : List AVal) (Q : AVal → AState → Prop) : Prop := (FOk Try.prog 53 [AVal.ptr 0 2 0 0, AVal.slc false 1 1 0 11 none] [AObj.rows false 2 [[AVal.ptr 0 2 0 0, AVal.slc false 2 1 0 1 none]], AObj.rows false 1 (flM 3), AObj.trows 5 true 1 [[AVal.int IntKind.u8 77]], AObj.rows true 11 [u0]] (iI 1) [AObj.dead, AObj.dead, AObj.dead, AObj.dead]) ∧ Q (AVal.tuple [AVal.str (ByteArray.mk #[]), iI 1]) ([AObj.dead, AObj.dead])
theorem putNM_wp (u0 : List AVal) {Q : AVal → AState → Prop} (h : putNM_T u0 Q) : ∃ r σ', FOk Try.prog 33 ([AVal.str (ByteArray.mk #[77]), AVal.slc false 0 1 0 11 none]) ([AObj.rows false 1 (flM 1), AObj.rows true 11 [u0]]) r σ' ∧ Q r σ' :=
  ⟨_, _, putNM_1 u0 (h.1), h.2⟩


end Go.L12
end

section
set_option linter.unusedVariables false
set_option linter.unusedSimpArgs false
set_option maxRecDepth 100000
namespace Go.L12
open Go Go.Abs Go.Proofs

theorem put33M_ok (m0 m1 m2 m3 m4 m5 m6 m8 : Int) (m9 : Bool) (m10 : ByteArray) (nb : Bool) (rs : List (List AVal)) (hk : kM m0 m1 m2 m3 m4 m5 m6 m8 rs) (b : List UInt8) (hb : seqO (fpM (rM m0 m1 m2 m3 m4 m5 m6 (.fsl nb 2 rs none) m8 m9 m10)) 11 0 = some b) :
    FOk Try.prog 33 [.str ⟨#[77]⟩, .slc false 0 1 0 11 none] [.rows false 1 (flM 1), .rows false 11 [(rM m0 m1 m2 m3 m4 m5 m6 (.fsl nb 2 rs none) m8 m9 m10)]] (.tuple [.str (bS (77 :: b)), .int .i64 0]) [.rows false 1 (flM 1), .rows false 11 [(rM m0 m1 m2 m3 m4 m5 m6 (.fsl nb 2 rs none) m8 m9 m10)]] := by
  have hlen := seqO_len (fun i b h => putF_len h) 11 0 b hb
  have hp := putsM_ok m0 m1 m2 m3 m4 m5 m6 m8 m9 m10 nb rs hk [77] b (by simp) hb
  rw [show rowsL [77] = [brow 77] from by kernel_rfl] at hp
  have ht := triedM_ok (rM m0 m1 m2 m3 m4 m5 m6 (.fsl nb 2 rs none) m8 m9 m10) 1 ([77] ++ b).length [brow 77] (rowsL ([77] ++ b)) hp
  refine FOk.preObj 1 (.rows true 11 [(rM m0 m1 m2 m3 m4 m5 m6 (.fsl nb 2 rs none) m8 m9 m10)]) ?_ (by simp) rfl (fun F w ρ b h => ORel.unpure h rfl)
  refine FOk.weakObj (σ' := [.rows false 1 (flM 1), .rows true 11 [(rM m0 m1 m2 m3 m4 m5 m6 (.fsl nb 2 rs none) m8 m9 m10)]]) ?_ 1 (.rows false 11 [(rM m0 m1 m2 m3 m4 m5 m6 (.fsl nb 2 rs none) m8 m9 m10)]) (by simp) rfl (fun F w ρ b h => ORel.lead h)
  refine FOk.wp (putM_wp (rM m0 m1 m2 m3 m4 m5 m6 (.fsl nb 2 rs none) m8 m9 m10) (77 :: b) ?_)
  unfold putM_T
  exact ⟨ht, bst_ok (77 :: b) _ (List.length_map _).symm (by simp) (by simp; omega), rfl, rfl⟩
theorem put33M_no (m0 m1 m2 m3 m4 m5 m6 m8 : Int) (m9 : Bool) (m10 : ByteArray) (nb : Bool) (rs : List (List AVal)) (hk : kM m0 m1 m2 m3 m4 m5 m6 m8 rs) (hb : seqO (fpM (rM m0 m1 m2 m3 m4 m5 m6 (.fsl nb 2 rs none) m8 m9 m10)) 11 0 = none) :
    FOk Try.prog 33 [.str ⟨#[77]⟩, .slc false 0 1 0 11 none] [.rows false 1 (flM 1), .rows false 11 [(rM m0 m1 m2 m3 m4 m5 m6 (.fsl nb 2 rs none) m8 m9 m10)]] (.tuple [.str ⟨#[]⟩, .int .i64 1]) [.dead, .dead] := by
  have hp := putsM_no m0 m1 m2 m3 m4 m5 m6 m8 m9 m10 nb rs hk [77] (by simp) hb
  rw [show rowsL [77] = [brow 77] from by kernel_rfl] at hp
  have ht := triedM_no (rM m0 m1 m2 m3 m4 m5 m6 (.fsl nb 2 rs none) m8 m9 m10) 1 [brow 77] hp
  refine FOk.preObj 1 (.rows true 11 [(rM m0 m1 m2 m3 m4 m5 m6 (.fsl nb 2 rs none) m8 m9 m10)]) ?_ (by simp) rfl (fun F w ρ b h => ORel.unpure h rfl)
  refine FOk.wp (putNM_wp (rM m0 m1 m2 m3 m4 m5 m6 (.fsl nb 2 rs none) m8 m9 m10) ?_)
  unfold putNM_T
  exact ⟨ht, rfl, rfl⟩
theorem onum0M (n : Int) : FOk Try.prog 35 [.ptr 0 2 0 0, .int .i64 n] [.rows false 2 [[.slc false 1 1 0 1 (some 1), .tt false]], .rows true 1 [[.int .u8 77]]] (.tuple [])
      [.rows false 2 [[.slc false 2 1 0 ([77] ++ got (pI n)).length none, .bool (pI n).isNone]], .dead, .rows true 1 (rowsL ([77] ++ got (pI n)))] := onum0P n 77
end Go.L12
end

section
set_option linter.unusedVariables false
set_option linter.unusedSimpArgs false
set_option maxRecDepth 100000
namespace Go.L12
open Go Go.Abs Go.Proofs

theorem PutM_1 (m0 m1 m2 m3 m4 m5 m6 m8 : Int) (m9 : Bool) (m10 : ByteArray) (nb : Bool) (rs : List (List AVal)) (s : ByteArray) (e : Int)
    (h1 : FOk Try.prog 33 [AVal.str (ByteArray.mk #[77]), AVal.slc false 0 1 0 11 (some 11)] [AObj.rows false 1 (flM 1), AObj.rows false 11 [(rM m0 m1 m2 m3 m4 m5 m6 (AVal.fsl nb 2 rs none) m8 m9 m10)]] (AVal.tuple [AVal.str s, iI e]) [AObj.rows false 1 (flM 1), AObj.rows false 11 [(rM m0 m1 m2 m3 m4 m5 m6 (AVal.fsl nb 2 rs none) m8 m9 m10)]]) :
    FOk Try.prog 19 ([AVal.agg (rM m0 m1 m2 m3 m4 m5 m6 (AVal.fsl nb 2 rs none) m8 m9 m10)]) ([]) (AVal.tuple [AVal.str s, iI e]) ([]) :=
  (evalF_ok followed Try.func19 (by kernel_rfl) (show evalF Try.prog Try.f19 ([AVal.agg (rM m0 m1 m2 m3 m4 m5 m6 (AVal.fsl nb 2 rs none) m8 m9 m10)]) ([]) ([Dec.use [0] [AVal.ptr 0 11 0 0] [AObj.rows false 11 [(rM m0 m1 m2 m3 m4 m5 m6 (AVal.fsl nb 2 rs none) m8 m9 m10)]] (AVal.slc false 1 1 0 11 (some 11)) [AObj.rows false 11 [(rM m0 m1 m2 m3 m4 m5 m6 (AVal.fsl nb 2 rs none) m8 m9 m10)], AObj.rows false 1 (flM 0)], Dec.use [1, 0] [AVal.str (ByteArray.mk #[77]), AVal.slc false 0 1 0 11 (some 11)] [AObj.rows false 1 (flM 1), AObj.rows false 11 [(rM m0 m1 m2 m3 m4 m5 m6 (AVal.fsl nb 2 rs none) m8 m9 m10)]] (AVal.tuple [AVal.str s, iI e]) [AObj.rows false 1 (flM 1), AObj.rows false 11 [(rM m0 m1 m2 m3 m4 m5 m6 (AVal.fsl nb 2 rs none) m8 m9 m10)]]]) = .ok (FRes.mk (AVal.tuple [AVal.str s, iI e]) ([AObj.rows false 11 [(rM m0 m1 m2 m3 m4 m5 m6 (AVal.fsl nb 2 rs none) m8 m9 m10)], AObj.rows false 1 (flM 0)]) ((Owed.use (owed Try.prog 0) 33 [1, 0] [AVal.str (ByteArray.mk #[77]), AVal.slc false 1 1 0 11 (some 11)] [AObj.rows false 11 [(rM m0 m1 m2 m3 m4 m5 m6 (AVal.fsl nb 2 rs none) m8 m9 m10)], AObj.rows false 1 (flM 0)] [AVal.str (ByteArray.mk #[77]), AVal.slc false 0 1 0 11 (some 11)] [AObj.rows false 1 (flM 1), AObj.rows false 11 [(rM m0 m1 m2 m3 m4 m5 m6 (AVal.fsl nb 2 rs none) m8 m9 m10)]] (AVal.tuple [AVal.str s, iI e]) [AObj.rows false 1 (flM 1), AObj.rows false 11 [(rM m0 m1 m2 m3 m4 m5 m6 (AVal.fsl nb 2 rs none) m8 m9 m10)]]) :: ((Owed.use (owed Try.prog 0) 47 [0] [AVal.ptr 0 11 0 0] [AObj.rows false 11 [(rM m0 m1 m2 m3 m4 m5 m6 (AVal.fsl nb 2 rs none) m8 m9 m10)]] [AVal.ptr 0 11 0 0] [AObj.rows false 11 [(rM m0 m1 m2 m3 m4 m5 m6 (AVal.fsl nb 2 rs none) m8 m9 m10)]] (AVal.slc false 1 1 0 11 (some 11)) [AObj.rows false 11 [(rM m0 m1 m2 m3 m4 m5 m6 (AVal.fsl nb 2 rs none) m8 m9 m10)], AObj.rows false 1 (flM 0)]) :: []))) by kernel_rfl) (allP_of ⟨⟨h1, rfl, rfl, rfl⟩, ⟨⟨(@Go.L12.fldM_1 (m0) (m1) (m2) (m3) (m4) (m5) (m6) (m8) (m9) (m10) (nb) (rs)), rfl, rfl, rfl⟩, trivial⟩⟩)).move ([]) (by kernel_rfl) (by kernel_rfl) (by kernel_rfl)

def PutM_T (m0 m1 m2 m3 m4 m5 m6 m8 : Int) (m9 : Bool) (m10 : ByteArray) (nb : Bool) (rs : List (List AVal)) (s : ByteArray) (e : Int) (Q : AVal → AState → Prop) : Prop := (FOk Try.prog 33 [AVal.str (ByteArray.mk #[77]), AVal.slc false 0 1 0 11 (some 11)] [AObj.rows false 1 (flM 1), AObj.rows false 11 [(rM m0 m1 m2 m3 m4 m5 m6 (AVal.fsl nb 2 rs none) m8 m9 m10)]] (AVal.tuple [AVal.str s, iI e]) [AObj.rows false 1 (flM 1), AObj.rows false 11 [(rM m0 m1 m2 m3 m4 m5 m6 (AVal.fsl nb 2 rs none) m8 m9 m10)]]) ∧ Q (AVal.tuple [AVal.str s, iI e]) ([])
theorem PutM_wp (m0 m1 m2 m3 m4 m5 m6 m8 : Int) (m9 : Bool) (m10 : ByteArray) (nb : Bool) (rs : List (List AVal)) (s : ByteArray) (e : Int) {Q : AVal → AState → Prop} (h : PutM_T m0 m1 m2 m3 m4 m5 m6 m8 m9 m10 nb rs s e Q) : ∃ r σ', FOk Try.prog 19 ([AVal.agg (rM m0 m1 m2 m3 m4 m5 m6 (AVal.fsl nb 2 rs none) m8 m9 m10)]) ([]) r σ' ∧ Q r σ' :=
  ⟨_, _, PutM_1 m0 m1 m2 m3 m4 m5 m6 m8 m9 m10 nb rs s e (h.1), h.2⟩


theorem PutNM_1 (m0 m1 m2 m3 m4 m5 m6 m8 : Int) (m9 : Bool) (m10 : ByteArray) (nb : Bool) (rs : List (List AVal)) (s : ByteArray) (e : Int)
    (h1 : FOk Try.prog 33 [AVal.str (ByteArray.mk #[77]), AVal.slc false 0 1 0 11 (some 11)] [AObj.rows false 1 (flM 1), AObj.rows false 11 [(rM m0 m1 m2 m3 m4 m5 m6 (AVal.fsl nb 2 rs none) m8 m9 m10)]] (AVal.tuple [AVal.str s, iI e]) [AObj.dead, AObj.dead]) :
    FOk Try.prog 19 ([AVal.agg (rM m0 m1 m2 m3 m4 m5 m6 (AVal.fsl nb 2 rs none) m8 m9 m10)]) ([]) (AVal.tuple [AVal.str s, iI e]) ([]) :=
  (evalF_ok followed Try.func19 (by kernel_rfl) (show evalF Try.prog Try.f19 ([AVal.agg (rM m0 m1 m2 m3 m4 m5 m6 (AVal.fsl nb 2 rs none) m8 m9 m10)]) ([]) ([Dec.use [0] [AVal.ptr 0 11 0 0] [AObj.rows false 11 [(rM m0 m1 m2 m3 m4 m5 m6 (AVal.fsl nb 2 rs none) m8 m9 m10)]] (AVal.slc false 1 1 0 11 (some 11)) [AObj.rows false 11 [(rM m0 m1 m2 m3 m4 m5 m6 (AVal.fsl nb 2 rs none) m8 m9 m10)], AObj.rows false 1 (flM 0)], Dec.use [1, 0] [AVal.str (ByteArray.mk #[77]), AVal.slc false 0 1 0 11 (some 11)] [AObj.rows false 1 (flM 1), AObj.rows false 11 [(rM m0 m1 m2 m3 m4 m5 m6 (AVal.fsl nb 2 rs none) m8 m9 m10)]] (AVal.tuple [AVal.str s, iI e]) [AObj.dead, AObj.dead]]) = .ok (FRes.mk (AVal.tuple [AVal.str s, iI e]) ([AObj.dead, AObj.dead]) ((Owed.use (owed Try.prog 0) 33 [1, 0] [AVal.str (ByteArray.mk #[77]), AVal.slc false 1 1 0 11 (some 11)] [AObj.rows false 11 [(rM m0 m1 m2 m3 m4 m5 m6 (AVal.fsl nb 2 rs none) m8 m9 m10)], AObj.rows false 1 (flM 0)] [AVal.str (ByteArray.mk #[77]), AVal.slc false 0 1 0 11 (some 11)] [AObj.rows false 1 (flM 1), AObj.rows false 11 [(rM m0 m1 m2 m3 m4 m5 m6 (AVal.fsl nb 2 rs none) m8 m9 m10)]] (AVal.tuple [AVal.str s, iI e]) [AObj.dead, AObj.dead]) :: ((Owed.use (owed Try.prog 0) 47 [0] [AVal.ptr 0 11 0 0] [AObj.rows false 11 [(rM m0 m1 m2 m3 m4 m5 m6 (AVal.fsl nb 2 rs none) m8 m9 m10)]] [AVal.ptr 0 11 0 0] [AObj.rows false 11 [(rM m0 m1 m2 m3 m4 m5 m6 (AVal.fsl nb 2 rs none) m8 m9 m10)]] (AVal.slc false 1 1 0 11 (some 11)) [AObj.rows false 11 [(rM m0 m1 m2 m3 m4 m5 m6 (AVal.fsl nb 2 rs none) m8 m9 m10)], AObj.rows false 1 (flM 0)]) :: []))) by kernel_rfl) (allP_of ⟨⟨h1, rfl, rfl, rfl⟩, ⟨⟨(@Go.L12.fldM_1 (m0) (m1) (m2) (m3) (m4) (m5) (m6) (m8) (m9) (m10) (nb) (rs)), rfl, rfl, rfl⟩, trivial⟩⟩)).move ([]) (by kernel_rfl) (by kernel_rfl) (by kernel_rfl)

def PutNM_T (m0 m1 m2 m3 m4 m5 m6 m8 : Int) (m9 : Bool) (m10 : ByteArray) (nb : Bool) (rs : List (List AVal)) (s : ByteArray) (e : Int) (Q : AVal → AState → Prop) : Prop := (FOk Try.prog 33 [AVal.str (ByteArray.mk #[77]), AVal.slc false 0 1 0 11 (some 11)] [AObj.rows false 1 (flM 1), AObj.rows false 11 [(rM m0 m1 m2 m3 m4 m5 m6 (AVal.fsl nb 2 rs none) m8 m9 m10)]] (AVal.tuple [AVal.str s, iI e]) [AObj.dead, AObj.dead]) ∧ Q (AVal.tuple [AVal.str s, iI e]) ([])
theorem PutNM_wp (m0 m1 m2 m3 m4 m5 m6 m8 : Int) (m9 : Bool) (m10 : ByteArray) (nb : Bool) (rs : List (List AVal)) (s : ByteArray) (e : Int) {Q : AVal → AState → Prop} (h : PutNM_T m0 m1 m2 m3 m4 m5 m6 m8 m9 m10 nb rs s e Q) : ∃ r σ', FOk Try.prog 19 ([AVal.agg (rM m0 m1 m2 m3 m4 m5 m6 (AVal.fsl nb 2 rs none) m8 m9 m10)]) ([]) r σ' ∧ Q r σ' :=
  ⟨_, _, PutNM_1 m0 m1 m2 m3 m4 m5 m6 m8 m9 m10 nb rs s e (h.1), h.2⟩


theorem FromM_1 (m0 m1 m2 m3 m4 m5 m6 m8 : Int) (m9 : Bool) (m10 : ByteArray) (nb : Bool) (rs : List (List AVal)) (s : ByteArray)
    (h1 : FOk Try.prog 40 [AVal.str s, AVal.str (ByteArray.mk #[77]), AVal.slc false 0 1 0 11 (some 11)] [AObj.rows false 1 (flM 1), AObj.rows false 11 [[iI 0, iI 0, iI 0, iI 0, iI 0, iI 0, iI 0, AVal.fsl true 0 [] (some 0), iI 0, AVal.tt false, AVal.str (ByteArray.mk #[])]]] (iI 0) [AObj.rows false 1 (flM 1), AObj.rows true 11 [(rM m0 m1 m2 m3 m4 m5 m6 (AVal.fsl nb 2 rs none) m8 m9 m10)]]) :
    FOk Try.prog 21 ([AVal.str s]) ([]) (AVal.tuple [AVal.agg (rM m0 m1 m2 m3 m4 m5 m6 (AVal.fsl nb 2 rs none) m8 m9 m10), iI 0]) ([]) :=
  (evalF_ok followed Try.func21 (by kernel_rfl) (show evalF Try.prog Try.f21 ([AVal.str s]) ([]) ([Dec.use [1] [AVal.ptr 0 11 0 0] [AObj.rows false 11 [[iI 0, iI 0, iI 0, iI 0, iI 0, iI 0, iI 0, AVal.fsl true 0 [] (some 0), iI 0, AVal.tt false, AVal.str (ByteArray.mk #[])]]] (AVal.slc false 1 1 0 11 (some 11)) [AObj.rows false 11 [[iI 0, iI 0, iI 0, iI 0, iI 0, iI 0, iI 0, AVal.fsl true 0 [] (some 0), iI 0, AVal.tt false, AVal.str (ByteArray.mk #[])]], AObj.rows false 1 (flM 0)], Dec.use [2, 1] [AVal.str s, AVal.str (ByteArray.mk #[77]), AVal.slc false 0 1 0 11 (some 11)] [AObj.rows false 1 (flM 1), AObj.rows false 11 [[iI 0, iI 0, iI 0, iI 0, iI 0, iI 0, iI 0, AVal.fsl true 0 [] (some 0), iI 0, AVal.tt false, AVal.str (ByteArray.mk #[])]]] (iI 0) [AObj.rows false 1 (flM 1), AObj.rows true 11 [rM m0 m1 m2 m3 m4 m5 m6 (AVal.fsl nb 2 rs none) m8 m9 m10]], Dec.br false]) = .ok (FRes.mk (AVal.tuple [AVal.agg (rM m0 m1 m2 m3 m4 m5 m6 (AVal.fsl nb 2 rs none) m8 m9 m10), iI 0]) ([AObj.rows false 11 [(rM m0 m1 m2 m3 m4 m5 m6 (AVal.fsl nb 2 rs none) m8 m9 m10)], AObj.rows true 11 [(rM m0 m1 m2 m3 m4 m5 m6 (AVal.fsl nb 2 rs none) m8 m9 m10)], AObj.rows false 1 (flM 1)]) (tr 7 ++ ((false = false) :: ((Owed.use (owed Try.prog 0) 40 [2, 1] [AVal.str s, AVal.str (ByteArray.mk #[77]), AVal.slc false 2 1 0 11 (some 11)] [AObj.rows false 11 [[iI 0, iI 0, iI 0, iI 0, iI 0, iI 0, iI 0, AVal.fsl true 0 [] (some 0), iI 0, AVal.tt false, AVal.str (ByteArray.mk #[])]], AObj.rows false 11 [[iI 0, iI 0, iI 0, iI 0, iI 0, iI 0, iI 0, AVal.fsl true 0 [] (some 0), iI 0, AVal.tt false, AVal.str (ByteArray.mk #[])]], AObj.rows false 1 (flM 1)] [AVal.str s, AVal.str (ByteArray.mk #[77]), AVal.slc false 0 1 0 11 (some 11)] [AObj.rows false 1 (flM 1), AObj.rows false 11 [[iI 0, iI 0, iI 0, iI 0, iI 0, iI 0, iI 0, AVal.fsl true 0 [] (some 0), iI 0, AVal.tt false, AVal.str (ByteArray.mk #[])]]] (iI 0) [AObj.rows false 1 (flM 1), AObj.rows true 11 [(rM m0 m1 m2 m3 m4 m5 m6 (AVal.fsl nb 2 rs none) m8 m9 m10)]]) :: ((Owed.use (owed Try.prog 0) 47 [1] [AVal.ptr 1 11 0 0] [AObj.rows false 11 [[iI 0, iI 0, iI 0, iI 0, iI 0, iI 0, iI 0, AVal.fsl true 0 [] (some 0), iI 0, AVal.tt false, AVal.str (ByteArray.mk #[])]], AObj.rows false 11 [[iI 0, iI 0, iI 0, iI 0, iI 0, iI 0, iI 0, AVal.fsl true 0 [] (some 0), iI 0, AVal.tt false, AVal.str (ByteArray.mk #[])]]] [AVal.ptr 0 11 0 0] [AObj.rows false 11 [[iI 0, iI 0, iI 0, iI 0, iI 0, iI 0, iI 0, AVal.fsl true 0 [] (some 0), iI 0, AVal.tt false, AVal.str (ByteArray.mk #[])]]] (AVal.slc false 1 1 0 11 (some 11)) [AObj.rows false 11 [[iI 0, iI 0, iI 0, iI 0, iI 0, iI 0, iI 0, AVal.fsl true 0 [] (some 0), iI 0, AVal.tt false, AVal.str (ByteArray.mk #[])]], AObj.rows false 1 (flM 0)]) :: []))))) by kernel_rfl) (allP_of (trC 7 ⟨rfl, ⟨⟨h1, rfl, rfl, rfl⟩, ⟨⟨(@Go.L12.fldzM_1 (0)), rfl, rfl, rfl⟩, trivial⟩⟩⟩))).move ([]) (by kernel_rfl) (by kernel_rfl) (by kernel_rfl)

def FromM_T (m0 m1 m2 m3 m4 m5 m6 m8 : Int) (m9 : Bool) (m10 : ByteArray) (nb : Bool) (rs : List (List AVal)) (s : ByteArray) (Q : AVal → AState → Prop) : Prop := (FOk Try.prog 40 [AVal.str s, AVal.str (ByteArray.mk #[77]), AVal.slc false 0 1 0 11 (some 11)] [AObj.rows false 1 (flM 1), AObj.rows false 11 [[iI 0, iI 0, iI 0, iI 0, iI 0, iI 0, iI 0, AVal.fsl true 0 [] (some 0), iI 0, AVal.tt false, AVal.str (ByteArray.mk #[])]]] (iI 0) [AObj.rows false 1 (flM 1), AObj.rows true 11 [(rM m0 m1 m2 m3 m4 m5 m6 (AVal.fsl nb 2 rs none) m8 m9 m10)]]) ∧ Q (AVal.tuple [AVal.agg (rM m0 m1 m2 m3 m4 m5 m6 (AVal.fsl nb 2 rs none) m8 m9 m10), iI 0]) ([])
theorem FromM_wp (m0 m1 m2 m3 m4 m5 m6 m8 : Int) (m9 : Bool) (m10 : ByteArray) (nb : Bool) (rs : List (List AVal)) (s : ByteArray) {Q : AVal → AState → Prop} (h : FromM_T m0 m1 m2 m3 m4 m5 m6 m8 m9 m10 nb rs s Q) : ∃ r σ', FOk Try.prog 21 ([AVal.str s]) ([]) r σ' ∧ Q r σ' :=
  ⟨_, _, FromM_1 m0 m1 m2 m3 m4 m5 m6 m8 m9 m10 nb rs s (h.1), h.2⟩


end Go.L12
end

section
set_option linter.unusedVariables false
set_option linter.unusedSimpArgs false
set_option maxRecDepth 100000
namespace Go.L12
open Go Go.Abs Go.Proofs

def TM : List Nat := [100, 100, 100, 100, 100, 100, 100, 100, 101, 111, 104]
abbrev vsM (m0 m1 m2 m3 m4 m5 m6 m8 : Int) (m9 : Bool) (m10 : ByteArray) (v : AVal) : List AVal := [.int .i64 m0, .int .i64 m1, .int .i64 m2, .int .i64 m3, .int .i64 m4, .int .i64 m5, .int .i64 m6, .int .i64 m8, .bool m9, v, .str m10]
theorem allFM (m0 m1 m2 m3 m4 m5 m6 m8 : Int) (m9 : Bool) (m10 : ByteArray) (rs : List (List AVal)) (hr : isL 111 rs) : allF TM (vsM m0 m1 m2 m3 m4 m5 m6 m8 m9 m10 (listV rs)) := ⟨⟨_, rfl⟩, ⟨_, rfl⟩, ⟨_, rfl⟩, ⟨_, rfl⟩, ⟨_, rfl⟩, ⟨_, rfl⟩, ⟨_, rfl⟩, ⟨_, rfl⟩, ⟨_, rfl⟩, ⟨_, rfl, hr⟩, ⟨_, rfl⟩, trivial⟩
theorem seqO_M (m0 m1 m2 m3 m4 m5 m6 m8 : Int) (m9 : Bool) (m10 : ByteArray) (nb : Bool) (rs : List (List AVal)) : seqO (fpM (rM m0 m1 m2 m3 m4 m5 m6 (.fsl nb 2 rs none) m8 m9 m10)) 11 0 = putAll TM (vsM m0 m1 m2 m3 m4 m5 m6 m8 m9 m10 (listV rs)) := by
  rw [seqO_all (fun i => (FM.getD i (0, 0, 0)).1) (fun i => (objM (rM m0 m1 m2 m3 m4 m5 m6 (.fsl nb 2 rs none) m8 m9 m10) (FM.getD i (0, 0, 0)).2.1).getD (FM.getD i (0, 0, 0)).2.2 .any) (fpM (rM m0 m1 m2 m3 m4 m5 m6 (.fsl nb 2 rs none) m8 m9 m10)) (fun i => rfl)]
  rfl
theorem putM_ok (m0 m1 m2 m3 m4 m5 m6 m8 : Int) (m9 : Bool) (m10 : ByteArray) (nb : Bool) (rs : List (List AVal)) (hk : kM m0 m1 m2 m3 m4 m5 m6 m8 rs) (b : List UInt8) (h : putAll TM (vsM m0 m1 m2 m3 m4 m5 m6 m8 m9 m10 (listV rs)) = some b) : FOk Try.prog 19 [.agg (rM m0 m1 m2 m3 m4 m5 m6 (.fsl nb 2 rs none) m8 m9 m10)] [] (.tuple [.str (bS (77 :: b)), .int .i64 0]) [] := by
  refine FOk.wp (PutM_wp m0 m1 m2 m3 m4 m5 m6 m8 m9 m10 nb rs (bS (77 :: b)) 0 ?_)
  unfold PutM_T
  exact ⟨(put33M_ok m0 m1 m2 m3 m4 m5 m6 m8 m9 m10 nb rs hk b (by rw [seqO_M]; exact h)).args ⟨Imp.refl _, Imp.slcCap _ _ _ _ _ _, trivial⟩, rfl, rfl⟩
theorem putM_no (m0 m1 m2 m3 m4 m5 m6 m8 : Int) (m9 : Bool) (m10 : ByteArray) (nb : Bool) (rs : List (List AVal)) (hk : kM m0 m1 m2 m3 m4 m5 m6 m8 rs) (h : putAll TM (vsM m0 m1 m2 m3 m4 m5 m6 m8 m9 m10 (listV rs)) = none) : FOk Try.prog 19 [.agg (rM m0 m1 m2 m3 m4 m5 m6 (.fsl nb 2 rs none) m8 m9 m10)] [] (.tuple [.str ⟨#[]⟩, .int .i64 1]) [] := by
  refine FOk.wp (PutNM_wp m0 m1 m2 m3 m4 m5 m6 m8 m9 m10 nb rs ⟨#[]⟩ 1 ?_)
  unfold PutNM_T
  exact ⟨(put33M_no m0 m1 m2 m3 m4 m5 m6 m8 m9 m10 nb rs hk (by rw [seqO_M]; exact h)).args ⟨Imp.refl _, Imp.slcCap _ _ _ _ _ _, trivial⟩, rfl, rfl⟩
def zeroM : List AVal := (rM 0 0 0 0 0 0 0 (.fsl true 0 [] (some 0)) 0 false ⟨#[]⟩)
def setM (i : Nat) (u : List AVal) (v : AVal) : List AVal := u.set (FM.getD i (0, 0, 0)).2.2 v
theorem seqG_M (s : ByteArray) : seqG gtM 11 0 zeroM s = (takeAll TM s).map fun y => (setAll setM 0 zeroM y.1, y.2) := by
  rw [seqG_all (fun i => (FM.getD i (0, 0, 0)).1) setM gtM (fun i u s => rfl)]
  rfl
theorem set_M (m0 m1 m2 m3 m4 m5 m6 m8 : Int) (m9 : Bool) (m10 : ByteArray) (v : AVal) : setAll setM 0 zeroM (vsM m0 m1 m2 m3 m4 m5 m6 m8 m9 m10 v) = (rM m0 m1 m2 m3 m4 m5 m6 v m8 m9 m10) := by kernel_rfl
theorem iv0M : ivM 0 zeroM := ⟨_, _, _, _, _, _, _, _, _, _, _, rfl, fun _ => rfl⟩
theorem preM {s s' : ByteArray} (h : lB s = UInt8.ofNat 77 :: lB s') : (lB (ByteArray.mk #[77]) <+: lB s) ∧ s.extract (ByteArray.mk #[77]).size s.size = s' := by
  constructor
  · exact ⟨lB s', h.symm⟩
  · have e := mk_of h
    unfold mk at e
    split at e
    · exact congrArg Prod.fst e
    · have := congrArg Prod.snd e; cases this
theorem fromM_pre {s : ByteArray} {r : AVal} {σ' : AState} (h : FOk Try.prog 40 [.str s, .str ⟨#[77]⟩, .slc false 0 1 0 11 none] [.rows false 1 (flM 1), .rows true 11 [(rM 0 0 0 0 0 0 0 (.fsl true 0 [] (some 0)) 0 false ⟨#[]⟩)]] r σ') : FOk Try.prog 40 [.str s, .str ⟨#[77]⟩, .slc false 0 1 0 11 (some 11)] [.rows false 1 (flM 1), .rows false 11 [[.int .i64 0, .int .i64 0, .int .i64 0, .int .i64 0, .int .i64 0, .int .i64 0, .int .i64 0, .fsl true 0 [] (some 0), .int .i64 0, .tt false, .str ⟨#[]⟩]]] r σ' := by
  have q : FOk Try.prog 40 [.str s, .str ⟨#[77]⟩, .slc false 0 1 0 11 none] [.rows false 1 (flM 1), .rows false 11 [[.int .i64 0, .int .i64 0, .int .i64 0, .int .i64 0, .int .i64 0, .int .i64 0, .int .i64 0, .fsl true 0 [] (some 0), .int .i64 0, .tt false, .str ⟨#[]⟩]]] r σ' := FOk.preObj 1 (.rows true 11 [(rM 0 0 0 0 0 0 0 (.fsl true 0 [] (some 0)) 0 false ⟨#[]⟩)]) h (by simp) rfl (fun F w ρ b h => ORel.row1 (xs := [.int .i64 0, .int .i64 0, .int .i64 0, .int .i64 0, .int .i64 0, .int .i64 0, .int .i64 0, .fsl true 0 [] (some 0), .int .i64 0, .tt false, .str ⟨#[]⟩]) ⟨Imp.refl _, Imp.refl _, Imp.refl _, Imp.refl _, Imp.refl _, Imp.refl _, Imp.refl _, Imp.refl _, Imp.refl _, Imp.ttb rfl, Imp.refl _, trivial⟩ (ORel.unpure h rfl))
  exact q.args ⟨Imp.refl _, Imp.refl _, Imp.slcCap _ _ _ _ _ _, trivial⟩
theorem fromM_is {s : ByteArray} (m0 m1 m2 m3 m4 m5 m6 m8 : Int) (m9 : Bool) (m10 : ByteArray) (rs : List (List AVal)) (h : Is 77 TM s (vsM m0 m1 m2 m3 m4 m5 m6 m8 m9 m10 (listV rs))) : FOk Try.prog 21 [.str s] [] (.tuple [.agg (rM m0 m1 m2 m3 m4 m5 m6 (listV rs) m8 m9 m10), .int .i64 0]) [] := by
  obtain ⟨s', h1, h2⟩ := h
  obtain ⟨p1, p2⟩ := preM h1
  refine FOk.wp (FromM_wp m0 m1 m2 m3 m4 m5 m6 m8 m9 m10 rs.isEmpty rs s ?_)
  unfold FromM_T
  have ht := takesM_ok zeroM iv0M s' ((rM m0 m1 m2 m3 m4 m5 m6 (listV rs) m8 m9 m10), ⟨#[]⟩) (by rw [seqG_M, h2]; exact congrArg (fun x => some (x, (⟨#[]⟩ : ByteArray))) (set_M m0 m1 m2 m3 m4 m5 m6 m8 m9 m10 (listV rs)))
  rw [← p2] at ht
  exact ⟨fromM_pre (fromM_ok (rM 0 0 0 0 0 0 0 (.fsl true 0 [] (some 0)) 0 false ⟨#[]⟩) (rM m0 m1 m2 m3 m4 m5 m6 (listV rs) m8 m9 m10) s ⟨#[77]⟩ p1 ht), rfl, rfl⟩
end Go.L12
end

section
set_option linter.unusedVariables false
set_option maxRecDepth 100000
namespace Go.L12
open Go Go.Abs Go.Proofs
def rgoM (q : Int) : Regs := mkR 85 [(1, .ptr 0 11 0 0), (4, .ptr 1 2 0 0), (5, .int .i64 q)]
abbrev hoM (m0 m1 m2 m3 m4 m5 m6 m8 : Int) (m9 : Bool) (m10 : ByteArray) (nb : Bool) (rs : List (List AVal)) (l : List UInt8) (b : Bool) : AState := [.rows false 11 [(rM m0 m1 m2 m3 m4 m5 m6 (.fsl nb 2 rs none) m8 m9 m10)], .rows false 2 [[.slc false 2 1 0 l.length none, .bool b]], .rows true 1 (rowsL l)]
theorem oMr_1 (m0 m1 m2 m3 m4 m5 m6 m8 : Int) (m9 : Bool) (m10 : ByteArray) (nb : Bool) (rs : List (List AVal)) (l : List UInt8) (b : Bool) (q : Int)
    (h1 : List.length (l ++ got (pI (AVal.toInt (List.getD (List.getD rs (Int.toNat q) []) 0 AVal.any)))) ≤ 35184372088832)
    (h2 : decide (Int.toNat q < List.length rs) = true)
    (h3 : areKinds [Kind.str] [List.getD (List.getD rs (Int.toNat q) []) 1 AVal.any] = true)
    (h4 : decide (0 ≤ q ∧ q < (↑(List.length rs) : Int)) = true)
    (h5 : List.length l ≤ 35184372088832)
    (h6 : areKinds [Kind.int IntKind.i64] [List.getD (List.getD rs (Int.toNat q) []) 0 AVal.any] = true)
    (h7 : decide (q < (↑(List.length rs) : Int)) = true) :
    TripN Try.prog 0 (loopNo Try.f20 0) (rgoM q) (hoM m0 m1 m2 m3 m4 m5 m6 m8 m9 m10 nb rs l b) (AExit.normal) (mkR 85 [(1, AVal.ptr 0 11 0 0), (4, AVal.ptr 1 2 0 0), (5, iI (IntKind.wrap IntKind.i64 (q + 1)))]) ([AObj.rows false 11 [(rM m0 m1 m2 m3 m4 m5 m6 (AVal.fsl nb 2 rs none) m8 m9 m10)], AObj.rows false 2 [[AVal.slc false 2 1 0 (List.length (l ++ got (pI (AVal.toInt (List.getD (List.getD rs (Int.toNat q) []) 0 AVal.any))) ++ got (pS (AVal.toStr (List.getD (List.getD rs (Int.toNat q) []) 1 AVal.any))))) none, AVal.bool (b || Option.isNone (pI (AVal.toInt (List.getD (List.getD rs (Int.toNat q) []) 0 AVal.any))) || Option.isNone (pS (AVal.toStr (List.getD (List.getD rs (Int.toNat q) []) 1 AVal.any))))]], AObj.rows true 1 (rowsL (l ++ got (pI (AVal.toInt (List.getD (List.getD rs (Int.toNat q) []) 0 AVal.any))) ++ got (pS (AVal.toStr (List.getD (List.getD rs (Int.toNat q) []) 1 AVal.any)))))]) :=
  evalT (st := St.mk (rgoM q) (hoM m0 m1 m2 m3 m4 m5 m6 m8 m9 m10 nb rs l b) ([Dec.br true, Dec.use [1, 2] [AVal.ptr 0 2 0 0, iI (AVal.toInt (List.getD (List.getD rs (Int.toNat q) []) 0 AVal.any))] [AObj.rows false 2 [[AVal.slc false 1 1 0 (List.length l) none, AVal.bool b]], AObj.rows true 1 (rowsL l)] (AVal.tuple []) [AObj.rows false 2 [[AVal.slc false 2 1 0 (List.length (l ++ got (pI (AVal.toInt (List.getD (List.getD rs (Int.toNat q) []) 0 AVal.any))))) none, AVal.bool (b || Option.isNone (pI (AVal.toInt (List.getD (List.getD rs (Int.toNat q) []) 0 AVal.any))))]], AObj.dead, AObj.rows true 1 (rowsL (l ++ got (pI (AVal.toInt (List.getD (List.getD rs (Int.toNat q) []) 0 AVal.any)))))], Dec.use [1, 3] [AVal.ptr 0 2 0 0, AVal.str (AVal.toStr (List.getD (List.getD rs (Int.toNat q) []) 1 AVal.any))] [AObj.rows false 2 [[AVal.slc false 1 1 0 (List.length (l ++ got (pI (AVal.toInt (List.getD (List.getD rs (Int.toNat q) []) 0 AVal.any))))) none, AVal.bool (b || Option.isNone (pI (AVal.toInt (List.getD (List.getD rs (Int.toNat q) []) 0 AVal.any))))]], AObj.rows true 1 (rowsL (l ++ got (pI (AVal.toInt (List.getD (List.getD rs (Int.toNat q) []) 0 AVal.any)))))] (AVal.tuple []) [AObj.rows false 2 [[AVal.slc false 2 1 0 (List.length (l ++ got (pI (AVal.toInt (List.getD (List.getD rs (Int.toNat q) []) 0 AVal.any))) ++ got (pS (AVal.toStr (List.getD (List.getD rs (Int.toNat q) []) 1 AVal.any))))) none, AVal.bool (b || Option.isNone (pI (AVal.toInt (List.getD (List.getD rs (Int.toNat q) []) 0 AVal.any))) || Option.isNone (pS (AVal.toStr (List.getD (List.getD rs (Int.toNat q) []) 1 AVal.any))))]], AObj.dead, AObj.rows true 1 (rowsL (l ++ got (pI (AVal.toInt (List.getD (List.getD rs (Int.toNat q) []) 0 AVal.any))) ++ got (pS (AVal.toStr (List.getD (List.getD rs (Int.toNat q) []) 1 AVal.any)))))]]) []) (st' := St.mk (mkR 85 [(1, AVal.ptr 0 11 0 0), (4, AVal.ptr 1 2 0 0), (5, iI (IntKind.wrap IntKind.i64 (q + 1))), (54, iI q), (55, AVal.ptr 0 11 0 7), (56, AVal.fsl nb 2 rs none), (57, iI (↑(List.length rs) : Int)), (58, AVal.tt true), (59, iI q), (60, iI (IntKind.wrap IntKind.i64 (q + 1))), (61, AVal.ptr 1 2 0 0), (62, AVal.ptr 0 11 0 7), (63, AVal.fsl nb 2 rs none), (64, iI q), (65, AVal.fptr 2 rs (Int.toNat q) 0), (66, AVal.fptr 2 rs (Int.toNat q) 0), (67, iI (AVal.toInt (List.getD (List.getD rs (Int.toNat q) []) 0 AVal.any))), (68, AVal.tuple []), (69, AVal.ptr 1 2 0 0), (70, AVal.ptr 0 11 0 7), (71, AVal.fsl nb 2 rs none), (72, iI q), (73, AVal.fptr 2 rs (Int.toNat q) 0), (74, AVal.fptr 2 rs (Int.toNat q) 1), (75, AVal.str (AVal.toStr (List.getD (List.getD rs (Int.toNat q) []) 1 AVal.any))), (76, AVal.tuple [])]) ([AObj.rows false 11 [(rM m0 m1 m2 m3 m4 m5 m6 (AVal.fsl nb 2 rs none) m8 m9 m10)], AObj.rows false 2 [[AVal.slc false 4 1 0 (List.length (l ++ got (pI (AVal.toInt (List.getD (List.getD rs (Int.toNat q) []) 0 AVal.any))) ++ got (pS (AVal.toStr (List.getD (List.getD rs (Int.toNat q) []) 1 AVal.any))))) none, AVal.bool (b || Option.isNone (pI (AVal.toInt (List.getD (List.getD rs (Int.toNat q) []) 0 AVal.any))) || Option.isNone (pS (AVal.toStr (List.getD (List.getD rs (Int.toNat q) []) 1 AVal.any))))]], AObj.dead, AObj.dead, AObj.rows true 1 (rowsL (l ++ got (pI (AVal.toInt (List.getD (List.getD rs (Int.toNat q) []) 0 AVal.any))) ++ got (pS (AVal.toStr (List.getD (List.getD rs (Int.toNat q) []) 1 AVal.any)))))]) ([]) ((Owed.use (owed Try.prog 0) 38 [1, 3] [AVal.ptr 1 2 0 0, AVal.str (AVal.toStr (List.getD (List.getD rs (Int.toNat q) []) 1 AVal.any))] [AObj.rows false 11 [(rM m0 m1 m2 m3 m4 m5 m6 (AVal.fsl nb 2 rs none) m8 m9 m10)], AObj.rows false 2 [[AVal.slc false 3 1 0 (List.length (l ++ got (pI (AVal.toInt (List.getD (List.getD rs (Int.toNat q) []) 0 AVal.any))))) none, AVal.bool (b || Option.isNone (pI (AVal.toInt (List.getD (List.getD rs (Int.toNat q) []) 0 AVal.any))))]], AObj.dead, AObj.rows true 1 (rowsL (l ++ got (pI (AVal.toInt (List.getD (List.getD rs (Int.toNat q) []) 0 AVal.any)))))] [AVal.ptr 0 2 0 0, AVal.str (AVal.toStr (List.getD (List.getD rs (Int.toNat q) []) 1 AVal.any))] [AObj.rows false 2 [[AVal.slc false 1 1 0 (List.length (l ++ got (pI (AVal.toInt (List.getD (List.getD rs (Int.toNat q) []) 0 AVal.any))))) none, AVal.bool (b || Option.isNone (pI (AVal.toInt (List.getD (List.getD rs (Int.toNat q) []) 0 AVal.any))))]], AObj.rows true 1 (rowsL (l ++ got (pI (AVal.toInt (List.getD (List.getD rs (Int.toNat q) []) 0 AVal.any)))))] (AVal.tuple []) [AObj.rows false 2 [[AVal.slc false 2 1 0 (List.length (l ++ got (pI (AVal.toInt (List.getD (List.getD rs (Int.toNat q) []) 0 AVal.any))) ++ got (pS (AVal.toStr (List.getD (List.getD rs (Int.toNat q) []) 1 AVal.any))))) none, AVal.bool (b || Option.isNone (pI (AVal.toInt (List.getD (List.getD rs (Int.toNat q) []) 0 AVal.any))) || Option.isNone (pS (AVal.toStr (List.getD (List.getD rs (Int.toNat q) []) 1 AVal.any))))]], AObj.dead, AObj.rows true 1 (rowsL (l ++ got (pI (AVal.toInt (List.getD (List.getD rs (Int.toNat q) []) 0 AVal.any))) ++ got (pS (AVal.toStr (List.getD (List.getD rs (Int.toNat q) []) 1 AVal.any)))))]) :: ((decide (Int.toNat q < List.length rs) = true) :: (tr 1 ++ ((areKinds [Kind.str] [List.getD (List.getD rs (Int.toNat q) []) 1 AVal.any] = true) :: ((decide (0 ≤ q ∧ q < (↑(List.length rs) : Int)) = true) :: (tr 2 ++ ((Owed.use (owed Try.prog 0) 35 [1, 2] [AVal.ptr 1 2 0 0, iI (AVal.toInt (List.getD (List.getD rs (Int.toNat q) []) 0 AVal.any))] [AObj.rows false 11 [(rM m0 m1 m2 m3 m4 m5 m6 (AVal.fsl nb 2 rs none) m8 m9 m10)], AObj.rows false 2 [[AVal.slc false 2 1 0 (List.length l) none, AVal.bool b]], AObj.rows true 1 (rowsL l)] [AVal.ptr 0 2 0 0, iI (AVal.toInt (List.getD (List.getD rs (Int.toNat q) []) 0 AVal.any))] [AObj.rows false 2 [[AVal.slc false 1 1 0 (List.length l) none, AVal.bool b]], AObj.rows true 1 (rowsL l)] (AVal.tuple []) [AObj.rows false 2 [[AVal.slc false 2 1 0 (List.length (l ++ got (pI (AVal.toInt (List.getD (List.getD rs (Int.toNat q) []) 0 AVal.any))))) none, AVal.bool (b || Option.isNone (pI (AVal.toInt (List.getD (List.getD rs (Int.toNat q) []) 0 AVal.any))))]], AObj.dead, AObj.rows true 1 (rowsL (l ++ got (pI (AVal.toInt (List.getD (List.getD rs (Int.toNat q) []) 0 AVal.any)))))]) :: ((decide (Int.toNat q < List.length rs) = true) :: (tr 1 ++ ((areKinds [Kind.int IntKind.i64] [List.getD (List.getD rs (Int.toNat q) []) 0 AVal.any] = true) :: ((decide (0 ≤ q ∧ q < (↑(List.length rs) : Int)) = true) :: (tr 2 ++ ((decide (q < (↑(List.length rs) : Int)) = true) :: (tr 2 ++ []))))))))))))))) followed (by kernel_rfl) (allP_of ⟨⟨(@Go.L12.otextP (AVal.toStr (List.getD (List.getD rs (Int.toNat q) []) 1 AVal.any)) (l ++ got (pI (AVal.toInt (List.getD (List.getD rs (Int.toNat q) []) 0 AVal.any)))) (b || Option.isNone (pI (AVal.toInt (List.getD (List.getD rs (Int.toNat q) []) 0 AVal.any)))) h1), rfl, rfl, rfl⟩, ⟨h2, (trC 1 ⟨h3, ⟨h4, (trC 2 ⟨⟨(@Go.L12.onumP (AVal.toInt (List.getD (List.getD rs (Int.toNat q) []) 0 AVal.any)) (l) (b) h5), rfl, rfl, rfl⟩, ⟨h2, (trC 1 ⟨h6, ⟨h4, (trC 2 ⟨h7, (trC 2 trivial)⟩)⟩⟩)⟩⟩)⟩⟩)⟩⟩) (keepM 85 [1, 4, 5]) ([0, 1, 4]) (by kernel_rfl) (by kernel_rfl) (by kernel_rfl)

def oMr_T (m0 m1 m2 m3 m4 m5 m6 m8 : Int) (m9 : Bool) (m10 : ByteArray) (nb : Bool) (rs : List (List AVal)) (l : List UInt8) (b : Bool) (q : Int) (Q : AExit → Regs → AState → Prop) : Prop := (decide (q < (↑(List.length rs) : Int)) = true) ∧ (decide (0 ≤ q ∧ q < (↑(List.length rs) : Int)) = true) ∧ (areKinds [Kind.int IntKind.i64] [List.getD (List.getD rs (Int.toNat q) []) 0 AVal.any] = true) ∧ (decide (Int.toNat q < List.length rs) = true) ∧ (List.length l ≤ 35184372088832) ∧ (areKinds [Kind.str] [List.getD (List.getD rs (Int.toNat q) []) 1 AVal.any] = true) ∧ (List.length (l ++ got (pI (AVal.toInt (List.getD (List.getD rs (Int.toNat q) []) 0 AVal.any)))) ≤ 35184372088832) ∧ Q (AExit.normal) (mkR 85 [(1, AVal.ptr 0 11 0 0), (4, AVal.ptr 1 2 0 0), (5, iI (IntKind.wrap IntKind.i64 (q + 1)))]) ([AObj.rows false 11 [(rM m0 m1 m2 m3 m4 m5 m6 (AVal.fsl nb 2 rs none) m8 m9 m10)], AObj.rows false 2 [[AVal.slc false 2 1 0 (List.length (l ++ got (pI (AVal.toInt (List.getD (List.getD rs (Int.toNat q) []) 0 AVal.any))) ++ got (pS (AVal.toStr (List.getD (List.getD rs (Int.toNat q) []) 1 AVal.any))))) none, AVal.bool (b || Option.isNone (pI (AVal.toInt (List.getD (List.getD rs (Int.toNat q) []) 0 AVal.any))) || Option.isNone (pS (AVal.toStr (List.getD (List.getD rs (Int.toNat q) []) 1 AVal.any))))]], AObj.rows true 1 (rowsL (l ++ got (pI (AVal.toInt (List.getD (List.getD rs (Int.toNat q) []) 0 AVal.any))) ++ got (pS (AVal.toStr (List.getD (List.getD rs (Int.toNat q) []) 1 AVal.any)))))])
theorem oMr_wp (m0 m1 m2 m3 m4 m5 m6 m8 : Int) (m9 : Bool) (m10 : ByteArray) (nb : Bool) (rs : List (List AVal)) (l : List UInt8) (b : Bool) (q : Int) {Q : AExit → Regs → AState → Prop} (h : oMr_T m0 m1 m2 m3 m4 m5 m6 m8 m9 m10 nb rs l b q Q) : ∃ e rg' σ', TripN Try.prog 0 (loopNo Try.f20 0) (rgoM q) (hoM m0 m1 m2 m3 m4 m5 m6 m8 m9 m10 nb rs l b) e rg' σ' ∧ Q e rg' σ' :=
  ⟨_, _, _, oMr_1 m0 m1 m2 m3 m4 m5 m6 m8 m9 m10 nb rs l b q (h.2.2.2.2.2.2.1) (h.2.2.2.1) (h.2.2.2.2.2.1) (h.2.1) (h.2.2.2.2.1) (h.2.2.1) (h.1), h.2.2.2.2.2.2.2⟩


theorem oMx_1 (m0 m1 m2 m3 m4 m5 m6 m8 : Int) (m9 : Bool) (m10 : ByteArray) (nb : Bool) (rs : List (List AVal)) (l : List UInt8) (b : Bool) (q : Int)
    (h1 : decide (q < (↑(List.length rs) : Int)) = false) :
    TripN Try.prog 0 (loopNo Try.f20 0) (rgoM q) (hoM m0 m1 m2 m3 m4 m5 m6 m8 m9 m10 nb rs l b) (AExit.exit 0) (mkR 85 [(1, AVal.ptr 0 11 0 0), (4, AVal.ptr 1 2 0 0), (5, iI q)]) ([AObj.rows false 11 [(rM m0 m1 m2 m3 m4 m5 m6 (AVal.fsl nb 2 rs none) m8 m9 m10)], AObj.rows false 2 [[AVal.slc false 2 1 0 (List.length l) none, AVal.bool b]], AObj.rows true 1 (rowsL l)]) :=
  evalT (st := St.mk (rgoM q) (hoM m0 m1 m2 m3 m4 m5 m6 m8 m9 m10 nb rs l b) ([Dec.br false]) []) (st' := St.mk (mkR 85 [(1, AVal.ptr 0 11 0 0), (4, AVal.ptr 1 2 0 0), (5, iI q), (54, iI q), (55, AVal.ptr 0 11 0 7), (56, AVal.fsl nb 2 rs none), (57, iI (↑(List.length rs) : Int)), (58, AVal.tt false)]) ([AObj.rows false 11 [(rM m0 m1 m2 m3 m4 m5 m6 (AVal.fsl nb 2 rs none) m8 m9 m10)], AObj.rows false 2 [[AVal.slc false 2 1 0 (List.length l) none, AVal.bool b]], AObj.rows true 1 (rowsL l)]) ([]) ((decide (q < (↑(List.length rs) : Int)) = false) :: (tr 2 ++ []))) followed (by kernel_rfl) (allP_of ⟨h1, (trC 2 trivial)⟩) (keepM 85 [1, 4, 5]) ([0, 1, 2]) (by kernel_rfl) (by kernel_rfl) (by kernel_rfl)

def oMx_T (m0 m1 m2 m3 m4 m5 m6 m8 : Int) (m9 : Bool) (m10 : ByteArray) (nb : Bool) (rs : List (List AVal)) (l : List UInt8) (b : Bool) (q : Int) (Q : AExit → Regs → AState → Prop) : Prop := (decide (q < (↑(List.length rs) : Int)) = false) ∧ Q (AExit.exit 0) (mkR 85 [(1, AVal.ptr 0 11 0 0), (4, AVal.ptr 1 2 0 0), (5, iI q)]) ([AObj.rows false 11 [(rM m0 m1 m2 m3 m4 m5 m6 (AVal.fsl nb 2 rs none) m8 m9 m10)], AObj.rows false 2 [[AVal.slc false 2 1 0 (List.length l) none, AVal.bool b]], AObj.rows true 1 (rowsL l)])
theorem oMx_wp (m0 m1 m2 m3 m4 m5 m6 m8 : Int) (m9 : Bool) (m10 : ByteArray) (nb : Bool) (rs : List (List AVal)) (l : List UInt8) (b : Bool) (q : Int) {Q : AExit → Regs → AState → Prop} (h : oMx_T m0 m1 m2 m3 m4 m5 m6 m8 m9 m10 nb rs l b q Q) : ∃ e rg' σ', TripN Try.prog 0 (loopNo Try.f20 0) (rgoM q) (hoM m0 m1 m2 m3 m4 m5 m6 m8 m9 m10 nb rs l b) e rg' σ' ∧ Q e rg' σ' :=
  ⟨_, _, _, oMx_1 m0 m1 m2 m3 m4 m5 m6 m8 m9 m10 nb rs l b q (h.1), h.2⟩


end Go.L12
end

section
set_option linter.unusedVariables false
set_option linter.unusedSimpArgs false
set_option maxRecDepth 100000
namespace Go.L12
open Go Go.Abs Go.Proofs
def rowOM (row : List AVal) : List (Option (List UInt8)) := [pI (row.getD 0 .any).toInt, pS (row.getD 1 .any).toStr]
theorem oM_loop (m0 m1 m2 m3 m4 m5 m6 m8 : Int) (m9 : Bool) (m10 : ByteArray) (nb : Bool) (rs : List (List AVal)) (hr : ∀ q, q < rs.length → rowK 111 rs q) (hm : rs.length ≤ 64) : ∀ (d q : Nat), q + d = rs.length → ∀ (l : List UInt8) (b : Bool), l.length ≤ 30000000000000 + q * 600000 →
    LoopRun Try.prog 0 (loopNo Try.f20 0) (rgoM (q : Nat)) (hoM m0 m1 m2 m3 m4 m5 m6 m8 m9 m10 nb rs l b) (.exit 0) (rgoM (rs.length : Nat)) (hoM m0 m1 m2 m3 m4 m5 m6 m8 m9 m10 nb rs (l ++ ((rs.drop q).flatMap rowOM).flatMap got) (b || ((rs.drop q).flatMap rowOM).any Option.isNone))
  | 0, q, hq, l, b, hl => by
    obtain rfl : q = rs.length := by omega
    rw [List.drop_length]
    simp only [List.flatMap_nil, List.append_nil, List.any_nil, Bool.or_false]
    exact .done (TripN.wp (oMx_wp m0 m1 m2 m3 m4 m5 m6 m8 m9 m10 nb rs l b (rs.length : Nat) ⟨decide_eq_false (by omega), rfl, rfl, rfl⟩)) (by simp)
  | d + 1, q, hq, l, b, hl => by
    have w1 : IntKind.wrap .i64 ((q : Int) + 1) = ((q + 1 : Nat) : Int) := by rw [wrapS (by omega) (by omega)]; omega
    obtain ⟨hi, ⟨d0, e1⟩, hr0⟩ := hr q (by omega)
    obtain ⟨n0, e0, _, _⟩ : oI _ := hr0
    have g1 := got_pI (List.getD (List.getD rs q []) 0 .any).toInt
    have g2 := got_pS (List.getD (List.getD rs q []) 1 .any).toStr
    have ed : rs.drop q = rs.getD q [] :: rs.drop (q + 1) := by
      rw [List.drop_eq_getElem_cons hi, List.getD_eq_getElem?_getD, List.getElem?_eq_getElem hi]; rfl
    have ih := oM_loop m0 m1 m2 m3 m4 m5 m6 m8 m9 m10 nb rs hr hm d (q + 1) (by omega) (l ++ got (pI (List.getD (List.getD rs q []) 0 .any).toInt) ++ got (pS (List.getD (List.getD rs q []) 1 .any).toStr)) (b || (pI (List.getD (List.getD rs q []) 0 .any).toInt).isNone || (pS (List.getD (List.getD rs q []) 1 .any).toStr).isNone) (by rw [List.length_append, List.length_append, Nat.succ_mul]; omega)
    have t : TripN Try.prog 0 (loopNo Try.f20 0) (rgoM (q : Nat)) (hoM m0 m1 m2 m3 m4 m5 m6 m8 m9 m10 nb rs l b) .normal (rgoM ((q + 1 : Nat) : Int)) (hoM m0 m1 m2 m3 m4 m5 m6 m8 m9 m10 nb rs (l ++ got (pI (List.getD (List.getD rs q []) 0 .any).toInt) ++ got (pS (List.getD (List.getD rs q []) 1 .any).toStr)) (b || (pI (List.getD (List.getD rs q []) 0 .any).toInt).isNone || (pS (List.getD (List.getD rs q []) 1 .any).toStr).isNone)) := by
      have hq64 : q * 600000 ≤ 64 * 600000 := Nat.mul_le_mul_right _ (by omega)
      refine TripN.wp (oMr_wp m0 m1 m2 m3 m4 m5 m6 m8 m9 m10 nb rs l b (q : Nat) ?_)
      unfold oMr_T
      rw [w1, Int.toNat_natCast]
      exact ⟨decide_eq_true (by omega), decide_eq_true (by omega), by rw [e0]; rfl, decide_eq_true (by omega), by omega, by rw [e1]; rfl, by rw [List.length_append]; omega, rfl, rfl, rfl⟩
    rw [ed]
    have e3 : l ++ (((rs.getD q [] :: rs.drop (q + 1)).flatMap rowOM).flatMap got) = (l ++ got (pI (List.getD (List.getD rs q []) 0 .any).toInt) ++ got (pS (List.getD (List.getD rs q []) 1 .any).toStr)) ++ ((rs.drop (q + 1)).flatMap rowOM).flatMap got := by
      simp [rowOM, List.append_assoc]
    have e4 : (b || ((rs.getD q [] :: rs.drop (q + 1)).flatMap rowOM).any Option.isNone) = ((b || (pI (List.getD (List.getD rs q []) 0 .any).toInt).isNone || (pS (List.getD (List.getD rs q []) 1 .any).toStr).isNone) || ((rs.drop (q + 1)).flatMap rowOM).any Option.isNone) := by
      simp [rowOM, Bool.or_assoc]
    rw [e3, e4]
    exact .more t ih
end Go.L12
end

section
set_option linter.unusedVariables false
set_option maxRecDepth 100000
namespace Go.L12
open Go Go.Abs Go.Proofs
theorem rPutM_1 (m0 m1 m2 m3 m4 m5 m6 m8 : Int) (m9 : Bool) (m10 : ByteArray) (nb : Bool) (rs : List (List AVal)) (l : List UInt8) (b : Bool) (l2 : List UInt8) (b2 : Bool)
    (h1 : decide ((↑(List.length rs) : Int) > 16) = true) :
    FOk Try.prog 20 ([AVal.agg (rM m0 m1 m2 m3 m4 m5 m6 (AVal.fsl nb 2 rs none) m8 m9 m10)]) ([]) (AVal.tuple [AVal.str (ByteArray.mk #[]), iI 1]) ([]) :=
  (evalF_ok followed Try.func20 (by kernel_rfl) (show evalF Try.prog Try.f20 ([AVal.agg (rM m0 m1 m2 m3 m4 m5 m6 (AVal.fsl nb 2 rs none) m8 m9 m10)]) ([]) ([Dec.br true]) = .ok (FRes.mk (AVal.tuple [AVal.str (ByteArray.mk #[]), iI 1]) ([AObj.rows false 11 [(rM m0 m1 m2 m3 m4 m5 m6 (AVal.fsl nb 2 rs none) m8 m9 m10)]]) ((decide ((↑(List.length rs) : Int) > 16) = true) :: (tr 2 ++ []))) by kernel_rfl) (allP_of ⟨h1, (trC 2 trivial)⟩)).move ([]) (by kernel_rfl) (by kernel_rfl) (by kernel_rfl)

theorem rPutM_2 (m0 m1 m2 m3 m4 m5 m6 m8 : Int) (m9 : Bool) (m10 : ByteArray) (nb : Bool) (rs : List (List AVal)) (l : List UInt8) (b : Bool) (l2 : List UInt8) (b2 : Bool)
    (h1 : List.length l2 ≤ 35184372088832)
    (h2 : TripN Try.prog 0 (Code.loop (loopNo Try.f20 0)) (mkR 85 [(1, AVal.ptr 0 11 0 0), (4, AVal.ptr 1 2 0 0), (5, iI 0)]) [AObj.rows false 11 [(rM m0 m1 m2 m3 m4 m5 m6 (AVal.fsl nb 2 rs none) m8 m9 m10)], AObj.rows false 2 [[AVal.slc false 2 1 0 (List.length (l ++ got (pI m1) ++ got (pI m2) ++ got (pI m3) ++ got (pI m4) ++ got (pI m5) ++ got (pI m6) ++ got (pI m8) ++ [if m9 = true then 1 else 0] ++ got (pI (↑(List.length rs) : Int)))) none, AVal.bool (b || Option.isNone (pI m1) || Option.isNone (pI m2) || Option.isNone (pI m3) || Option.isNone (pI m4) || Option.isNone (pI m5) || Option.isNone (pI m6) || Option.isNone (pI m8) || false || Option.isNone (pI (↑(List.length rs) : Int)))]], AObj.rows true 1 (rowsL (l ++ got (pI m1) ++ got (pI m2) ++ got (pI m3) ++ got (pI m4) ++ got (pI m5) ++ got (pI m6) ++ got (pI m8) ++ [if m9 = true then 1 else 0] ++ got (pI (↑(List.length rs) : Int))))] (AExit.exit 0) (mkR 85 [(1, AVal.ptr 0 11 0 0), (4, AVal.ptr 1 2 0 0), (5, iI (↑(List.length rs) : Int))]) [AObj.rows false 11 [(rM m0 m1 m2 m3 m4 m5 m6 (AVal.fsl nb 2 rs none) m8 m9 m10)], AObj.rows false 2 [[AVal.slc false 2 1 0 (List.length l2) none, AVal.bool b2]], AObj.rows true 1 (rowsL l2)])
    (h3 : List.length (l ++ got (pI m1) ++ got (pI m2) ++ got (pI m3) ++ got (pI m4) ++ got (pI m5) ++ got (pI m6) ++ got (pI m8) ++ [if m9 = true then 1 else 0]) ≤ 35184372088832)
    (h4 : List.length (l ++ got (pI m1) ++ got (pI m2) ++ got (pI m3) ++ got (pI m4) ++ got (pI m5) ++ got (pI m6) ++ got (pI m8)) ≤ 35184372088832)
    (h5 : List.length (l ++ got (pI m1) ++ got (pI m2) ++ got (pI m3) ++ got (pI m4) ++ got (pI m5) ++ got (pI m6)) ≤ 35184372088832)
    (h6 : List.length (l ++ got (pI m1) ++ got (pI m2) ++ got (pI m3) ++ got (pI m4) ++ got (pI m5)) ≤ 35184372088832)
    (h7 : List.length (l ++ got (pI m1) ++ got (pI m2) ++ got (pI m3) ++ got (pI m4)) ≤ 35184372088832)
    (h8 : List.length (l ++ got (pI m1) ++ got (pI m2) ++ got (pI m3)) ≤ 35184372088832)
    (h9 : List.length (l ++ got (pI m1) ++ got (pI m2)) ≤ 35184372088832)
    (h10 : List.length (l ++ got (pI m1)) ≤ 35184372088832)
    (h11 : List.length l ≤ 35184372088832)
    (h12 : FOk Try.prog 35 [AVal.ptr 0 2 0 0, iI m0] [AObj.rows false 2 [[AVal.slc false 1 1 0 1 (some 1), AVal.tt false]], AObj.rows true 1 [[AVal.int IntKind.u8 77]]] (AVal.tuple []) [AObj.rows false 2 [[AVal.slc false 2 1 0 (List.length l) none, AVal.bool b]], AObj.dead, AObj.rows true 1 (rowsL l)])
    (h13 : decide ((↑(List.length rs) : Int) > 16) = false) :
    FOk Try.prog 20 ([AVal.agg (rM m0 m1 m2 m3 m4 m5 m6 (AVal.fsl nb 2 rs none) m8 m9 m10)]) ([]) (AVal.tuple [AVal.str (endS (l2 ++ got (pS m10)) (b2 || Option.isNone (pS m10))), iI (endE (b2 || Option.isNone (pS m10)))]) ([]) :=
  (evalF_ok followed Try.func20 (by kernel_rfl) (show evalF Try.prog Try.f20 ([AVal.agg (rM m0 m1 m2 m3 m4 m5 m6 (AVal.fsl nb 2 rs none) m8 m9 m10)]) ([]) ([Dec.br false, Dec.use [2, 1] [AVal.ptr 0 2 0 0, iI m0] [AObj.rows false 2 [[AVal.slc false 1 1 0 1 (some 1), AVal.tt false]], AObj.rows true 1 [[AVal.int IntKind.u8 77]]] (AVal.tuple []) [AObj.rows false 2 [[AVal.slc false 2 1 0 (List.length l) none, AVal.bool b]], AObj.dead, AObj.rows true 1 (rowsL l)], Dec.use [2, 3] [AVal.ptr 0 2 0 0, iI m1] [AObj.rows false 2 [[AVal.slc false 1 1 0 (List.length l) none, AVal.bool b]], AObj.rows true 1 (rowsL l)] (AVal.tuple []) [AObj.rows false 2 [[AVal.slc false 2 1 0 (List.length (l ++ got (pI m1))) none, AVal.bool (b || Option.isNone (pI m1))]], AObj.dead, AObj.rows true 1 (rowsL (l ++ got (pI m1)))], Dec.use [2, 4] [AVal.ptr 0 2 0 0, iI m2] [AObj.rows false 2 [[AVal.slc false 1 1 0 (List.length (l ++ got (pI m1))) none, AVal.bool (b || Option.isNone (pI m1))]], AObj.rows true 1 (rowsL (l ++ got (pI m1)))] (AVal.tuple []) [AObj.rows false 2 [[AVal.slc false 2 1 0 (List.length (l ++ got (pI m1) ++ got (pI m2))) none, AVal.bool (b || Option.isNone (pI m1) || Option.isNone (pI m2))]], AObj.dead, AObj.rows true 1 (rowsL (l ++ got (pI m1) ++ got (pI m2)))], Dec.use [2, 5] [AVal.ptr 0 2 0 0, iI m3] [AObj.rows false 2 [[AVal.slc false 1 1 0 (List.length (l ++ got (pI m1) ++ got (pI m2))) none, AVal.bool (b || Option.isNone (pI m1) || Option.isNone (pI m2))]], AObj.rows true 1 (rowsL (l ++ got (pI m1) ++ got (pI m2)))] (AVal.tuple []) [AObj.rows false 2 [[AVal.slc false 2 1 0 (List.length (l ++ got (pI m1) ++ got (pI m2) ++ got (pI m3))) none, AVal.bool (b || Option.isNone (pI m1) || Option.isNone (pI m2) || Option.isNone (pI m3))]], AObj.dead, AObj.rows true 1 (rowsL (l ++ got (pI m1) ++ got (pI m2) ++ got (pI m3)))], Dec.use [2, 6] [AVal.ptr 0 2 0 0, iI m4] [AObj.rows false 2 [[AVal.slc false 1 1 0 (List.length (l ++ got (pI m1) ++ got (pI m2) ++ got (pI m3))) none, AVal.bool (b || Option.isNone (pI m1) || Option.isNone (pI m2) || Option.isNone (pI m3))]], AObj.rows true 1 (rowsL (l ++ got (pI m1) ++ got (pI m2) ++ got (pI m3)))] (AVal.tuple []) [AObj.rows false 2 [[AVal.slc false 2 1 0 (List.length (l ++ got (pI m1) ++ got (pI m2) ++ got (pI m3) ++ got (pI m4))) none, AVal.bool (b || Option.isNone (pI m1) || Option.isNone (pI m2) || Option.isNone (pI m3) || Option.isNone (pI m4))]], AObj.dead, AObj.rows true 1 (rowsL (l ++ got (pI m1) ++ got (pI m2) ++ got (pI m3) ++ got (pI m4)))], Dec.use [2, 7] [AVal.ptr 0 2 0 0, iI m5] [AObj.rows false 2 [[AVal.slc false 1 1 0 (List.length (l ++ got (pI m1) ++ got (pI m2) ++ got (pI m3) ++ got (pI m4))) none, AVal.bool (b || Option.isNone (pI m1) || Option.isNone (pI m2) || Option.isNone (pI m3) || Option.isNone (pI m4))]], AObj.rows true 1 (rowsL (l ++ got (pI m1) ++ got (pI m2) ++ got (pI m3) ++ got (pI m4)))] (AVal.tuple []) [AObj.rows false 2 [[AVal.slc false 2 1 0 (List.length (l ++ got (pI m1) ++ got (pI m2) ++ got (pI m3) ++ got (pI m4) ++ got (pI m5))) none, AVal.bool (b || Option.isNone (pI m1) || Option.isNone (pI m2) || Option.isNone (pI m3) || Option.isNone (pI m4) || Option.isNone (pI m5))]], AObj.dead, AObj.rows true 1 (rowsL (l ++ got (pI m1) ++ got (pI m2) ++ got (pI m3) ++ got (pI m4) ++ got (pI m5)))], Dec.use [2, 8] [AVal.ptr 0 2 0 0, iI m6] [AObj.rows false 2 [[AVal.slc false 1 1 0 (List.length (l ++ got (pI m1) ++ got (pI m2) ++ got (pI m3) ++ got (pI m4) ++ got (pI m5))) none, AVal.bool (b || Option.isNone (pI m1) || Option.isNone (pI m2) || Option.isNone (pI m3) || Option.isNone (pI m4) || Option.isNone (pI m5))]], AObj.rows true 1 (rowsL (l ++ got (pI m1) ++ got (pI m2) ++ got (pI m3) ++ got (pI m4) ++ got (pI m5)))] (AVal.tuple []) [AObj.rows false 2 [[AVal.slc false 2 1 0 (List.length (l ++ got (pI m1) ++ got (pI m2) ++ got (pI m3) ++ got (pI m4) ++ got (pI m5) ++ got (pI m6))) none, AVal.bool (b || Option.isNone (pI m1) || Option.isNone (pI m2) || Option.isNone (pI m3) || Option.isNone (pI m4) || Option.isNone (pI m5) || Option.isNone (pI m6))]], AObj.dead, AObj.rows true 1 (rowsL (l ++ got (pI m1) ++ got (pI m2) ++ got (pI m3) ++ got (pI m4) ++ got (pI m5) ++ got (pI m6)))], Dec.use [2, 9] [AVal.ptr 0 2 0 0, iI m8] [AObj.rows false 2 [[AVal.slc false 1 1 0 (List.length (l ++ got (pI m1) ++ got (pI m2) ++ got (pI m3) ++ got (pI m4) ++ got (pI m5) ++ got (pI m6))) none, AVal.bool (b || Option.isNone (pI m1) || Option.isNone (pI m2) || Option.isNone (pI m3) || Option.isNone (pI m4) || Option.isNone (pI m5) || Option.isNone (pI m6))]], AObj.rows true 1 (rowsL (l ++ got (pI m1) ++ got (pI m2) ++ got (pI m3) ++ got (pI m4) ++ got (pI m5) ++ got (pI m6)))] (AVal.tuple []) [AObj.rows false 2 [[AVal.slc false 2 1 0 (List.length (l ++ got (pI m1) ++ got (pI m2) ++ got (pI m3) ++ got (pI m4) ++ got (pI m5) ++ got (pI m6) ++ got (pI m8))) none, AVal.bool (b || Option.isNone (pI m1) || Option.isNone (pI m2) || Option.isNone (pI m3) || Option.isNone (pI m4) || Option.isNone (pI m5) || Option.isNone (pI m6) || Option.isNone (pI m8))]], AObj.dead, AObj.rows true 1 (rowsL (l ++ got (pI m1) ++ got (pI m2) ++ got (pI m3) ++ got (pI m4) ++ got (pI m5) ++ got (pI m6) ++ got (pI m8)))], Dec.use [2, 10] [AVal.ptr 0 2 0 0, AVal.bool m9] [AObj.rows false 2 [[AVal.slc false 1 1 0 (List.length (l ++ got (pI m1) ++ got (pI m2) ++ got (pI m3) ++ got (pI m4) ++ got (pI m5) ++ got (pI m6) ++ got (pI m8))) none, AVal.bool (b || Option.isNone (pI m1) || Option.isNone (pI m2) || Option.isNone (pI m3) || Option.isNone (pI m4) || Option.isNone (pI m5) || Option.isNone (pI m6) || Option.isNone (pI m8))]], AObj.rows true 1 (rowsL (l ++ got (pI m1) ++ got (pI m2) ++ got (pI m3) ++ got (pI m4) ++ got (pI m5) ++ got (pI m6) ++ got (pI m8)))] (AVal.tuple []) [AObj.rows false 2 [[AVal.slc false 2 1 0 (List.length (l ++ got (pI m1) ++ got (pI m2) ++ got (pI m3) ++ got (pI m4) ++ got (pI m5) ++ got (pI m6) ++ got (pI m8) ++ [if m9 = true then 1 else 0])) none, AVal.bool (b || Option.isNone (pI m1) || Option.isNone (pI m2) || Option.isNone (pI m3) || Option.isNone (pI m4) || Option.isNone (pI m5) || Option.isNone (pI m6) || Option.isNone (pI m8) || false)]], AObj.dead, AObj.rows true 1 (rowsL (l ++ got (pI m1) ++ got (pI m2) ++ got (pI m3) ++ got (pI m4) ++ got (pI m5) ++ got (pI m6) ++ got (pI m8) ++ [if m9 = true then 1 else 0]))], Dec.use [2, 11] [AVal.ptr 0 2 0 0, iI (↑(List.length rs) : Int)] [AObj.rows false 2 [[AVal.slc false 1 1 0 (List.length (l ++ got (pI m1) ++ got (pI m2) ++ got (pI m3) ++ got (pI m4) ++ got (pI m5) ++ got (pI m6) ++ got (pI m8) ++ [if m9 = true then 1 else 0])) none, AVal.bool (b || Option.isNone (pI m1) || Option.isNone (pI m2) || Option.isNone (pI m3) || Option.isNone (pI m4) || Option.isNone (pI m5) || Option.isNone (pI m6) || Option.isNone (pI m8) || false)]], AObj.rows true 1 (rowsL (l ++ got (pI m1) ++ got (pI m2) ++ got (pI m3) ++ got (pI m4) ++ got (pI m5) ++ got (pI m6) ++ got (pI m8) ++ [if m9 = true then 1 else 0]))] (AVal.tuple []) [AObj.rows false 2 [[AVal.slc false 2 1 0 (List.length (l ++ got (pI m1) ++ got (pI m2) ++ got (pI m3) ++ got (pI m4) ++ got (pI m5) ++ got (pI m6) ++ got (pI m8) ++ [if m9 = true then 1 else 0] ++ got (pI (↑(List.length rs) : Int)))) none, AVal.bool (b || Option.isNone (pI m1) || Option.isNone (pI m2) || Option.isNone (pI m3) || Option.isNone (pI m4) || Option.isNone (pI m5) || Option.isNone (pI m6) || Option.isNone (pI m8) || false || Option.isNone (pI (↑(List.length rs) : Int)))]], AObj.dead, AObj.rows true 1 (rowsL (l ++ got (pI m1) ++ got (pI m2) ++ got (pI m3) ++ got (pI m4) ++ got (pI m5) ++ got (pI m6) ++ got (pI m8) ++ [if m9 = true then 1 else 0] ++ got (pI (↑(List.length rs) : Int))))], Dec.compact (keepM 85 [1, 4, 5]) [0, 2, 12], Dec.loop (AExit.exit 0) (rgoM (↑(List.length rs) : Int)) (hoM m0 m1 m2 m3 m4 m5 m6 m8 m9 m10 nb rs l2 b2), Dec.use [1, 2] [AVal.ptr 0 2 0 0, AVal.str m10] [AObj.rows false 2 [[AVal.slc false 1 1 0 (List.length l2) none, AVal.bool b2]], AObj.rows true 1 (rowsL l2)] (AVal.tuple []) [AObj.rows false 2 [[AVal.slc false 2 1 0 (List.length (l2 ++ got (pS m10))) none, AVal.bool (b2 || Option.isNone (pS m10))]], AObj.dead, AObj.rows true 1 (rowsL (l2 ++ got (pS m10)))], Dec.use [1, 3] [AVal.ptr 0 2 0 0] [AObj.rows false 2 [[AVal.slc false 1 1 0 (List.length (l2 ++ got (pS m10))) none, AVal.bool (b2 || Option.isNone (pS m10))]], AObj.rows true 1 (rowsL (l2 ++ got (pS m10)))] (AVal.tuple [AVal.str (endS (l2 ++ got (pS m10)) (b2 || Option.isNone (pS m10))), iI (endE (b2 || Option.isNone (pS m10)))]) [AObj.rows false 2 [[AVal.slc false 1 1 0 (List.length (l2 ++ got (pS m10))) none, AVal.bool (b2 || Option.isNone (pS m10))]], AObj.rows true 1 (rowsL (l2 ++ got (pS m10)))]]) = .ok (FRes.mk (AVal.tuple [AVal.str (endS (l2 ++ got (pS m10)) (b2 || Option.isNone (pS m10))), iI (endE (b2 || Option.isNone (pS m10)))]) ([AObj.rows false 11 [(rM m0 m1 m2 m3 m4 m5 m6 (AVal.fsl nb 2 rs none) m8 m9 m10)], AObj.rows false 2 [[AVal.slc false 3 1 0 (List.length (l2 ++ got (pS m10))) none, AVal.bool (b2 || Option.isNone (pS m10))]], AObj.dead, AObj.rows true 1 (rowsL (l2 ++ got (pS m10)))]) ((Owed.use (owed Try.prog 0) 39 [1, 3] [AVal.ptr 1 2 0 0] [AObj.rows false 11 [(rM m0 m1 m2 m3 m4 m5 m6 (AVal.fsl nb 2 rs none) m8 m9 m10)], AObj.rows false 2 [[AVal.slc false 3 1 0 (List.length (l2 ++ got (pS m10))) none, AVal.bool (b2 || Option.isNone (pS m10))]], AObj.dead, AObj.rows true 1 (rowsL (l2 ++ got (pS m10)))] [AVal.ptr 0 2 0 0] [AObj.rows false 2 [[AVal.slc false 1 1 0 (List.length (l2 ++ got (pS m10))) none, AVal.bool (b2 || Option.isNone (pS m10))]], AObj.rows true 1 (rowsL (l2 ++ got (pS m10)))] (AVal.tuple [AVal.str (endS (l2 ++ got (pS m10)) (b2 || Option.isNone (pS m10))), iI (endE (b2 || Option.isNone (pS m10)))]) [AObj.rows false 2 [[AVal.slc false 1 1 0 (List.length (l2 ++ got (pS m10))) none, AVal.bool (b2 || Option.isNone (pS m10))]], AObj.rows true 1 (rowsL (l2 ++ got (pS m10)))]) :: ((Owed.use (owed Try.prog 0) 38 [1, 2] [AVal.ptr 1 2 0 0, AVal.str m10] [AObj.rows false 11 [(rM m0 m1 m2 m3 m4 m5 m6 (AVal.fsl nb 2 rs none) m8 m9 m10)], AObj.rows false 2 [[AVal.slc false 2 1 0 (List.length l2) none, AVal.bool b2]], AObj.rows true 1 (rowsL l2)] [AVal.ptr 0 2 0 0, AVal.str m10] [AObj.rows false 2 [[AVal.slc false 1 1 0 (List.length l2) none, AVal.bool b2]], AObj.rows true 1 (rowsL l2)] (AVal.tuple []) [AObj.rows false 2 [[AVal.slc false 2 1 0 (List.length (l2 ++ got (pS m10))) none, AVal.bool (b2 || Option.isNone (pS m10))]], AObj.dead, AObj.rows true 1 (rowsL (l2 ++ got (pS m10)))]) :: (tr 2 ++ ((Owed.loop (owed Try.prog 0) (loopNo Try.f20 0) (mkR 85 [(1, AVal.ptr 0 11 0 0), (4, AVal.ptr 1 2 0 0), (5, iI 0)]) [AObj.rows false 11 [(rM m0 m1 m2 m3 m4 m5 m6 (AVal.fsl nb 2 rs none) m8 m9 m10)], AObj.rows false 2 [[AVal.slc false 2 1 0 (List.length (l ++ got (pI m1) ++ got (pI m2) ++ got (pI m3) ++ got (pI m4) ++ got (pI m5) ++ got (pI m6) ++ got (pI m8) ++ [if m9 = true then 1 else 0] ++ got (pI (↑(List.length rs) : Int)))) none, AVal.bool (b || Option.isNone (pI m1) || Option.isNone (pI m2) || Option.isNone (pI m3) || Option.isNone (pI m4) || Option.isNone (pI m5) || Option.isNone (pI m6) || Option.isNone (pI m8) || false || Option.isNone (pI (↑(List.length rs) : Int)))]], AObj.rows true 1 (rowsL (l ++ got (pI m1) ++ got (pI m2) ++ got (pI m3) ++ got (pI m4) ++ got (pI m5) ++ got (pI m6) ++ got (pI m8) ++ [if m9 = true then 1 else 0] ++ got (pI (↑(List.length rs) : Int))))] (AExit.exit 0) (mkR 85 [(1, AVal.ptr 0 11 0 0), (4, AVal.ptr 1 2 0 0), (5, iI (↑(List.length rs) : Int))]) [AObj.rows false 11 [(rM m0 m1 m2 m3 m4 m5 m6 (AVal.fsl nb 2 rs none) m8 m9 m10)], AObj.rows false 2 [[AVal.slc false 2 1 0 (List.length l2) none, AVal.bool b2]], AObj.rows true 1 (rowsL l2)]) :: ((Owed.use (owed Try.prog 0) 35 [2, 11] [AVal.ptr 2 2 0 0, iI (↑(List.length rs) : Int)] [AObj.rows false 11 [(rM m0 m1 m2 m3 m4 m5 m6 (AVal.fsl nb 2 rs none) m8 m9 m10)], AObj.dead, AObj.rows false 2 [[AVal.slc false 11 1 0 (List.length (l ++ got (pI m1) ++ got (pI m2) ++ got (pI m3) ++ got (pI m4) ++ got (pI m5) ++ got (pI m6) ++ got (pI m8) ++ [if m9 = true then 1 else 0])) none, AVal.bool (b || Option.isNone (pI m1) || Option.isNone (pI m2) || Option.isNone (pI m3) || Option.isNone (pI m4) || Option.isNone (pI m5) || Option.isNone (pI m6) || Option.isNone (pI m8) || false)]], AObj.dead, AObj.dead, AObj.dead, AObj.dead, AObj.dead, AObj.dead, AObj.dead, AObj.dead, AObj.rows true 1 (rowsL (l ++ got (pI m1) ++ got (pI m2) ++ got (pI m3) ++ got (pI m4) ++ got (pI m5) ++ got (pI m6) ++ got (pI m8) ++ [if m9 = true then 1 else 0]))] [AVal.ptr 0 2 0 0, iI (↑(List.length rs) : Int)] [AObj.rows false 2 [[AVal.slc false 1 1 0 (List.length (l ++ got (pI m1) ++ got (pI m2) ++ got (pI m3) ++ got (pI m4) ++ got (pI m5) ++ got (pI m6) ++ got (pI m8) ++ [if m9 = true then 1 else 0])) none, AVal.bool (b || Option.isNone (pI m1) || Option.isNone (pI m2) || Option.isNone (pI m3) || Option.isNone (pI m4) || Option.isNone (pI m5) || Option.isNone (pI m6) || Option.isNone (pI m8) || false)]], AObj.rows true 1 (rowsL (l ++ got (pI m1) ++ got (pI m2) ++ got (pI m3) ++ got (pI m4) ++ got (pI m5) ++ got (pI m6) ++ got (pI m8) ++ [if m9 = true then 1 else 0]))] (AVal.tuple []) [AObj.rows false 2 [[AVal.slc false 2 1 0 (List.length (l ++ got (pI m1) ++ got (pI m2) ++ got (pI m3) ++ got (pI m4) ++ got (pI m5) ++ got (pI m6) ++ got (pI m8) ++ [if m9 = true then 1 else 0] ++ got (pI (↑(List.length rs) : Int)))) none, AVal.bool (b || Option.isNone (pI m1) || Option.isNone (pI m2) || Option.isNone (pI m3) || Option.isNone (pI m4) || Option.isNone (pI m5) || Option.isNone (pI m6) || Option.isNone (pI m8) || false || Option.isNone (pI (↑(List.length rs) : Int)))]], AObj.dead, AObj.rows true 1 (rowsL (l ++ got (pI m1) ++ got (pI m2) ++ got (pI m3) ++ got (pI m4) ++ got (pI m5) ++ got (pI m6) ++ got (pI m8) ++ [if m9 = true then 1 else 0] ++ got (pI (↑(List.length rs) : Int))))]) :: (tr 2 ++ ((Owed.use (owed Try.prog 0) 36 [2, 10] [AVal.ptr 2 2 0 0, AVal.bool m9] [AObj.rows false 11 [(rM m0 m1 m2 m3 m4 m5 m6 (AVal.fsl nb 2 rs none) m8 m9 m10)], AObj.dead, AObj.rows false 2 [[AVal.slc false 10 1 0 (List.length (l ++ got (pI m1) ++ got (pI m2) ++ got (pI m3) ++ got (pI m4) ++ got (pI m5) ++ got (pI m6) ++ got (pI m8))) none, AVal.bool (b || Option.isNone (pI m1) || Option.isNone (pI m2) || Option.isNone (pI m3) || Option.isNone (pI m4) || Option.isNone (pI m5) || Option.isNone (pI m6) || Option.isNone (pI m8))]], AObj.dead, AObj.dead, AObj.dead, AObj.dead, AObj.dead, AObj.dead, AObj.dead, AObj.rows true 1 (rowsL (l ++ got (pI m1) ++ got (pI m2) ++ got (pI m3) ++ got (pI m4) ++ got (pI m5) ++ got (pI m6) ++ got (pI m8)))] [AVal.ptr 0 2 0 0, AVal.bool m9] [AObj.rows false 2 [[AVal.slc false 1 1 0 (List.length (l ++ got (pI m1) ++ got (pI m2) ++ got (pI m3) ++ got (pI m4) ++ got (pI m5) ++ got (pI m6) ++ got (pI m8))) none, AVal.bool (b || Option.isNone (pI m1) || Option.isNone (pI m2) || Option.isNone (pI m3) || Option.isNone (pI m4) || Option.isNone (pI m5) || Option.isNone (pI m6) || Option.isNone (pI m8))]], AObj.rows true 1 (rowsL (l ++ got (pI m1) ++ got (pI m2) ++ got (pI m3) ++ got (pI m4) ++ got (pI m5) ++ got (pI m6) ++ got (pI m8)))] (AVal.tuple []) [AObj.rows false 2 [[AVal.slc false 2 1 0 (List.length (l ++ got (pI m1) ++ got (pI m2) ++ got (pI m3) ++ got (pI m4) ++ got (pI m5) ++ got (pI m6) ++ got (pI m8) ++ [if m9 = true then 1 else 0])) none, AVal.bool (b || Option.isNone (pI m1) || Option.isNone (pI m2) || Option.isNone (pI m3) || Option.isNone (pI m4) || Option.isNone (pI m5) || Option.isNone (pI m6) || Option.isNone (pI m8) || false)]], AObj.dead, AObj.rows true 1 (rowsL (l ++ got (pI m1) ++ got (pI m2) ++ got (pI m3) ++ got (pI m4) ++ got (pI m5) ++ got (pI m6) ++ got (pI m8) ++ [if m9 = true then 1 else 0]))]) :: (tr 2 ++ ((Owed.use (owed Try.prog 0) 35 [2, 9] [AVal.ptr 2 2 0 0, iI m8] [AObj.rows false 11 [(rM m0 m1 m2 m3 m4 m5 m6 (AVal.fsl nb 2 rs none) m8 m9 m10)], AObj.dead, AObj.rows false 2 [[AVal.slc false 9 1 0 (List.length (l ++ got (pI m1) ++ got (pI m2) ++ got (pI m3) ++ got (pI m4) ++ got (pI m5) ++ got (pI m6))) none, AVal.bool (b || Option.isNone (pI m1) || Option.isNone (pI m2) || Option.isNone (pI m3) || Option.isNone (pI m4) || Option.isNone (pI m5) || Option.isNone (pI m6))]], AObj.dead, AObj.dead, AObj.dead, AObj.dead, AObj.dead, AObj.dead, AObj.rows true 1 (rowsL (l ++ got (pI m1) ++ got (pI m2) ++ got (pI m3) ++ got (pI m4) ++ got (pI m5) ++ got (pI m6)))] [AVal.ptr 0 2 0 0, iI m8] [AObj.rows false 2 [[AVal.slc false 1 1 0 (List.length (l ++ got (pI m1) ++ got (pI m2) ++ got (pI m3) ++ got (pI m4) ++ got (pI m5) ++ got (pI m6))) none, AVal.bool (b || Option.isNone (pI m1) || Option.isNone (pI m2) || Option.isNone (pI m3) || Option.isNone (pI m4) || Option.isNone (pI m5) || Option.isNone (pI m6))]], AObj.rows true 1 (rowsL (l ++ got (pI m1) ++ got (pI m2) ++ got (pI m3) ++ got (pI m4) ++ got (pI m5) ++ got (pI m6)))] (AVal.tuple []) [AObj.rows false 2 [[AVal.slc false 2 1 0 (List.length (l ++ got (pI m1) ++ got (pI m2) ++ got (pI m3) ++ got (pI m4) ++ got (pI m5) ++ got (pI m6) ++ got (pI m8))) none, AVal.bool (b || Option.isNone (pI m1) || Option.isNone (pI m2) || Option.isNone (pI m3) || Option.isNone (pI m4) || Option.isNone (pI m5) || Option.isNone (pI m6) || Option.isNone (pI m8))]], AObj.dead, AObj.rows true 1 (rowsL (l ++ got (pI m1) ++ got (pI m2) ++ got (pI m3) ++ got (pI m4) ++ got (pI m5) ++ got (pI m6) ++ got (pI m8)))]) :: (tr 2 ++ ((Owed.use (owed Try.prog 0) 35 [2, 8] [AVal.ptr 2 2 0 0, iI m6] [AObj.rows false 11 [(rM m0 m1 m2 m3 m4 m5 m6 (AVal.fsl nb 2 rs none) m8 m9 m10)], AObj.dead, AObj.rows false 2 [[AVal.slc false 8 1 0 (List.length (l ++ got (pI m1) ++ got (pI m2) ++ got (pI m3) ++ got (pI m4) ++ got (pI m5))) none, AVal.bool (b || Option.isNone (pI m1) || Option.isNone (pI m2) || Option.isNone (pI m3) || Option.isNone (pI m4) || Option.isNone (pI m5))]], AObj.dead, AObj.dead, AObj.dead, AObj.dead, AObj.dead, AObj.rows true 1 (rowsL (l ++ got (pI m1) ++ got (pI m2) ++ got (pI m3) ++ got (pI m4) ++ got (pI m5)))] [AVal.ptr 0 2 0 0, iI m6] [AObj.rows false 2 [[AVal.slc false 1 1 0 (List.length (l ++ got (pI m1) ++ got (pI m2) ++ got (pI m3) ++ got (pI m4) ++ got (pI m5))) none, AVal.bool (b || Option.isNone (pI m1) || Option.isNone (pI m2) || Option.isNone (pI m3) || Option.isNone (pI m4) || Option.isNone (pI m5))]], AObj.rows true 1 (rowsL (l ++ got (pI m1) ++ got (pI m2) ++ got (pI m3) ++ got (pI m4) ++ got (pI m5)))] (AVal.tuple []) [AObj.rows false 2 [[AVal.slc false 2 1 0 (List.length (l ++ got (pI m1) ++ got (pI m2) ++ got (pI m3) ++ got (pI m4) ++ got (pI m5) ++ got (pI m6))) none, AVal.bool (b || Option.isNone (pI m1) || Option.isNone (pI m2) || Option.isNone (pI m3) || Option.isNone (pI m4) || Option.isNone (pI m5) || Option.isNone (pI m6))]], AObj.dead, AObj.rows true 1 (rowsL (l ++ got (pI m1) ++ got (pI m2) ++ got (pI m3) ++ got (pI m4) ++ got (pI m5) ++ got (pI m6)))]) :: (tr 2 ++ ((Owed.use (owed Try.prog 0) 35 [2, 7] [AVal.ptr 2 2 0 0, iI m5] [AObj.rows false 11 [(rM m0 m1 m2 m3 m4 m5 m6 (AVal.fsl nb 2 rs none) m8 m9 m10)], AObj.dead, AObj.rows false 2 [[AVal.slc false 7 1 0 (List.length (l ++ got (pI m1) ++ got (pI m2) ++ got (pI m3) ++ got (pI m4))) none, AVal.bool (b || Option.isNone (pI m1) || Option.isNone (pI m2) || Option.isNone (pI m3) || Option.isNone (pI m4))]], AObj.dead, AObj.dead, AObj.dead, AObj.dead, AObj.rows true 1 (rowsL (l ++ got (pI m1) ++ got (pI m2) ++ got (pI m3) ++ got (pI m4)))] [AVal.ptr 0 2 0 0, iI m5] [AObj.rows false 2 [[AVal.slc false 1 1 0 (List.length (l ++ got (pI m1) ++ got (pI m2) ++ got (pI m3) ++ got (pI m4))) none, AVal.bool (b || Option.isNone (pI m1) || Option.isNone (pI m2) || Option.isNone (pI m3) || Option.isNone (pI m4))]], AObj.rows true 1 (rowsL (l ++ got (pI m1) ++ got (pI m2) ++ got (pI m3) ++ got (pI m4)))] (AVal.tuple []) [AObj.rows false 2 [[AVal.slc false 2 1 0 (List.length (l ++ got (pI m1) ++ got (pI m2) ++ got (pI m3) ++ got (pI m4) ++ got (pI m5))) none, AVal.bool (b || Option.isNone (pI m1) || Option.isNone (pI m2) || Option.isNone (pI m3) || Option.isNone (pI m4) || Option.isNone (pI m5))]], AObj.dead, AObj.rows true 1 (rowsL (l ++ got (pI m1) ++ got (pI m2) ++ got (pI m3) ++ got (pI m4) ++ got (pI m5)))]) :: (tr 2 ++ ((Owed.use (owed Try.prog 0) 35 [2, 6] [AVal.ptr 2 2 0 0, iI m4] [AObj.rows false 11 [(rM m0 m1 m2 m3 m4 m5 m6 (AVal.fsl nb 2 rs none) m8 m9 m10)], AObj.dead, AObj.rows false 2 [[AVal.slc false 6 1 0 (List.length (l ++ got (pI m1) ++ got (pI m2) ++ got (pI m3))) none, AVal.bool (b || Option.isNone (pI m1) || Option.isNone (pI m2) || Option.isNone (pI m3))]], AObj.dead, AObj.dead, AObj.dead, AObj.rows true 1 (rowsL (l ++ got (pI m1) ++ got (pI m2) ++ got (pI m3)))] [AVal.ptr 0 2 0 0, iI m4] [AObj.rows false 2 [[AVal.slc false 1 1 0 (List.length (l ++ got (pI m1) ++ got (pI m2) ++ got (pI m3))) none, AVal.bool (b || Option.isNone (pI m1) || Option.isNone (pI m2) || Option.isNone (pI m3))]], AObj.rows true 1 (rowsL (l ++ got (pI m1) ++ got (pI m2) ++ got (pI m3)))] (AVal.tuple []) [AObj.rows false 2 [[AVal.slc false 2 1 0 (List.length (l ++ got (pI m1) ++ got (pI m2) ++ got (pI m3) ++ got (pI m4))) none, AVal.bool (b || Option.isNone (pI m1) || Option.isNone (pI m2) || Option.isNone (pI m3) || Option.isNone (pI m4))]], AObj.dead, AObj.rows true 1 (rowsL (l ++ got (pI m1) ++ got (pI m2) ++ got (pI m3) ++ got (pI m4)))]) :: (tr 2 ++ ((Owed.use (owed Try.prog 0) 35 [2, 5] [AVal.ptr 2 2 0 0, iI m3] [AObj.rows false 11 [(rM m0 m1 m2 m3 m4 m5 m6 (AVal.fsl nb 2 rs none) m8 m9 m10)], AObj.dead, AObj.rows false 2 [[AVal.slc false 5 1 0 (List.length (l ++ got (pI m1) ++ got (pI m2))) none, AVal.bool (b || Option.isNone (pI m1) || Option.isNone (pI m2))]], AObj.dead, AObj.dead, AObj.rows true 1 (rowsL (l ++ got (pI m1) ++ got (pI m2)))] [AVal.ptr 0 2 0 0, iI m3] [AObj.rows false 2 [[AVal.slc false 1 1 0 (List.length (l ++ got (pI m1) ++ got (pI m2))) none, AVal.bool (b || Option.isNone (pI m1) || Option.isNone (pI m2))]], AObj.rows true 1 (rowsL (l ++ got (pI m1) ++ got (pI m2)))] (AVal.tuple []) [AObj.rows false 2 [[AVal.slc false 2 1 0 (List.length (l ++ got (pI m1) ++ got (pI m2) ++ got (pI m3))) none, AVal.bool (b || Option.isNone (pI m1) || Option.isNone (pI m2) || Option.isNone (pI m3))]], AObj.dead, AObj.rows true 1 (rowsL (l ++ got (pI m1) ++ got (pI m2) ++ got (pI m3)))]) :: (tr 2 ++ ((Owed.use (owed Try.prog 0) 35 [2, 4] [AVal.ptr 2 2 0 0, iI m2] [AObj.rows false 11 [(rM m0 m1 m2 m3 m4 m5 m6 (AVal.fsl nb 2 rs none) m8 m9 m10)], AObj.dead, AObj.rows false 2 [[AVal.slc false 4 1 0 (List.length (l ++ got (pI m1))) none, AVal.bool (b || Option.isNone (pI m1))]], AObj.dead, AObj.rows true 1 (rowsL (l ++ got (pI m1)))] [AVal.ptr 0 2 0 0, iI m2] [AObj.rows false 2 [[AVal.slc false 1 1 0 (List.length (l ++ got (pI m1))) none, AVal.bool (b || Option.isNone (pI m1))]], AObj.rows true 1 (rowsL (l ++ got (pI m1)))] (AVal.tuple []) [AObj.rows false 2 [[AVal.slc false 2 1 0 (List.length (l ++ got (pI m1) ++ got (pI m2))) none, AVal.bool (b || Option.isNone (pI m1) || Option.isNone (pI m2))]], AObj.dead, AObj.rows true 1 (rowsL (l ++ got (pI m1) ++ got (pI m2)))]) :: (tr 2 ++ ((Owed.use (owed Try.prog 0) 35 [2, 3] [AVal.ptr 2 2 0 0, iI m1] [AObj.rows false 11 [(rM m0 m1 m2 m3 m4 m5 m6 (AVal.fsl nb 2 rs none) m8 m9 m10)], AObj.dead, AObj.rows false 2 [[AVal.slc false 3 1 0 (List.length l) none, AVal.bool b]], AObj.rows true 1 (rowsL l)] [AVal.ptr 0 2 0 0, iI m1] [AObj.rows false 2 [[AVal.slc false 1 1 0 (List.length l) none, AVal.bool b]], AObj.rows true 1 (rowsL l)] (AVal.tuple []) [AObj.rows false 2 [[AVal.slc false 2 1 0 (List.length (l ++ got (pI m1))) none, AVal.bool (b || Option.isNone (pI m1))]], AObj.dead, AObj.rows true 1 (rowsL (l ++ got (pI m1)))]) :: (tr 2 ++ ((Owed.use (owed Try.prog 0) 35 [2, 1] [AVal.ptr 2 2 0 0, iI m0] [AObj.rows false 11 [(rM m0 m1 m2 m3 m4 m5 m6 (AVal.fsl nb 2 rs none) m8 m9 m10)], AObj.rows true 1 [[AVal.int IntKind.u8 77]], AObj.rows false 2 [[AVal.slc false 1 1 0 1 (some 1), AVal.tt false]]] [AVal.ptr 0 2 0 0, iI m0] [AObj.rows false 2 [[AVal.slc false 1 1 0 1 (some 1), AVal.tt false]], AObj.rows true 1 [[AVal.int IntKind.u8 77]]] (AVal.tuple []) [AObj.rows false 2 [[AVal.slc false 2 1 0 (List.length l) none, AVal.bool b]], AObj.dead, AObj.rows true 1 (rowsL l)]) :: (tr 2 ++ ((decide ((↑(List.length rs) : Int) > 16) = false) :: (tr 2 ++ []))))))))))))))))))))))))))) by kernel_rfl) (allP_of ⟨⟨(@Go.L12.oendsP (l2 ++ got (pS m10)) (b2 || Option.isNone (pS m10))), rfl, rfl, rfl⟩, ⟨⟨(@Go.L12.otextP (m10) (l2) (b2) h1), rfl, rfl, rfl⟩, (trC 2 ⟨h2, ⟨⟨(@Go.L12.onumP ((↑(List.length rs) : Int)) (l ++ got (pI m1) ++ got (pI m2) ++ got (pI m3) ++ got (pI m4) ++ got (pI m5) ++ got (pI m6) ++ got (pI m8) ++ [if m9 = true then 1 else 0]) (b || Option.isNone (pI m1) || Option.isNone (pI m2) || Option.isNone (pI m3) || Option.isNone (pI m4) || Option.isNone (pI m5) || Option.isNone (pI m6) || Option.isNone (pI m8) || false) h3), rfl, rfl, rfl⟩, (trC 2 ⟨⟨(@Go.L12.otruthP (m9) (l ++ got (pI m1) ++ got (pI m2) ++ got (pI m3) ++ got (pI m4) ++ got (pI m5) ++ got (pI m6) ++ got (pI m8)) (b || Option.isNone (pI m1) || Option.isNone (pI m2) || Option.isNone (pI m3) || Option.isNone (pI m4) || Option.isNone (pI m5) || Option.isNone (pI m6) || Option.isNone (pI m8)) h4), rfl, rfl, rfl⟩, (trC 2 ⟨⟨(@Go.L12.onumP (m8) (l ++ got (pI m1) ++ got (pI m2) ++ got (pI m3) ++ got (pI m4) ++ got (pI m5) ++ got (pI m6)) (b || Option.isNone (pI m1) || Option.isNone (pI m2) || Option.isNone (pI m3) || Option.isNone (pI m4) || Option.isNone (pI m5) || Option.isNone (pI m6)) h5), rfl, rfl, rfl⟩, (trC 2 ⟨⟨(@Go.L12.onumP (m6) (l ++ got (pI m1) ++ got (pI m2) ++ got (pI m3) ++ got (pI m4) ++ got (pI m5)) (b || Option.isNone (pI m1) || Option.isNone (pI m2) || Option.isNone (pI m3) || Option.isNone (pI m4) || Option.isNone (pI m5)) h6), rfl, rfl, rfl⟩, (trC 2 ⟨⟨(@Go.L12.onumP (m5) (l ++ got (pI m1) ++ got (pI m2) ++ got (pI m3) ++ got (pI m4)) (b || Option.isNone (pI m1) || Option.isNone (pI m2) || Option.isNone (pI m3) || Option.isNone (pI m4)) h7), rfl, rfl, rfl⟩, (trC 2 ⟨⟨(@Go.L12.onumP (m4) (l ++ got (pI m1) ++ got (pI m2) ++ got (pI m3)) (b || Option.isNone (pI m1) || Option.isNone (pI m2) || Option.isNone (pI m3)) h8), rfl, rfl, rfl⟩, (trC 2 ⟨⟨(@Go.L12.onumP (m3) (l ++ got (pI m1) ++ got (pI m2)) (b || Option.isNone (pI m1) || Option.isNone (pI m2)) h9), rfl, rfl, rfl⟩, (trC 2 ⟨⟨(@Go.L12.onumP (m2) (l ++ got (pI m1)) (b || Option.isNone (pI m1)) h10), rfl, rfl, rfl⟩, (trC 2 ⟨⟨(@Go.L12.onumP (m1) (l) (b) h11), rfl, rfl, rfl⟩, (trC 2 ⟨⟨h12, rfl, rfl, rfl⟩, (trC 2 ⟨h13, (trC 2 trivial)⟩)⟩)⟩)⟩)⟩)⟩)⟩)⟩)⟩)⟩)⟩⟩)⟩⟩)).move ([]) (by kernel_rfl) (by kernel_rfl) (by kernel_rfl)

def rPutM_T (m0 m1 m2 m3 m4 m5 m6 m8 : Int) (m9 : Bool) (m10 : ByteArray) (nb : Bool) (rs : List (List AVal)) (l : List UInt8) (b : Bool) (l2 : List UInt8) (b2 : Bool) (Q : AVal → AState → Prop) : Prop := ((decide ((↑(List.length rs) : Int) > 16) = true) → Q (AVal.tuple [AVal.str (ByteArray.mk #[]), iI 1]) ([])) ∧ ((decide ((↑(List.length rs) : Int) > 16) = false) → (FOk Try.prog 35 [AVal.ptr 0 2 0 0, iI m0] [AObj.rows false 2 [[AVal.slc false 1 1 0 1 (some 1), AVal.tt false]], AObj.rows true 1 [[AVal.int IntKind.u8 77]]] (AVal.tuple []) [AObj.rows false 2 [[AVal.slc false 2 1 0 (List.length l) none, AVal.bool b]], AObj.dead, AObj.rows true 1 (rowsL l)]) ∧ (List.length l ≤ 35184372088832) ∧ (List.length (l ++ got (pI m1)) ≤ 35184372088832) ∧ (List.length (l ++ got (pI m1) ++ got (pI m2)) ≤ 35184372088832) ∧ (List.length (l ++ got (pI m1) ++ got (pI m2) ++ got (pI m3)) ≤ 35184372088832) ∧ (List.length (l ++ got (pI m1) ++ got (pI m2) ++ got (pI m3) ++ got (pI m4)) ≤ 35184372088832) ∧ (List.length (l ++ got (pI m1) ++ got (pI m2) ++ got (pI m3) ++ got (pI m4) ++ got (pI m5)) ≤ 35184372088832) ∧ (List.length (l ++ got (pI m1) ++ got (pI m2) ++ got (pI m3) ++ got (pI m4) ++ got (pI m5) ++ got (pI m6)) ≤ 35184372088832) ∧ (List.length (l ++ got (pI m1) ++ got (pI m2) ++ got (pI m3) ++ got (pI m4) ++ got (pI m5) ++ got (pI m6) ++ got (pI m8)) ≤ 35184372088832) ∧ (List.length (l ++ got (pI m1) ++ got (pI m2) ++ got (pI m3) ++ got (pI m4) ++ got (pI m5) ++ got (pI m6) ++ got (pI m8) ++ [if m9 = true then 1 else 0]) ≤ 35184372088832) ∧ (TripN Try.prog 0 (Code.loop (loopNo Try.f20 0)) (mkR 85 [(1, AVal.ptr 0 11 0 0), (4, AVal.ptr 1 2 0 0), (5, iI 0)]) [AObj.rows false 11 [(rM m0 m1 m2 m3 m4 m5 m6 (AVal.fsl nb 2 rs none) m8 m9 m10)], AObj.rows false 2 [[AVal.slc false 2 1 0 (List.length (l ++ got (pI m1) ++ got (pI m2) ++ got (pI m3) ++ got (pI m4) ++ got (pI m5) ++ got (pI m6) ++ got (pI m8) ++ [if m9 = true then 1 else 0] ++ got (pI (↑(List.length rs) : Int)))) none, AVal.bool (b || Option.isNone (pI m1) || Option.isNone (pI m2) || Option.isNone (pI m3) || Option.isNone (pI m4) || Option.isNone (pI m5) || Option.isNone (pI m6) || Option.isNone (pI m8) || false || Option.isNone (pI (↑(List.length rs) : Int)))]], AObj.rows true 1 (rowsL (l ++ got (pI m1) ++ got (pI m2) ++ got (pI m3) ++ got (pI m4) ++ got (pI m5) ++ got (pI m6) ++ got (pI m8) ++ [if m9 = true then 1 else 0] ++ got (pI (↑(List.length rs) : Int))))] (AExit.exit 0) (mkR 85 [(1, AVal.ptr 0 11 0 0), (4, AVal.ptr 1 2 0 0), (5, iI (↑(List.length rs) : Int))]) [AObj.rows false 11 [(rM m0 m1 m2 m3 m4 m5 m6 (AVal.fsl nb 2 rs none) m8 m9 m10)], AObj.rows false 2 [[AVal.slc false 2 1 0 (List.length l2) none, AVal.bool b2]], AObj.rows true 1 (rowsL l2)]) ∧ (List.length l2 ≤ 35184372088832) ∧ Q (AVal.tuple [AVal.str (endS (l2 ++ got (pS m10)) (b2 || Option.isNone (pS m10))), iI (endE (b2 || Option.isNone (pS m10)))]) ([]))
theorem rPutM_wp (m0 m1 m2 m3 m4 m5 m6 m8 : Int) (m9 : Bool) (m10 : ByteArray) (nb : Bool) (rs : List (List AVal)) (l : List UInt8) (b : Bool) (l2 : List UInt8) (b2 : Bool) {Q : AVal → AState → Prop} (h : rPutM_T m0 m1 m2 m3 m4 m5 m6 m8 m9 m10 nb rs l b l2 b2 Q) : ∃ r σ', FOk Try.prog 20 ([AVal.agg (rM m0 m1 m2 m3 m4 m5 m6 (AVal.fsl nb 2 rs none) m8 m9 m10)]) ([]) r σ' ∧ Q r σ' :=
  brE (fun (c0 : decide ((↑(List.length rs) : Int) > 16) = true) => ⟨_, _, rPutM_1 m0 m1 m2 m3 m4 m5 m6 m8 m9 m10 nb rs l b l2 b2 (c0), (h.1 c0)⟩) (fun (c0 : decide ((↑(List.length rs) : Int) > 16) = false) => ⟨_, _, rPutM_2 m0 m1 m2 m3 m4 m5 m6 m8 m9 m10 nb rs l b l2 b2 ((h.2 c0).2.2.2.2.2.2.2.2.2.2.2.1) ((h.2 c0).2.2.2.2.2.2.2.2.2.2.1) ((h.2 c0).2.2.2.2.2.2.2.2.2.1) ((h.2 c0).2.2.2.2.2.2.2.2.1) ((h.2 c0).2.2.2.2.2.2.2.1) ((h.2 c0).2.2.2.2.2.2.1) ((h.2 c0).2.2.2.2.2.1) ((h.2 c0).2.2.2.2.1) ((h.2 c0).2.2.2.1) ((h.2 c0).2.2.1) ((h.2 c0).2.1) ((h.2 c0).1) (c0), (h.2 c0).2.2.2.2.2.2.2.2.2.2.2.2⟩)


end Go.L12
end

section
set_option linter.unusedVariables false
set_option linter.unusedSimpArgs false
set_option maxRecDepth 100000
namespace Go.L12
open Go Go.Abs Go.Proofs
theorem putR_oM (row : List AVal) : putR 111 row = if (rowOM row).any Option.isNone = true then none else some ((rowOM row).flatMap got) := by
  have e : putR 111 row = match pI (row.getD 0 .any).toInt with | none => none | some a => match pS (row.getD 1 .any).toStr with | none => none | some b => some (a ++ b) := rfl
  rw [e]
  unfold rowOM
  cases pI (row.getD 0 .any).toInt with
  | none => rfl
  | some a =>
    cases pS (row.getD 1 .any).toStr with
    | none => rfl
    | some b => simp
theorem seqL_oM : ∀ (rs : List (List AVal)), seqL (rs.map (putR 111)) = if (rs.flatMap rowOM).any Option.isNone = true then none else some ((rs.flatMap rowOM).flatMap got)
  | [] => rfl
  | row :: rs => by
    simp only [List.map_cons, seqL, putR_oM row, List.flatMap_cons, List.any_append, List.flatMap_append]
    cases h : (rowOM row).any Option.isNone with
    | true => simp
    | false =>
      simp only [Bool.false_eq_true, if_false, Bool.false_or]
      rw [seqL_oM rs]
      cases h2 : (rs.flatMap rowOM).any Option.isNone with
      | true => simp
      | false => simp
theorem pL_oM (rs : List (List AVal)) (hm : rs.length ≤ 16) : (pI (rs.length : Int) = some (vbl rs.length)) ∧ pL 111 rs = if (rs.flatMap rowOM).any Option.isNone = true then none else some (vbl rs.length ++ (rs.flatMap rowOM).flatMap got) := by
  constructor
  · rw [pI_of (decide_eq_true ⟨by omega, by omega⟩), Int.toNat_natCast]
  · unfold pL
    rw [if_pos (show rs.length ≤ mx 111 from hm), seqO_rows, seqL_oM]
    cases h2 : (rs.flatMap rowOM).any Option.isNone with
    | true => simp
    | false => simp
theorem osM (m0 m1 m2 m3 m4 m5 m6 m8 : Int) (m9 : Bool) (m10 : ByteArray) (rs : List (List AVal)) : putAll TM (vsM m0 m1 m2 m3 m4 m5 m6 m8 m9 m10 (listV rs)) = seqL [pI m0, pI m1, pI m2, pI m3, pI m4, pI m5, pI m6, pI m8, pB m9, pL 111 rs, pS m10] := by
  rw [putAll_L]
  rfl
theorem os_allM (m0 m1 m2 m3 m4 m5 m6 m8 : Int) (m9 : Bool) (m10 : ByteArray) (rs : List (List AVal)) (hm : rs.length ≤ 16) :
    putAll TM (vsM m0 m1 m2 m3 m4 m5 m6 m8 m9 m10 (listV rs)) = if ([pI m0, pI m1, pI m2, pI m3, pI m4, pI m5, pI m6, pI m8, pB m9, pI (rs.length : Int)] ++ rs.flatMap rowOM ++ [pS m10]).any Option.isNone = true then none else some (([pI m0, pI m1, pI m2, pI m3, pI m4, pI m5, pI m6, pI m8, pB m9, pI (rs.length : Int)] ++ rs.flatMap rowOM ++ [pS m10]).flatMap got) := by
  obtain ⟨e1, e2⟩ := pL_oM rs hm
  rw [osM, seqL_eq, e2]
  simp only [List.any_append, List.any_cons, List.any_nil, List.flatMap_append, List.flatMap_cons, List.flatMap_nil, e1]
  cases h2 : (rs.flatMap rowOM).any Option.isNone with
  | true => simp
  | false => simp [or_assoc]
theorem rputM0 (m0 m1 m2 m3 m4 m5 m6 m8 : Int) (m9 : Bool) (m10 : ByteArray) (nb : Bool) (rs : List (List AVal)) (hr : ∀ q, q < rs.length → rowK 111 rs q) (hm : rs.length ≤ 16) :
    FOk Try.prog 20 [.agg (rM m0 m1 m2 m3 m4 m5 m6 (.fsl nb 2 rs none) m8 m9 m10)] [] (.tuple [.str (endS (77 :: ([pI m0, pI m1, pI m2, pI m3, pI m4, pI m5, pI m6, pI m8, pB m9, pI (rs.length : Int)] ++ rs.flatMap rowOM ++ [pS m10]).flatMap got) (([pI m0, pI m1, pI m2, pI m3, pI m4, pI m5, pI m6, pI m8, pB m9, pI (rs.length : Int)] ++ rs.flatMap rowOM ++ [pS m10]).any Option.isNone)), .int .i64 (endE (([pI m0, pI m1, pI m2, pI m3, pI m4, pI m5, pI m6, pI m8, pB m9, pI (rs.length : Int)] ++ rs.flatMap rowOM ++ [pS m10]).any Option.isNone))]) [] := by
  have g0 : (got (pI m0)).length ≤ 300000 := got_pI _
  have g1 : (got (pI m1)).length ≤ 300000 := got_pI _
  have g2 : (got (pI m2)).length ≤ 300000 := got_pI _
  have g3 : (got (pI m3)).length ≤ 300000 := got_pI _
  have g4 : (got (pI m4)).length ≤ 300000 := got_pI _
  have g5 : (got (pI m5)).length ≤ 300000 := got_pI _
  have g6 : (got (pI m6)).length ≤ 300000 := got_pI _
  have g7 : (got (pI m8)).length ≤ 300000 := got_pI _
  have g8 : (got (pB m9)).length ≤ 300000 := by simp [pB]
  have g9 : (got (pI (rs.length : Int))).length ≤ 300000 := got_pI _
  have g10 : (got (pS m10)).length ≤ 300000 := got_pS _
  have hgo : ∀ (rs : List (List AVal)), ((rs.flatMap rowOM).flatMap got).length ≤ rs.length * 600000 := fun rs => by
    induction rs with
    | nil => simp
    | cons row rs ih =>
      have h1 : (got (pI (row.getD 0 .any).toInt)).length ≤ 300000 := got_pI _
      have h2 := got_pS (row.getD 1 .any).toStr
      have e : (((row :: rs).flatMap rowOM).flatMap got) = got (pI (row.getD 0 .any).toInt) ++ (got (pS (row.getD 1 .any).toStr) ++ (rs.flatMap rowOM).flatMap got) := by simp [rowOM]
      rw [e, List.length_append, List.length_append, List.length_cons, Nat.succ_mul]; omega
  have hg := hgo rs
  have hg64 : rs.length * 600000 ≤ 16 * 600000 := Nat.mul_le_mul_right _ hm
  refine FOk.wp (rPutM_wp m0 m1 m2 m3 m4 m5 m6 m8 m9 m10 nb rs ([77] ++ got (pI m0)) (pI m0).isNone ((([77] ++ got (pI m0)) ++ got (pI m1) ++ got (pI m2) ++ got (pI m3) ++ got (pI m4) ++ got (pI m5) ++ got (pI m6) ++ got (pI m8) ++ got (pB m9) ++ got (pI (rs.length : Int))) ++ (rs.flatMap rowOM).flatMap got) (((pI m0).isNone || (pI m1).isNone || (pI m2).isNone || (pI m3).isNone || (pI m4).isNone || (pI m5).isNone || (pI m6).isNone || (pI m8).isNone || (pB m9).isNone || (pI (rs.length : Int)).isNone) || (rs.flatMap rowOM).any Option.isNone) ?_)
  unfold rPutM_T
  have hl : (([77] ++ got (pI m0)) ++ got (pI m1) ++ got (pI m2) ++ got (pI m3) ++ got (pI m4) ++ got (pI m5) ++ got (pI m6) ++ got (pI m8) ++ got (pB m9) ++ got (pI (rs.length : Int))).length ≤ 30000000000000 + 0 * 600000 := by simp only [List.length_append, List.length_cons, List.length_nil]; omega
  have lp := (oM_loop m0 m1 m2 m3 m4 m5 m6 m8 m9 m10 nb rs hr (by omega) rs.length 0 (by omega) (([77] ++ got (pI m0)) ++ got (pI m1) ++ got (pI m2) ++ got (pI m3) ++ got (pI m4) ++ got (pI m5) ++ got (pI m6) ++ got (pI m8) ++ got (pB m9) ++ got (pI (rs.length : Int))) ((pI m0).isNone || (pI m1).isNone || (pI m2).isNone || (pI m3).isNone || (pI m4).isNone || (pI m5).isNone || (pI m6).isNone || (pI m8).isNone || (pB m9).isNone || (pI (rs.length : Int)).isNone) hl).trip
  rw [List.drop_zero] at lp
  refine ⟨fun c => absurd (of_decide_eq_true c) (by omega), fun _ => ⟨onum0M m0, ?_⟩⟩
  repeat (refine ⟨by simp only [List.length_append, List.length_cons, List.length_nil]; omega, ?_⟩)
  refine ⟨lp, ?_⟩
  repeat (refine ⟨by simp only [List.length_append, List.length_cons, List.length_nil]; omega, ?_⟩)
  refine ⟨?_, rfl⟩
  congr 2
  · congr 2 <;> simp [pB, List.append_assoc, Bool.or_assoc]
  · congr 3; simp [pB, Bool.or_assoc]
theorem rputM_ok (m0 m1 m2 m3 m4 m5 m6 m8 : Int) (m9 : Bool) (m10 : ByteArray) (nb : Bool) (rs : List (List AVal)) (hr : ∀ q, q < rs.length → rowK 111 rs q) (b : List UInt8) (h : putAll TM (vsM m0 m1 m2 m3 m4 m5 m6 m8 m9 m10 (listV rs)) = some b) : FOk Try.prog 20 [.agg (rM m0 m1 m2 m3 m4 m5 m6 (.fsl nb 2 rs none) m8 m9 m10)] [] (.tuple [.str (bS (77 :: b)), .int .i64 0]) [] := by
  by_cases hm : rs.length ≤ 16
  · have key := rputM0 m0 m1 m2 m3 m4 m5 m6 m8 m9 m10 nb rs hr hm
    rw [os_allM m0 m1 m2 m3 m4 m5 m6 m8 m9 m10 rs hm] at h
    cases ha : ([pI m0, pI m1, pI m2, pI m3, pI m4, pI m5, pI m6, pI m8, pB m9, pI (rs.length : Int)] ++ rs.flatMap rowOM ++ [pS m10]).any Option.isNone with
    | true => rw [if_pos ha] at h; cases h
    | false =>
      rw [if_neg (by rw [ha]; simp)] at h
      cases h
      rw [ha] at key
      exact key
  · rw [osM, seqL_eq, show pL 111 rs = none from by unfold pL; rw [if_neg (show ¬ rs.length ≤ mx 111 from hm)]] at h
    rw [if_pos (by simp)] at h
    cases h
theorem rputM_no (m0 m1 m2 m3 m4 m5 m6 m8 : Int) (m9 : Bool) (m10 : ByteArray) (nb : Bool) (rs : List (List AVal)) (hr : ∀ q, q < rs.length → rowK 111 rs q) (h : putAll TM (vsM m0 m1 m2 m3 m4 m5 m6 m8 m9 m10 (listV rs)) = none) : FOk Try.prog 20 [.agg (rM m0 m1 m2 m3 m4 m5 m6 (.fsl nb 2 rs none) m8 m9 m10)] [] (.tuple [.str ⟨#[]⟩, .int .i64 1]) [] := by
  by_cases hm : rs.length ≤ 16
  · have key := rputM0 m0 m1 m2 m3 m4 m5 m6 m8 m9 m10 nb rs hr hm
    rw [os_allM m0 m1 m2 m3 m4 m5 m6 m8 m9 m10 rs hm] at h
    cases ha : ([pI m0, pI m1, pI m2, pI m3, pI m4, pI m5, pI m6, pI m8, pB m9, pI (rs.length : Int)] ++ rs.flatMap rowOM ++ [pS m10]).any Option.isNone with
    | true => rw [ha] at key; exact key
    | false => rw [if_neg (by rw [ha]; simp)] at h; cases h
  · refine FOk.wp (rPutM_wp m0 m1 m2 m3 m4 m5 m6 m8 m9 m10 nb rs [] false [] false ?_)
    unfold rPutM_T
    exact ⟨fun _ => ⟨rfl, rfl⟩, fun c => absurd (of_decide_eq_false c) (by omega)⟩
end Go.L12
end

section
set_option linter.unusedVariables false
set_option linter.unusedSimpArgs false
set_option maxRecDepth 100000
namespace Go.L12
open Go Go.Abs Go.Proofs

def FA : List (Nat × Nat × Nat) := [(100, 0, 0), (100, 0, 1), (102, 1, 0), (100, 1, 1), (112, 1, 2)]
def objA (u0 u1 : List AVal) (o : Nat) : List AVal := if o = 0 then u0 else u1
end Go.L12
end

section
set_option linter.unusedVariables false
set_option linter.unusedSimpArgs false
set_option maxRecDepth 100000
namespace Go.L12
open Go Go.Abs Go.Proofs

def zeroA : List AVal × List AVal := ((rA0 0 0), (rA1 0 0 (.fsl true 0 [] (some 0))))
def setA (i : Nat) (u : List AVal × List AVal) (v : AVal) : List AVal × List AVal := if (FA.getD i (0, 0, 0)).2.1 = 0 then (u.1.set (FA.getD i (0, 0, 0)).2.2 v, u.2) else (u.1, u.2.set (FA.getD i (0, 0, 0)).2.2 v)
end Go.L12
end

section
set_option linter.unusedVariables false
set_option maxRecDepth 100000
namespace Go.L12
open Go Go.Abs Go.Proofs
def rgse (nb nb2 : Bool) (rs : List (List AVal)) (q : Int) : Regs := mkR 26 [(0, .fsl nb 2 rs none), (1, .fsl nb2 2 rs none), (5, .int .i64 q)]
theorem seEr_1 (nb nb2 : Bool) (rs : List (List AVal)) (q : Int)
    (h1 : (!(fun r => AVal.toInt (List.getD (List.getD rs (Int.toNat q) []) 0 AVal.any) == AVal.toInt (List.getD (List.getD rs (Int.toNat q) []) 0 AVal.any) && r) ((fun r => ByteArray.toList (AVal.toStr (List.getD (List.getD rs (Int.toNat q) []) 1 AVal.any)) == ByteArray.toList (AVal.toStr (List.getD (List.getD rs (Int.toNat q) []) 1 AVal.any)) && r) true)) = true)
    (h2 : decide (Int.toNat q < List.length rs) = true)
    (h3 : areKinds [Kind.int IntKind.i64, Kind.str] [List.getD (List.getD rs (Int.toNat q) []) 0 AVal.any, List.getD (List.getD rs (Int.toNat q) []) 1 AVal.any] = true)
    (h4 : decide (0 ≤ q ∧ q < (↑(List.length rs) : Int)) = true)
    (h5 : decide (q < (↑(List.length rs) : Int)) = true) :
    TripN Try.prog 0 (loopNo Try.f48 0) (rgse nb nb2 rs q) ([]) (AExit.ret) (mkR 26 [(4, AVal.tt false)]) ([]) :=
  evalT (st := St.mk (rgse nb nb2 rs q) ([]) ([Dec.br true, Dec.br true]) []) (st' := St.mk (mkR 26 [(0, AVal.fsl nb 2 rs none), (1, AVal.fsl nb2 2 rs none), (4, AVal.tt false), (5, iI q), (11, iI q), (12, AVal.fsl nb 2 rs none), (13, iI (↑(List.length rs) : Int)), (14, AVal.tt true), (17, AVal.fsl nb 2 rs none), (18, iI q), (19, AVal.fptr 2 rs (Int.toNat q) 0), (20, AVal.agg [iI (AVal.toInt (List.getD (List.getD rs (Int.toNat q) []) 0 AVal.any)), AVal.str (AVal.toStr (List.getD (List.getD rs (Int.toNat q) []) 1 AVal.any))]), (21, AVal.fsl nb2 2 rs none), (22, iI q), (23, AVal.fptr 2 rs (Int.toNat q) 0), (24, AVal.agg [iI (AVal.toInt (List.getD (List.getD rs (Int.toNat q) []) 0 AVal.any)), AVal.str (AVal.toStr (List.getD (List.getD rs (Int.toNat q) []) 1 AVal.any))]), (25, AVal.tt true)]) ([]) ([]) (((!(fun r => AVal.toInt (List.getD (List.getD rs (Int.toNat q) []) 0 AVal.any) == AVal.toInt (List.getD (List.getD rs (Int.toNat q) []) 0 AVal.any) && r) ((fun r => ByteArray.toList (AVal.toStr (List.getD (List.getD rs (Int.toNat q) []) 1 AVal.any)) == ByteArray.toList (AVal.toStr (List.getD (List.getD rs (Int.toNat q) []) 1 AVal.any)) && r) true)) = true) :: (tr 4 ++ ((decide (Int.toNat q < List.length rs) = true) :: (tr 1 ++ ((areKinds [Kind.int IntKind.i64, Kind.str] [List.getD (List.getD rs (Int.toNat q) []) 0 AVal.any, List.getD (List.getD rs (Int.toNat q) []) 1 AVal.any] = true) :: (tr 2 ++ ((decide (0 ≤ q ∧ q < (↑(List.length rs) : Int)) = true) :: (tr 6 ++ ((decide (Int.toNat q < List.length rs) = true) :: (tr 1 ++ ((areKinds [Kind.int IntKind.i64, Kind.str] [List.getD (List.getD rs (Int.toNat q) []) 0 AVal.any, List.getD (List.getD rs (Int.toNat q) []) 1 AVal.any] = true) :: (tr 2 ++ ((decide (0 ≤ q ∧ q < (↑(List.length rs) : Int)) = true) :: (tr 5 ++ ((decide (q < (↑(List.length rs) : Int)) = true) :: [])))))))))))))))) followed (by kernel_rfl) (allP_of ⟨h1, (trC 4 ⟨h2, (trC 1 ⟨h3, (trC 2 ⟨h4, (trC 6 ⟨h2, (trC 1 ⟨h3, (trC 2 ⟨h4, (trC 5 ⟨h5, trivial⟩)⟩)⟩)⟩)⟩)⟩)⟩)⟩) (keepM 26 [4]) ([]) (by kernel_rfl) (by kernel_rfl) (by kernel_rfl)

theorem seEr_2 (nb nb2 : Bool) (rs : List (List AVal)) (q : Int)
    (h1 : (!(fun r => AVal.toInt (List.getD (List.getD rs (Int.toNat q) []) 0 AVal.any) == AVal.toInt (List.getD (List.getD rs (Int.toNat q) []) 0 AVal.any) && r) ((fun r => ByteArray.toList (AVal.toStr (List.getD (List.getD rs (Int.toNat q) []) 1 AVal.any)) == ByteArray.toList (AVal.toStr (List.getD (List.getD rs (Int.toNat q) []) 1 AVal.any)) && r) true)) = false)
    (h2 : decide (Int.toNat q < List.length rs) = true)
    (h3 : areKinds [Kind.int IntKind.i64, Kind.str] [List.getD (List.getD rs (Int.toNat q) []) 0 AVal.any, List.getD (List.getD rs (Int.toNat q) []) 1 AVal.any] = true)
    (h4 : decide (0 ≤ q ∧ q < (↑(List.length rs) : Int)) = true)
    (h5 : decide (q < (↑(List.length rs) : Int)) = true) :
    TripN Try.prog 0 (loopNo Try.f48 0) (rgse nb nb2 rs q) ([]) (AExit.normal) (mkR 26 [(0, AVal.fsl nb 2 rs none), (1, AVal.fsl nb2 2 rs none), (5, iI (IntKind.wrap IntKind.i64 (q + 1)))]) ([]) :=
  evalT (st := St.mk (rgse nb nb2 rs q) ([]) ([Dec.br true, Dec.br false]) []) (st' := St.mk (mkR 26 [(0, AVal.fsl nb 2 rs none), (1, AVal.fsl nb2 2 rs none), (5, iI (IntKind.wrap IntKind.i64 (q + 1))), (11, iI q), (12, AVal.fsl nb 2 rs none), (13, iI (↑(List.length rs) : Int)), (14, AVal.tt true), (15, iI q), (16, iI (IntKind.wrap IntKind.i64 (q + 1))), (17, AVal.fsl nb 2 rs none), (18, iI q), (19, AVal.fptr 2 rs (Int.toNat q) 0), (20, AVal.agg [iI (AVal.toInt (List.getD (List.getD rs (Int.toNat q) []) 0 AVal.any)), AVal.str (AVal.toStr (List.getD (List.getD rs (Int.toNat q) []) 1 AVal.any))]), (21, AVal.fsl nb2 2 rs none), (22, iI q), (23, AVal.fptr 2 rs (Int.toNat q) 0), (24, AVal.agg [iI (AVal.toInt (List.getD (List.getD rs (Int.toNat q) []) 0 AVal.any)), AVal.str (AVal.toStr (List.getD (List.getD rs (Int.toNat q) []) 1 AVal.any))]), (25, AVal.tt false)]) ([]) ([]) (((!(fun r => AVal.toInt (List.getD (List.getD rs (Int.toNat q) []) 0 AVal.any) == AVal.toInt (List.getD (List.getD rs (Int.toNat q) []) 0 AVal.any) && r) ((fun r => ByteArray.toList (AVal.toStr (List.getD (List.getD rs (Int.toNat q) []) 1 AVal.any)) == ByteArray.toList (AVal.toStr (List.getD (List.getD rs (Int.toNat q) []) 1 AVal.any)) && r) true)) = false) :: (tr 4 ++ ((decide (Int.toNat q < List.length rs) = true) :: (tr 1 ++ ((areKinds [Kind.int IntKind.i64, Kind.str] [List.getD (List.getD rs (Int.toNat q) []) 0 AVal.any, List.getD (List.getD rs (Int.toNat q) []) 1 AVal.any] = true) :: (tr 2 ++ ((decide (0 ≤ q ∧ q < (↑(List.length rs) : Int)) = true) :: (tr 6 ++ ((decide (Int.toNat q < List.length rs) = true) :: (tr 1 ++ ((areKinds [Kind.int IntKind.i64, Kind.str] [List.getD (List.getD rs (Int.toNat q) []) 0 AVal.any, List.getD (List.getD rs (Int.toNat q) []) 1 AVal.any] = true) :: (tr 2 ++ ((decide (0 ≤ q ∧ q < (↑(List.length rs) : Int)) = true) :: (tr 5 ++ ((decide (q < (↑(List.length rs) : Int)) = true) :: [])))))))))))))))) followed (by kernel_rfl) (allP_of ⟨h1, (trC 4 ⟨h2, (trC 1 ⟨h3, (trC 2 ⟨h4, (trC 6 ⟨h2, (trC 1 ⟨h3, (trC 2 ⟨h4, (trC 5 ⟨h5, trivial⟩)⟩)⟩)⟩)⟩)⟩)⟩)⟩) (keepM 26 [0, 1, 5]) ([]) (by kernel_rfl) (by kernel_rfl) (by kernel_rfl)

def seEr_T (nb nb2 : Bool) (rs : List (List AVal)) (q : Int) (Q : AExit → Regs → AState → Prop) : Prop := (decide (q < (↑(List.length rs) : Int)) = true) ∧ (decide (0 ≤ q ∧ q < (↑(List.length rs) : Int)) = true) ∧ (areKinds [Kind.int IntKind.i64, Kind.str] [List.getD (List.getD rs (Int.toNat q) []) 0 AVal.any, List.getD (List.getD rs (Int.toNat q) []) 1 AVal.any] = true) ∧ (decide (Int.toNat q < List.length rs) = true) ∧ (((!(fun r => AVal.toInt (List.getD (List.getD rs (Int.toNat q) []) 0 AVal.any) == AVal.toInt (List.getD (List.getD rs (Int.toNat q) []) 0 AVal.any) && r) ((fun r => ByteArray.toList (AVal.toStr (List.getD (List.getD rs (Int.toNat q) []) 1 AVal.any)) == ByteArray.toList (AVal.toStr (List.getD (List.getD rs (Int.toNat q) []) 1 AVal.any)) && r) true)) = true) → Q (AExit.ret) (mkR 26 [(4, AVal.tt false)]) ([])) ∧ (((!(fun r => AVal.toInt (List.getD (List.getD rs (Int.toNat q) []) 0 AVal.any) == AVal.toInt (List.getD (List.getD rs (Int.toNat q) []) 0 AVal.any) && r) ((fun r => ByteArray.toList (AVal.toStr (List.getD (List.getD rs (Int.toNat q) []) 1 AVal.any)) == ByteArray.toList (AVal.toStr (List.getD (List.getD rs (Int.toNat q) []) 1 AVal.any)) && r) true)) = false) → Q (AExit.normal) (mkR 26 [(0, AVal.fsl nb 2 rs none), (1, AVal.fsl nb2 2 rs none), (5, iI (IntKind.wrap IntKind.i64 (q + 1)))]) ([]))
theorem seEr_wp (nb nb2 : Bool) (rs : List (List AVal)) (q : Int) {Q : AExit → Regs → AState → Prop} (h : seEr_T nb nb2 rs q Q) : ∃ e rg' σ', TripN Try.prog 0 (loopNo Try.f48 0) (rgse nb nb2 rs q) ([]) e rg' σ' ∧ Q e rg' σ' :=
  brE (fun (c0 : (!(fun r => AVal.toInt (List.getD (List.getD rs (Int.toNat q) []) 0 AVal.any) == AVal.toInt (List.getD (List.getD rs (Int.toNat q) []) 0 AVal.any) && r) ((fun r => ByteArray.toList (AVal.toStr (List.getD (List.getD rs (Int.toNat q) []) 1 AVal.any)) == ByteArray.toList (AVal.toStr (List.getD (List.getD rs (Int.toNat q) []) 1 AVal.any)) && r) true)) = true) => ⟨_, _, _, seEr_1 nb nb2 rs q (c0) (h.2.2.2.1) (h.2.2.1) (h.2.1) (h.1), (h.2.2.2.2.1 c0)⟩) (fun (c0 : (!(fun r => AVal.toInt (List.getD (List.getD rs (Int.toNat q) []) 0 AVal.any) == AVal.toInt (List.getD (List.getD rs (Int.toNat q) []) 0 AVal.any) && r) ((fun r => ByteArray.toList (AVal.toStr (List.getD (List.getD rs (Int.toNat q) []) 1 AVal.any)) == ByteArray.toList (AVal.toStr (List.getD (List.getD rs (Int.toNat q) []) 1 AVal.any)) && r) true)) = false) => ⟨_, _, _, seEr_2 nb nb2 rs q (c0) (h.2.2.2.1) (h.2.2.1) (h.2.1) (h.1), (h.2.2.2.2.2 c0)⟩)


theorem seEx_1 (nb nb2 : Bool) (rs : List (List AVal)) (q : Int)
    (h1 : decide (q < (↑(List.length rs) : Int)) = false) :
    TripN Try.prog 0 (loopNo Try.f48 0) (rgse nb nb2 rs q) ([]) (AExit.exit 0) (mkR 26 [(0, AVal.fsl nb 2 rs none), (1, AVal.fsl nb2 2 rs none), (5, iI q)]) ([]) :=
  evalT (st := St.mk (rgse nb nb2 rs q) ([]) ([Dec.br false]) []) (st' := St.mk (mkR 26 [(0, AVal.fsl nb 2 rs none), (1, AVal.fsl nb2 2 rs none), (5, iI q), (11, iI q), (12, AVal.fsl nb 2 rs none), (13, iI (↑(List.length rs) : Int)), (14, AVal.tt false)]) ([]) ([]) ((decide (q < (↑(List.length rs) : Int)) = false) :: [])) followed (by kernel_rfl) (allP_of ⟨h1, trivial⟩) (keepM 26 [0, 1, 5]) ([]) (by kernel_rfl) (by kernel_rfl) (by kernel_rfl)

def seEx_T (nb nb2 : Bool) (rs : List (List AVal)) (q : Int) (Q : AExit → Regs → AState → Prop) : Prop := (decide (q < (↑(List.length rs) : Int)) = false) ∧ Q (AExit.exit 0) (mkR 26 [(0, AVal.fsl nb 2 rs none), (1, AVal.fsl nb2 2 rs none), (5, iI q)]) ([])
theorem seEx_wp (nb nb2 : Bool) (rs : List (List AVal)) (q : Int) {Q : AExit → Regs → AState → Prop} (h : seEx_T nb nb2 rs q Q) : ∃ e rg' σ', TripN Try.prog 0 (loopNo Try.f48 0) (rgse nb nb2 rs q) ([]) e rg' σ' ∧ Q e rg' σ' :=
  ⟨_, _, _, seEx_1 nb nb2 rs q (h.1), h.2⟩


theorem seE_1 (nb nb2 : Bool) (rs : List (List AVal))
    (h1 : ((↑(List.length rs) : Int) != (↑(List.length rs) : Int)) = true) :
    FOk Try.prog 48 ([AVal.fsl nb 2 rs none, AVal.fsl nb2 2 rs none]) ([]) (AVal.bool false) ([]) :=
  (evalF_ok followed Try.func48 (by kernel_rfl) (show evalF Try.prog Try.f48 ([AVal.fsl nb 2 rs none, AVal.fsl nb2 2 rs none]) ([]) ([Dec.br true]) = .ok (FRes.mk (AVal.bool false) ([]) ((((↑(List.length rs) : Int) != (↑(List.length rs) : Int)) = true) :: [])) by kernel_rfl) (allP_of ⟨h1, trivial⟩)).move ([]) (by kernel_rfl) (by kernel_rfl) (by kernel_rfl)

theorem seE_2 (nb nb2 : Bool) (rs : List (List AVal))
    (h1 : TripN Try.prog 0 (Code.loop (loopNo Try.f48 0)) (mkR 26 [(0, AVal.fsl nb 2 rs none), (1, AVal.fsl nb2 2 rs none), (5, iI 0)]) [] (AExit.exit 0) (mkR 26 [(0, AVal.fsl nb 2 rs none), (1, AVal.fsl nb2 2 rs none), (5, iI (↑(List.length rs) : Int))]) [])
    (h2 : ((↑(List.length rs) : Int) != (↑(List.length rs) : Int)) = false) :
    FOk Try.prog 48 ([AVal.fsl nb 2 rs none, AVal.fsl nb2 2 rs none]) ([]) (AVal.bool true) ([]) :=
  (evalF_ok followed Try.func48 (by kernel_rfl) (show evalF Try.prog Try.f48 ([AVal.fsl nb 2 rs none, AVal.fsl nb2 2 rs none]) ([]) ([Dec.br false, Dec.compact (keepM 26 [0, 1, 5]) [], Dec.loop (AExit.exit 0) (rgse nb nb2 rs (↑(List.length rs) : Int)) []]) = .ok (FRes.mk (AVal.bool true) ([]) ((Owed.loop (owed Try.prog 0) (loopNo Try.f48 0) (mkR 26 [(0, AVal.fsl nb 2 rs none), (1, AVal.fsl nb2 2 rs none), (5, iI 0)]) [] (AExit.exit 0) (mkR 26 [(0, AVal.fsl nb 2 rs none), (1, AVal.fsl nb2 2 rs none), (5, iI (↑(List.length rs) : Int))]) []) :: ((((↑(List.length rs) : Int) != (↑(List.length rs) : Int)) = false) :: []))) by kernel_rfl) (allP_of ⟨h1, ⟨h2, trivial⟩⟩)).move ([]) (by kernel_rfl) (by kernel_rfl) (by kernel_rfl)

def seE_T (nb nb2 : Bool) (rs : List (List AVal)) (Q : AVal → AState → Prop) : Prop := ((((↑(List.length rs) : Int) != (↑(List.length rs) : Int)) = true) → Q (AVal.bool false) ([])) ∧ ((((↑(List.length rs) : Int) != (↑(List.length rs) : Int)) = false) → (TripN Try.prog 0 (Code.loop (loopNo Try.f48 0)) (mkR 26 [(0, AVal.fsl nb 2 rs none), (1, AVal.fsl nb2 2 rs none), (5, iI 0)]) [] (AExit.exit 0) (mkR 26 [(0, AVal.fsl nb 2 rs none), (1, AVal.fsl nb2 2 rs none), (5, iI (↑(List.length rs) : Int))]) []) ∧ Q (AVal.bool true) ([]))
theorem seE_wp (nb nb2 : Bool) (rs : List (List AVal)) {Q : AVal → AState → Prop} (h : seE_T nb nb2 rs Q) : ∃ r σ', FOk Try.prog 48 ([AVal.fsl nb 2 rs none, AVal.fsl nb2 2 rs none]) ([]) r σ' ∧ Q r σ' :=
  brE (fun (c0 : ((↑(List.length rs) : Int) != (↑(List.length rs) : Int)) = true) => ⟨_, _, seE_1 nb nb2 rs (c0), (h.1 c0)⟩) (fun (c0 : ((↑(List.length rs) : Int) != (↑(List.length rs) : Int)) = false) => ⟨_, _, seE_2 nb nb2 rs ((h.2 c0).1) (c0), (h.2 c0).2⟩)


end Go.L12
end

section
set_option linter.unusedVariables false
set_option linter.unusedSimpArgs false
set_option maxRecDepth 100000
namespace Go.L12
open Go Go.Abs Go.Proofs
def tyK (t : Nat) (rs : List (List AVal)) : Prop := ∀ q, q < rs.length → (∃ d, List.getD (List.getD rs q []) 1 .any = .str d) ∧ if t = 111 then ∃ n, List.getD (List.getD rs q []) 0 .any = .int .i64 n else ∃ d, List.getD (List.getD rs q []) 0 .any = .str d
theorem sameE_loop (nb nb2 : Bool) (rs : List (List AVal)) (hr : tyK 111 rs) (hz : rs.length < 4611686018427387904) : ∀ (d q : Nat), q + d = rs.length →
    LoopRun Try.prog 0 (loopNo Try.f48 0) (rgse nb nb2 rs (q : Nat)) [] (.exit 0) (rgse nb nb2 rs (rs.length : Nat)) []
  | 0, q, hq => by
    obtain rfl : q = rs.length := by omega
    exact .done (TripN.wp (seEx_wp nb nb2 rs (rs.length : Nat) ⟨decide_eq_false (by omega), rfl, rfl, rfl⟩)) (by simp)
  | d + 1, q, hq => by
    have w1 : IntKind.wrap .i64 ((q : Int) + 1) = ((q + 1 : Nat) : Int) := by rw [wrapS (by omega) (by omega)]; omega
    obtain ⟨⟨d0, e1⟩, h0⟩ := hr q (by omega)
    obtain ⟨n0, e0⟩ : ∃ n, List.getD (List.getD rs q []) 0 .any = .int .i64 n := h0
    refine .more ?_ (sameE_loop nb nb2 rs hr hz d (q + 1) (by omega))
    refine TripN.wp (seEr_wp nb nb2 rs (q : Nat) ?_)
    unfold seEr_T
    rw [w1, Int.toNat_natCast, e0, e1]
    exact ⟨decide_eq_true (by omega), decide_eq_true (by omega), rfl, decide_eq_true (by omega), fun c => absurd c (by simp), fun _ => ⟨rfl, rfl, rfl⟩⟩
theorem sameE_ok (nb nb2 : Bool) (rs : List (List AVal)) (hr : tyK 111 rs) (hz : rs.length < 4611686018427387904) : FOk Try.prog 48 [.fsl nb 2 rs none, .fsl nb2 2 rs none] [] (.bool true) [] := by
  refine FOk.wp (seE_wp nb nb2 rs ?_)
  unfold seE_T
  exact ⟨fun c => absurd c (by simp), fun _ => ⟨(sameE_loop nb nb2 rs hr hz rs.length 0 (by omega)).trip, rfl, rfl⟩⟩
end Go.L12
end

section
set_option linter.unusedVariables false
set_option maxRecDepth 100000
namespace Go.L12
open Go Go.Abs Go.Proofs
theorem smM_1 (m0 m1 m2 m3 m4 m5 m6 m8 : Int) (m9 : Bool) (m10 : ByteArray) (nb nb2 : Bool) (rs : List (List AVal))
    (h1 : tyK 111 rs)
    (h2 : List.length rs < 4611686018427387904)
    (h3 : (ByteArray.toList m10 == ByteArray.toList m10) = true)
    (h4 : (m9 == m9) = true)
    (h5 : (m8 == m8) = true)
    (h6 : (m6 == m6) = true)
    (h7 : (m5 == m5) = true)
    (h8 : (m4 == m4) = true)
    (h9 : (m3 == m3) = true)
    (h10 : (m2 == m2) = true)
    (h11 : (m1 == m1) = true)
    (h12 : (m0 == m0) = true) :
    FOk Try.prog 22 ([AVal.agg (rM m0 m1 m2 m3 m4 m5 m6 (AVal.fsl nb 2 rs none) m8 m9 m10), AVal.agg (rM m0 m1 m2 m3 m4 m5 m6 (AVal.fsl nb2 2 rs none) m8 m9 m10)]) ([]) (AVal.bool true) ([]) :=
  (evalF_ok followed Try.func22 (by kernel_rfl) (show evalF Try.prog Try.f22 ([AVal.agg (rM m0 m1 m2 m3 m4 m5 m6 (AVal.fsl nb 2 rs none) m8 m9 m10), AVal.agg (rM m0 m1 m2 m3 m4 m5 m6 (AVal.fsl nb2 2 rs none) m8 m9 m10)]) ([]) ([Dec.br true, Dec.br true, Dec.br true, Dec.br true, Dec.br true, Dec.br true, Dec.br true, Dec.br true, Dec.br true, Dec.br true, Dec.use [] [AVal.fsl nb 2 rs none, AVal.fsl nb2 2 rs none] [] (AVal.bool true) []]) = .ok (FRes.mk (AVal.bool true) ([AObj.rows false 11 [(rM m0 m1 m2 m3 m4 m5 m6 (AVal.fsl nb 2 rs none) m8 m9 m10)], AObj.rows false 11 [(rM m0 m1 m2 m3 m4 m5 m6 (AVal.fsl nb2 2 rs none) m8 m9 m10)]]) ((Owed.use (owed Try.prog 0) 48 [] [AVal.fsl nb 2 rs none, AVal.fsl nb2 2 rs none] [AObj.rows false 11 [(rM m0 m1 m2 m3 m4 m5 m6 (AVal.fsl nb 2 rs none) m8 m9 m10)], AObj.rows false 11 [(rM m0 m1 m2 m3 m4 m5 m6 (AVal.fsl nb2 2 rs none) m8 m9 m10)]] [AVal.fsl nb 2 rs none, AVal.fsl nb2 2 rs none] [] (AVal.bool true) []) :: (tr 4 ++ (((ByteArray.toList m10 == ByteArray.toList m10) = true) :: (tr 4 ++ (((m9 == m9) = true) :: (tr 4 ++ (((m8 == m8) = true) :: (tr 4 ++ (((m6 == m6) = true) :: (tr 4 ++ (((m5 == m5) = true) :: (tr 4 ++ (((m4 == m4) = true) :: (tr 4 ++ (((m3 == m3) = true) :: (tr 4 ++ (((m2 == m2) = true) :: (tr 4 ++ (((m1 == m1) = true) :: (tr 4 ++ (((m0 == m0) = true) :: (tr 4 ++ []))))))))))))))))))))))) by kernel_rfl) (allP_of ⟨⟨(@Go.L12.sameE_ok (nb) (nb2) (rs) h1 h2), rfl, rfl, rfl⟩, (trC 4 ⟨h3, (trC 4 ⟨h4, (trC 4 ⟨h5, (trC 4 ⟨h6, (trC 4 ⟨h7, (trC 4 ⟨h8, (trC 4 ⟨h9, (trC 4 ⟨h10, (trC 4 ⟨h11, (trC 4 ⟨h12, (trC 4 trivial)⟩)⟩)⟩)⟩)⟩)⟩)⟩)⟩)⟩)⟩)⟩)).move ([]) (by kernel_rfl) (by kernel_rfl) (by kernel_rfl)

theorem smM_2 (m0 m1 m2 m3 m4 m5 m6 m8 : Int) (m9 : Bool) (m10 : ByteArray) (nb nb2 : Bool) (rs : List (List AVal))
    (h1 : (ByteArray.toList m10 == ByteArray.toList m10) = false)
    (h2 : (m9 == m9) = true)
    (h3 : (m8 == m8) = true)
    (h4 : (m6 == m6) = true)
    (h5 : (m5 == m5) = true)
    (h6 : (m4 == m4) = true)
    (h7 : (m3 == m3) = true)
    (h8 : (m2 == m2) = true)
    (h9 : (m1 == m1) = true)
    (h10 : (m0 == m0) = true) :
    FOk Try.prog 22 ([AVal.agg (rM m0 m1 m2 m3 m4 m5 m6 (AVal.fsl nb 2 rs none) m8 m9 m10), AVal.agg (rM m0 m1 m2 m3 m4 m5 m6 (AVal.fsl nb2 2 rs none) m8 m9 m10)]) ([]) (AVal.bool false) ([]) :=
  (evalF_ok followed Try.func22 (by kernel_rfl) (show evalF Try.prog Try.f22 ([AVal.agg (rM m0 m1 m2 m3 m4 m5 m6 (AVal.fsl nb 2 rs none) m8 m9 m10), AVal.agg (rM m0 m1 m2 m3 m4 m5 m6 (AVal.fsl nb2 2 rs none) m8 m9 m10)]) ([]) ([Dec.br true, Dec.br true, Dec.br true, Dec.br true, Dec.br true, Dec.br true, Dec.br true, Dec.br true, Dec.br true, Dec.br false]) = .ok (FRes.mk (AVal.bool false) ([AObj.rows false 11 [(rM m0 m1 m2 m3 m4 m5 m6 (AVal.fsl nb 2 rs none) m8 m9 m10)], AObj.rows false 11 [(rM m0 m1 m2 m3 m4 m5 m6 (AVal.fsl nb2 2 rs none) m8 m9 m10)]]) (((ByteArray.toList m10 == ByteArray.toList m10) = false) :: (tr 4 ++ (((m9 == m9) = true) :: (tr 4 ++ (((m8 == m8) = true) :: (tr 4 ++ (((m6 == m6) = true) :: (tr 4 ++ (((m5 == m5) = true) :: (tr 4 ++ (((m4 == m4) = true) :: (tr 4 ++ (((m3 == m3) = true) :: (tr 4 ++ (((m2 == m2) = true) :: (tr 4 ++ (((m1 == m1) = true) :: (tr 4 ++ (((m0 == m0) = true) :: (tr 4 ++ []))))))))))))))))))))) by kernel_rfl) (allP_of ⟨h1, (trC 4 ⟨h2, (trC 4 ⟨h3, (trC 4 ⟨h4, (trC 4 ⟨h5, (trC 4 ⟨h6, (trC 4 ⟨h7, (trC 4 ⟨h8, (trC 4 ⟨h9, (trC 4 ⟨h10, (trC 4 trivial)⟩)⟩)⟩)⟩)⟩)⟩)⟩)⟩)⟩)⟩)).move ([]) (by kernel_rfl) (by kernel_rfl) (by kernel_rfl)

theorem smM_3 (m0 m1 m2 m3 m4 m5 m6 m8 : Int) (m9 : Bool) (m10 : ByteArray) (nb nb2 : Bool) (rs : List (List AVal))
    (h1 : (m9 == m9) = false)
    (h2 : (m8 == m8) = true)
    (h3 : (m6 == m6) = true)
    (h4 : (m5 == m5) = true)
    (h5 : (m4 == m4) = true)
    (h6 : (m3 == m3) = true)
    (h7 : (m2 == m2) = true)
    (h8 : (m1 == m1) = true)
    (h9 : (m0 == m0) = true) :
    FOk Try.prog 22 ([AVal.agg (rM m0 m1 m2 m3 m4 m5 m6 (AVal.fsl nb 2 rs none) m8 m9 m10), AVal.agg (rM m0 m1 m2 m3 m4 m5 m6 (AVal.fsl nb2 2 rs none) m8 m9 m10)]) ([]) (AVal.bool false) ([]) :=
  (evalF_ok followed Try.func22 (by kernel_rfl) (show evalF Try.prog Try.f22 ([AVal.agg (rM m0 m1 m2 m3 m4 m5 m6 (AVal.fsl nb 2 rs none) m8 m9 m10), AVal.agg (rM m0 m1 m2 m3 m4 m5 m6 (AVal.fsl nb2 2 rs none) m8 m9 m10)]) ([]) ([Dec.br true, Dec.br true, Dec.br true, Dec.br true, Dec.br true, Dec.br true, Dec.br true, Dec.br true, Dec.br false]) = .ok (FRes.mk (AVal.bool false) ([AObj.rows false 11 [(rM m0 m1 m2 m3 m4 m5 m6 (AVal.fsl nb 2 rs none) m8 m9 m10)], AObj.rows false 11 [(rM m0 m1 m2 m3 m4 m5 m6 (AVal.fsl nb2 2 rs none) m8 m9 m10)]]) (((m9 == m9) = false) :: (tr 4 ++ (((m8 == m8) = true) :: (tr 4 ++ (((m6 == m6) = true) :: (tr 4 ++ (((m5 == m5) = true) :: (tr 4 ++ (((m4 == m4) = true) :: (tr 4 ++ (((m3 == m3) = true) :: (tr 4 ++ (((m2 == m2) = true) :: (tr 4 ++ (((m1 == m1) = true) :: (tr 4 ++ (((m0 == m0) = true) :: (tr 4 ++ []))))))))))))))))))) by kernel_rfl) (allP_of ⟨h1, (trC 4 ⟨h2, (trC 4 ⟨h3, (trC 4 ⟨h4, (trC 4 ⟨h5, (trC 4 ⟨h6, (trC 4 ⟨h7, (trC 4 ⟨h8, (trC 4 ⟨h9, (trC 4 trivial)⟩)⟩)⟩)⟩)⟩)⟩)⟩)⟩)⟩)).move ([]) (by kernel_rfl) (by kernel_rfl) (by kernel_rfl)

theorem smM_4 (m0 m1 m2 m3 m4 m5 m6 m8 : Int) (m9 : Bool) (m10 : ByteArray) (nb nb2 : Bool) (rs : List (List AVal))
    (h1 : (m8 == m8) = false)
    (h2 : (m6 == m6) = true)
    (h3 : (m5 == m5) = true)
    (h4 : (m4 == m4) = true)
    (h5 : (m3 == m3) = true)
    (h6 : (m2 == m2) = true)
    (h7 : (m1 == m1) = true)
    (h8 : (m0 == m0) = true) :
    FOk Try.prog 22 ([AVal.agg (rM m0 m1 m2 m3 m4 m5 m6 (AVal.fsl nb 2 rs none) m8 m9 m10), AVal.agg (rM m0 m1 m2 m3 m4 m5 m6 (AVal.fsl nb2 2 rs none) m8 m9 m10)]) ([]) (AVal.bool false) ([]) :=
  (evalF_ok followed Try.func22 (by kernel_rfl) (show evalF Try.prog Try.f22 ([AVal.agg (rM m0 m1 m2 m3 m4 m5 m6 (AVal.fsl nb 2 rs none) m8 m9 m10), AVal.agg (rM m0 m1 m2 m3 m4 m5 m6 (AVal.fsl nb2 2 rs none) m8 m9 m10)]) ([]) ([Dec.br true, Dec.br true, Dec.br true, Dec.br true, Dec.br true, Dec.br true, Dec.br true, Dec.br false]) = .ok (FRes.mk (AVal.bool false) ([AObj.rows false 11 [(rM m0 m1 m2 m3 m4 m5 m6 (AVal.fsl nb 2 rs none) m8 m9 m10)], AObj.rows false 11 [(rM m0 m1 m2 m3 m4 m5 m6 (AVal.fsl nb2 2 rs none) m8 m9 m10)]]) (((m8 == m8) = false) :: (tr 4 ++ (((m6 == m6) = true) :: (tr 4 ++ (((m5 == m5) = true) :: (tr 4 ++ (((m4 == m4) = true) :: (tr 4 ++ (((m3 == m3) = true) :: (tr 4 ++ (((m2 == m2) = true) :: (tr 4 ++ (((m1 == m1) = true) :: (tr 4 ++ (((m0 == m0) = true) :: (tr 4 ++ []))))))))))))))))) by kernel_rfl) (allP_of ⟨h1, (trC 4 ⟨h2, (trC 4 ⟨h3, (trC 4 ⟨h4, (trC 4 ⟨h5, (trC 4 ⟨h6, (trC 4 ⟨h7, (trC 4 ⟨h8, (trC 4 trivial)⟩)⟩)⟩)⟩)⟩)⟩)⟩)⟩)).move ([]) (by kernel_rfl) (by kernel_rfl) (by kernel_rfl)

theorem smM_5 (m0 m1 m2 m3 m4 m5 m6 m8 : Int) (m9 : Bool) (m10 : ByteArray) (nb nb2 : Bool) (rs : List (List AVal))
    (h1 : (m6 == m6) = false)
    (h2 : (m5 == m5) = true)
    (h3 : (m4 == m4) = true)
    (h4 : (m3 == m3) = true)
    (h5 : (m2 == m2) = true)
    (h6 : (m1 == m1) = true)
    (h7 : (m0 == m0) = true) :
    FOk Try.prog 22 ([AVal.agg (rM m0 m1 m2 m3 m4 m5 m6 (AVal.fsl nb 2 rs none) m8 m9 m10), AVal.agg (rM m0 m1 m2 m3 m4 m5 m6 (AVal.fsl nb2 2 rs none) m8 m9 m10)]) ([]) (AVal.bool false) ([]) :=
  (evalF_ok followed Try.func22 (by kernel_rfl) (show evalF Try.prog Try.f22 ([AVal.agg (rM m0 m1 m2 m3 m4 m5 m6 (AVal.fsl nb 2 rs none) m8 m9 m10), AVal.agg (rM m0 m1 m2 m3 m4 m5 m6 (AVal.fsl nb2 2 rs none) m8 m9 m10)]) ([]) ([Dec.br true, Dec.br true, Dec.br true, Dec.br true, Dec.br true, Dec.br true, Dec.br false]) = .ok (FRes.mk (AVal.bool false) ([AObj.rows false 11 [(rM m0 m1 m2 m3 m4 m5 m6 (AVal.fsl nb 2 rs none) m8 m9 m10)], AObj.rows false 11 [(rM m0 m1 m2 m3 m4 m5 m6 (AVal.fsl nb2 2 rs none) m8 m9 m10)]]) (((m6 == m6) = false) :: (tr 4 ++ (((m5 == m5) = true) :: (tr 4 ++ (((m4 == m4) = true) :: (tr 4 ++ (((m3 == m3) = true) :: (tr 4 ++ (((m2 == m2) = true) :: (tr 4 ++ (((m1 == m1) = true) :: (tr 4 ++ (((m0 == m0) = true) :: (tr 4 ++ []))))))))))))))) by kernel_rfl) (allP_of ⟨h1, (trC 4 ⟨h2, (trC 4 ⟨h3, (trC 4 ⟨h4, (trC 4 ⟨h5, (trC 4 ⟨h6, (trC 4 ⟨h7, (trC 4 trivial)⟩)⟩)⟩)⟩)⟩)⟩)⟩)).move ([]) (by kernel_rfl) (by kernel_rfl) (by kernel_rfl)

theorem smM_6 (m0 m1 m2 m3 m4 m5 m6 m8 : Int) (m9 : Bool) (m10 : ByteArray) (nb nb2 : Bool) (rs : List (List AVal))
    (h1 : (m5 == m5) = false)
    (h2 : (m4 == m4) = true)
    (h3 : (m3 == m3) = true)
    (h4 : (m2 == m2) = true)
    (h5 : (m1 == m1) = true)
    (h6 : (m0 == m0) = true) :
    FOk Try.prog 22 ([AVal.agg (rM m0 m1 m2 m3 m4 m5 m6 (AVal.fsl nb 2 rs none) m8 m9 m10), AVal.agg (rM m0 m1 m2 m3 m4 m5 m6 (AVal.fsl nb2 2 rs none) m8 m9 m10)]) ([]) (AVal.bool false) ([]) :=
  (evalF_ok followed Try.func22 (by kernel_rfl) (show evalF Try.prog Try.f22 ([AVal.agg (rM m0 m1 m2 m3 m4 m5 m6 (AVal.fsl nb 2 rs none) m8 m9 m10), AVal.agg (rM m0 m1 m2 m3 m4 m5 m6 (AVal.fsl nb2 2 rs none) m8 m9 m10)]) ([]) ([Dec.br true, Dec.br true, Dec.br true, Dec.br true, Dec.br true, Dec.br false]) = .ok (FRes.mk (AVal.bool false) ([AObj.rows false 11 [(rM m0 m1 m2 m3 m4 m5 m6 (AVal.fsl nb 2 rs none) m8 m9 m10)], AObj.rows false 11 [(rM m0 m1 m2 m3 m4 m5 m6 (AVal.fsl nb2 2 rs none) m8 m9 m10)]]) (((m5 == m5) = false) :: (tr 4 ++ (((m4 == m4) = true) :: (tr 4 ++ (((m3 == m3) = true) :: (tr 4 ++ (((m2 == m2) = true) :: (tr 4 ++ (((m1 == m1) = true) :: (tr 4 ++ (((m0 == m0) = true) :: (tr 4 ++ []))))))))))))) by kernel_rfl) (allP_of ⟨h1, (trC 4 ⟨h2, (trC 4 ⟨h3, (trC 4 ⟨h4, (trC 4 ⟨h5, (trC 4 ⟨h6, (trC 4 trivial)⟩)⟩)⟩)⟩)⟩)⟩)).move ([]) (by kernel_rfl) (by kernel_rfl) (by kernel_rfl)

theorem smM_7 (m0 m1 m2 m3 m4 m5 m6 m8 : Int) (m9 : Bool) (m10 : ByteArray) (nb nb2 : Bool) (rs : List (List AVal))
    (h1 : (m4 == m4) = false)
    (h2 : (m3 == m3) = true)
    (h3 : (m2 == m2) = true)
    (h4 : (m1 == m1) = true)
    (h5 : (m0 == m0) = true) :
    FOk Try.prog 22 ([AVal.agg (rM m0 m1 m2 m3 m4 m5 m6 (AVal.fsl nb 2 rs none) m8 m9 m10), AVal.agg (rM m0 m1 m2 m3 m4 m5 m6 (AVal.fsl nb2 2 rs none) m8 m9 m10)]) ([]) (AVal.bool false) ([]) :=
  (evalF_ok followed Try.func22 (by kernel_rfl) (show evalF Try.prog Try.f22 ([AVal.agg (rM m0 m1 m2 m3 m4 m5 m6 (AVal.fsl nb 2 rs none) m8 m9 m10), AVal.agg (rM m0 m1 m2 m3 m4 m5 m6 (AVal.fsl nb2 2 rs none) m8 m9 m10)]) ([]) ([Dec.br true, Dec.br true, Dec.br true, Dec.br true, Dec.br false]) = .ok (FRes.mk (AVal.bool false) ([AObj.rows false 11 [(rM m0 m1 m2 m3 m4 m5 m6 (AVal.fsl nb 2 rs none) m8 m9 m10)], AObj.rows false 11 [(rM m0 m1 m2 m3 m4 m5 m6 (AVal.fsl nb2 2 rs none) m8 m9 m10)]]) (((m4 == m4) = false) :: (tr 4 ++ (((m3 == m3) = true) :: (tr 4 ++ (((m2 == m2) = true) :: (tr 4 ++ (((m1 == m1) = true) :: (tr 4 ++ (((m0 == m0) = true) :: (tr 4 ++ []))))))))))) by kernel_rfl) (allP_of ⟨h1, (trC 4 ⟨h2, (trC 4 ⟨h3, (trC 4 ⟨h4, (trC 4 ⟨h5, (trC 4 trivial)⟩)⟩)⟩)⟩)⟩)).move ([]) (by kernel_rfl) (by kernel_rfl) (by kernel_rfl)

theorem smM_8 (m0 m1 m2 m3 m4 m5 m6 m8 : Int) (m9 : Bool) (m10 : ByteArray) (nb nb2 : Bool) (rs : List (List AVal))
    (h1 : (m3 == m3) = false)
    (h2 : (m2 == m2) = true)
    (h3 : (m1 == m1) = true)
    (h4 : (m0 == m0) = true) :
    FOk Try.prog 22 ([AVal.agg (rM m0 m1 m2 m3 m4 m5 m6 (AVal.fsl nb 2 rs none) m8 m9 m10), AVal.agg (rM m0 m1 m2 m3 m4 m5 m6 (AVal.fsl nb2 2 rs none) m8 m9 m10)]) ([]) (AVal.bool false) ([]) :=
  (evalF_ok followed Try.func22 (by kernel_rfl) (show evalF Try.prog Try.f22 ([AVal.agg (rM m0 m1 m2 m3 m4 m5 m6 (AVal.fsl nb 2 rs none) m8 m9 m10), AVal.agg (rM m0 m1 m2 m3 m4 m5 m6 (AVal.fsl nb2 2 rs none) m8 m9 m10)]) ([]) ([Dec.br true, Dec.br true, Dec.br true, Dec.br false]) = .ok (FRes.mk (AVal.bool false) ([AObj.rows false 11 [(rM m0 m1 m2 m3 m4 m5 m6 (AVal.fsl nb 2 rs none) m8 m9 m10)], AObj.rows false 11 [(rM m0 m1 m2 m3 m4 m5 m6 (AVal.fsl nb2 2 rs none) m8 m9 m10)]]) (((m3 == m3) = false) :: (tr 4 ++ (((m2 == m2) = true) :: (tr 4 ++ (((m1 == m1) = true) :: (tr 4 ++ (((m0 == m0) = true) :: (tr 4 ++ []))))))))) by kernel_rfl) (allP_of ⟨h1, (trC 4 ⟨h2, (trC 4 ⟨h3, (trC 4 ⟨h4, (trC 4 trivial)⟩)⟩)⟩)⟩)).move ([]) (by kernel_rfl) (by kernel_rfl) (by kernel_rfl)

theorem smM_9 (m0 m1 m2 m3 m4 m5 m6 m8 : Int) (m9 : Bool) (m10 : ByteArray) (nb nb2 : Bool) (rs : List (List AVal))
    (h1 : (m2 == m2) = false)
    (h2 : (m1 == m1) = true)
    (h3 : (m0 == m0) = true) :
    FOk Try.prog 22 ([AVal.agg (rM m0 m1 m2 m3 m4 m5 m6 (AVal.fsl nb 2 rs none) m8 m9 m10), AVal.agg (rM m0 m1 m2 m3 m4 m5 m6 (AVal.fsl nb2 2 rs none) m8 m9 m10)]) ([]) (AVal.bool false) ([]) :=
  (evalF_ok followed Try.func22 (by kernel_rfl) (show evalF Try.prog Try.f22 ([AVal.agg (rM m0 m1 m2 m3 m4 m5 m6 (AVal.fsl nb 2 rs none) m8 m9 m10), AVal.agg (rM m0 m1 m2 m3 m4 m5 m6 (AVal.fsl nb2 2 rs none) m8 m9 m10)]) ([]) ([Dec.br true, Dec.br true, Dec.br false]) = .ok (FRes.mk (AVal.bool false) ([AObj.rows false 11 [(rM m0 m1 m2 m3 m4 m5 m6 (AVal.fsl nb 2 rs none) m8 m9 m10)], AObj.rows false 11 [(rM m0 m1 m2 m3 m4 m5 m6 (AVal.fsl nb2 2 rs none) m8 m9 m10)]]) (((m2 == m2) = false) :: (tr 4 ++ (((m1 == m1) = true) :: (tr 4 ++ (((m0 == m0) = true) :: (tr 4 ++ []))))))) by kernel_rfl) (allP_of ⟨h1, (trC 4 ⟨h2, (trC 4 ⟨h3, (trC 4 trivial)⟩)⟩)⟩)).move ([]) (by kernel_rfl) (by kernel_rfl) (by kernel_rfl)

theorem smM_10 (m0 m1 m2 m3 m4 m5 m6 m8 : Int) (m9 : Bool) (m10 : ByteArray) (nb nb2 : Bool) (rs : List (List AVal))
    (h1 : (m1 == m1) = false)
    (h2 : (m0 == m0) = true) :
    FOk Try.prog 22 ([AVal.agg (rM m0 m1 m2 m3 m4 m5 m6 (AVal.fsl nb 2 rs none) m8 m9 m10), AVal.agg (rM m0 m1 m2 m3 m4 m5 m6 (AVal.fsl nb2 2 rs none) m8 m9 m10)]) ([]) (AVal.bool false) ([]) :=
  (evalF_ok followed Try.func22 (by kernel_rfl) (show evalF Try.prog Try.f22 ([AVal.agg (rM m0 m1 m2 m3 m4 m5 m6 (AVal.fsl nb 2 rs none) m8 m9 m10), AVal.agg (rM m0 m1 m2 m3 m4 m5 m6 (AVal.fsl nb2 2 rs none) m8 m9 m10)]) ([]) ([Dec.br true, Dec.br false]) = .ok (FRes.mk (AVal.bool false) ([AObj.rows false 11 [(rM m0 m1 m2 m3 m4 m5 m6 (AVal.fsl nb 2 rs none) m8 m9 m10)], AObj.rows false 11 [(rM m0 m1 m2 m3 m4 m5 m6 (AVal.fsl nb2 2 rs none) m8 m9 m10)]]) (((m1 == m1) = false) :: (tr 4 ++ (((m0 == m0) = true) :: (tr 4 ++ []))))) by kernel_rfl) (allP_of ⟨h1, (trC 4 ⟨h2, (trC 4 trivial)⟩)⟩)).move ([]) (by kernel_rfl) (by kernel_rfl) (by kernel_rfl)

theorem smM_11 (m0 m1 m2 m3 m4 m5 m6 m8 : Int) (m9 : Bool) (m10 : ByteArray) (nb nb2 : Bool) (rs : List (List AVal))
    (h1 : (m0 == m0) = false) :
    FOk Try.prog 22 ([AVal.agg (rM m0 m1 m2 m3 m4 m5 m6 (AVal.fsl nb 2 rs none) m8 m9 m10), AVal.agg (rM m0 m1 m2 m3 m4 m5 m6 (AVal.fsl nb2 2 rs none) m8 m9 m10)]) ([]) (AVal.bool false) ([]) :=
  (evalF_ok followed Try.func22 (by kernel_rfl) (show evalF Try.prog Try.f22 ([AVal.agg (rM m0 m1 m2 m3 m4 m5 m6 (AVal.fsl nb 2 rs none) m8 m9 m10), AVal.agg (rM m0 m1 m2 m3 m4 m5 m6 (AVal.fsl nb2 2 rs none) m8 m9 m10)]) ([]) ([Dec.br false]) = .ok (FRes.mk (AVal.bool false) ([AObj.rows false 11 [(rM m0 m1 m2 m3 m4 m5 m6 (AVal.fsl nb 2 rs none) m8 m9 m10)], AObj.rows false 11 [(rM m0 m1 m2 m3 m4 m5 m6 (AVal.fsl nb2 2 rs none) m8 m9 m10)]]) (((m0 == m0) = false) :: (tr 4 ++ []))) by kernel_rfl) (allP_of ⟨h1, (trC 4 trivial)⟩)).move ([]) (by kernel_rfl) (by kernel_rfl) (by kernel_rfl)

def smM_T (m0 m1 m2 m3 m4 m5 m6 m8 : Int) (m9 : Bool) (m10 : ByteArray) (nb nb2 : Bool) (rs : List (List AVal)) (Q : AVal → AState → Prop) : Prop := (((m0 == m0) = true) → (((m1 == m1) = true) → (((m2 == m2) = true) → (((m3 == m3) = true) → (((m4 == m4) = true) → (((m5 == m5) = true) → (((m6 == m6) = true) → (((m8 == m8) = true) → (((m9 == m9) = true) → (((ByteArray.toList m10 == ByteArray.toList m10) = true) → (tyK 111 rs) ∧ (List.length rs < 4611686018427387904) ∧ Q (AVal.bool true) ([])) ∧ (((ByteArray.toList m10 == ByteArray.toList m10) = false) → Q (AVal.bool false) ([]))) ∧ (((m9 == m9) = false) → Q (AVal.bool false) ([]))) ∧ (((m8 == m8) = false) → Q (AVal.bool false) ([]))) ∧ (((m6 == m6) = false) → Q (AVal.bool false) ([]))) ∧ (((m5 == m5) = false) → Q (AVal.bool false) ([]))) ∧ (((m4 == m4) = false) → Q (AVal.bool false) ([]))) ∧ (((m3 == m3) = false) → Q (AVal.bool false) ([]))) ∧ (((m2 == m2) = false) → Q (AVal.bool false) ([]))) ∧ (((m1 == m1) = false) → Q (AVal.bool false) ([]))) ∧ (((m0 == m0) = false) → Q (AVal.bool false) ([]))
theorem smM_wp (m0 m1 m2 m3 m4 m5 m6 m8 : Int) (m9 : Bool) (m10 : ByteArray) (nb nb2 : Bool) (rs : List (List AVal)) {Q : AVal → AState → Prop} (h : smM_T m0 m1 m2 m3 m4 m5 m6 m8 m9 m10 nb nb2 rs Q) : ∃ r σ', FOk Try.prog 22 ([AVal.agg (rM m0 m1 m2 m3 m4 m5 m6 (AVal.fsl nb 2 rs none) m8 m9 m10), AVal.agg (rM m0 m1 m2 m3 m4 m5 m6 (AVal.fsl nb2 2 rs none) m8 m9 m10)]) ([]) r σ' ∧ Q r σ' :=
  brE (fun (c0 : (m0 == m0) = true) => brE (fun (c1 : (m1 == m1) = true) => brE (fun (c2 : (m2 == m2) = true) => brE (fun (c3 : (m3 == m3) = true) => brE (fun (c4 : (m4 == m4) = true) => brE (fun (c5 : (m5 == m5) = true) => brE (fun (c6 : (m6 == m6) = true) => brE (fun (c7 : (m8 == m8) = true) => brE (fun (c8 : (m9 == m9) = true) => brE (fun (c9 : (ByteArray.toList m10 == ByteArray.toList m10) = true) => ⟨_, _, smM_1 m0 m1 m2 m3 m4 m5 m6 m8 m9 m10 nb nb2 rs (((((((((((h.1 c0).1 c1).1 c2).1 c3).1 c4).1 c5).1 c6).1 c7).1 c8).1 c9).1) (((((((((((h.1 c0).1 c1).1 c2).1 c3).1 c4).1 c5).1 c6).1 c7).1 c8).1 c9).2.1) (c9) (c8) (c7) (c6) (c5) (c4) (c3) (c2) (c1) (c0), ((((((((((h.1 c0).1 c1).1 c2).1 c3).1 c4).1 c5).1 c6).1 c7).1 c8).1 c9).2.2⟩) (fun (c9 : (ByteArray.toList m10 == ByteArray.toList m10) = false) => ⟨_, _, smM_2 m0 m1 m2 m3 m4 m5 m6 m8 m9 m10 nb nb2 rs (c9) (c8) (c7) (c6) (c5) (c4) (c3) (c2) (c1) (c0), ((((((((((h.1 c0).1 c1).1 c2).1 c3).1 c4).1 c5).1 c6).1 c7).1 c8).2 c9)⟩)) (fun (c8 : (m9 == m9) = false) => ⟨_, _, smM_3 m0 m1 m2 m3 m4 m5 m6 m8 m9 m10 nb nb2 rs (c8) (c7) (c6) (c5) (c4) (c3) (c2) (c1) (c0), (((((((((h.1 c0).1 c1).1 c2).1 c3).1 c4).1 c5).1 c6).1 c7).2 c8)⟩)) (fun (c7 : (m8 == m8) = false) => ⟨_, _, smM_4 m0 m1 m2 m3 m4 m5 m6 m8 m9 m10 nb nb2 rs (c7) (c6) (c5) (c4) (c3) (c2) (c1) (c0), ((((((((h.1 c0).1 c1).1 c2).1 c3).1 c4).1 c5).1 c6).2 c7)⟩)) (fun (c6 : (m6 == m6) = false) => ⟨_, _, smM_5 m0 m1 m2 m3 m4 m5 m6 m8 m9 m10 nb nb2 rs (c6) (c5) (c4) (c3) (c2) (c1) (c0), (((((((h.1 c0).1 c1).1 c2).1 c3).1 c4).1 c5).2 c6)⟩)) (fun (c5 : (m5 == m5) = false) => ⟨_, _, smM_6 m0 m1 m2 m3 m4 m5 m6 m8 m9 m10 nb nb2 rs (c5) (c4) (c3) (c2) (c1) (c0), ((((((h.1 c0).1 c1).1 c2).1 c3).1 c4).2 c5)⟩)) (fun (c4 : (m4 == m4) = false) => ⟨_, _, smM_7 m0 m1 m2 m3 m4 m5 m6 m8 m9 m10 nb nb2 rs (c4) (c3) (c2) (c1) (c0), (((((h.1 c0).1 c1).1 c2).1 c3).2 c4)⟩)) (fun (c3 : (m3 == m3) = false) => ⟨_, _, smM_8 m0 m1 m2 m3 m4 m5 m6 m8 m9 m10 nb nb2 rs (c3) (c2) (c1) (c0), ((((h.1 c0).1 c1).1 c2).2 c3)⟩)) (fun (c2 : (m2 == m2) = false) => ⟨_, _, smM_9 m0 m1 m2 m3 m4 m5 m6 m8 m9 m10 nb nb2 rs (c2) (c1) (c0), (((h.1 c0).1 c1).2 c2)⟩)) (fun (c1 : (m1 == m1) = false) => ⟨_, _, smM_10 m0 m1 m2 m3 m4 m5 m6 m8 m9 m10 nb nb2 rs (c1) (c0), ((h.1 c0).2 c1)⟩)) (fun (c0 : (m0 == m0) = false) => ⟨_, _, smM_11 m0 m1 m2 m3 m4 m5 m6 m8 m9 m10 nb nb2 rs (c0), (h.2 c0)⟩)


end Go.L12
end

section
set_option linter.unusedVariables false
set_option linter.unusedSimpArgs false
set_option maxRecDepth 100000
namespace Go.L12
open Go Go.Abs Go.Proofs
theorem sameMsg_ok (m0 m1 m2 m3 m4 m5 m6 m8 : Int) (m9 : Bool) (m10 : ByteArray) (nb nb2 : Bool) (rs : List (List AVal)) (hr : tyK 111 rs) (hz : rs.length < 4611686018427387904) :
    FOk Try.prog 22 [.agg (rM m0 m1 m2 m3 m4 m5 m6 (.fsl nb 2 rs none) m8 m9 m10), .agg (rM m0 m1 m2 m3 m4 m5 m6 (.fsl nb2 2 rs none) m8 m9 m10)] [] (.bool true) [] := by
  refine FOk.wp (smM_wp m0 m1 m2 m3 m4 m5 m6 m8 m9 m10 nb nb2 rs ?_)
  unfold smM_T
  simp [hr, hz]
end Go.L12
end

section
set_option linter.unusedVariables false
set_option linter.unusedSimpArgs false
set_option maxRecDepth 100000
namespace Go.L12
open Go Go.Abs Go.Proofs
theorem isL_get {t : Nat} {rs : List (List AVal)} (h : isL t rs) {q : Nat} (hq : q < rs.length) : isR t (rs.getD q []) := by
  have e : rs.getD q [] = rs[q] := by rw [List.getD_eq_getElem?_getD, List.getElem?_eq_getElem hq]; rfl
  rw [e]
  exact h _ (List.getElem_mem hq)
theorem isL_tyM {rs : List (List AVal)} (h : isL 111 rs) : tyK 111 rs := fun q hq => by
  obtain ⟨x, y, e, ⟨n, rfl⟩, ⟨d, rfl⟩⟩ := isL_get h hq
  rw [e]
  exact ⟨⟨d, rfl⟩, ⟨n, rfl⟩⟩
end Go.L12
end

section
set_option linter.unusedVariables false
set_option linter.unusedSimpArgs false
set_option maxRecDepth 100000
namespace Go.L12
open Go Go.Abs Go.Proofs
theorem i64_wf {m : Int} (h : (Lit.int IntKind.i64 m).wf) : -9223372036854775808 ≤ m ∧ m < 9223372036854775808 := by
  simp [Lit.wf, IntKind.min, IntKind.signed, IntKind.bits] at h
  omega
end Go.L12
end
