import Derived.Recover
import Derived.Test.YtjkmndfipanalaaAbsF
section
set_option linter.unusedVariables false
set_option linter.unusedSimpArgs false
namespace Go.Abs

theorem wrapU8 (n : Int) : IntKind.wrap .u8 n = n % 256 := by
  simp [IntKind.wrap, IntKind.bits, IntKind.signed]
theorem bits_or64 {a b : Nat} (ha : a < 2 ^ 63) (hb : b < 2 ^ 63) : bits .or .i64 (a : Int) (b : Int) = ((a ||| b : Nat) : Int) := by
  have hlt : a ||| b < 2 ^ 63 := Nat.or_lt_two_pow ha hb
  show IntKind.wrap .i64 (((BitVec.ofInt 64 (a : Int)) ||| (BitVec.ofInt 64 (b : Int))).toNat : Int) = _
  have e : ((BitVec.ofInt 64 (a : Int)) ||| (BitVec.ofInt 64 (b : Int))).toNat = a ||| b := by
    rw [BitVec.toNat_or]
    simp only [BitVec.ofInt_natCast, BitVec.toNat_ofNat]
    rw [Nat.mod_eq_of_lt (by omega), Nat.mod_eq_of_lt (by omega)]
  rw [e]
  exact wrapS (by omega) (by omega)
theorem or_add {a c k : Nat} (ha : a < 2 ^ k) : a ||| (c * 2 ^ k) = a + c * 2 ^ k := by
  rw [Nat.or_comm, Nat.add_comm, Nat.mul_comm]
  exact (Nat.two_pow_add_eq_or_of_lt ha c).symm
theorem or_u8 (n : Nat) : bits .or .u8 (IntKind.wrap .u8 (n : Int)) 128 = ((n % 128 + 128 : Nat) : Int) := by
  have h : ∀ m : Fin 256, bits .or .u8 ((m.val : Nat) : Int) 128 = ((m.val % 128 + 128 : Nat) : Int) := by decide +kernel
  rw [wrapU8]
  have := h ⟨n % 256, Nat.mod_lt _ (by omega)⟩
  simp only at this
  rw [show ((n : Int) % 256) = ((n % 256 : Nat) : Int) by omega, this]
  congr 1
  omega
theorem and_u8 (m : Nat) (h : m < 256) : bits .and .u8 (m : Int) 127 = ((m % 128 : Nat) : Int) := by
  have h' : ∀ m : Fin 256, bits .and .u8 ((m.val : Nat) : Int) 127 = ((m.val % 128 : Nat) : Int) := by decide +kernel
  exact h' ⟨m, h⟩

abbrev lB (s : ByteArray) : List UInt8 := s.data.toList
def bS (l : List UInt8) : ByteArray := ⟨l.toArray⟩
theorem lB_bS (l : List UInt8) : lB (bS l) = l := by simp [bS]
theorem bS_lB (s : ByteArray) : bS (lB s) = s := by cases s; simp [bS]
theorem lB_inj {a b : ByteArray} (h : lB a = lB b) : a = b := by rw [← bS_lB a, ← bS_lB b, h]
theorem lB_length (s : ByteArray) : (lB s).length = s.size := by cases s; simp [ByteArray.size]
theorem bS_size (l : List UInt8) : (bS l).size = l.length := by simp [bS, ByteArray.size]
theorem lB_extract (s : ByteArray) (a b : Nat) : lB (s.extract a b) = ((lB s).drop a).take (b - a) := by
  simp [lB, ByteArray.data_extract]
theorem toList_lB (s : ByteArray) : s.toList = lB s := by
  simp [lB, ByteArray.toList_eq]
theorem byteAt_lB (s : ByteArray) (n : Int) : byteAt s n = ((((lB s).getD n.toNat 0).toNat : Nat) : Int) := rfl

abbrev brow (b : Nat) : List AVal := [.int .u8 (b : Int)]
theorem byteRows_bS (l : List UInt8) : byteRows (bS l) = l.map fun b => brow b.toNat := by simp [byteRows, bS]
theorem byteRows_lB (s : ByteArray) : byteRows s = (lB s).map fun b => brow b.toNat := rfl
theorem rowBytes_map (l : List UInt8) : rowBytes (l.map fun b => brow b.toNat) = bS l := by
  unfold rowBytes bS
  congr 2
  rw [List.map_map]
  conv => rhs; rw [← List.map_id l]
  refine List.map_congr_left fun b _ => ?_
  simp [AVal.toInt]

def vbl (n : Nat) : List UInt8 := if n < 128 then [UInt8.ofNat n] else UInt8.ofNat (n % 128 + 128) :: vbl (n / 128)
termination_by n
decreasing_by omega
theorem vbl_lt {n : Nat} (h : n < 128) : vbl n = [UInt8.ofNat n] := by rw [vbl, if_pos h]
theorem vbl_ge {n : Nat} (h : 128 ≤ n) : vbl n = UInt8.ofNat (n % 128 + 128) :: vbl (n / 128) := by rw [vbl, if_neg (by omega)]
theorem vbl_ne (n : Nat) : vbl n ≠ [] := by
  rw [vbl]; split <;> simp
theorem vbl_len : ∀ (k n : Nat), n < 128 ^ (k + 1) → (vbl n).length ≤ k + 1
  | 0, n, h => by rw [vbl_lt (by simpa using h)]; simp
  | k + 1, n, h => by
    by_cases h1 : n < 128
    · rw [vbl_lt h1]; simp
    · rw [vbl_ge (by omega), List.length_cons]
      have := vbl_len k (n / 128) (by rw [Nat.div_lt_iff_lt_mul (by omega)]; rw [Nat.pow_succ] at h; exact h)
      omega
theorem vbl_len9 {n : Nat} (h : n < 2 ^ 63) : (vbl n).length ≤ 9 := vbl_len 8 n (by simpa using h)

def rdGo (l : List UInt8) : Nat → Nat → Nat → Nat × Nat × Nat
  | 0, i, acc => if l.length < 9 then (0, 0, 5) else (0, 0, 10)
  | d + 1, i, acc =>
    if (l.getD i 0).toNat < 128 then if (l.getD i 0).toNat = 0 ∧ 0 < i then (0, 0, 10) else (acc + (l.getD i 0).toNat % 128 * 2 ^ (7 * i), i + 1, 0)
    else rdGo l d (i + 1) (acc + (l.getD i 0).toNat % 128 * 2 ^ (7 * i))
def rdV (l : List UInt8) : Nat × Nat × Nat := rdGo l (min l.length 9) 0 0

theorem vbl_getD0 {n : Nat} (h : n < 128) (t : List UInt8) : ((vbl n ++ t).getD 0 0).toNat = n := by
  rw [vbl_lt h]; simp; omega
theorem rdGo_vbl (l : List UInt8) (t : List UInt8) : ∀ (k n i acc d : Nat) (pre : List UInt8), l = pre ++ (vbl n ++ t) → pre.length = i → (vbl n).length ≤ d → (0 < i → 0 < n) → (vbl n).length = k →
    rdGo l d i acc = (acc + n * 2 ^ (7 * i), i + (vbl n).length, 0)
  | 0, n, i, acc, d, pre, _, _, _, _, hk => absurd (List.length_eq_zero_iff.1 hk) (vbl_ne n)
  | k + 1, n, i, acc, 0, pre, _, _, hd, _, hk => by omega
  | k + 1, n, i, acc, d + 1, pre, hl, hi, hd, hpos, hk => by
    have hget : l.getD i 0 = (vbl n ++ t).getD 0 0 := by
      rw [hl, List.getD_eq_getElem?_getD, List.getElem?_append_right (by omega), hi, Nat.sub_self, List.getD_eq_getElem?_getD]
    simp only [rdGo]
    rw [hget]
    by_cases h1 : n < 128
    · rw [vbl_getD0 h1, if_pos h1, if_neg (by rintro ⟨h2, h3⟩; have := hpos h3; omega), vbl_lt h1, Nat.mod_eq_of_lt h1]
      rfl
    · have e : vbl n = UInt8.ofNat (n % 128 + 128) :: vbl (n / 128) := vbl_ge (by omega)
      have hb : ((vbl n ++ t).getD 0 0).toNat = n % 128 + 128 := by rw [e]; simp; omega
      rw [hb, if_neg (by omega)]
      have hk' : (vbl (n / 128)).length = k := by rw [e] at hk; simpa using hk
      rw [rdGo_vbl l t k (n / 128) (i + 1) _ d (pre ++ [UInt8.ofNat (n % 128 + 128)]) (by rw [hl, e]; simp) (by simp [hi]) (by rw [e] at hd; simp at hd; omega) (fun _ => by omega) hk', e]
      have e1 : (n % 128 + 128) % 128 = n % 128 := by omega
      have e2 : acc + n % 128 * 2 ^ (7 * i) + n / 128 * 2 ^ (7 * (i + 1)) = acc + n * 2 ^ (7 * i) := by
        rw [show 7 * (i + 1) = 7 * i + 7 by omega, Nat.pow_add, Nat.add_assoc, ← Nat.mul_assoc, show (2 : Nat) ^ 7 = 128 by rfl]
        have : n / 128 * 2 ^ (7 * i) * 128 = n / 128 * 128 * 2 ^ (7 * i) := by rw [Nat.mul_assoc, Nat.mul_comm (2 ^ (7 * i)) 128, ← Nat.mul_assoc]
        rw [this, ← Nat.add_mul]
        congr 2
        omega
      rw [e1, e2, List.length_cons]
      congr 2
      omega
theorem rdV_vbl {n : Nat} (h : n < 2 ^ 63) (t : List UInt8) : rdV (vbl n ++ t) = (n, (vbl n).length, 0) := by
  have h9 := vbl_len9 h
  unfold rdV
  rw [rdGo_vbl (vbl n ++ t) t _ n 0 0 _ [] (by simp) rfl (by rw [List.length_append]; omega) (by omega) rfl]
  simp

theorem rdGo_back (l : List UInt8) : ∀ (d i acc n k : Nat), i + d ≤ l.length → rdGo l d i acc = (n, k, 0) → ∃ m, n = acc + m * 2 ^ (7 * i) ∧ i < k ∧ k ≤ i + d ∧ (l.drop i).take (k - i) = vbl m ∧ (0 < i → 0 < m)
  | 0, i, acc, n, k, hi, h => by
    simp only [rdGo] at h
    split at h <;> simp at h
  | d + 1, i, acc, n, k, hi, h => by
    simp only [rdGo] at h
    have hlt : i < l.length := by omega
    have hdrop : l.drop i = l.getD i 0 :: l.drop (i + 1) := by
      rw [List.drop_eq_getElem_cons hlt, List.getD_eq_getElem?_getD, List.getElem?_eq_getElem hlt]; rfl
    generalize hb : l.getD i 0 = b at h hdrop
    split at h
    · rename_i h1
      split at h
      · simp at h
      · rename_i h2
        simp only [Prod.mk.injEq] at h
        obtain ⟨rfl, rfl, _⟩ := h
        refine ⟨b.toNat, by rw [Nat.mod_eq_of_lt h1], by omega, by omega, ?_, fun h => ?_⟩
        · rw [hdrop, show i + 1 - i = 1 by omega, vbl_lt h1]; simp
        · omega
    · rename_i h1
      obtain ⟨m, e1, e2, e3, e4, e5⟩ := rdGo_back l d (i + 1) _ n k (by omega) h
      have hm := e5 (by omega)
      have hb256 : b.toNat < 256 := b.toNat_lt
      refine ⟨b.toNat % 128 + 128 * m, ?_, by omega, by omega, ?_, fun _ => by omega⟩
      · rw [e1, show 7 * (i + 1) = 7 * i + 7 by omega, Nat.pow_add, show (2 : Nat) ^ 7 = 128 by rfl, Nat.add_assoc, Nat.add_mul]
        congr 2
        rw [Nat.mul_comm 128 m, Nat.mul_assoc, Nat.mul_comm 128]
      · rw [vbl_ge (by omega), hdrop]
        have q1 : (b.toNat % 128 + 128 * m) % 128 + 128 = b.toNat := by omega
        have q2 : (b.toNat % 128 + 128 * m) / 128 = m := by omega
        rw [q1, q2, ← e4, show k - i = (k - (i + 1)) + 1 by omega, List.take_succ_cons]
        simp
theorem rdV_back {l : List UInt8} {n k : Nat} (h : rdV l = (n, k, 0)) : 0 < k ∧ k ≤ l.length ∧ l.take k = vbl n := by
  unfold rdV at h
  obtain ⟨m, e1, e2, e3, e4, _⟩ := rdGo_back l _ 0 0 n k (by omega) h
  simp at e1 e4
  subst e1
  exact ⟨e2, by omega, e4⟩

end Go.Abs
end

section
set_option linter.unusedVariables false
set_option linter.unusedSectionVars false
set_option linter.unusedSimpArgs false
namespace Go.Abs

section
variable [Glob]
theorem TrN.weaken {n m : Nat} {σ σ' : AState} {ρ ρ' : RMap} {F F' : Nat → Prop} {w w' : World} (t : TrN m σ σ' ρ ρ' F F' w w') (h : n ≤ m) : TrN n σ σ' ρ ρ' F F' w w' := by
  refine ⟨fun id b h1 => t.map id b (by omega), t.frz, t.os, t.tape, t.output, t.size, t.row, t.keep, t.newF, fun id b h1 => t.back id b (by omega), fun id o' b h1 h2 h3 h4 => ?_, by have := t.len; omega, fun id o' h1 h2 h3 => t.live id o' h1 h2 (by omega)⟩
  rcases Nat.lt_or_ge id m with hl | hl
  · obtain ⟨o, g1, g2⟩ := t.live id o' h2 h3 hl
    exact .inr ⟨id, o, g1, g2, t.back id b hl h4⟩
  · exact t.newρ id o' b hl h2 h3 h4
theorem TrN.full {σ σ' : AState} {ρ ρ' : RMap} {F F' : Nat → Prop} {w w' : World} (t : TrN σ.length σ σ' ρ ρ' F F' w w') (r : Rel ρ F σ w) : ∀ id b, ρ id = some b → ρ' id = some b := fun id b h => by
  rcases Nat.lt_or_ge id σ.length with hl | hl
  · exact t.map id b hl h
  · rw [r.dom id hl] at h; cases h
theorem TrN.frz' {n : Nat} {σ σ' : AState} {ρ ρ' : RMap} {F F' : Nat → Prop} {w w' : World} (t : TrN n σ σ' ρ ρ' F F' w w') (r : Rel ρ F σ w) : ∀ b, F b → F' b ∧ w'.heap[b]? = w.heap[b]? :=
  fun b h => ⟨t.frz b h, t.keep b (r.fr b h).1 (r.fr b h).2⟩
theorem VRel.trN {σ σ' : AState} {ρ ρ' : RMap} {F F' : Nat → Prop} {w w' : World} {v : AVal} {c : Value} (h : VRel F w ρ v c) (r : Rel ρ F σ w) (t : TrN σ.length σ σ' ρ ρ' F F' w w') : VRel F' w' ρ' v c :=
  h.mono (t.frz' r) t.row (t.full r)
theorem GOk.trN {n : Nat} {σ σ' : AState} {ρ ρ' : RMap} {F F' : Nat → Prop} {w w' : World} (h : GOk F w) (r : Rel ρ F σ w) (t : TrN n σ σ' ρ ρ' F F' w w') : GOk F' w' :=
  fun g v e => (h g v e).mono (t.frz' r) t.row (fun _ _ h => h)
theorem ARel.trN {σ σ' : AState} {ρ ρ' : RMap} {F F' : Nat → Prop} {w w' : World} {rg : Regs} {a : Act} (h : ARel F w ρ rg a) (r : Rel ρ F σ w) (t : TrN σ.length σ σ' ρ ρ' F F' w w') : ARel F' w' ρ' rg a :=
  ⟨h.size, fun i v u h1 h2 => (h.val i v u h1 h2).trN r t, h.defers, h.glob.trN r t⟩

def codeTail : Code → Code
  | .seq _ c => c
  | c => c

def catchRegs (n id : Nat) (no : Int) (k : Nat) (v : AVal) : Regs := (([.ptr id 1 0 0, .int .i64 no] : Regs) ++ List.replicate (n - 2) aundef).set k v

theorem callsD_catch {P : Program} {g : FuncId} {gn : Func} {blk : Code} {rid : Nat} {rop : Oper} {k id : Nat} {no : Int} {ts : Array TypeId} {σ2 σ3 : AState} {rg3 : Regs} {v : AVal} {vv : Value} {u u' : FrameMode} {F : Nat → Prop} {w : World} {ρ : RMap} {args : Array Value}
    (hds : Glob.ds = []) (hg : P.funcs[g]? = some gn) (hgb : gn.body = some (.seq (.region rid #[rop] false) blk)) (hgr : gn.results = #[])
    (hrop : rop.op = .call ⟨.builtin .recover, #[], ts⟩) (hrg : rop.guard = none) (hrd : rop.dst = some k)
    (hu : ∀ (c : Frame) (cs : List Frame), c.mode = u → (recoverD (c :: cs) = some (vv, { c with mode := u' } :: cs)) ∨ (recoverD (c :: cs) = none ∧ vv = .nilIface ∧ u' = u))
    (hv : ∀ (F : Nat → Prop) (w : World) (ρ : RMap), VRel F w ρ v vv)
    (h2 : TripN P σ2.length blk (catchRegs gn.ntmps id no k v) σ2 .normal rg3 σ3)
    (r : Rel ρ F σ2 w) (gk : GOk F w) (ha : PW F w ρ [.ptr id 1 0 0, .int .i64 no] args.toList) :
    CallsD P g args u w fun e u2 w' => (∃ x, e = .returned x) ∧ u2 = u' ∧ ∃ ρ' F', TrN σ2.length σ2 σ3 ρ ρ' F F' w w' ∧ Rel ρ' F' σ3 w' := by
  refine callsD_of_wpS hg hgb fun c₀ cs hc => ?_
  have hal : args.size = 2 := by have := ha.1; simpa using this.symm
  have ar : ARel F w ρ (([.ptr id 1 0 0, .int .i64 no] : List AVal) ++ List.replicate (gn.ntmps - 2) aundef) { tmps := args ++ Array.replicate (gn.ntmps - args.size) undef, defers := [] } :=
    ARel.enter (fn := gn) (as := [.ptr id 1 0 0, .int .i64 no]) hds ⟨gk, ha⟩
  have fin : ∀ (cs' : List Frame), cs' = { c₀ with mode := u' } :: cs → blk.wpS P (bodyPostS P gn c₀ cs fun e u2 w' => (∃ x, e = .returned x) ∧ u2 = u' ∧ ∃ ρ' F', TrN σ2.length σ2 σ3 ρ ρ' F F' w w' ∧ Rel ρ' F' σ3 w')
      (Act.put { tmps := args ++ Array.replicate (gn.ntmps - args.size) undef, defers := [] } (some k) vv) cs' w := by
    intro cs' hcs'
    refine wpS_of_wp ?_
    have ar2 := ar.put (some k) (hv F w ρ)
    refine h2 (Nat.le_refl _) F w ρ _ _ r ar2 fun ρ' F' w' a' t r' ha' => ?_
    show a'.defers = [] ∧ _
    obtain ⟨cv, hr, _⟩ := results_ok (fn := gn) (x := ([], [])) r' ha' (by rw [hgr]; rfl) (fun p hp => by simp at hp)
    exact ⟨ha'.defers.trans hds, u', hcs', cv, hr, ⟨_, rfl⟩, rfl, ρ', F', t, r'⟩
  refine wpS_seq (wpS_region ?_)
  have hw : Region.wanted rop (yielded #[rop] (args ++ Array.replicate (gn.ntmps - args.size) undef)) = true := by simp [Region.wanted, hrg]
  show wpOpsS P #[rop] _ [0] _ (c₀ :: cs) w
  have hrun : (execOp (Act.eval { tmps := args ++ Array.replicate (gn.ntmps - args.size) undef, defers := [] }) rop).run P w = .ok .recover w := by
    simp only [execOp, hrop, resolve]
    rfl
  simp only [wpOpsS, List.getElem?_toArray, List.getElem?_cons_zero, hw, if_true]
  rw [hrun]
  dsimp only
  rcases hu c₀ cs hc with h | ⟨h, rfl, rfl⟩
  · rw [h]; dsimp only; rw [hrd]; exact fin _ rfl
  · rw [h]; dsimp only; rw [hrd]; exact fin _ (by rw [← hc])

def Pre (P : Program) (n : Nat) (c X : Code) (rg : Regs) (σ : AState) (rg1 : Regs) (σ1 : AState) : Prop :=
  n ≤ σ.length → ∀ (F : Nat → Prop) (w : World) (ρ : RMap) (a : Act) (Q : Exit → Act → World → Prop), Rel ρ F σ w → ARel F w ρ rg a →
    (∀ ρ' F' w' a', TrN n σ σ1 ρ ρ' F F' w w' → Rel ρ' F' σ1 w' → ARel F' w' ρ' rg1 a' → X.wp P Q a' w') → c.wp P Q a w
theorem Pre.one {P : Program} {n : Nat} {A X : Code} {rg rg1 : Regs} {σ σ1 : AState} (h : TripN P n A rg σ .normal rg1 σ1) : Pre P n (.seq A X) X rg σ rg1 σ1 :=
  fun hn F w ρ a Q r ha hQ => wp_seq (h hn F w ρ a _ r ha fun ρ' F' w' a' t r' ha' => hQ ρ' F' w' a' t r' ha')
theorem Pre.cons {P : Program} {n : Nat} {A B X : Code} {rg rg1 rg2 : Regs} {σ σ1 σ2 : AState} (h : TripN P n A rg σ .normal rg1 σ1) (h2 : Pre P n B X rg1 σ1 rg2 σ2) : Pre P n (.seq A B) X rg σ rg2 σ2 :=
  fun hn F w ρ a Q r ha hQ => wp_seq (h hn F w ρ a _ r ha fun ρ' F' w' a' t r' ha' => h2 t.len F' w' ρ' a' Q r' ha' fun ρ2 F2 w2 a2 t2 r2 ha2 => hQ ρ2 F2 w2 a2 (t.trans t2) r2 ha2)

theorem defer_calls {P : Program} {f : FuncId} {fn : Func} {c0 rest blk : Code} {rid rid2 : Nat} {dop rop : Oper} {g : FuncId} {gn : Func} {no : Int} {k kk id : Nat} {ts tsr : Array TypeId}
    {xs : List AVal} {σ σ1 σ2 σ3 : AState} {rg1 rg2 rg3 : Regs} {e : AExit} {y : List AVal × List Prop} {v : AVal}
    (hds : Glob.ds = []) (hf : P.funcs[f]? = some fn) (hn : (fn.name == "runtime.NumGoroutine") = false) (hb : fn.body = some c0)
    (hdop : dop.op = .defer ⟨.value (.func g), #[.tmp k, .const (.int .i64 no)], ts⟩) (hdg : dop.guard = none) (hdd : dop.dst = none)
    (hg : P.funcs[g]? = some gn) (hgn : (gn.name == "runtime.NumGoroutine") = false) (hgb : gn.body = some (.seq (.region rid2 #[rop] false) blk)) (hgr : gn.results = #[])
    (hrop : rop.op = .call ⟨.builtin .recover, #[], tsr⟩) (hrg : rop.guard = none) (hrd : rop.dst = some kk)
    (h0 : Pre P σ.length c0 (.seq (.region rid #[dop] false) rest) (xs ++ List.replicate (fn.ntmps - xs.length) aundef) σ rg1 σ1)
    (h1 : ∀ ds, @TripN ⟨Glob.val, ds⟩ P σ1.length rest rg1 σ1 e rg2 σ2)
    (hk1 : rg1.getD k .any = .ptr id 1 0 0)
    (he : (e = .ret ∧ v = .nili) ∨ ∃ t, e = .pan t ∧ v = .iface t (.agg []))
    (h2 : TripN P σ2.length blk (catchRegs gn.ntmps id no kk v) σ2 .normal rg3 σ3)
    (hres : resAll P rg2 σ3 fn.results.toList = some y) (hcs : allP y.2) : FOkN P f xs σ (resVal y.1) σ3 := by
  refine ⟨⟨fn, _, hf, hn, hb⟩, fun F w ρ args r hp => calls_of_wp_defers hf hb ?_⟩
  refine h0 (Nat.le_refl _) F w ρ _ _ r (ARel.enter hds hp) fun ρ1 F1 w1 a1 t1 r1 ha1 => ?_
  -- the deferred call
  have hval : a1.eval (.tmp k) = a1.eval (.tmp k) := rfl
  have hvk := aev_ok ha1 (.tmp k)
  rw [show aev rg1 (.tmp k) = rg1.getD k .any from rfl, hk1] at hvk
  let d : Deferred := ⟨.fn (.func g) #[], #[a1.eval (.tmp k), .int .i64 no]⟩
  have hrun : (execOp a1.eval dop).run P w1 = .ok (.defer d) w1 := by
    simp [execOp, hdop, resolve, Deferred.ofValue, Act.eval, d]
  refine wp_seq (wp_region ?_)
  show wpOps P #[dop] _ [0] a1 w1
  have hw : Region.wanted dop (yielded #[dop] a1.tmps) = true := by simp [Region.wanted, hdg]
  simp only [wpOps, List.getElem?_toArray, List.getElem?_cons_zero, hw, if_true]
  refine .inl ?_
  unfold Oper.wp
  rw [hrun, Oper.upon_defer, hdd]
  show Code.wp P rest _ { a1 with defers := d :: a1.defers } w1
  have hd1 : a1.defers = [] := ha1.defers.trans hds
  rw [hd1]
  have ar1 : @ARel ⟨Glob.val, [d]⟩ F1 w1 ρ1 rg1 { a1 with defers := [d] } := @ARel.mk ⟨Glob.val, [d]⟩ F1 w1 ρ1 rg1 { a1 with defers := [d] } ha1.size ha1.val rfl ha1.glob
  refine h1 [d] (Nat.le_refl _) F1 w1 ρ1 _ _ r1 ar1 fun ρ2 F2 w2 a2 t2 r2 ha2 => ?_
  have hl1 : σ.length ≤ σ1.length := t1.len
  have gk2 : GOk F2 w2 := ha1.glob.trN r1 t2
  have hd2 : a2.defers = [d] := @ARel.defers ⟨Glob.val, [d]⟩ _ _ _ _ _ ha2
  have ar2 : ARel F2 w2 ρ2 rg2 { a2 with defers := [] } := ⟨(@ARel.size ⟨Glob.val, [d]⟩ F2 w2 ρ2 rg2 a2 ha2 : _), (@ARel.val ⟨Glob.val, [d]⟩ F2 w2 ρ2 rg2 a2 ha2 : _), hds.symm, gk2⟩
  have hargs : PW F2 w2 ρ2 [.ptr id 1 0 0, .int .i64 no] (#[a1.eval (.tmp k), .int .i64 no] : Array Value).toList :=
    .cons (hvk.trN r1 t2) (.cons (.int _ _ _) .nil)
  have hinv : (invoke (.fn (.func g) #[]) #[a1.eval (.tmp k), .int .i64 no]).run P w2 = .ok (.enter g #[a1.eval (.tmp k), .int .i64 no]) w2 := by
    have hname : gn.name ≠ "runtime.NumGoroutine" := by simpa using hgn
    simp [invoke, callFunc, hg, hname, hgb]
  have done : ∀ (u u' : FrameMode) (vv : Value), u ≠ .run → settle u' = .returning → (∀ (c : Frame) (cs : List Frame), c.mode = u → (recoverD (c :: cs) = some (vv, { c with mode := u' } :: cs)) ∨ (recoverD (c :: cs) = none ∧ vv = .nilIface ∧ u' = u)) →
      (∀ (F : Nat → Prop) (w : World) (ρ : RMap), VRel F w ρ v vv) →
      Leaves P fn a2.tmps (fun e w' => ∃ ρ' F', EndOk F' w' ρ' (resVal y.1) e ∧ TrN σ.length σ σ3 ρ ρ' F F' w w' ∧ Rel ρ' F' σ3 w') a2.defers u w2 := by
    intro u u' vv hur hset hu hv
    rw [hd2]
    refine leaves_cons hur hinv ((callsD_catch hds hg hgb hgr hrop hrg hrd hu hv h2 r2 gk2 hargs).mono fun e' u2 w' ⟨⟨x, hx⟩, hu2, ρ3, F3, t3, r3⟩ => ?_)
    subst hx
    subst hu2
    show Leaves P fn a2.tmps _ [] (settle u2) w'
    rw [hset]
    obtain ⟨cv, hr, hv⟩ := results_ok r3 (ar2.trN r2 t3) hres hcs
    refine ⟨cv, hr, ρ3, F3, .inl ⟨cv, rfl, hv⟩, ?_, r3⟩
    exact (t1.trans (t2.weaken hl1)).trans (t3.weaken (by have := t2.len; omega))
  rcases he with ⟨rfl, rfl⟩ | ⟨t, rfl, rfl⟩
  · exact done .returning .returning .nilIface (by simp) rfl (fun c cs hc => .inr ⟨by simp [recoverD, hc], rfl, rfl⟩) (fun _ _ _ => .nili _)
  · refine done (.panicking (panChain t)) (.panicking [{ v := .iface t (.agg #[]), recovered := true }]) (.iface t (.agg #[])) (by simp) rfl (fun c cs hc => .inl ?_) (fun F w ρ => .iface _ _ _ _ (.agg _ _ _ rfl fun i v u h _ => by simp at h))
    simp [recoverD, hc, panChain]

def bodyOf (f : Func) : Code := f.body.getD .skip
def codeHd : Code → Code
  | .seq c _ => c
  | c => c
def firstOp : Code → Oper
  | .region _ ops _ => ops.getD 0 default
  | .seq c _ => firstOp c
  | _ => default
theorem tr3 : allP (tr 3 ++ []) := allP_of (trC 3 trivial)
end
end Go.Abs
end

section
set_option linter.unusedVariables false
set_option linter.unusedSectionVars false
set_option linter.unusedSimpArgs false
namespace Go.Abs
variable [Glob]

theorem Rel.weakObj {ρ : RMap} {F : Nat → Prop} {σ : AState} {w : World} (r : Rel ρ F σ w) {id : Nat} {o' : AObj} (hlt : id < σ.length) (hl : o'.live = (Abs.obj σ id).live) (hi : ∀ b, ORel F w ρ b (Abs.obj σ id) → ORel F w ρ b o') :
    Rel ρ F (σ.set id o') w ∧ Tr σ (σ.set id o') ρ ρ F F w w := by
  have hget : ∀ (j : Nat) (o : AObj), (σ.set id o')[j]? = some o → (j = id ∧ o = o') ∨ (j ≠ id ∧ σ[j]? = some o) := fun j o h => by
    rw [List.getElem?_set] at h
    by_cases e : id = j
    · subst e
      simp [hlt] at h
      exact .inl ⟨rfl, h.symm⟩
    · rw [if_neg e] at h
      exact .inr ⟨fun e' => e e'.symm, h⟩
  have hid : σ[id]? = some (Abs.obj σ id) := obj_get hlt
  have hback : ∀ (j : Nat) (o : AObj), (σ.set id o')[j]? = some o → o.live = true → ∃ o0, σ[j]? = some o0 ∧ o0.live = true := fun j o h h2 => by
    rcases hget j o h with ⟨rfl, rfl⟩ | ⟨_, h3⟩
    · exact ⟨_, hid, by rw [← hl]; exact h2⟩
    · exact ⟨o, h3, h2⟩
  refine ⟨⟨fun j o b h1 h2 => ?_, fun j j' o o2 b h1 h2 h3 h4 h5 h6 => ?_, fun b hb => ⟨(r.fr b hb).1, fun ⟨j, o, h1, h2, h3⟩ => ?_⟩, r.lt, fun j h => r.dom j (by simpa using h)⟩,
    ⟨fun _ _ h => h, fun _ h => h, rfl, rfl, rfl, Nat.le_refl _, fun _ cs _ _ h => ⟨cs, _, h, rfl⟩, fun _ _ _ => rfl, fun _ h => .inl h, fun _ _ h => .inl h, by simp, fun j o h1 h2 _ => hback j o h1 h2⟩⟩
  · rcases hget j o h1 with ⟨rfl, rfl⟩ | ⟨_, h3⟩
    · exact hi b (r.obj _ _ b hid h2)
    · exact r.obj j o b h3 h2
  · obtain ⟨p1, e1, e2⟩ := hback j o h1 h3
    obtain ⟨p2, e3, e4⟩ := hback j' o2 h2 h4
    exact r.inj _ _ _ _ _ e1 e3 e2 e4 h5 h6
  · obtain ⟨p1, e1, e2⟩ := hback j o h1 h2
    exact (r.fr b hb).2 ⟨j, p1, e1, e2, h3⟩
theorem FOk.weakObj {P : Program} {f : FuncId} {xs : List AVal} {σ σ' : AState} {v : AVal} (h : FOk P f xs σ v σ') (id : Nat) (o' : AObj) (hlt : id < σ'.length) (hl : o'.live = (obj σ' id).live) (hi : ∀ F w ρ b, ORel F w ρ b (obj σ' id) → ORel F w ρ b o') :
    FOk P f xs σ v (σ'.set id o') :=
  ⟨h.1, fun F w ρ args r hp => (h.2 F w ρ args r hp).mono fun e w' ⟨ρ', F', he, t, r'⟩ => by
    obtain ⟨r2, t2⟩ := r'.weakObj hlt hl (hi F' w' ρ')
    exact ⟨ρ', F', he, Tr.trans r t t2, r2⟩⟩
omit [Glob] in
theorem Imps.get : ∀ {xs ys : List AVal}, Imps xs ys → xs.length = ys.length ∧ ∀ (i : Nat) (y : AVal), ys[i]? = some y → ∃ x, xs[i]? = some x ∧ Imp x y
  | [], [], _ => ⟨rfl, fun i y h => by simp at h⟩
  | x :: xs, y :: ys, h => by
    obtain ⟨h1, h2⟩ := h.2.get
    refine ⟨by simp [h1], fun i z hz => ?_⟩
    cases i with
    | zero => simp at hz; subst hz; exact ⟨x, rfl, h.1⟩
    | succ i => simpa using h2 i z (by simpa using hz)
  | [], _ :: _, h => h.elim
  | _ :: _, [], h => h.elim
theorem ORel.row1 {F : Nat → Prop} {w : World} {ρ : RMap} {b : Nat} {p : Bool} {es : Nat} {xs ys : List AVal} (hi : Imps xs ys) (h : ORel F w ρ b (.rows p es [xs])) : ORel F w ρ b (.rows p es [ys]) := by
  obtain ⟨cs, T, fr, h1, h2, h3, h4, h5⟩ := h
  obtain ⟨g1, g2⟩ := hi.get
  refine ⟨cs, T, fr, h1, h2, by simpa using h3, fun i row hr => ?_, fun i j row v hr hv => ?_⟩
  · cases i with
    | zero => simp at hr; subst hr; rw [← g1]; exact h4 0 xs rfl
    | succ i => simp at hr
  · cases i with
    | zero =>
      simp at hr; subst hr
      obtain ⟨x, e1, e2⟩ := g2 j v hv
      obtain ⟨cv, k1, k2⟩ := h5 0 j xs x rfl e1
      exact ⟨cv, k1, e2 _ _ _ _ k2⟩
    | succ i => simp at hr
end Go.Abs
end

section
set_option linter.unusedVariables false
set_option linter.unusedSectionVars false
set_option linter.unusedSimpArgs false
namespace Go.Abs
variable [Glob]

theorem ORel.unpure {F : Nat → Prop} {w : World} {ρ : RMap} {b es : Nat} {rs : List (List AVal)} (h : ORel F w ρ b (.rows false es rs)) (hp : (rs.all fun r => r.all pureCell) = true) : ORel F w ρ b (.rows true es rs) := by
  obtain ⟨cs, T, fr, h1, h2, h3, h4, h5⟩ := h
  refine ⟨cs, T, fr, h1, h2, h3, h4, fun i j row v e1 e2 => ?_⟩
  obtain ⟨cv, e3, e4⟩ := h5 i j row v e1 e2
  rw [List.all_eq_true] at hp
  have h6 := hp row (List.mem_of_getElem? e1)
  rw [List.all_eq_true] at h6
  exact ⟨cv, e3, pureCell_noId e4 (h6 v (List.mem_of_getElem? e2))⟩
theorem ORel.lead {F : Nat → Prop} {w : World} {ρ : RMap} {b es : Nat} {rs : List (List AVal)} (h : ORel F w ρ b (.rows true es rs)) : ORel F w ρ b (.rows false es rs) := by
  obtain ⟨cs, T, fr, h1, h2, h3, h4, h5⟩ := h
  refine ⟨cs, T, fr, h1, h2, h3, h4, fun i j row v e1 e2 => ?_⟩
  obtain ⟨cv, e3, e4⟩ := h5 i j row v e1 e2
  exact ⟨cv, e3, VRel.pure e4⟩
theorem FOk.preObj {P : Program} {f : FuncId} {as : List AVal} {σ σ' : AState} {v : AVal} (id : Nat) (o' : AObj) (h : FOk P f as (σ.set id o') v σ') (hlt : id < σ.length) (hl : o'.live = (obj σ id).live) (hi : ∀ F w ρ b, ORel F w ρ b (obj σ id) → ORel F w ρ b o') : FOk P f as σ v σ' :=
  ⟨h.1, fun F w ρ args r hp => by
    obtain ⟨r1, t1⟩ := r.weakObj hlt hl (hi F w ρ)
    exact (h.2 F w ρ args r1 hp).mono fun e w' ⟨ρ', F', he, t, r'⟩ => ⟨ρ', F', he, Tr.trans r t1 t, r'⟩⟩
theorem TripN.preObj {P : Program} {N : Nat} {c : Code} {rg rg' : Regs} {σ σ' : AState} {e : AExit} (id : Nat) (o' : AObj) (h : TripN P N c rg (σ.set id o') e rg' σ') (hlt : id < σ.length) (hl : o'.live = (obj σ id).live) (hi : ∀ F w ρ b, ORel F w ρ b (obj σ id) → ORel F w ρ b o') : TripN P N c rg σ e rg' σ' := by
  intro hn F w ρ a Q r ha hQ
  obtain ⟨r1, t1⟩ := r.weakObj hlt hl (hi F w ρ)
  exact h (Nat.le_trans hn t1.len) F w ρ a Q r1 ha fun ρ' F' w' a' t r' ha' => hQ ρ' F' w' a' ((t1.toN r hn).trans t) r' ha'
theorem TripN.weakObj {P : Program} {N : Nat} {c : Code} {rg rg' : Regs} {σ σ' : AState} {e : AExit} (h : TripN P N c rg σ e rg' σ') (id : Nat) (o' : AObj) (hlt : id < σ'.length) (hl : o'.live = (obj σ' id).live) (hi : ∀ F w ρ b, ORel F w ρ b (obj σ' id) → ORel F w ρ b o') : TripN P N c rg σ e rg' (σ'.set id o') := by
  intro hn F w ρ a Q r ha hQ
  refine h hn F w ρ a Q r ha fun ρ' F' w' a' t r' ha' => ?_
  obtain ⟨r2, t2⟩ := r'.weakObj hlt hl (hi F' w' ρ')
  exact hQ ρ' F' w' a' (t.trans (t2.toN r' t.len)) r2 ha'

theorem TripN.post {P : Program} {N : Nat} {c : Code} {rg rg' rg2 : Regs} {σ σ' σ2 : AState} {e : AExit} (h : TripN P N c rg σ e rg' σ') (m : List Bool) (π : List Nat) (hr : keepR m rg' = renL (old π) rg2)
    (hh : π.map (fun j => σ'[j]?) = σ2.map fun o => some (renO (old π) o)) (ok : okMove N π σ'.length rg2 σ2 = true) : TripN P N c rg σ e rg2 σ2 := by
  intro hn F w ρ a Q r ha hQ
  refine h hn F w ρ a Q r ha fun ρ' F' w' a' t r' ha' => ?_
  obtain ⟨t2, r2⟩ := move_rel t r' hh ok
  have hlen : π.length = σ2.length := by have := congrArg List.length hh; simpa using this
  have ok2 := ok
  unfold okMove at ok
  simp only [Bool.and_eq_true] at ok
  exact hQ _ _ w' a' t2 r2 (ha'.move hr (Nat.le_of_eq hlen.symm) ok.1.2)
theorem Rel.weakObj1 {ρ : RMap} {F : Nat → Prop} {σ : AState} {w : World} (r : Rel ρ F σ w) {id : Nat} {o' : AObj} (hlt : id < σ.length) (hl : o'.live = (Abs.obj σ id).live) (hi : ∀ b, ρ id = some b → ORel F w ρ b (Abs.obj σ id) → ORel F w ρ b o') :
    Rel ρ F (σ.set id o') w ∧ Tr σ (σ.set id o') ρ ρ F F w w := by
  have hget : ∀ (j : Nat) (o : AObj), (σ.set id o')[j]? = some o → (j = id ∧ o = o') ∨ (j ≠ id ∧ σ[j]? = some o) := fun j o h => by
    rw [List.getElem?_set] at h
    by_cases e : id = j
    · subst e
      simp [hlt] at h
      exact .inl ⟨rfl, h.symm⟩
    · rw [if_neg e] at h
      exact .inr ⟨fun e' => e e'.symm, h⟩
  have hid : σ[id]? = some (Abs.obj σ id) := obj_get hlt
  have hback : ∀ (j : Nat) (o : AObj), (σ.set id o')[j]? = some o → o.live = true → ∃ o0, σ[j]? = some o0 ∧ o0.live = true := fun j o h h2 => by
    rcases hget j o h with ⟨rfl, rfl⟩ | ⟨_, h3⟩
    · exact ⟨_, hid, by rw [← hl]; exact h2⟩
    · exact ⟨o, h3, h2⟩
  refine ⟨⟨fun j o b h1 h2 => ?_, fun j j' o o2 b h1 h2 h3 h4 h5 h6 => ?_, fun b hb => ⟨(r.fr b hb).1, fun ⟨j, o, h1, h2, h3⟩ => ?_⟩, r.lt, fun j h => r.dom j (by simpa using h)⟩,
    ⟨fun _ _ h => h, fun _ h => h, rfl, rfl, rfl, Nat.le_refl _, fun _ cs _ _ h => ⟨cs, _, h, rfl⟩, fun _ _ _ => rfl, fun _ h => .inl h, fun _ _ h => .inl h, by simp, fun j o h1 h2 _ => hback j o h1 h2⟩⟩
  · rcases hget j o h1 with ⟨rfl, rfl⟩ | ⟨_, h3⟩
    · exact hi b h2 (r.obj _ _ b hid h2)
    · exact r.obj j o b h3 h2
  · obtain ⟨p1, e1, e2⟩ := hback j o h1 h3
    obtain ⟨p2, e3, e4⟩ := hback j' o2 h2 h4
    exact r.inj _ _ _ _ _ e1 e3 e2 e4 h5 h6
  · obtain ⟨p1, e1, e2⟩ := hback j o h1 h2
    exact (r.fr b hb).2 ⟨j, p1, e1, e2, h3⟩

theorem Rel.freezeCell {ρ : RMap} {F : Nat → Prop} {σ : AState} {w : World} (r : Rel ρ F σ w) {id id2 j es es2 off len : Nat} {nl p : Bool} {cap : Option Nat} {row : List AVal} {rs : List (List AVal)}
    (ho : Abs.obj σ id = .rows false es [row]) (hj : row[j]? = some (.slc nl id2 es2 off len cap)) (ho2 : Abs.obj σ id2 = .rows p es2 rs) (hne : id2 ≠ id) (hp2 : (p || rs.all fun r => r.all pureCell) = true) (hlen : off + len ≤ rs.length)
    (hp : ∀ i v, row[i]? = some v → i ≠ j → pureCell v = true) :
    ∃ F', Rel ρ F' ((σ.set id2 .dead).set id (.rows true es [row.set j (.fsl nl es2 ((rs.drop off).take len) none)])) w ∧
      Tr σ ((σ.set id2 .dead).set id (.rows true es [row.set j (.fsl nl es2 ((rs.drop off).take len) none)])) ρ ρ F F' w w := by
  have hlt : id < σ.length := Classical.byContradiction fun h => by rw [obj_none (Nat.not_lt.1 h)] at ho; cases ho
  have hid' : Abs.obj (σ.set id2 .dead) id = .rows false es [row] := by
    rw [← ho]; unfold Abs.obj
    rw [List.getD_eq_getElem?_getD, List.getD_eq_getElem?_getD, List.getElem?_set, if_neg hne]
  have hlt' : id < (σ.set id2 AObj.dead).length := by simpa using hlt
  cases hb : ρ id with
  | none =>
    obtain ⟨r', t'⟩ := r.kill id2 (fun _ => False) (fun _ h => h.elim)
    obtain ⟨r2, t2⟩ := r'.weakObj1 (id := id) (o' := .rows true es [row.set j (.fsl nl es2 ((rs.drop off).take len) none)]) hlt' (by rw [hid']; rfl) (fun b h => by rw [hb] at h; cases h)
    exact ⟨_, r2, Tr.trans r t' t2⟩
  | some b =>
    have hO : ORel F w ρ b (.rows false es [row]) := by rw [← ho]; exact r.obj _ _ b (obj_get hlt) hb
    obtain ⟨cs, T, fr, h1, h2, h3, h4, h5⟩ := hO
    obtain ⟨c, e1, e2⟩ := h5 0 j row _ rfl hj
    have hx : freezeV σ (.slc nl id2 es2 off len cap) = some ⟨[.fsl nl es2 ((rs.drop off).take len) none], σ.set id2 .dead, [decide (off + len ≤ rs.length) = true]⟩ := by
      unfold freezeV
      have hoP : Abs.objP σ id2 = .rows p es2 rs := by unfold Abs.objP; rw [ho2]; rfl
      simp only [hoP]
      rw [if_pos (by rw [hp2]; simp)]
    obtain ⟨F', r', t', u, hu, hv⟩ := freezeV_ok r (show VRel F w ρ _ c from e2) hx (by intro q hq; rw [List.mem_singleton] at hq; subst hq; exact decide_eq_true hlen)
    simp only [List.cons.injEq, and_true] at hu
    subst hu
    obtain ⟨r2, t2⟩ := r'.weakObj1 (id := id) (o' := .rows true es [row.set j (.fsl nl es2 ((rs.drop off).take len) none)]) hlt' (by rw [hid']; rfl) (fun b' hb' hO' => by
      rw [hb] at hb'; cases hb'
      rw [hid'] at hO'
      obtain ⟨cs', T', fr', k1, k2, k3, k4, k5⟩ := hO'
      have hcs : cs' = cs := by
        have := h1.symm.trans k1
        injection this with this; injection this with a _ _; exact a.symm
      subst hcs
      refine ⟨cs', T', fr', k1, k2, by simpa using k3, fun i q hq => ?_, fun i q row' v hr hq => ?_⟩
      · cases i with
        | zero => simp at hq; subst hq; rw [List.length_set]; exact k4 0 row rfl
        | succ i => simp at hq
      · cases i with
        | zero =>
          simp at hr; subst hr
          rw [List.getElem?_set] at hq
          split at hq
          · rename_i hjq
            subst hjq
            split at hq
            · cases hq; exact ⟨c, e1, hv⟩
            · cases hq
          · rename_i hjq
            obtain ⟨cv, g1, g2⟩ := k5 0 q row v rfl hq
            exact ⟨cv, g1, pureCell_noId g2 (hp q v hq (fun e => hjq e.symm))⟩
        | succ i => simp at hr)
    exact ⟨_, r2, Tr.trans r t' t2⟩
theorem TripN.freezeCell {P : Program} {N : Nat} {c : Code} {rg rg' : Regs} {σ σ' : AState} {e : AExit} (h : TripN P N c rg σ e rg' σ') {id id2 j es es2 off len : Nat} {nl p : Bool} {cap : Option Nat} {row : List AVal} {rs : List (List AVal)}
    (ho : Abs.obj σ' id = .rows false es [row]) (hj : row[j]? = some (.slc nl id2 es2 off len cap)) (ho2 : Abs.obj σ' id2 = .rows p es2 rs) (hne : id2 ≠ id) (hp2 : (p || rs.all fun r => r.all pureCell) = true) (hlen : off + len ≤ rs.length)
    (hp : ∀ i v, row[i]? = some v → i ≠ j → pureCell v = true) :
    TripN P N c rg σ e rg' ((σ'.set id2 .dead).set id (.rows true es [row.set j (.fsl nl es2 ((rs.drop off).take len) none)])) := by
  intro hn F w ρ a Q r ha hQ
  refine h hn F w ρ a Q r ha fun ρ' F' w' a' t r' ha' => ?_
  obtain ⟨F2, r2, t2⟩ := r'.freezeCell ho hj ho2 hne hp2 hlen hp
  exact hQ ρ' F2 w' a' (t.trans (t2.toN r' t.len)) r2 (ha'.tr r' t2)
theorem TripN.panAll {P : Program} {N : Nat} {c : Code} {rg rg' : Regs} {σ σ' : AState} {e : AExit} (h : TripN P N c rg σ e rg' σ') : TripN P N c rg σ e (List.replicate rg'.length .any) (List.replicate N .dead) := by
  intro hn F w ρ a Q r ha hQ
  refine h hn F w ρ a Q r ha fun ρ' F' w' a' t r' ha' => ?_
  have hdead : ∀ {id : Nat} {o : AObj}, (List.replicate N AObj.dead)[id]? = some o → o = .dead := fun {id o} h => by
    rw [List.getElem?_replicate] at h; split at h
    · cases h; rfl
    · cases h
  refine hQ _ F' w' a' ⟨fun id b h1 h2 => ?_, t.frz, t.os, t.tape, t.output, t.size, t.row, t.keep, t.newF, fun id b h1 h2 => ?_, fun id o' b h1 h2 h3 h4 => ?_, by simp, fun id o' h1 h2 h3 => (by rw [hdead h1] at h2; cases h2)⟩ (r'.killAll N t.len) ?_
  · rw [if_pos h1]; exact t.map id b h1 h2
  · rw [if_pos h1] at h2; exact t.back id b h1 h2
  · rw [hdead h2] at h3; cases h3
  · have h2 : ARel F' w' ρ' (List.replicate rg'.length .any) a' := ha'.imp ⟨by simp, fun t => by
      have : (List.replicate rg'.length AVal.any).getD t .any = .any := by
        rw [List.getD_eq_getElem?_getD, List.getElem?_replicate]; split <;> rfl
      rw [this]; exact fun F w ρ c hc => .any _ _⟩
    refine ⟨h2.size, fun i v u h3 h4 => ?_, h2.defers, h2.glob⟩
    rw [List.getElem?_replicate] at h3
    split at h3
    · cases h3; exact .any _ _
    · cases h3
theorem TripN.wpG {P : Program} {N R : Nat} {c : Code} {rg : Regs} {σ : AState} {e : AExit} (h : ∃ e2 rg2 σ2, TripN P N c rg σ e2 rg2 σ2 ∧ (e2 = e ∧ rg2.length = R)) : ∃ rg' σ', rg'.length = R ∧ TripN P N c rg σ e rg' σ' := by
  obtain ⟨e2, rg2, σ2, h1, rfl, h2⟩ := h
  exact ⟨rg2, σ2, h2, h1⟩
end Go.Abs
end
