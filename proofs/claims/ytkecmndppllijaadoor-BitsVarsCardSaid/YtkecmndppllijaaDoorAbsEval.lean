import Derived.Test.YtkecmndppllijaaDoorAbsDefs
import Derived.Still
set_option linter.unusedVariables false
set_option linter.unusedSectionVars false
namespace Go.Abs

inductive AExit where
  | normal
  | exit (id : Nat)
  | ret
  deriving Inhabited, DecidableEq

/-- What a walk is told: which way at a test; what a call, a loop comes to. -/
inductive Dec where
  | br (b : Bool)
  | call (r : AVal) (σ : AState)
  | rw (v : AVal)
  | go
  | unroll (n : Nat)
  | place (t es : Nat) (pure : Bool)
  | placeH (id i j es : Nat) (pure : Bool)
  | compact (m : List Bool) (π : List Nat)
  | use (es : List Nat) (as : List AVal) (σ : AState) (r : AVal) (σ' : AState)
  | loop (e : AExit) (rg : Regs) (σ : AState)
  deriving Inhabited

structure St where
  rg : Regs
  σ : AState
  s : List Dec
  cs : List Prop

/-- What is known of the variables of packages: what their places hold, from first to last. -/
class Glob where
  val : Nat → Option AVal
variable [Glob]

def aev (rg : Regs) : Operand → AVal
  | .tmp t => rg.getD t .any
  | .const v => abs0 v
  | .global g => (Glob.val g).getD .any
  | .func f => .func f []

def rput (rg : Regs) (dst : Option Tmp) (v : AVal) : Regs :=
  match dst with
  | some d => rg.set d v
  | none => rg

/-- What is owed of calls and loops. -/
structure Owed where
  call : FuncId → List AVal → AState → AVal → AState → Prop
  use : FuncId → List Nat → List AVal → AState → List AVal → AState → AVal → AState → Prop
  loop : Code → Regs → AState → AExit → Regs → AState → Prop
  n : Nat

def amakeFunc (fn : Fn) (first : List Operand) (cap : List AVal) (σ : AState) : Option Out :=
  match fn, first with
  | .func f, [] => some ⟨.func f cap, σ, []⟩
  | _, _ => none

def abuiltin (P : Program) (c : Callee) (ts : List TypeId) (vs : List AVal) (σ : AState) : Option Out :=
  match c with
  | .builtin b =>
    match b, ts, vs with
    | .append, [t, u], [d, x] => aappend P t u d x σ
    | .len, [t], [x] => alen P t x σ
    | .min, [_, _], [.int k a, .int k' b] => if k == k' then some ⟨.int k (imin a b), σ, []⟩ else none
    | .unsafeSliceData, [t], [x] => aunsafeSliceData x σ
    | .unsafeString, [pt, _], [a, n] => aunsafeString P pt a n σ
    | .max, [_, _], [.int k a, .int k' b] => if k == k' then some ⟨.int k (imax a b), σ, []⟩ else none
    | _, _, _ => none
  | _ => none

def aop (P : Program) (o : Op) (ty : TypeId) (rg : Regs) (σ : AState) : Option Out :=
  let e := aev rg
  match o with
  | .move x => some ⟨e x, σ, []⟩
  | .assign x => some ⟨e x, σ, []⟩
  | .alloc t => aalloc P t σ
  | .box _ x => abox (e x) σ
  | .build t ps => abuild P t (ps.toList.map fun p => (p.1, e p.2)) σ
  | .buildSlice t n ps => abuildSlice P t n (ps.toList.map fun p => (p.1, e p.2)) σ
  | .load t a => aload P t (e a) σ
  | .store t a v => astore P t (e a) (e v) σ
  | .nilCheck x => anilCheck (e x) σ
  | .binOp op t x y _ => abinOp P op t (e x) (e y) σ
  | .unOp op _ x => aunOp op (e x) σ
  | .convert s d x => aconvert P s d (e x) σ
  | .makeFunc fn first cap => amakeFunc fn first.toList (cap.toList.map e) σ
  | .makeMap t r => amakeMap P t (r.map e) σ
  | .makeSlice t l c => amakeSlice P t (e l) (e c) σ
  | .slice t x lo hi mx => aslice P t (e x) (lo.map e) (hi.map e) (mx.map e) σ
  | .fieldAddr s x f => afieldAddr P s (e x) f σ
  | .field t x f => afield P t (e x) f σ
  | .indexAddr t x i => aindexAddr P t (e x) (e i) σ
  | .index t x i => aindex P t (e x) (e i) σ
  | .lookup t x k ok => alookup P t (e x) (e k) ok σ
  | .mapUpdate t m k v => amapUpdate P t (e m) (e k) (e v) σ
  | .insert t m k v => amapUpdate P t (e m) (e k) (e v) σ
  | .makeInterface t x => amakeIface P t (e x) σ
  | .typeAssert x _ t ok => atypeAssert P t ok (e x) σ
  | .extract t i => aextract (e t) i σ
  | .call c => abuiltin P c.callee c.argTypes.toList (c.args.toList.map e) σ
  | _ => none

/-! What an operation looks at of the heap, and what of it it may turn. -/
def idOf : AVal → List Nat
  | .ptr id _ _ _ => [id]
  | .slc _ id _ _ _ _ => [id]
  | .map id => [id]
  | .iface _ (.map id) => [id]
  | _ => []
def isPureO : AObj → Bool
  | .rows p _ _ => p
  | .trows _ p _ _ => p
  | .mp p _ => p
  | .dead => false
def putIds (a v : AVal) (σ : AState) : List Nat :=
  match a with
  | .ptr id _ _ _ => id :: (if isPureO (obj σ id) then v.cells.flatMap idOf else [])
  | .map id => id :: (if isPureO (obj σ id) then v.cells.flatMap idOf else [])
  | _ => []
def touchB (vs : List AVal) : List Nat × List Nat :=
  match vs with
  | [d, x] => (idOf d ++ idOf x, idOf d)
  | [x] => (idOf x, [])
  | _ => ([], [])
def touch (o : Op) (rg : Regs) (σ : AState) : List Nat × List Nat :=
  let e := aev rg
  match o with
  | .load _ a => (idOf (e a), [])
  | .store _ a v => (putIds (e a) (e v) σ, putIds (e a) (e v) σ)
  | .convert _ _ x => (idOf (e x), [])
  | .lookup _ x _ _ => (idOf (e x), [])
  | .mapUpdate _ m _ v => (putIds (e m) (e v) σ, putIds (e m) (e v) σ)
  | .insert _ m _ v => (putIds (e m) (e v) σ, putIds (e m) (e v) σ)
  | .call c => touchB (c.args.toList.map e)
  | _ => ([], [])

/-- a Go function that is called -/
def acallee (o : Op) (rg : Regs) : Option (FuncId × List AVal) :=
  match o with
  | .call ⟨.value f, as, _⟩ =>
    match aev rg f with
    | .func f cap => some (f, as.toList.map (aev rg) ++ cap)
    | _ => none
  | _ => none

/-- What is lacking, where a walk stands. -/
inductive Need where
  | br (b : Bool)
  | call (f : FuncId) (as : List AVal) (σ : AState)
  | loop (c : Code) (rg : Regs) (σ : AState)
  | look (v : AVal)
  | bad (o : Oper) (rg : Regs) (σ : AState)
  | odd

inductive Res (α : Type) where
  | ok (a : α)
  | no (n : Need)

def Res.then {α β : Type} (r : Res α) (f : α → Res β) : Res β :=
  match r with
  | .ok a => f a
  | .no n => .no n

/-- which way -/
def Brd (b d : Bool) : Prop := b = d
/-- a truth, made known -/
def ask (v : AVal) (x : Option Tmp) (st : St) : Res (Bool × St) :=
  match v with
  | .tt b => .ok (b, st)
  | .bool b =>
    match st.s with
    | .br d :: s => .ok (d, { st with rg := rput st.rg x (.tt d), s := s, cs := Brd b d :: st.cs })
    | _ => .no (.br b)
  | _ => .no .odd

def tmpOf : Operand → Option Tmp
  | .tmp t => some t
  | _ => none

/-- is an operation carried out? -/
def awant (ops : Array Oper) (o : Oper) (st : St) : Res (Bool × St) :=
  match o.guard with
  | none => .ok (true, st)
  | some (j, want) =>
    match (ops[j]?).bind (·.dst) with
    | none => .no .odd
    | some d =>
      match st.rg.getD d .any with
      | .tuple [] => .ok (false, st)
      | v => (ask v (some d) st).then fun p => .ok (p.1 == want, p.2)

/-- An operation that is done: what was asked ahead of it, its value, the heap behind it. -/
structure Done where
  st : St
  v : AVal
  σ : AState
  T : List Nat
  W : List Nat

def Done.next (d : Done) (o : Oper) : St := { d.st with rg := rput d.st.rg o.dst d.v, σ := d.σ }

def isLookup : Op → Bool
  | .lookup _ _ _ _ => true
  | _ => false

def evalOp (P : Program) (H : Owed) (o : Oper) (st : St) : Res Done :=
  match o.op with
  | .pick c a b => (ask (aev st.rg c) (tmpOf c) st).then fun p => .ok ⟨p.2, aev p.2.rg (if p.1 then a else b), p.2.σ, [], []⟩
  | op =>
    match acallee op st.rg with
    | some (f, as) =>
      if bodiless P f then
        match aextern P f as st.σ with
        | some r => .ok ⟨{ st with cs := r.cs ++ st.cs }, r.v, r.σ, (touchB as).1, []⟩
        | none => .no (.bad o st.rg st.σ)
      else
      match st.s with
      | .call r σ' :: s => .ok ⟨{ st with s := s, cs := H.call f as st.σ r σ' :: st.cs }, r, σ', List.range st.σ.length, List.range st.σ.length⟩
      | .use es as0 σ0 r σ' :: s => .ok ⟨{ st with s := s, cs := H.use f es (normTs P (paramsOf P f) as) st.σ as0 σ0 r σ' :: st.cs }, ren (emb es st.σ.length) r, plug st.σ es σ', es, es⟩
      | _ => .no (.call f (normTs P (paramsOf P f) as) st.σ)
    | none =>
      match aop P op o.type st.rg st.σ with
      | some r =>
        if isLookup op then
          match st.s with
          | .rw v :: s => .ok ⟨{ st with s := s, cs := (r.v = v) :: (r.cs ++ st.cs) }, v, r.σ, (touch op st.rg st.σ).1, (touch op st.rg st.σ).2⟩
          | .go :: s => .ok ⟨{ st with s := s, cs := r.cs ++ st.cs }, r.v, r.σ, (touch op st.rg st.σ).1, (touch op st.rg st.σ).2⟩
          | _ => .no (.look r.v)
        else .ok ⟨{ st with cs := r.cs ++ st.cs }, r.v, r.σ, (touch op st.rg st.σ).1, (touch op st.rg st.σ).2⟩
      | none => .no (.bad o st.rg st.σ)

def evalOne (P : Program) (H : Owed) (all : Array Oper) (o : Oper) (st : St) : Res Done :=
  (awant all o st).then fun p => if p.1 then evalOp P H o p.2 else .ok ⟨p.2, aundef, p.2.σ, [], []⟩

/-! What is known is written out (nothing else is meant by it). -/
def forceV {α : Type} (v : AVal) (K : AVal → α) : α :=
  match v with
  | .any => K .any
  | .tt b => K (.tt b)
  | .bool b => K (.bool b)
  | .int k n => K (.int k n)
  | .str s => K (.str s)
  | .nilp => K .nilp
  | .ptr a b c d => K (.ptr a b c d)
  | .slc a b c d e f => K (.slc a b c d e f)
  | .fsl a b c d => K (.fsl a b c d)
  | .fptr a b c d => K (.fptr a b c d)
  | .nilm => K .nilm
  | .map a => K (.map a)
  | .func f c => K (.func f c)
  | .nilf => K .nilf
  | .agg c => K (.agg c)
  | .pagg c => K (.pagg c)
  | .tuple c => K (.tuple c)
  | .nili => K .nili
  | .iface t v => K (.iface t v)
theorem forceV_eq {α : Type} (v : AVal) (K : AVal → α) : forceV v K = K v := by cases v <;> rfl
def forceL {α β : Type} : List α → (List α → β) → β
  | [], K => K []
  | x :: xs, K => forceL xs fun ys => K (x :: ys)
theorem forceL_eq {α β : Type} : ∀ (l : List α) (K : List α → β), forceL l K = K l
  | [], K => rfl
  | x :: xs, K => by rw [forceL, forceL_eq xs]
def forceSt {α : Type} (st : St) (K : St → α) : α := forceL st.rg fun rg => forceL st.σ fun σ => K ⟨rg, σ, st.s, st.cs⟩
theorem forceSt_eq {α : Type} (st : St) (K : St → α) : forceSt st K = K st := by unfold forceSt; rw [forceL_eq, forceL_eq]

def evalOps (P : Program) (H : Owed) (all : Array Oper) : List Oper → St → Res St
  | [], st => .ok st
  | x :: os, st => (evalOne P H all x st).then fun d => forceV d.v fun v => evalOps P H all os (({ d with v := v } : Done).next x)

/-! What stands ahead of what, whatever the order. -/
def ancs : List Oper → List Nat → List Nat
  | [], acc => acc
  | o :: os, acc => ancs os (acc ++ [(o.after.toList.filter (Region.binds .any)).foldl (fun m e => m ||| (1 <<< e.on) ||| acc.getD e.on 0) 0])

/-- What an operation of a region has done: what it looked at, what it turned. -/
structure Rec where
  T : List Nat
  W : List Nat
  σ : AState
  σ' : AState
/-- Two operations, the first one not ahead of the second in each order: neither turns what the other looks at. -/
def pairC (x y : Rec) : List Prop :=
  (x.W.filter fun id => y.T.contains id).map (fun id => obj x.σ' id = obj x.σ id) ++
  (y.W.filter fun id => x.T.contains id).map (fun id => obj y.σ' id = obj y.σ id) ++
  (if y.T.isEmpty then [] else [(y.T.all fun id => decide (id < x.σ.length) || decide (x.σ'.length ≤ id)) = true])
def pairsC (anc : Nat) (y : Rec) : Nat → List Rec → List Prop
  | _, [] => []
  | i, x :: xs => (if anc.testBit i then [] else pairC x y) ++ pairsC anc y (i + 1) xs
def okScope (σ : AState) (v : AVal) : Bool := inScope σ.length v && σ.all (inScopeO σ.length)
/-- the operations of a region that may come in other orders, too -/
def evalAny (P : Program) (H : Owed) (all : Array Oper) (as : List Nat) : Nat → List Oper → List Rec → St → Res St
  | _, [], _, st => .ok st
  | j, x :: os, rs, st => (evalOne P H all x st).then fun d => forceV d.v fun v => forceL d.T fun T => forceL d.W fun W =>
      evalAny P H all as (j + 1) os (rs ++ [⟨T, W, d.st.σ, d.σ⟩]) { ({ d with v := v } : Done).next x with cs := pairsC (as.getD j 0) ⟨T, W, d.st.σ, d.σ⟩ 0 rs ++ ((okScope d.σ v = true) :: (decide (d.st.σ.length ≤ d.σ.length) = true) :: d.st.cs) }

def okPair (ops : Array Oper) (as : List Nat) (i j : Nat) : Bool :=
  match ops[i]?, ops[j]? with
  | some x, some y => ((as.getD j 0).testBit i || x.apart ops y) && (x.dst.isNone || x.dst != y.dst)
  | _, _ => true
def okOrd (ops : Array Oper) : Bool :=
  let as := ancs ops.toList []
  Region.noSelect ops && (List.range ops.size).all fun j => ((ops[j]?).map fun o => o.after.toList.all fun e => !Region.binds .any e || decide (e.on < j)).getD true &&
    (List.range j).all fun i => okPair ops as i j

/-- ahead of a loop: empty slices get places, what is kept gets new names -/
structure Plc where
  rg : Regs
  σ : AState
  s : List Dec
def placed (n : Nat) : List Dec → Regs → AState → Plc
  | .place t es p :: s, rg, σ =>
    match rg.getD t .any with
    | .fsl true _ [] _ => placed n s (rput rg (some t) (.slc true σ.length es 0 0 none)) (σ ++ [.rows p es []])
    | _ => ⟨rg, σ, .place t es p :: s⟩
  | .placeH id i j es p :: s, rg, σ =>
    match obj σ id with
    | .rows false es' rs =>
      match (rs.getD i []).getD j .any with
      | .fsl true _ [] _ => placed n s rg (σ.set id (.rows false es' (rs.set i ((rs.getD i []).set j (.slc true σ.length es 0 0 none)))) ++ [.rows p es []])
      | _ => ⟨rg, σ, .placeH id i j es p :: s⟩
    | _ => ⟨rg, σ, .placeH id i j es p :: s⟩
  | .compact m π :: s, rg, σ =>
    if okMove n π σ.length (renL (invId π) (keepR m rg)) (π.map fun j => renO (invId π) (obj σ j)) && idsInL π (keepR m rg) && π.all (fun j => idsInO π (obj σ j)) then
      placed n s (renL (invId π) (keepR m rg)) (π.map fun j => renO (invId π) (obj σ j))
    else ⟨rg, σ, .compact m π :: s⟩
  | s, rg, σ => ⟨rg, σ, s⟩
def St.placed (n : Nat) (st : St) : St := let x := Abs.placed n st.s st.rg st.σ; { rg := x.rg, σ := x.σ, s := x.s, cs := st.cs }

/-- a loop, round by round -/
def iterC (ev : St → Res (AExit × St)) : Nat → St → Res (AExit × St)
  | 0, st => .no (.loop .skip st.rg st.σ)
  | n + 1, st => (ev st).then fun p =>
      match p.1 with
      | .normal => iterC ev n p.2
      | e => .ok (e, p.2)

def evalC (P : Program) (H : Owed) : Code → St → Res (AExit × St)
  | .skip, st => .ok (.normal, st)
  | .region _ ops draw, st =>
    if draw then
      if okOrd ops then (evalAny P H ops (ancs ops.toList []) 0 ops.toList [] { st with cs := ((inScopeL st.σ.length st.rg && st.σ.all (inScopeO st.σ.length)) = true) :: st.cs }).then fun st => forceSt st fun st => .ok (.normal, st) else .no .odd
    else (evalOps P H ops ops.toList st).then fun st => forceSt st fun st => .ok (.normal, st)
  | .seq a b, st => (evalC P H a st).then fun p =>
      match p.1 with
      | .normal => evalC P H b p.2
      | e => .ok (e, p.2)
  | .cond c x y, st => (ask (aev st.rg c) (tmpOf c) st).then fun p => if p.1 then evalC P H x p.2 else evalC P H y p.2
  | .block id c, st => (evalC P H c st).then fun p =>
      match p.1 with
      | .exit k => .ok (if k == id then .normal else .exit k, p.2)
      | e => .ok (e, p.2)
  | .loop c, st0 =>
    let st := st0.placed H.n
    match st.s with
    | .loop e rg σ :: s => .ok (e, { rg := rg, σ := σ, s := s, cs := H.loop c st.rg st.σ e rg σ :: st.cs })
    | .unroll n :: s => iterC (fun st => evalC P H c st) n { st with s := s }
    | _ => .no (.loop c st.rg st.σ)
  | .exit id, st => .ok (.exit id, st)
  | .ret, st => .ok (.ret, st)
  | .label _, st => .ok (.normal, st)
  | _, _ => .no .odd

end Go.Abs
