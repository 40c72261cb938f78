import Derived.WalkKit
import Derived.Laws.Externs
import Derived.KernelRfl
set_option linter.unusedVariables false
namespace Go.Abs

/-! ## What a value, a heap, is -/
inductive AVal where
  | any
  | tt (b : Bool)
  | bool (b : Bool)
  | int (k : IntKind) (n : Int)
  | str (s : ByteArray)
  | nilp
  | ptr (id es i j : Nat)
  | slc (isnil : Bool) (id es off len : Nat) (cap : Option Nat)
  | fsl (isnil : Bool) (es : Nat) (rows : List (List AVal)) (cap : Option Nat)
  | fptr (es : Nat) (rows : List (List AVal)) (i j : Nat)
  | nilm
  | map (id : Nat)
  | func (f : FuncId) (cap : List AVal)
  | nilf
  | agg (cs : List AVal)
  | pagg (cs : List AVal)
  | tuple (vs : List AVal)
  | nili
  | iface (t : TypeId) (v : AVal)
  deriving Inhabited

inductive AObj where
  | dead
  | rows (pure : Bool) (es : Nat) (rs : List (List AVal))
  | trows (T : TypeId) (pure : Bool) (es : Nat) (rs : List (List AVal))
  | mp (pure : Bool) (ents : List (AVal × AVal))
  deriving Inhabited

abbrev AState := List AObj
abbrev Regs := List AVal

def AObj.live : AObj → Bool
  | .dead => false
  | _ => true

/-- whatever its type is -/
def AObj.plain : AObj → AObj
  | .trows _ p es rs => .rows p es rs
  | o => o

def aundef : AVal := .tuple []

/-- A value that the program's text writes out. -/
def abs1 : Value → AVal
  | .bool b => .tt b
  | .int k n => .int k n
  | .string s => .str s
  | .pointer none => .nilp
  | .slice none 0 0 => .fsl true 0 [] (some 0)
  | .map none => .nilm
  | .nilFunc => .nilf
  | .nilIface => .nili
  | _ => .any
def abs0 : Value → AVal
  | .agg cs => .agg (cs.toList.map abs1)
  | v => abs1 v

def AVal.cells : AVal → List AVal
  | .agg cs => cs
  | v => [v]

def oneCell : AVal → Bool
  | .any | .agg _ | .pagg _ | .tuple _ => false
  | _ => true

def AVal.toBool : AVal → Bool
  | .bool b => b
  | .tt b => b
  | _ => false
def AVal.toInt : AVal → Int
  | .int _ n => n
  | _ => 0
def AVal.toStr : AVal → ByteArray
  | .str s => s
  | _ => ⟨#[]⟩
def AVal.toNil : AVal → Bool
  | .fsl b _ _ _ => b
  | _ => false
def AVal.toRows : AVal → List (List AVal)
  | .fsl _ _ rs _ => rs
  | _ => []

/-- The kinds of cells. -/
inductive Kind where
  | bool | int (k : IntKind) | str | slice (es : Nat) | other
  deriving DecidableEq, Inhabited

def kindOf (P : Program) (t : TypeId) : Kind :=
  match P.underlying t with
  | some .bool => .bool
  | some (.int k) => .int k
  | some .string => .str
  | some (.slice e) => .slice (P.cellsOf e)
  | _ => .other

def kindsOf (P : Program) : Nat → TypeId → List Kind
  | 0, _ => []
  | d + 1, t =>
    match P.underlying t with
    | some (.struct fs) => fs.toList.flatMap fun f => kindsOf P d f.type
    | some (.array n e) => (List.replicate n (kindsOf P d e)).flatten
    | _ => [kindOf P t]

def reify : Kind → AVal → AVal
  | .bool, v => .bool v.toBool
  | .int k, v => .int k v.toInt
  | .str, v => .str v.toStr
  | .slice es, v => .fsl v.toNil es v.toRows none
  | .other, v => v
def isKind : Kind → AVal → Bool
  | .bool, .bool _ => true
  | .bool, .tt _ => true
  | .int k, .int k' _ => k == k'
  | .str, .str _ => true
  | .slice es, .fsl b es' rs _ => es == es' || (b && rs.isEmpty)
  | .other, _ => true
  | _, _ => false
def reifyL : List Kind → List AVal → List AVal
  | [], _ => []
  | k :: ks, v :: vs => reify k v :: reifyL ks vs
  | k :: ks, [] => reify k .any :: reifyL ks []
def areKinds : List Kind → List AVal → Bool
  | [], vs => vs.isEmpty
  | _ :: _, [] => false
  | k :: ks, v :: vs => isKind k v && areKinds ks vs

/-- No place of the heap is led to. -/
def pureCell : AVal → Bool
  | .tt _ | .bool _ | .int _ _ | .str _ | .nilp | .fsl _ _ _ _ | .nilm | .nilf | .nili => true
  | _ => false
def refKind : Kind → Bool
  | .other => true
  | _ => false

def isAggT (P : Program) (t : TypeId) : Bool :=
  match P.underlying t with
  | some (.struct _) => true
  | some (.array _ _) => true
  | _ => false

def zeroA (P : Program) (t : TypeId) : Option AVal := (P.info? t).bind fun i => i.zero.map abs0

/-- What an operation comes to: a value and a heap, under conditions. -/
structure Out where
  v : AVal
  σ : AState
  cs : List Prop

mutual
/-- No place above a bound is led to. -/
def inScope (k : Nat) : AVal → Bool
  | .ptr id _ _ _ => decide (id < k)
  | .slc _ id _ _ _ _ => decide (id < k)
  | .map id => decide (id < k)
  | .func _ cap => inScopeL k cap
  | .agg cs => inScopeL k cs
  | .tuple vs => inScopeL k vs
  | .iface _ v => inScope k v
  | _ => true
def inScopeL (k : Nat) : List AVal → Bool
  | [] => true
  | v :: vs => inScope k v && inScopeL k vs
end
def inScopeO (k : Nat) : AObj → Bool
  | .dead => true
  | .rows p _ rs => p || rs.all (inScopeL k)
  | .trows _ p _ rs => p || rs.all (inScopeL k)
  | .mp p ents => p || ents.all fun e => inScope k e.1 && inScope k e.2

mutual
/-- The same under other names. -/
def ren (e : Nat → Nat) : AVal → AVal
  | .ptr id es i j => .ptr (e id) es i j
  | .slc b id es off len cap => .slc b (e id) es off len cap
  | .map id => .map (e id)
  | .func f cap => .func f (renL e cap)
  | .agg cs => .agg (renL e cs)
  | .tuple vs => .tuple (renL e vs)
  | .iface t v => .iface t (ren e v)
  | v => v
def renL (e : Nat → Nat) : List AVal → List AVal
  | [] => []
  | v :: vs => ren e v :: renL e vs
end
def renO (e : Nat → Nat) : AObj → AObj
  | .rows false es rs => .rows false es (rs.map (renL e))
  | .trows T false es rs => .trows T false es (rs.map (renL e))
  | .mp false ents => .mp false (ents.map fun p => (ren e p.1, ren e p.2))
  | o => o
/-- Where the names of a small heap lie in a large one; the new ones at its end. -/
def emb (es : List Nat) (n : Nat) (i : Nat) : Nat := if i < es.length then es.getD i 0 else n + (i - es.length)
def plugGo (S : AState) (es : List Nat) (T : AState) : List Nat → AState → AState
  | j :: js, o :: os => plugGo S es (T.set j (renO (emb es S.length) o)) js os
  | _, _ => T
/-- A large heap, a small one of it turned. -/
def plug (S : AState) (es : List Nat) (σ' : AState) : AState := plugGo S es S es σ' ++ (σ'.drop es.length).map (renO (emb es S.length))

def obj (σ : AState) (id : Nat) : AObj := σ.getD id .dead
def objP (σ : AState) (id : Nat) : AObj := (obj σ id).plain

/-! Places under new names. -/
def nodupB : List Nat → Bool
  | [] => true
  | x :: xs => !xs.contains x && nodupB xs
def old (π : List Nat) (i : Nat) : Nat := π.getD i 0
def okMove (n : Nat) (π : List Nat) (m : Nat) (vs : List AVal) (σ2 : AState) : Bool :=
  nodupB π && π.all (fun j => decide (j < m)) && decide (n ≤ π.length) && (π.take n == List.range n) && inScopeL σ2.length vs && σ2.all (inScopeO σ2.length)
def invId (π : List Nat) (i : Nat) : Nat := π.idxOf i
/-- registers, some of them forgotten -/
def keepR : List Bool → Regs → Regs
  | true :: bs, v :: vs => v :: keepR bs vs
  | false :: bs, v :: vs => .any :: keepR bs vs
  | [], v :: vs => .any :: keepR [] vs
  | _, [] => []
mutual
/-- Only such places are led to. -/
def idsIn (π : List Nat) : AVal → Bool
  | .ptr id _ _ _ => π.contains id
  | .slc _ id _ _ _ _ => π.contains id
  | .map id => π.contains id
  | .func _ cap => idsInL π cap
  | .agg cs => idsInL π cs
  | .tuple vs => idsInL π vs
  | .iface _ v => idsIn π v
  | _ => true
def idsInL (π : List Nat) : List AVal → Bool
  | [] => true
  | v :: vs => idsIn π v && idsInL π vs
end
def idsInO (π : List Nat) : AObj → Bool
  | .dead => true
  | .rows p _ rs => p || rs.all (idsInL π)
  | .trows _ p _ rs => p || rs.all (idsInL π)
  | .mp p ents => p || ents.all fun e => idsIn π e.1 && idsIn π e.2

/-- cells, as the value of a type -/
def asType (P : Program) (t : TypeId) (cells : List AVal) : AVal := if isAggT P t then .agg cells else cells.headD .any

/-- so many cells of a row, from one on -/
def cellsAt (rs : List (List AVal)) (i j n : Nat) : List AVal := (List.range n).map fun k => (rs.getD i []).getD (j + k) .any

def isArr (P : Program) (t : TypeId) : Bool :=
  match P.underlying t with
  | some (.array _ _) => true
  | _ => false
def aload (P : Program) (t : TypeId) (a : AVal) (σ : AState) : Option Out :=
  let n := P.cellsOf t
  if (P.underlying t).isNone then none else
  match a with
  | .ptr id es i j =>
    match objP σ id with
    | .rows true es' rs =>
      if es == es' && decide (n ≠ 0) then
        if isArr P t && n == es then some ⟨.pagg (rs.getD i []), σ, [decide (i < rs.length) = true, decide (j + n ≤ es) = true]⟩ else
        let cells := cellsAt rs i j n
        let ks := kindsOf P 20 t
        if ks.length == n then some ⟨asType P t (reifyL ks cells), σ, [decide (i < rs.length) = true, decide (j + n ≤ es) = true, areKinds ks cells = true]⟩ else none
      else none
    | .rows false es' rs =>
      if es == es' && decide (n ≠ 0) then some ⟨asType P t (cellsAt rs i j n), σ, [decide (i < rs.length) = true, decide (j + n ≤ es) = true]⟩ else none
    | _ => none
  | .fptr es rs i j =>
    if decide (n ≠ 0) then
      let cells := cellsAt rs i j n
      let ks := kindsOf P 20 t
      if ks.length == n then some ⟨asType P t (reifyL ks cells), σ, [decide (i < rs.length) = true, decide (j + n ≤ es) = true, areKinds ks cells = true]⟩ else none
    else none
  | _ => none

def setCells : List AVal → Nat → List AVal → List AVal
  | row, _, [] => row
  | row, j, v :: vs => setCells (row.set j v) (j + 1) vs

/-- A slice that is its own: from now on nobody writes it. -/
structure Frz where
  v : List AVal
  σ : AState
  cs : List Prop

def freezeV (σ : AState) : AVal → Option Frz
  | .slc isnil id es off len cap =>
    match objP σ id with
    | .rows p es' rs =>
      if es == es' && (p || rs.all fun r => r.all pureCell) then some ⟨[.fsl isnil es ((rs.drop off).take len) none], σ.set id .dead, [decide (off + len ≤ rs.length) = true]⟩ else none
    | _ => none
  | v => if pureCell v then some ⟨[v], σ, []⟩ else none
def freezeL : AState → List AVal → Option Frz
  | σ, [] => some ⟨[], σ, []⟩
  | σ, v :: vs => (freezeV σ v).bind fun x => (freezeL x.σ vs).map fun y => ⟨x.v ++ y.v, y.σ, x.cs ++ y.cs⟩

def astore (P : Program) (t : TypeId) (a v : AVal) (σ : AState) : Option Out :=
  let n := P.cellsOf t
  match a with
  | .ptr id es i j =>
    if v.cells.length == n && v.cells.all oneCell && (P.info? t).isSome then
      match objP σ id with
      | .rows false es' rs =>
        if es == es' then some ⟨aundef, σ.set id (.rows false es (rs.set i (setCells (rs.getD i []) j v.cells))), [decide (i < rs.length) = true, decide (j + n ≤ es) = true]⟩ else none
      | .rows true es' rs =>
        if es == es' then (freezeL σ v.cells).bind fun x =>
          if (obj x.σ id).live then some ⟨aundef, x.σ.set id (.rows true es (rs.set i (setCells (rs.getD i []) j x.v))), (decide (i < rs.length) = true) :: (decide (j + n ≤ es) = true) :: x.cs⟩ else none
        else none
      | _ => none
    else none
  | _ => none

def new (σ : AState) (o : AObj) (v : Nat → AVal) : Out := ⟨v σ.length, σ ++ [o], []⟩

def plainCell : AVal → Bool
  | .tt _ | .bool _ | .int _ _ | .str _ => true
  | _ => false
def abox (v : AVal) (σ : AState) : Option Out :=
  let cs := v.cells
  if cs.all oneCell then some (new σ (.rows (cs.all plainCell) cs.length [cs]) fun id => .ptr id cs.length 0 0) else none

/-- Of which types are variables made so that their type is known? -/
def keepsType (P : Program) (t : TypeId) : Bool := (P.info? t).any fun i => i.str == "strings.Builder"
def aalloc (P : Program) (t : TypeId) (σ : AState) : Option Out := (zeroA P t).bind fun z =>
  if keepsType P t then
    if z.cells.all oneCell then some (new σ (.trows t false z.cells.length [z.cells]) fun id => .ptr id z.cells.length 0 0) else none
  else abox z σ

def fillA (place : Nat → Option (Nat × Nat)) (cells : List AVal) : List (Nat × AVal) → Option (List AVal)
  | [] => some cells
  | (i, v) :: rest =>
    match place i with
    | none => none
    | some (off, size) =>
      if v.cells.all oneCell && v.cells.length == size && decide (off + size ≤ cells.length) then fillA place (setCells cells off v.cells) rest else none

def builtA (P : Program) (t : TypeId) (parts : List (Nat × AVal)) : Option (List AVal) :=
  match P.info? t, P.underlying t with
  | some it, some (.array _ e) =>
    match it.zero, P.info? e with
    | some z, some ie => if (abs0 z).cells.all oneCell then fillA (fun i => some (i * ie.size, ie.size)) (abs0 z).cells parts else none
    | _, _ => none
  | some it, some (.struct fields) =>
    match it.zero, fields.toList.mapM (fun f => (P.info? f.type).map fun i => (f.offset, i.size)) with
    | some z, some places => if (abs0 z).cells.all oneCell then fillA (places[·]?) (abs0 z).cells parts else none
    | _, _ => none
  | _, _ => none

def abuild (P : Program) (t : TypeId) (parts : List (Nat × AVal)) (σ : AState) : Option Out := (builtA P t parts).map fun cs => ⟨.agg cs, σ, []⟩

/-- Values of types, in one form. -/
def isAggV : AVal → Bool
  | .agg _ => true
  | _ => false
def normT (P : Program) (t : TypeId) (v : AVal) : AVal :=
  if areKinds (kindsOf P 20 t) v.cells && (isAggT P t == isAggV v) && decide (0 < v.cells.length) then asType P t (reifyL (kindsOf P 20 t) v.cells) else v
def normTs (P : Program) : List TypeId → List AVal → List AVal
  | t :: ts, v :: vs => normT P t v :: normTs P ts vs
  | _, vs => vs
def paramsOf (P : Program) (f : FuncId) : List TypeId := ((P.funcs[f]?).map fun fn => fn.params.toList).getD []

def cutRows (es : Nat) : Nat → List AVal → List (List AVal)
  | 0, _ => []
  | n + 1, cs => cs.take es :: cutRows es n (cs.drop es)

def abuildSlice (P : Program) (t : TypeId) (len : Nat) (parts : List (Nat × AVal)) (σ : AState) : Option Out :=
  match P.underlying t with
  | some (.slice e) =>
    match P.info? e with
    | some ie =>
      match ie.zero with
      | some z =>
        let es := ie.size
        if (abs0 z).cells.all oneCell && (abs0 z).cells.length == es && decide (len * es ≤ 1000) && decide (es ≠ 0) then
          (fillA (fun i => some (i * es, es)) (List.replicate len (abs0 z).cells).flatten parts).bind fun cs =>
            if cs.all oneCell && cs.length == len * es then some (new σ (.rows (!(kindsOf P 20 e).any refKind && cs.all pureCell) es (cutRows es len cs)) fun id => .slc false id es 0 len (some len)) else none
        else none
      | none => none
    | none => none
  | _ => none

def afieldAddr (P : Program) (s : TypeId) (a : AVal) (field : Nat) (σ : AState) : Option Out :=
  match P.underlying s with
  | some (.struct fs) =>
    match fs[field]? with
    | some f =>
      if P.cellsOf f.type == 0 then none else
      match a with
      | .ptr id es i j => some ⟨.ptr id es i (j + f.offset), σ, []⟩
      | .fptr es rs i j => some ⟨.fptr es rs i (j + f.offset), σ, []⟩
      | _ => none
    | none => none
  | _ => none

def aindexAddr (P : Program) (t : TypeId) (x ix : AVal) (σ : AState) : Option Out :=
  match ix with
  | .int _ n =>
    match P.underlying t, x with
    | some (.array len e), .ptr id es i j => if P.cellsOf e != 0 then some ⟨.ptr id es i (n.toNat * P.cellsOf e + j), σ, [decide (0 ≤ n ∧ n < (len : Int)) = true]⟩ else none
    | some (.array len e), .fptr es rs i j => if P.cellsOf e != 0 then some ⟨.fptr es rs i (n.toNat * P.cellsOf e + j), σ, [decide (0 ≤ n ∧ n < (len : Int)) = true]⟩ else none
    | some (.slice e), .slc _ id es off len _ => if P.cellsOf e == es && P.cellsOf e != 0 then some ⟨.ptr id es (n.toNat + off) 0, σ, [decide (0 ≤ n ∧ n < (len : Int)) = true]⟩ else none
    | some (.slice e), .fsl _ es rs _ => if P.cellsOf e == es && P.cellsOf e != 0 then some ⟨.fptr es rs n.toNat 0, σ, [decide (0 ≤ n ∧ n < (rs.length : Int)) = true]⟩ else none
    | _, _ => none
  | _ => none

/-- the byte of a text at a place -/
def byteAt (s : ByteArray) (n : Int) : Int := ((s.data.toList.getD n.toNat 0).toNat : Int)

def aindex (P : Program) (t : TypeId) (x ix : AVal) (σ : AState) : Option Out :=
  match ix with
  | .int _ n =>
    match P.underlying t, x with
    | some .string, .str s => some ⟨.int .u8 (byteAt s n), σ, [decide (0 ≤ n ∧ n < (s.size : Int)) = true]⟩
    | some (.array len e), .agg cs => if P.cellsOf e != 0 && (P.underlying e).isSome then
        if (kindsOf P 20 e).any refKind then some ⟨asType P e (cellsAt [cs] 0 (n.toNat * P.cellsOf e) (P.cellsOf e)), σ, [decide (0 ≤ n ∧ n < (len : Int)) = true, decide (len * P.cellsOf e ≤ cs.length) = true]⟩
        else some ⟨asType P e (reifyL (kindsOf P 20 e) (cellsAt [cs] 0 (n.toNat * P.cellsOf e) (P.cellsOf e))), σ, [decide (0 ≤ n ∧ n < (len : Int)) = true, decide (len * P.cellsOf e ≤ cs.length) = true, areKinds (kindsOf P 20 e) (cellsAt [cs] 0 (n.toNat * P.cellsOf e) (P.cellsOf e)) = true]⟩
      else none
    | some (.array len e), .pagg cs => if P.cellsOf e != 0 && (P.underlying e).isSome then
        some ⟨asType P e (reifyL (kindsOf P 20 e) (cellsAt [cs] 0 (n.toNat * P.cellsOf e) (P.cellsOf e))), σ, [decide (0 ≤ n ∧ n < (len : Int)) = true, decide (len * P.cellsOf e ≤ cs.length) = true, areKinds (kindsOf P 20 e) (cellsAt [cs] 0 (n.toNat * P.cellsOf e) (P.cellsOf e)) = true]⟩
      else none
    | _, _ => none
  | _ => none

def afield (P : Program) (t : TypeId) (x : AVal) (field : Nat) (σ : AState) : Option Out :=
  match P.underlying t, x with
  | some (.struct fs), .agg cs =>
    match fs[field]? with
    | some f => if P.cellsOf f.type != 0 && (P.underlying f.type).isSome && decide (f.offset + P.cellsOf f.type ≤ cs.length) then some ⟨asType P f.type ((cs.drop f.offset).take (P.cellsOf f.type)), σ, []⟩ else none
    | none => none
  | _, _ => none

def aextract (x : AVal) (i : Nat) (σ : AState) : Option Out :=
  match x with
  | .tuple vs => (vs[i]?).map fun v => ⟨v, σ, []⟩
  | _ => none

def anilCheck (x : AVal) (σ : AState) : Option Out :=
  match x with
  | .ptr .. => some ⟨x, σ, []⟩
  | .fptr .. => some ⟨x, σ, []⟩
  | .func .. => some ⟨x, σ, []⟩
  | _ => none

def amakeIface (P : Program) (t : TypeId) (x : AVal) (σ : AState) : Option Out :=
  match P.underlying t with
  | some (.interface _) => none
  | some _ => some ⟨.iface t x, σ, []⟩
  | none => none

def aequal (P : Program) (t : TypeId) (x y : AVal) : Option Bool :=
  match P.underlying t, x, y with
  | some .bool, .bool a, .bool b => some (a == b)
  | some .bool, .tt a, .bool b => some (a == b)
  | some .bool, .bool a, .tt b => some (a == b)
  | some .bool, .tt a, .tt b => some (a == b)
  | some (.pointer _), .nilp, .nilp => some true
  | some (.pointer _), .nilp, .ptr _ _ _ _ => some false
  | some (.pointer _), .ptr _ _ _ _, .nilp => some false
  | some (.pointer _), .nilp, .fptr _ _ _ _ => some false
  | some (.pointer _), .fptr _ _ _ _, .nilp => some false
  | some (.map _ _), .nilm, .nilm => some true
  | some (.map _ _), .nilm, .map _ => some false
  | some (.map _ _), .map _, .nilm => some false
  | some (.slice _), .slc b _ _ _ _ _, .fsl n _ _ _ => if n then some b else none
  | some (.slice _), .fsl b _ _ _, .fsl n _ _ _ => if n then some b else none
  | some (.pointer e), .ptr id es i j, .ptr id' es' i' j' => if id == id' && es == es' && i == i' && j == j' && (P.info? e).isSome then some true else none
  | some (.func _ _ _), .nilf, .nilf => some true
  | some (.func _ _ _), .nilf, .func _ _ => some false
  | some (.func _ _ _), .func _ _, .nilf => some false
  | _, _, _ => none

/-- the smaller of two, and the larger -/
def imin (a b : Int) : Int := if b < a then b else a
def imax (a b : Int) : Int := if a < b then b else a
/-- are two records of plain cells the same? -/
def aeqFields (P : Program) (xs ys : List AVal) : List Field → Option Bool
  | [] => some true
  | f :: fs =>
    if f.name == "_" then none else
    match P.underlying f.type, xs[f.offset]?, ys[f.offset]? with
    | some (.int _), some (.int k a), some (.int k' b) => if k == k' then (aeqFields P xs ys fs).map fun r => (a == b) && r else none
    | some .bool, some (.bool a), some (.bool b) => (aeqFields P xs ys fs).map fun r => (a == b) && r
    | some .string, some (.str a), some (.str b) => (aeqFields P xs ys fs).map fun r => (a.toList == b.toList) && r
    | _, _, _ => none
def aeqAgg (P : Program) (t : TypeId) (xs ys : List AVal) : Option Bool :=
  if P.stoodInHeld t || P.eqGuardType P.depth t then none else
  match P.underlying t with
  | some (.struct fs) => aeqFields P xs ys fs.toList
  | _ => none

def abinOp (P : Program) (op : BinOp) (t : TypeId) (x y : AVal) (σ : AState) : Option Out :=
  match x, y with
  | .agg xs, .agg ys =>
    match op with
    | .eql => (aeqAgg P t xs ys).map fun b => ⟨.bool b, σ, []⟩
    | .neq => (aeqAgg P t xs ys).map fun b => ⟨.bool (!b), σ, []⟩
    | _ => none
  | .int k a, .int k' b =>
    match op with
    | .shl => some ⟨.int k (k.wrap (a * 2 ^ (min b.toNat k.bits))), σ, [decide (0 ≤ b) = true]⟩
    | .shr => some ⟨.int k (a.fdiv (2 ^ (min b.toNat k.bits))), σ, [decide (0 ≤ b) = true]⟩
    | .add => if k == k' then some ⟨.int k (k.wrap (a + b)), σ, []⟩ else none
    | .sub => if k == k' then some ⟨.int k (k.wrap (a - b)), σ, []⟩ else none
    | .mul => if k == k' then some ⟨.int k (k.wrap (a * b)), σ, []⟩ else none
    | .quo => if k == k' then some ⟨.int k (k.wrap (a.tdiv b)), σ, [decide (b ≠ 0) = true]⟩ else none
    | .rem => if k == k' then some ⟨.int k (a.tmod b), σ, [decide (b ≠ 0) = true]⟩ else none
    | .and | .or | .xor | .andNot => if k == k' then some ⟨.int k (bits op k a b), σ, []⟩ else none
    | .eql => if k == k' then some ⟨.bool (a == b), σ, []⟩ else none
    | .neq => if k == k' then some ⟨.bool (a != b), σ, []⟩ else none
    | .lss => if k == k' then some ⟨.bool (decide (a < b)), σ, []⟩ else none
    | .leq => if k == k' then some ⟨.bool (decide (a ≤ b)), σ, []⟩ else none
    | .gtr => if k == k' then some ⟨.bool (decide (a > b)), σ, []⟩ else none
    | .geq => if k == k' then some ⟨.bool (decide (a ≥ b)), σ, []⟩ else none
  | .str a, .str b =>
    match op with
    | .add => some ⟨.str (a ++ b), σ, [decide (a.size + b.size ≤ 9223372036854775807) = true]⟩
    | .eql => some ⟨.bool (a.toList == b.toList), σ, []⟩
    | .neq => some ⟨.bool (!(a.toList == b.toList)), σ, []⟩
    | .lss => some ⟨.bool (Op.bytesLess a.toList b.toList), σ, []⟩
    | .leq => some ⟨.bool (Op.bytesLess a.toList b.toList || a.toList == b.toList), σ, []⟩
    | .gtr => some ⟨.bool (!(Op.bytesLess a.toList b.toList || a.toList == b.toList)), σ, []⟩
    | .geq => some ⟨.bool (!Op.bytesLess a.toList b.toList), σ, []⟩
    | _ => none
  | x, y =>
    match op with
    | .eql => (aequal P t x y).map fun b => ⟨.bool b, σ, []⟩
    | .neq => (aequal P t x y).map fun b => ⟨.bool (!b), σ, []⟩
    | _ => none

def aunOp (op : UnOp) (x : AVal) (σ : AState) : Option Out :=
  match op, x with
  | .neg, .int k n => some ⟨.int k (k.wrap (0 - n)), σ, []⟩
  | .xor, .int k n => some ⟨.int k (bits .xor k (if k.signed then -1 else k.max) n), σ, []⟩
  | .not, .bool b => some ⟨.bool (!b), σ, []⟩
  | .not, .tt b => some ⟨.tt (!b), σ, []⟩
  | _, _ => none

def byteRows (s : ByteArray) : List (List AVal) := s.data.toList.map fun b => [.int .u8 (b.toNat : Int)]
def rowBytes (rs : List (List AVal)) : ByteArray := ⟨(rs.map fun r => UInt8.ofNat (r.headD .any).toInt.toNat).toArray⟩

/-- The elements of a slice, the bytes of a text: rows of so many cells. -/
structure Src where
  rs : List (List AVal)
  pure : Bool
  cs : List Prop

def rowsOf (es : Nat) (σ : AState) : AVal → Option Src
  | .slc _ id es1 off len _ =>
    match objP σ id with
    | .rows p es2 rs => if es == es1 && es == es2 then some ⟨(rs.drop off).take len, p, [decide (off + len ≤ rs.length) = true, (((rs.drop off).take len).all fun r => r.all oneCell) = true]⟩ else none
    | _ => none
  | .fsl b es1 rs _ => if es == es1 || b then some ⟨rs, true, [(rs.all fun r => r.all oneCell) = true]⟩ else none
  | _ => none

def aconvert (P : Program) (src dst : TypeId) (x : AVal) (σ : AState) : Option Out :=
  match P.underlying src, P.underlying dst, x with
  | some (.int _), some (.int k), .int _ n => some ⟨.int k (k.wrap n), σ, []⟩
  | some .string, some .string, .str s => some ⟨.str s, σ, []⟩
  | some (.slice e), some .string, x =>
    match P.underlying e with
    | some (.int .u8) => (rowsOf 1 σ x).map fun r => ⟨.str (rowBytes r.rs), σ, ((r.rs.all fun r => areKinds [.int .u8] r) = true) :: r.cs⟩
    | _ => none
  | some (.pointer t), some .unsafePointer, .ptr id es 0 0 =>
    match obj σ id with
    | .trows T _ es' rs => if es == es' && decide (P.cellsOf t ≠ 0) then some ⟨.ptr id es 0 0, σ, [decide (0 < rs.length * es) = true]⟩ else none
    | _ => none
  | some .unsafePointer, some (.pointer u), .ptr id es 0 0 =>
    match obj σ id with
    | .trows T _ es' rs => if es == es' && T == u && P.cellsOf T == es && decide (es ≠ 0) then some ⟨.ptr id es 0 0, σ, [decide (0 < rs.length) = true]⟩ else none
    | _ => none
  | _, _, _ => none

def amakeSlice (P : Program) (t : TypeId) (l c : AVal) (σ : AState) : Option Out :=
  match P.underlying t, l, c with
  | some (.slice e), .int .i64 n, .int .i64 m =>
    (zeroA P e).bind fun z =>
      let es := P.cellsOf e
      if z.cells.length == es && z.cells.all pureCell && decide (es ≠ 0) then
        some ⟨.slc false σ.length es 0 n.toNat (some m.toNat), σ ++ [.rows (!(kindsOf P 20 e).any refKind) es (List.replicate n.toNat z.cells)],
          [decide (0 ≤ n ∧ n ≤ m ∧ m * ((P.bytesOf e : Nat) : Int) ≤ 281474976710656 ∧ m ≤ 9223372036854775807) = true]⟩
      else none
  | _, _, _ => none

def amakeMap (P : Program) (t : TypeId) (hint : Option AVal) (σ : AState) : Option Out :=
  match P.underlying t, hint with
  | some (.map k e), none => some (new σ (.mp (!(kindsOf P 20 e).any refKind) []) fun id => .map id)
  | _, _ => none

def keq : AVal → AVal → Bool
  | .int k a, .int k' b => k == k' && a == b
  | .str a, .str b => a == b
  | .bool a, .bool b => a == b
  | _, _ => false
def afind (k : AVal) : List (AVal × AVal) → Option AVal
  | [] => none
  | (k', v) :: es => if keq k k' then some v else afind k es
def aput (k v : AVal) : List (AVal × AVal) → List (AVal × AVal)
  | [] => [(k, v)]
  | (k', v') :: es => if keq k k' then (k, v) :: es else (k', v') :: aput k v es
def adel (k : AVal) : List (AVal × AVal) → List (AVal × AVal)
  | [] => []
  | (k', v') :: es => if keq k k' then es else (k', v') :: adel k es
def keyKind (P : Program) (t : TypeId) (k : AVal) : Bool :=
  match P.underlying t, k with
  | some (.int q), .int q' _ => q == q'
  | some .string, .str _ => true
  | some .bool, .bool _ => true
  | _, _ => false

/-- A value of whatever make is of a type's cells. -/
def okCells (P : Program) (e : TypeId) (v : AVal) : Bool :=
  areKinds (kindsOf P 20 e) v.cells && v.cells.all oneCell && (isAggT P e == (match v with | .agg _ => true | _ => false)) && decide (0 < v.cells.length)

def alookup (P : Program) (t : TypeId) (x k : AVal) (commaOk : Bool) (σ : AState) : Option Out :=
  match P.underlying t with
  | some (.map kt e) =>
    if keyKind P kt k then
      match zeroA P e with
      | some z =>
        match x with
        | .nilm => some ⟨if commaOk then .tuple [z, .tt false] else z, σ, []⟩
        | .map id =>
          match obj σ id with
          | .mp true ents =>
            some ⟨if commaOk then .tuple [asType P e (reifyL (kindsOf P 20 e) ((afind k ents).getD z).cells), .bool (afind k ents).isSome] else asType P e (reifyL (kindsOf P 20 e) ((afind k ents).getD z).cells),
              σ, [okCells P e ((afind k ents).getD z) = true, (ents.all fun p => keyKind P kt p.1) = true]⟩
          | .mp false ents => some ⟨if commaOk then .tuple [(afind k ents).getD z, .bool (afind k ents).isSome] else (afind k ents).getD z, σ, [(ents.all fun p => keyKind P kt p.1) = true]⟩
          | _ => none
        | _ => none
      | none => none
    else none
  | _ => none

def freezeA (σ : AState) : AVal → Option (AVal × Frz)
  | .agg cs => (freezeL σ cs).map fun x => (.agg x.v, x)
  | v => (freezeV σ v).map fun x => (x.v.headD .any, x)

def amapUpdate (P : Program) (t : TypeId) (m k v : AVal) (σ : AState) : Option Out :=
  match P.underlying t, m with
  | some (.map kt e), .map id =>
    if keyKind P kt k then
      match obj σ id with
      | .mp false ents => some ⟨aundef, σ.set id (.mp false (aput k v ents)), [(ents.all fun p => keyKind P kt p.1) = true]⟩
      | .mp true ents => (freezeA σ v).bind fun x =>
          if (obj x.2.σ id).live then some ⟨aundef, x.2.σ.set id (.mp true (aput k x.1 ents)), ((ents.all fun p => keyKind P kt p.1) = true) :: x.2.cs⟩ else none
      | _ => none
    else none
  | _, _ => none

def abound (d : Nat) : Option AVal → Option Int
  | none => some d
  | some (.int _ n) => some n
  | some _ => none

def aslice (P : Program) (t : TypeId) (x : AVal) (lo hi mx : Option AVal) (σ : AState) : Option Out :=
  match P.underlying t, x with
  | some .string, .str s =>
    match mx, abound 0 lo, abound s.size hi with
    | none, some l, some h => some ⟨.str (s.extract l.toNat h.toNat), σ, [decide (0 ≤ l ∧ l ≤ h ∧ h ≤ (s.size : Int)) = true]⟩
    | _, _, _ => none
  | some (.slice e), .slc b id es off len cap =>
    if P.cellsOf e == es && P.cellsOf e != 0 then
      match abound 0 lo, abound len hi, mx, cap with
      | some l, some h, none, none => some ⟨.slc b id es (l.toNat + off) (h.toNat - l.toNat) none, σ, [decide (0 ≤ l ∧ l ≤ h ∧ h ≤ (len : Int)) = true]⟩
      | some l, some h, none, some c => some ⟨.slc b id es (l.toNat + off) (h.toNat - l.toNat) (some (c - l.toNat)), σ, [decide (0 ≤ l ∧ l ≤ h ∧ h ≤ (c : Int)) = true]⟩
      | some l, some h, some (.int _ m), _ => if hi.isSome then some ⟨.slc b id es (l.toNat + off) (h.toNat - l.toNat) (some (m.toNat - l.toNat)), σ, [decide (0 ≤ l ∧ l ≤ h ∧ h ≤ m ∧ m ≤ (len : Int)) = true]⟩ else none
      | _, _, _, _ => none
    else none
  | some (.slice e), .fsl b es rs cap =>
    if P.cellsOf e == es && P.cellsOf e != 0 then
      match abound 0 lo, abound rs.length hi, mx with
      | some l, some h, none => some ⟨.fsl b es ((rs.take h.toNat).drop l.toNat) none, σ, [decide (0 ≤ l ∧ l ≤ h ∧ h ≤ (rs.length : Int)) = true]⟩
      | some l, some h, some (.int _ m) => if hi.isSome then some ⟨.fsl b es ((rs.take h.toNat).drop l.toNat) (some (m.toNat - l.toNat)), σ, [decide (0 ≤ l ∧ l ≤ h ∧ h ≤ m ∧ m ≤ (rs.length : Int)) = true]⟩ else none
      | _, _, _ => none
    else none
  | some (.array n e), .ptr id es i j => none
  | _, _ => none

/-- what is appended: elements, or the bytes of a text -/
def srcA (P : Program) (u : TypeId) (es : Nat) (σ : AState) (x : AVal) : Option Src :=
  match P.underlying u with
  | some (.slice _) => rowsOf es σ x
  | some .string =>
    match x with
    | .str s => if es == 1 then some ⟨byteRows s, true, []⟩ else none
    | _ => none
  | _ => none
def isU8 (P : Program) (e : TypeId) : Bool :=
  match P.underlying e with
  | some (.int .u8) => true
  | _ => false
def isTyped (o : AObj) (e : TypeId) : Bool :=
  match o with
  | .trows T _ _ _ => T == e
  | _ => false
def mkRows (typed : Bool) (e : TypeId) (p : Bool) (es : Nat) (rs : List (List AVal)) : AObj := if typed then .trows e p es rs else .rows p es rs
def aappend (P : Program) (t u : TypeId) (d x : AVal) (σ : AState) : Option Out :=
  match P.underlying t with
  | some (.slice e) =>
    let es := P.cellsOf e
    let by_ := P.bytesOf e
    (srcA P u es σ x).bind fun s =>
      if decide (es ≠ 0) && (zeroA P e).isSome && (zeroA P e).all (fun z => z.cells.length == es) then
        match d with
        | .slc b id es' off len cap =>
          match objP σ id with
          | .rows p es'' rs =>
            if es == es' && es == es'' && off == 0 then
              some ⟨.slc (b && s.rs.isEmpty) σ.length es 0 (len + s.rs.length) none, σ.set id .dead ++ [mkRows (isU8 P e && isTyped (obj σ id) e) e (p && s.pure) es (rs ++ s.rs)],
                (decide (rs.length = len) = true) :: (decide ((len + s.rs.length) * by_ ≤ 140737488355328 ∧ len + s.rs.length ≤ 9223372036854775807) = true) :: s.cs⟩
            else none
          | _ => none
        | .fsl true _ _ _ =>
          some ⟨.slc s.rs.isEmpty σ.length es 0 s.rs.length none, σ ++ [mkRows (isU8 P e) e s.pure es s.rs], (decide (s.rs.length * by_ ≤ 140737488355328 ∧ s.rs.length ≤ 9223372036854775807) = true) :: s.cs⟩
        | _ => none
      else none
  | _ => none

def u8Row (r : List AVal) : Bool :=
  match r with
  | [.int .u8 n] => decide (0 ≤ n ∧ n < 256)
  | _ => false
/-- bytes that lie somewhere, as a text: from now on nobody writes them -/
def aunsafeString (P : Program) (pt : TypeId) (a n : AVal) (σ : AState) : Option Out :=
  match P.underlying pt, a, n with
  | some (.pointer e), .ptr id 1 0 0, .int .i64 n =>
    match obj σ id with
    | .trows T _ 1 rs => if T == e && P.cellsOf e == 1 then
        some ⟨.str (rowBytes (rs.take n.toNat)), σ.set id .dead, [decide (0 < n ∧ n ≤ (rs.length : Int) ∧ n ≤ 9223372036854775807) = true, ((rs.take n.toNat).all u8Row) = true]⟩ else none
    | _ => none
  | _, _, _ => none
def aunsafeSliceData (x : AVal) (σ : AState) : Option Out :=
  match x with
  | .slc false id es off len _ => some ⟨.ptr id es off 0, σ, [decide (0 < len) = true]⟩
  | _ => none
def atypeAssert (P : Program) (asserted : TypeId) (ok : Bool) (x : AVal) (σ : AState) : Option Out :=
  match P.underlying asserted with
  | some (.interface _) => none
  | some _ =>
    match x with
    | .iface t v => if t == asserted then some ⟨if ok then .tuple [v, .tt true] else v, σ, []⟩ else if ok then (zeroA P asserted).map fun z => ⟨.tuple [z, .tt false], σ, []⟩ else none
    | .nili => if ok then (zeroA P asserted).map fun z => ⟨.tuple [z, .tt false], σ, []⟩ else none
    | _ => none
  | none => none
/-- what stands for a function without a body -/
def extOf (P : Program) (f : FuncId) : Option (Array Value → Sem Value) :=
  match P.funcs[f]? with
  | some fn => if fn.name == "runtime.NumGoroutine" then none else if fn.body.isNone then (match Extern.findNext fn with | none => Extern.find fn | some _ => none) else none
  | none => none
def bodiless (P : Program) (f : FuncId) : Bool := (P.funcs[f]?).any fun fn => fn.body.isNone
def nameOf (P : Program) (f : FuncId) : String := ((P.funcs[f]?).map fun fn => fn.origin).getD ""
def aextern (P : Program) (f : FuncId) (as : List AVal) (σ : AState) : Option Out :=
  match as with
  | [.iface t (.map id)] =>
    match obj σ id with
    | .mp p ents => some ⟨.iface t (.map σ.length), σ ++ [.mp p ents], [extOf P f = some Extern.MapsClone.clone]⟩
    | _ => none
  | [x] => some ⟨x, σ, [extOf P f = some Extern.AbiNoEscape.same]⟩
  | _ => none

def alen (P : Program) (t : TypeId) (x : AVal) (σ : AState) : Option Out :=
  match P.underlying t, x with
  | some .string, .str s => some ⟨.int .i64 s.size, σ, []⟩
  | some (.array n _), _ => some ⟨.int .i64 n, σ, []⟩
  | some (.slice _), .slc _ _ _ _ len _ => some ⟨.int .i64 len, σ, []⟩
  | some (.slice _), .fsl _ _ rs _ => some ⟨.int .i64 rs.length, σ, []⟩
  | some (.map _ _), .nilm => some ⟨.int .i64 0, σ, []⟩
  | some (.map _ _), .map id =>
    match obj σ id with
    | .mp _ ents => some ⟨.int .i64 ents.length, σ, []⟩
    | _ => none
  | _, _ => none

end Go.Abs
