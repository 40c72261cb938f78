import Derived.WalkKit
import Derived.Laws.Externs
import Derived.KernelRfl
import Derived.Still
import Derived.Below
section
set_option linter.unusedVariables false
namespace Go.Abs

inductive AVal where
  | any
  | tt (b : Bool)
  | bool (b : Bool)
  | int (k : IntKind) (n : Int)
  | str (s : ByteArray)
  | nilp
  | ptr (id es i j : Nat)
  | blk (b es i j : Nat)
  | slc (isnil : Bool) (id es off len : Nat) (cap : Option Nat)
  | fsl (isnil : Bool) (es : Nat) (rows : List (List AVal)) (cap : Option Nat)
  | fptr (es : Nat) (rows : List (List AVal)) (i j : Nat)
  | nilm
  | map (id : Nat)
  | func (f : FuncId) (cap : List AVal)
  | nilf
  | agg (cs : List AVal)
  | pagg (cs : List AVal)
  | tuple (vs : List AVal)
  | nili
  | iface (t : TypeId) (v : AVal)
  | pan (t : TypeId)
  deriving Inhabited

def AVal.isPan : AVal → Bool
  | .pan _ => true
  | _ => false
def panChain (t : TypeId) : List PanicEntry := [{ v := .iface t (.agg #[]), recovered := false }]

inductive AObj where
  | dead
  | rows (pure : Bool) (es : Nat) (rs : List (List AVal))
  | trows (T : TypeId) (pure : Bool) (es : Nat) (rs : List (List AVal))
  | mp (pure : Bool) (ents : List (AVal × AVal))
  | mpn (pure : Bool) (ents : List (AVal × AVal)) (bs : List Nat) (c : Nat)
  | bag (es : Nat) (rs : List (List AVal))
  | siter (rest : List (Nat × Int))
  | miter (m : Option Nat) (since : Nat) (seen : List Nat) (last : Nat)
  | gh (T : List AObj)
  | mq (pre own post : List (AVal × AVal))
  deriving Inhabited

abbrev AState := List AObj
abbrev Regs := List AVal

def AObj.live : AObj → Bool
  | .dead => false
  | _ => true
def AObj.isGh : AObj → Bool
  | .gh _ => true
  | _ => false

def AObj.plain : AObj → AObj
  | .trows _ p es rs => .rows p es rs
  | o => o

def AObj.asM : AObj → AObj
  | .mq pre own post => .mp false (pre ++ own ++ post)
  | .mpn p ents _ _ => .mp p ents
  | o => o

def aundef : AVal := .tuple []

def abs1 : Value → AVal
  | .bool b => .tt b
  | .int k n => .int k n
  | .string s => .str s
  | .pointer none => .nilp
  | .slice none 0 0 => .fsl true 0 [] (some 0)
  | .map none => .nilm
  | .nilFunc => .nilf
  | .nilIface => .nili
  | _ => .any
def abs0 : Value → AVal
  | .agg cs => .agg (cs.toList.map abs1)
  | v => abs1 v

def AVal.cells : AVal → List AVal
  | .agg cs => cs
  | v => [v]

def oneCell : AVal → Bool
  | .any | .agg _ | .pagg _ | .tuple _ => false
  | _ => true

def AVal.toBool : AVal → Bool
  | .bool b => b
  | .tt b => b
  | _ => false
def AVal.toInt : AVal → Int
  | .int _ n => n
  | _ => 0
def AVal.toStr : AVal → ByteArray
  | .str s => s
  | _ => ⟨#[]⟩
def AVal.toNil : AVal → Bool
  | .fsl b _ _ _ => b
  | _ => false
def AVal.toRows : AVal → List (List AVal)
  | .fsl _ _ rs _ => rs
  | _ => []

inductive Kind where
  | bool | int (k : IntKind) | str | slice (es : Nat) | other
  deriving DecidableEq, Inhabited

def kindOf (P : Program) (t : TypeId) : Kind :=
  match P.underlying t with
  | some .bool => .bool
  | some (.int k) => .int k
  | some .string => .str
  | some (.slice e) => .slice (P.cellsOf e)
  | _ => .other

def kindsOf (P : Program) : Nat → TypeId → List Kind
  | 0, _ => []
  | d + 1, t =>
    match P.underlying t with
    | some (.struct fs) => fs.toList.flatMap fun f => kindsOf P d f.type
    | some (.array n e) => (List.replicate n (kindsOf P d e)).flatten
    | _ => [kindOf P t]

def reify : Kind → AVal → AVal
  | .bool, v => .bool v.toBool
  | .int k, v => .int k v.toInt
  | .str, v => .str v.toStr
  | .slice es, v => .fsl v.toNil es v.toRows none
  | .other, v => v
def isKind : Kind → AVal → Bool
  | .bool, .bool _ => true
  | .bool, .tt _ => true
  | .int k, .int k' _ => k == k'
  | .str, .str _ => true
  | .slice es, .fsl b es' rs _ => es == es' || (b && rs.isEmpty)
  | .other, _ => true
  | _, _ => false
def reifyL : List Kind → List AVal → List AVal
  | [], _ => []
  | k :: ks, v :: vs => reify k v :: reifyL ks vs
  | k :: ks, [] => reify k .any :: reifyL ks []
def areKinds : List Kind → List AVal → Bool
  | [], vs => vs.isEmpty
  | _ :: _, [] => false
  | k :: ks, v :: vs => isKind k v && areKinds ks vs

def pureCell : AVal → Bool
  | .tt _ | .bool _ | .int _ _ | .str _ | .nilp | .fsl _ _ _ _ | .nilm | .nilf | .nili => true
  | _ => false
def refKind : Kind → Bool
  | .other => true
  | _ => false

def isAggT (P : Program) (t : TypeId) : Bool :=
  match P.underlying t with
  | some (.struct _) => true
  | some (.array _ _) => true
  | _ => false

def zeroA (P : Program) (t : TypeId) : Option AVal := (P.info? t).bind fun i => i.zero.map abs0

structure Out where
  v : AVal
  σ : AState
  cs : List Prop

mutual
def inScope (k : Nat) : AVal → Bool
  | .ptr id _ _ _ => decide (id < k)
  | .slc _ id _ _ _ _ => decide (id < k)
  | .map id => decide (id < k)
  | .func _ cap => inScopeL k cap
  | .agg cs => inScopeL k cs
  | .tuple vs => inScopeL k vs
  | .iface _ v => inScope k v
  | _ => true
def inScopeL (k : Nat) : List AVal → Bool
  | [] => true
  | v :: vs => inScope k v && inScopeL k vs
end
def inScopeO (k : Nat) : AObj → Bool
  | .dead => true
  | .rows p _ rs => p || rs.all (inScopeL k)
  | .trows _ p _ rs => p || rs.all (inScopeL k)
  | .mp p ents => p || ents.all fun e => inScope k e.1 && inScope k e.2
  | .mpn p ents _ _ => p || ents.all fun e => inScope k e.1 && inScope k e.2
  | .bag _ _ => true
  | .siter _ => true
  | .miter m _ _ _ => m.all fun id => decide (id < k)
  | .gh _ => true
  | .mq _ own _ => own.all fun e => inScope k e.1 && inScope k e.2

mutual
def ren (e : Nat → Nat) : AVal → AVal
  | .ptr id es i j => .ptr (e id) es i j
  | .slc b id es off len cap => .slc b (e id) es off len cap
  | .map id => .map (e id)
  | .func f cap => .func f (renL e cap)
  | .agg cs => .agg (renL e cs)
  | .tuple vs => .tuple (renL e vs)
  | .iface t v => .iface t (ren e v)
  | v => v
def renL (e : Nat → Nat) : List AVal → List AVal
  | [] => []
  | v :: vs => ren e v :: renL e vs
end
def renO (e : Nat → Nat) : AObj → AObj
  | .rows false es rs => .rows false es (rs.map (renL e))
  | .trows T false es rs => .trows T false es (rs.map (renL e))
  | .mp false ents => .mp false (ents.map fun p => (ren e p.1, ren e p.2))
  | .mpn false ents bs c => .mpn false (ents.map fun p => (ren e p.1, ren e p.2)) bs c
  | .miter m since seen last => .miter (m.map e) since seen last
  | .mq pre own post => .mq pre (own.map fun p => (ren e p.1, ren e p.2)) post
  | o => o
def emb (es : List Nat) (n : Nat) (i : Nat) : Nat := if i < es.length then es.getD i 0 else n + (i - es.length)
def plugGo (S : AState) (es : List Nat) (T : AState) : List Nat → AState → AState
  | j :: js, o :: os => plugGo S es (T.set j (renO (emb es S.length) o)) js os
  | _, _ => T
def plug (S : AState) (es : List Nat) (σ' : AState) : AState := plugGo S es S es σ' ++ (σ'.drop es.length).map (renO (emb es S.length))

def obj (σ : AState) (id : Nat) : AObj := σ.getD id .dead
def objP (σ : AState) (id : Nat) : AObj := (obj σ id).plain
def objM (σ : AState) (id : Nat) : AObj := (obj σ id).asM

def nodupB : List Nat → Bool
  | [] => true
  | x :: xs => !xs.contains x && nodupB xs
def old (π : List Nat) (i : Nat) : Nat := π.getD i 0
def okMove (n : Nat) (π : List Nat) (m : Nat) (vs : List AVal) (σ2 : AState) : Bool :=
  nodupB π && π.all (fun j => decide (j < m)) && decide (n ≤ π.length) && (π.take n == List.range n) && inScopeL σ2.length vs && σ2.all (inScopeO σ2.length)
def invId (π : List Nat) (i : Nat) : Nat := π.idxOf i
def keepR : List Bool → Regs → Regs
  | true :: bs, v :: vs => v :: keepR bs vs
  | false :: bs, v :: vs => .any :: keepR bs vs
  | [], v :: vs => .any :: keepR [] vs
  | _, [] => []
mutual
def idsIn (π : List Nat) : AVal → Bool
  | .ptr id _ _ _ => π.contains id
  | .slc _ id _ _ _ _ => π.contains id
  | .map id => π.contains id
  | .func _ cap => idsInL π cap
  | .agg cs => idsInL π cs
  | .tuple vs => idsInL π vs
  | .iface _ v => idsIn π v
  | _ => true
def idsInL (π : List Nat) : List AVal → Bool
  | [] => true
  | v :: vs => idsIn π v && idsInL π vs
end
def idsInO (π : List Nat) : AObj → Bool
  | .dead => true
  | .rows p _ rs => p || rs.all (idsInL π)
  | .trows _ p _ rs => p || rs.all (idsInL π)
  | .mp p ents => p || ents.all fun e => idsIn π e.1 && idsIn π e.2
  | .mpn p ents _ _ => p || ents.all fun e => idsIn π e.1 && idsIn π e.2
  | .bag _ _ => true
  | .siter _ => true
  | .miter m _ _ _ => m.all fun id => π.contains id
  | .gh _ => true
  | .mq _ own _ => own.all fun e => idsIn π e.1 && idsIn π e.2

def asType (P : Program) (t : TypeId) (cells : List AVal) : AVal := if isAggT P t then .agg cells else cells.headD .any

def cellsAt (rs : List (List AVal)) (i j n : Nat) : List AVal := (List.range n).map fun k => (rs.getD i []).getD (j + k) .any

def isArr (P : Program) (t : TypeId) : Bool :=
  match P.underlying t with
  | some (.array _ _) => true
  | _ => false
def aload (P : Program) (t : TypeId) (a : AVal) (σ : AState) : Option Out :=
  let n := P.cellsOf t
  if (P.underlying t).isNone then none else
  match a with
  | .ptr id es i j =>
    match objP σ id with
    | .rows true es' rs =>
      if es == es' && decide (n ≠ 0) then
        if isArr P t && n == es then some ⟨.pagg (rs.getD i []), σ, [decide (i < rs.length) = true, decide (j + n ≤ es) = true]⟩ else
        let cells := cellsAt rs i j n
        let ks := kindsOf P 20 t
        if ks.length == n then some ⟨asType P t (reifyL ks cells), σ, [decide (i < rs.length) = true, decide (j + n ≤ es) = true, areKinds ks cells = true]⟩ else none
      else none
    | .rows false es' rs =>
      if es == es' && decide (n ≠ 0) then some ⟨asType P t (cellsAt rs i j n), σ, [decide (i < rs.length) = true, decide (j + n ≤ es) = true]⟩ else none
    | _ => none
  | .fptr es rs i j =>
    if decide (n ≠ 0) then
      let cells := cellsAt rs i j n
      let ks := kindsOf P 20 t
      if ks.length == n then some ⟨asType P t (reifyL ks cells), σ, [decide (i < rs.length) = true, decide (j + n ≤ es) = true, areKinds ks cells = true]⟩ else none
    else none
  | _ => none

def setCells : List AVal → Nat → List AVal → List AVal
  | row, _, [] => row
  | row, j, v :: vs => setCells (row.set j v) (j + 1) vs

structure Frz where
  v : List AVal
  σ : AState
  cs : List Prop

def freezeV (σ : AState) : AVal → Option Frz
  | .slc isnil id es off len cap =>
    match objP σ id with
    | .rows p es' rs =>
      if es == es' && (p || rs.all fun r => r.all pureCell) then some ⟨[.fsl isnil es ((rs.drop off).take len) none], σ.set id .dead, [decide (off + len ≤ rs.length) = true]⟩ else none
    | _ => none
  | v => if pureCell v then some ⟨[v], σ, []⟩ else none
def freezeL : AState → List AVal → Option Frz
  | σ, [] => some ⟨[], σ, []⟩
  | σ, v :: vs => (freezeV σ v).bind fun x => (freezeL x.σ vs).map fun y => ⟨x.v ++ y.v, y.σ, x.cs ++ y.cs⟩

def astore (P : Program) (t : TypeId) (a v : AVal) (σ : AState) : Option Out :=
  let n := P.cellsOf t
  match a with
  | .ptr id es i j =>
    if v.cells.length == n && v.cells.all oneCell && (P.info? t).isSome then
      match objP σ id with
      | .rows false es' rs =>
        if es == es' then some ⟨aundef, σ.set id (.rows false es (rs.set i (setCells (rs.getD i []) j v.cells))), [decide (i < rs.length) = true, decide (j + n ≤ es) = true]⟩ else none
      | .rows true es' rs =>
        if es == es' then (freezeL σ v.cells).bind fun x =>
          if (obj x.σ id).live then some ⟨aundef, x.σ.set id (.rows true es (rs.set i (setCells (rs.getD i []) j x.v))), (decide (i < rs.length) = true) :: (decide (j + n ≤ es) = true) :: x.cs⟩ else none
        else none
      | _ => none
    else none
  | _ => none

def new (σ : AState) (o : AObj) (v : Nat → AVal) : Out := ⟨v σ.length, σ ++ [o], []⟩

def plainCell : AVal → Bool
  | .tt _ | .bool _ | .int _ _ | .str _ => true
  | _ => false
def abox (v : AVal) (σ : AState) : Option Out :=
  let cs := v.cells
  if cs.all oneCell then some (new σ (.rows (cs.all plainCell) cs.length [cs]) fun id => .ptr id cs.length 0 0) else none

def keepsType (P : Program) (t : TypeId) : Bool := (P.info? t).any fun i => i.str == "strings.Builder"
def aalloc (P : Program) (t : TypeId) (σ : AState) : Option Out := (zeroA P t).bind fun z =>
  if keepsType P t then
    if z.cells.all oneCell then some (new σ (.trows t false z.cells.length [z.cells]) fun id => .ptr id z.cells.length 0 0) else none
  else abox z σ

def fillA (place : Nat → Option (Nat × Nat)) (cells : List AVal) : List (Nat × AVal) → Option (List AVal)
  | [] => some cells
  | (i, v) :: rest =>
    match place i with
    | none => none
    | some (off, size) =>
      if v.cells.all oneCell && v.cells.length == size && decide (off + size ≤ cells.length) then fillA place (setCells cells off v.cells) rest else none

def builtA (P : Program) (t : TypeId) (parts : List (Nat × AVal)) : Option (List AVal) :=
  match P.info? t, P.underlying t with
  | some it, some (.array _ e) =>
    match it.zero, P.info? e with
    | some z, some ie => if (abs0 z).cells.all oneCell then fillA (fun i => some (i * ie.size, ie.size)) (abs0 z).cells parts else none
    | _, _ => none
  | some it, some (.struct fields) =>
    match it.zero, fields.toList.mapM (fun f => (P.info? f.type).map fun i => (f.offset, i.size)) with
    | some z, some places => if (abs0 z).cells.all oneCell then fillA (places[·]?) (abs0 z).cells parts else none
    | _, _ => none
  | _, _ => none

def abuild (P : Program) (t : TypeId) (parts : List (Nat × AVal)) (σ : AState) : Option Out := (builtA P t parts).map fun cs => ⟨.agg cs, σ, []⟩

def isAggV : AVal → Bool
  | .agg _ => true
  | _ => false
def normT (P : Program) (t : TypeId) (v : AVal) : AVal :=
  if areKinds (kindsOf P 20 t) v.cells && (isAggT P t == isAggV v) && decide (0 < v.cells.length) then asType P t (reifyL (kindsOf P 20 t) v.cells) else v
def normTs (P : Program) : List TypeId → List AVal → List AVal
  | t :: ts, v :: vs => normT P t v :: normTs P ts vs
  | _, vs => vs
def paramsOf (P : Program) (f : FuncId) : List TypeId := ((P.funcs[f]?).map fun fn => fn.params.toList).getD []

def cutRows (es : Nat) : Nat → List AVal → List (List AVal)
  | 0, _ => []
  | n + 1, cs => cs.take es :: cutRows es n (cs.drop es)

def abuildSlice (P : Program) (t : TypeId) (len : Nat) (parts : List (Nat × AVal)) (σ : AState) : Option Out :=
  match P.underlying t with
  | some (.slice e) =>
    match P.info? e with
    | some ie =>
      match ie.zero with
      | some z =>
        let es := ie.size
        if (abs0 z).cells.all oneCell && (abs0 z).cells.length == es && decide (len * es ≤ 1000) && decide (es ≠ 0) then
          (fillA (fun i => some (i * es, es)) (List.replicate len (abs0 z).cells).flatten parts).bind fun cs =>
            if cs.all oneCell && cs.length == len * es then some (new σ (.rows (!(kindsOf P 20 e).any refKind && cs.all pureCell) es (cutRows es len cs)) fun id => .slc false id es 0 len (some len)) else none
        else none
      | none => none
    | none => none
  | _ => none

def afieldAddr (P : Program) (s : TypeId) (a : AVal) (field : Nat) (σ : AState) : Option Out :=
  match P.underlying s with
  | some (.struct fs) =>
    match fs[field]? with
    | some f =>
      if P.cellsOf f.type == 0 then none else
      match a with
      | .ptr id es i j => some ⟨.ptr id es i (j + f.offset), σ, []⟩
      | .fptr es rs i j => some ⟨.fptr es rs i (j + f.offset), σ, []⟩
      | _ => none
    | none => none
  | _ => none

def aindexAddr (P : Program) (t : TypeId) (x ix : AVal) (σ : AState) : Option Out :=
  match ix with
  | .int _ n =>
    match P.underlying t, x with
    | some (.array len e), .ptr id es i j => if P.cellsOf e != 0 then some ⟨.ptr id es i (n.toNat * P.cellsOf e + j), σ, [decide (0 ≤ n ∧ n < (len : Int)) = true]⟩ else none
    | some (.array len e), .fptr es rs i j => if P.cellsOf e != 0 then some ⟨.fptr es rs i (n.toNat * P.cellsOf e + j), σ, [decide (0 ≤ n ∧ n < (len : Int)) = true]⟩ else none
    | some (.slice e), .slc _ id es off len _ => if P.cellsOf e == es && P.cellsOf e != 0 then some ⟨.ptr id es (n.toNat + off) 0, σ, [decide (0 ≤ n ∧ n < (len : Int)) = true]⟩ else none
    | some (.slice e), .fsl _ es rs _ => if P.cellsOf e == es && P.cellsOf e != 0 then some ⟨.fptr es rs n.toNat 0, σ, [decide (0 ≤ n ∧ n < (rs.length : Int)) = true]⟩ else none
    | _, _ => none
  | _ => none

def byteAt (s : ByteArray) (n : Int) : Int := ((s.data.toList.getD n.toNat 0).toNat : Int)

def aindex (P : Program) (t : TypeId) (x ix : AVal) (σ : AState) : Option Out :=
  match ix with
  | .int _ n =>
    match P.underlying t, x with
    | some .string, .str s => some ⟨.int .u8 (byteAt s n), σ, [decide (0 ≤ n ∧ n < (s.size : Int)) = true]⟩
    | some (.array len e), .agg cs => if P.cellsOf e != 0 && (P.underlying e).isSome then
        if (kindsOf P 20 e).any refKind then some ⟨asType P e (cellsAt [cs] 0 (n.toNat * P.cellsOf e) (P.cellsOf e)), σ, [decide (0 ≤ n ∧ n < (len : Int)) = true, decide (len * P.cellsOf e ≤ cs.length) = true]⟩
        else some ⟨asType P e (reifyL (kindsOf P 20 e) (cellsAt [cs] 0 (n.toNat * P.cellsOf e) (P.cellsOf e))), σ, [decide (0 ≤ n ∧ n < (len : Int)) = true, decide (len * P.cellsOf e ≤ cs.length) = true, areKinds (kindsOf P 20 e) (cellsAt [cs] 0 (n.toNat * P.cellsOf e) (P.cellsOf e)) = true]⟩
      else none
    | some (.array len e), .pagg cs => if P.cellsOf e != 0 && (P.underlying e).isSome then
        some ⟨asType P e (reifyL (kindsOf P 20 e) (cellsAt [cs] 0 (n.toNat * P.cellsOf e) (P.cellsOf e))), σ, [decide (0 ≤ n ∧ n < (len : Int)) = true, decide (len * P.cellsOf e ≤ cs.length) = true, areKinds (kindsOf P 20 e) (cellsAt [cs] 0 (n.toNat * P.cellsOf e) (P.cellsOf e)) = true]⟩
      else none
    | _, _ => none
  | _ => none

def afield (P : Program) (t : TypeId) (x : AVal) (field : Nat) (σ : AState) : Option Out :=
  match P.underlying t, x with
  | some (.struct fs), .agg cs =>
    match fs[field]? with
    | some f => if P.cellsOf f.type != 0 && (P.underlying f.type).isSome && decide (f.offset + P.cellsOf f.type ≤ cs.length) then some ⟨asType P f.type ((cs.drop f.offset).take (P.cellsOf f.type)), σ, []⟩ else none
    | none => none
  | _, _ => none

def aextract (x : AVal) (i : Nat) (σ : AState) : Option Out :=
  match x with
  | .tuple vs => (vs[i]?).map fun v => ⟨v, σ, []⟩
  | _ => none

def anilCheck (x : AVal) (σ : AState) : Option Out :=
  match x with
  | .ptr .. => some ⟨x, σ, []⟩
  | .fptr .. => some ⟨x, σ, []⟩
  | .func .. => some ⟨x, σ, []⟩
  | _ => none

def amakeIface (P : Program) (t : TypeId) (x : AVal) (σ : AState) : Option Out :=
  match P.underlying t with
  | some (.interface _) => none
  | some _ => some ⟨.iface t x, σ, []⟩
  | none => none

def aequal (P : Program) (t : TypeId) (x y : AVal) : Option Bool :=
  match P.underlying t, x, y with
  | some .bool, .bool a, .bool b => some (a == b)
  | some .bool, .tt a, .bool b => some (a == b)
  | some .bool, .bool a, .tt b => some (a == b)
  | some .bool, .tt a, .tt b => some (a == b)
  | some (.pointer _), .nilp, .nilp => some true
  | some (.pointer _), .nilp, .ptr _ _ _ _ => some false
  | some (.pointer _), .ptr _ _ _ _, .nilp => some false
  | some (.pointer _), .nilp, .fptr _ _ _ _ => some false
  | some (.pointer _), .fptr _ _ _ _, .nilp => some false
  | some (.map _ _), .nilm, .nilm => some true
  | some (.map _ _), .nilm, .map _ => some false
  | some (.map _ _), .map _, .nilm => some false
  | some (.slice _), .slc b _ _ _ _ _, .fsl n _ _ _ => if n then some b else none
  | some (.slice _), .fsl b _ _ _, .fsl n _ _ _ => if n then some b else none
  | some (.pointer e), .ptr id es i j, .ptr id' es' i' j' => if id == id' && es == es' && i == i' && j == j' && (P.info? e).isSome then some true else none
  | some (.func _ _ _), .nilf, .nilf => some true
  | some (.func _ _ _), .nilf, .func _ _ => some false
  | some (.func _ _ _), .func _ _, .nilf => some false
  | _, _, _ => none

def aeqI (P : Program) (t : TypeId) (x y : AVal) : Option Bool :=
  match P.underlying t, x, y with
  | some (.interface _), .nili, .iface _ _ => some false
  | some (.interface _), .iface _ _, .nili => some false
  | some (.interface ms), .nili, .nili => if ms.isEmpty then some true else none
  | _, _, _ => none
def aeqAny (P : Program) (t : TypeId) (x y : AVal) : Option Bool :=
  match aequal P t x y with
  | some b => some b
  | none => aeqI P t x y
def imin (a b : Int) : Int := if b < a then b else a
def imax (a b : Int) : Int := if a < b then b else a
def asB : AVal → Option Bool
  | .bool b => some b
  | .tt b => some b
  | _ => none
def aeqFields (P : Program) (nest : TypeId → List AVal → List AVal → Option Bool) (xs ys : List AVal) : List Field → Option Bool
  | [] => some true
  | f :: fs =>
    if f.name == "_" then none else
    match P.underlying f.type with
    | some (.int _) =>
      match xs[f.offset]?, ys[f.offset]? with
      | some (.int k a), some (.int k' b) => if k == k' then (aeqFields P nest xs ys fs).map fun r => (a == b) && r else none
      | _, _ => none
    | some .bool =>
      match (xs[f.offset]?).bind asB, (ys[f.offset]?).bind asB with
      | some a, some b => (aeqFields P nest xs ys fs).map fun r => (a == b) && r
      | _, _ => none
    | some .string =>
      match xs[f.offset]?, ys[f.offset]? with
      | some (.str a), some (.str b) => (aeqFields P nest xs ys fs).map fun r => (a.toList == b.toList) && r
      | _, _ => none
    | some (.struct _) =>
      match P.info? f.type with
      | some it =>
        match nest f.type ((xs.drop f.offset).take it.size) ((ys.drop f.offset).take it.size) with
        | some e => (aeqFields P nest xs ys fs).map fun r => e && r
        | none => none
      | none => none
    | _ => none
def aeqNest (P : Program) : Nat → TypeId → List AVal → List AVal → Option Bool
  | 0, _, _, _ => none
  | n + 1, t, xs, ys =>
    if P.stoodInHeld t then none else
    match P.underlying t with
    | some (.struct fs) => aeqFields P (aeqNest P n) xs ys fs.toList
    | _ => none
def aeqAgg (P : Program) (t : TypeId) (xs ys : List AVal) : Option Bool :=
  if P.eqGuardType P.depth t then none else aeqNest P 3 t xs ys

def abinOp (P : Program) (op : BinOp) (t : TypeId) (x y : AVal) (σ : AState) : Option Out :=
  match x, y with
  | .agg xs, .agg ys =>
    match op with
    | .eql => (aeqAgg P t xs ys).map fun b => ⟨.bool b, σ, []⟩
    | .neq => (aeqAgg P t xs ys).map fun b => ⟨.bool (!b), σ, []⟩
    | _ => none
  | .int k a, .int k' b =>
    match op with
    | .shl => some ⟨.int k (k.wrap (a * 2 ^ (min b.toNat k.bits))), σ, [decide (0 ≤ b) = true]⟩
    | .shr => some ⟨.int k (a.fdiv (2 ^ (min b.toNat k.bits))), σ, [decide (0 ≤ b) = true]⟩
    | .add => if k == k' then some ⟨.int k (k.wrap (a + b)), σ, []⟩ else none
    | .sub => if k == k' then some ⟨.int k (k.wrap (a - b)), σ, []⟩ else none
    | .mul => if k == k' then some ⟨.int k (k.wrap (a * b)), σ, []⟩ else none
    | .quo => if k == k' then some ⟨.int k (k.wrap (a.tdiv b)), σ, [decide (b ≠ 0) = true]⟩ else none
    | .rem => if k == k' then some ⟨.int k (a.tmod b), σ, [decide (b ≠ 0) = true]⟩ else none
    | .and | .or | .xor | .andNot => if k == k' then some ⟨.int k (bits op k a b), σ, []⟩ else none
    | .eql => if k == k' then some ⟨.bool (a == b), σ, []⟩ else none
    | .neq => if k == k' then some ⟨.bool (a != b), σ, []⟩ else none
    | .lss => if k == k' then some ⟨.bool (decide (a < b)), σ, []⟩ else none
    | .leq => if k == k' then some ⟨.bool (decide (a ≤ b)), σ, []⟩ else none
    | .gtr => if k == k' then some ⟨.bool (decide (a > b)), σ, []⟩ else none
    | .geq => if k == k' then some ⟨.bool (decide (a ≥ b)), σ, []⟩ else none
  | .str a, .str b =>
    match op with
    | .add => some ⟨.str (a ++ b), σ, [decide (a.size + b.size ≤ 9223372036854775807) = true]⟩
    | .eql => some ⟨.bool (a.toList == b.toList), σ, []⟩
    | .neq => some ⟨.bool (!(a.toList == b.toList)), σ, []⟩
    | .lss => some ⟨.bool (Op.bytesLess a.toList b.toList), σ, []⟩
    | .leq => some ⟨.bool (Op.bytesLess a.toList b.toList || a.toList == b.toList), σ, []⟩
    | .gtr => some ⟨.bool (!(Op.bytesLess a.toList b.toList || a.toList == b.toList)), σ, []⟩
    | .geq => some ⟨.bool (!Op.bytesLess a.toList b.toList), σ, []⟩
    | _ => none
  | x, y =>
    match op with
    | .eql => (aeqAny P t x y).map fun b => ⟨.bool b, σ, []⟩
    | .neq => (aeqAny P t x y).map fun b => ⟨.bool (!b), σ, []⟩
    | _ => none

def aunOp (op : UnOp) (x : AVal) (σ : AState) : Option Out :=
  match op, x with
  | .neg, .int k n => some ⟨.int k (k.wrap (0 - n)), σ, []⟩
  | .xor, .int k n => some ⟨.int k (bits .xor k (if k.signed then -1 else k.max) n), σ, []⟩
  | .not, .bool b => some ⟨.bool (!b), σ, []⟩
  | .not, .tt b => some ⟨.tt (!b), σ, []⟩
  | _, _ => none

def byteRows (s : ByteArray) : List (List AVal) := s.data.toList.map fun b => [.int .u8 (b.toNat : Int)]
def rowBytes (rs : List (List AVal)) : ByteArray := ⟨(rs.map fun r => UInt8.ofNat (r.headD .any).toInt.toNat).toArray⟩

structure Src where
  rs : List (List AVal)
  pure : Bool
  cs : List Prop

def rowsOf (es : Nat) (σ : AState) : AVal → Option Src
  | .slc _ id es1 off len _ =>
    match objP σ id with
    | .rows p es2 rs => if es == es1 && es == es2 then some ⟨(rs.drop off).take len, p, [decide (off + len ≤ rs.length) = true, (((rs.drop off).take len).all fun r => r.all oneCell) = true]⟩ else none
    | _ => none
  | .fsl b es1 rs _ => if es == es1 || b then some ⟨rs, true, [(rs.all fun r => r.all oneCell) = true]⟩ else none
  | _ => none

def aconvert (P : Program) (src dst : TypeId) (x : AVal) (σ : AState) : Option Out :=
  match P.underlying src, P.underlying dst, x with
  | some (.int _), some (.int k), .int _ n => some ⟨.int k (k.wrap n), σ, []⟩
  | some .string, some .string, .str s => some ⟨.str s, σ, []⟩
  | some (.slice e), some .string, x =>
    match P.underlying e with
    | some (.int .u8) => (rowsOf 1 σ x).map fun r => ⟨.str (rowBytes r.rs), σ, ((r.rs.all fun r => areKinds [.int .u8] r) = true) :: r.cs⟩
    | _ => none
  | some (.pointer t), some .unsafePointer, .ptr id es 0 0 =>
    match obj σ id with
    | .trows T _ es' rs => if es == es' && decide (P.cellsOf t ≠ 0) then some ⟨.ptr id es 0 0, σ, [decide (0 < rs.length * es) = true]⟩ else none
    | _ => none
  | some .unsafePointer, some (.pointer u), .ptr id es 0 0 =>
    match obj σ id with
    | .trows T _ es' rs => if es == es' && T == u && P.cellsOf T == es && decide (es ≠ 0) then some ⟨.ptr id es 0 0, σ, [decide (0 < rs.length) = true]⟩ else none
    | _ => none
  | _, _, _ => none

def amakeSlice (P : Program) (t : TypeId) (l c : AVal) (σ : AState) : Option Out :=
  match P.underlying t, l, c with
  | some (.slice e), .int .i64 n, .int .i64 m =>
    (zeroA P e).bind fun z =>
      let es := P.cellsOf e
      if z.cells.length == es && z.cells.all pureCell && decide (es ≠ 0) then
        some ⟨.slc false σ.length es 0 n.toNat (some m.toNat), σ ++ [.rows (!(kindsOf P 20 e).any refKind) es (List.replicate n.toNat z.cells)],
          [decide (0 ≤ n ∧ n ≤ m ∧ m * ((P.bytesOf e : Nat) : Int) ≤ 281474976710656 ∧ m ≤ 9223372036854775807) = true]⟩
      else none
  | _, _, _ => none

def amakeMap (P : Program) (t : TypeId) (hint : Option AVal) (σ : AState) : Option Out :=
  match P.underlying t, hint with
  | some (.map k e), none => some (new σ (.mp (!(kindsOf P 20 e).any refKind) []) fun id => .map id)
  | _, _ => none

def keq1 : AVal → AVal → Bool
  | .int k a, .int k' b => k == k' && a == b
  | .str a, .str b => a == b
  | .bool a, .bool b => a == b
  | _, _ => false
def keqL : List AVal → List AVal → Bool
  | [], [] => true
  | x :: xs, y :: ys => keq1 x y && keqL xs ys
  | _, _ => false
def keq (x y : AVal) : Bool :=
  match x, y with
  | .agg xs, .agg ys => keqL xs ys
  | x, y => keq1 x y
def afind (k : AVal) : List (AVal × AVal) → Option AVal
  | [] => none
  | (k', v) :: es => if keq k k' then some v else afind k es
def aput (k v : AVal) : List (AVal × AVal) → List (AVal × AVal)
  | [] => [(k, v)]
  | (k', v') :: es => if keq k k' then (k, v) :: es else (k', v') :: aput k v es
def adel (k : AVal) : List (AVal × AVal) → List (AVal × AVal)
  | [] => []
  | (k', v') :: es => if keq k k' then es else (k', v') :: adel k es
def adelB (k : AVal) : List (AVal × AVal) → List Nat → List Nat
  | (k', _) :: es, b :: bs => if keq k k' then bs else b :: adelB k es bs
  | _, bs => bs
def keyKind1 (P : Program) (t : TypeId) (k : AVal) : Bool :=
  match P.underlying t, k with
  | some (.int q), .int q' _ => q == q'
  | some .string, .str _ => true
  | _, _ => false
def fieldsKind (P : Program) : List Field → List AVal → Nat → Bool
  | [], [], _ => true
  | f :: fs, x :: xs, i => !(f.name == "_") && (f.offset == i && (keyKind1 P f.type x && fieldsKind P fs xs (i + 1)))
  | _, _, _ => false
def keyKind (P : Program) (t : TypeId) (k : AVal) : Bool :=
  match P.underlying t, k with
  | some (.int q), .int q' _ => q == q'
  | some .string, .str _ => true
  | some .bool, .bool _ => true
  | some (.struct fs), .agg xs => fieldsKind P fs.toList xs 0 && (!P.stoodInHeld t && !P.eqGuardType P.depth t)
  | _, _ => false

def okCells (P : Program) (e : TypeId) (v : AVal) : Bool :=
  areKinds (kindsOf P 20 e) v.cells && v.cells.all oneCell && (isAggT P e == (match v with | .agg _ => true | _ => false)) && decide (0 < v.cells.length)

def alookup (P : Program) (t : TypeId) (x k : AVal) (commaOk : Bool) (σ : AState) : Option Out :=
  match P.underlying t with
  | some (.map kt e) =>
    if keyKind P kt k then
      match zeroA P e with
      | some z =>
        match x with
        | .nilm => some ⟨if commaOk then .tuple [z, .tt false] else z, σ, []⟩
        | .map id =>
          match objM σ id with
          | .mp true ents =>
            some ⟨if commaOk then .tuple [asType P e (reifyL (kindsOf P 20 e) ((afind k ents).getD z).cells), .tt (afind k ents).isSome] else asType P e (reifyL (kindsOf P 20 e) ((afind k ents).getD z).cells),
              σ, [okCells P e ((afind k ents).getD z) = true, (ents.all fun p => keyKind P kt p.1) = true]⟩
          | .mp false ents => some ⟨if commaOk then .tuple [(afind k ents).getD z, .tt (afind k ents).isSome] else (afind k ents).getD z, σ, [(ents.all fun p => keyKind P kt p.1) = true]⟩
          | _ => none
        | _ => none
      | none => none
    else none
  | _ => none

def freezeA (σ : AState) : AVal → Option (AVal × Frz)
  | .agg cs => (freezeL σ cs).map fun x => (.agg x.v, x)
  | v => (freezeV σ v).map fun x => (x.v.headD .any, x)

def amapUpdate (P : Program) (t : TypeId) (m k v : AVal) (σ : AState) : Option Out :=
  match P.underlying t, m with
  | some (.map kt e), .map id =>
    if keyKind P kt k then
      match obj σ id with
      | .mp false ents => some ⟨aundef, σ.set id (.mp false (aput k v ents)), [(ents.all fun p => keyKind P kt p.1) = true]⟩
      | .mq pre [] post => some ⟨aundef, σ.set id (.mq (pre ++ post) [(k, v)] []), [((pre ++ post).all fun p => keyKind P kt p.1) = true, (afind k (pre ++ post)).isNone = true]⟩
      | .mp true ents => (freezeA σ v).bind fun x =>
          if (obj x.2.σ id).live then some ⟨aundef, x.2.σ.set id (.mp true (aput k x.1 ents)), ((ents.all fun p => keyKind P kt p.1) = true) :: x.2.cs⟩ else none
      | _ => none
    else none
  | _, _ => none

def abound (d : Nat) : Option AVal → Option Int
  | none => some d
  | some (.int _ n) => some n
  | some _ => none

def aslice (P : Program) (t : TypeId) (x : AVal) (lo hi mx : Option AVal) (σ : AState) : Option Out :=
  match P.underlying t, x with
  | some .string, .str s =>
    match mx, abound 0 lo, abound s.size hi with
    | none, some l, some h => some ⟨.str (s.extract l.toNat h.toNat), σ, [decide (0 ≤ l ∧ l ≤ h ∧ h ≤ (s.size : Int)) = true]⟩
    | _, _, _ => none
  | some (.slice e), .slc b id es off len cap =>
    if P.cellsOf e == es && P.cellsOf e != 0 then
      match abound 0 lo, abound len hi, mx, cap with
      | some l, some h, none, none => some ⟨.slc b id es (l.toNat + off) (h.toNat - l.toNat) none, σ, [decide (0 ≤ l ∧ l ≤ h ∧ h ≤ (len : Int)) = true]⟩
      | some l, some h, none, some c => some ⟨.slc b id es (l.toNat + off) (h.toNat - l.toNat) (some (c - l.toNat)), σ, [decide (0 ≤ l ∧ l ≤ h ∧ h ≤ (c : Int)) = true]⟩
      | some l, some h, some (.int _ m), _ => if hi.isSome then some ⟨.slc b id es (l.toNat + off) (h.toNat - l.toNat) (some (m.toNat - l.toNat)), σ, [decide (0 ≤ l ∧ l ≤ h ∧ h ≤ m ∧ m ≤ (len : Int)) = true]⟩ else none
      | _, _, _, _ => none
    else none
  | some (.slice e), .fsl b es rs cap =>
    if P.cellsOf e == es && P.cellsOf e != 0 then
      match abound 0 lo, abound rs.length hi, mx with
      | some l, some h, none => some ⟨.fsl b es ((rs.take h.toNat).drop l.toNat) none, σ, [decide (0 ≤ l ∧ l ≤ h ∧ h ≤ (rs.length : Int)) = true]⟩
      | some l, some h, some (.int _ m) => if hi.isSome then some ⟨.fsl b es ((rs.take h.toNat).drop l.toNat) (some (m.toNat - l.toNat)), σ, [decide (0 ≤ l ∧ l ≤ h ∧ h ≤ m ∧ m ≤ (rs.length : Int)) = true]⟩ else none
      | _, _, _ => none
    else none
  | some (.array n e), .ptr id es i j => none
  | _, _ => none

def srcA (P : Program) (u : TypeId) (es : Nat) (σ : AState) (x : AVal) : Option Src :=
  match P.underlying u with
  | some (.slice _) => rowsOf es σ x
  | some .string =>
    match x with
    | .str s => if es == 1 then some ⟨byteRows s, true, []⟩ else none
    | _ => none
  | _ => none
def isU8 (P : Program) (e : TypeId) : Bool :=
  match P.underlying e with
  | some (.int .u8) => true
  | _ => false
def isTyped (o : AObj) (e : TypeId) : Bool :=
  match o with
  | .trows T _ _ _ => T == e
  | _ => false
def mkRows (typed : Bool) (e : TypeId) (p : Bool) (es : Nat) (rs : List (List AVal)) : AObj := if typed then .trows e p es rs else .rows p es rs
def aappend (P : Program) (t u : TypeId) (d x : AVal) (σ : AState) : Option Out :=
  match P.underlying t with
  | some (.slice e) =>
    let es := P.cellsOf e
    let by_ := P.bytesOf e
    (srcA P u es σ x).bind fun s =>
      if decide (es ≠ 0) && (zeroA P e).isSome && (zeroA P e).all (fun z => z.cells.length == es) then
        match d with
        | .slc b id es' off len cap =>
          match objP σ id with
          | .rows p es'' rs =>
            if es == es' && es == es'' && off == 0 then
              some ⟨.slc (b && s.rs.isEmpty) σ.length es 0 (len + s.rs.length) none, σ.set id .dead ++ [mkRows (isU8 P e && isTyped (obj σ id) e) e (p && s.pure) es (rs ++ s.rs)],
                (decide (rs.length = len) = true) :: (decide ((len + s.rs.length) * by_ ≤ 140737488355328 ∧ len + s.rs.length ≤ 9223372036854775807) = true) :: s.cs⟩
            else none
          | _ => none
        | .fsl true _ _ _ =>
          some ⟨.slc s.rs.isEmpty σ.length es 0 s.rs.length none, σ ++ [mkRows (isU8 P e) e s.pure es s.rs], (decide (s.rs.length * by_ ≤ 140737488355328 ∧ s.rs.length ≤ 9223372036854775807) = true) :: s.cs⟩
        | _ => none
      else none
  | _ => none

def u8Row (r : List AVal) : Bool :=
  match r with
  | [.int .u8 n] => decide (0 ≤ n ∧ n < 256)
  | _ => false
def aunsafeString (P : Program) (pt : TypeId) (a n : AVal) (σ : AState) : Option Out :=
  match P.underlying pt, a, n with
  | some (.pointer e), .ptr id 1 0 0, .int .i64 n =>
    match obj σ id with
    | .trows T _ 1 rs => if T == e && P.cellsOf e == 1 then
        some ⟨.str (rowBytes (rs.take n.toNat)), σ.set id .dead, [decide (0 < n ∧ n ≤ (rs.length : Int) ∧ n ≤ 9223372036854775807) = true, ((rs.take n.toNat).all u8Row) = true]⟩ else none
    | _ => none
  | _, _, _ => none
def aunsafeSliceData (x : AVal) (σ : AState) : Option Out :=
  match x with
  | .slc false id es off len _ => some ⟨.ptr id es off 0, σ, [decide (0 < len) = true]⟩
  | _ => none
def atypeAssert (P : Program) (asserted : TypeId) (ok : Bool) (x : AVal) (σ : AState) : Option Out :=
  match P.underlying asserted with
  | some (.interface _) => none
  | some _ =>
    match x with
    | .iface t v => if t == asserted then some ⟨if ok then .tuple [v, .tt true] else v, σ, []⟩ else if ok then (zeroA P asserted).map fun z => ⟨.tuple [z, .tt false], σ, []⟩ else none
    | .nili => if ok then (zeroA P asserted).map fun z => ⟨.tuple [z, .tt false], σ, []⟩ else none
    | _ => none
  | none => none
def extOf (P : Program) (f : FuncId) : Option (Array Value → Sem Value) :=
  match P.funcs[f]? with
  | some fn => if fn.name == "runtime.NumGoroutine" then none else if fn.body.isNone then (match Extern.findNext fn with | none => Extern.find fn | some _ => none) else none
  | none => none
def bodiless (P : Program) (f : FuncId) : Bool := (P.funcs[f]?).any fun fn => fn.body.isNone
def nameOf (P : Program) (f : FuncId) : String := ((P.funcs[f]?).map fun fn => fn.origin).getD ""
def aextern (P : Program) (f : FuncId) (as : List AVal) (σ : AState) : Option Out :=
  match as with
  | [.iface t (.map id)] =>
    match objM σ id with
    | .mp p ents => some ⟨.iface t (.map σ.length), σ ++ [.mp p ents], [extOf P f = some Extern.MapsClone.clone]⟩
    | _ => none
  | [x] => some ⟨x, σ, [extOf P f = some Extern.AbiNoEscape.same]⟩
  | _ => none

def runesF (s : ByteArray) : Nat → Nat → List (Nat × Int)
  | 0, _ => []
  | n + 1, pos =>
    match Nat.blt pos s.size with
    | true => (pos, ((Utf8.decode s pos).1 : Int)) :: runesF s n (pos + (Utf8.decode s pos).2)
    | false => []
def runesOf (s : ByteArray) : List (Nat × Int) := runesF s s.size 0
def arange (P : Program) (t : TypeId) (x : AVal) (σ : AState) : Option Out :=
  match P.underlying t, x with
  | some .string, .str s => some (new σ (.siter (runesOf s)) fun id => .ptr id 1 0 0)
  | some (.map _ _), .nilm => some (new σ (.miter none 0 [] 0) fun id => .ptr id 1 0 0)
  | some (.map _ _), .map id =>
    match obj σ id with
    | .mpn _ _ _ c => some (new σ (.miter (some id) c [] c) fun id => .ptr id 1 0 0)
    | _ => none
  | _, _ => none
def leftOf (seen : List Nat) : List (AVal × AVal) → List Nat → List (Nat × AVal × AVal)
  | (k, v) :: es, b :: bs => if seen.contains b then leftOf seen es bs else (b, k, v) :: leftOf seen es bs
  | _, _ => []
def anextM (r : Nat) (id since : Nat) (seen : List Nat) (last : Nat) (ents : List (AVal × AVal)) (bs : List Nat) (c : Nat) (σ : AState) : Option Out :=
  if since == c && last == c then
    match leftOf seen ents bs with
    | [] => some ⟨.tuple [.tt false], σ, []⟩
    | [(i, k, v)] => some ⟨.tuple [.tt true, k, v], σ.set r (.miter (some id) since (seen ++ [i]) c), []⟩
    | _ => none
  else none
def entAt (b : Nat) : List (AVal × AVal) → List Nat → Option AVal
  | (k, v) :: es, b' :: bs => if b' == b then some (.tuple [k, v]) else entAt b es bs
  | _, _ => none
def entV (ents : List (AVal × AVal)) (bs seen : List Nat) : Option AVal := (seen.getLast?).bind fun b => entAt b ents bs
def anext (it : AVal) (isStr : Bool) (σ : AState) : Option Out :=
  match it with
  | .ptr r _ 0 0 =>
    match obj σ r with
    | .siter rest =>
      if isStr then
        match rest with
        | x :: rest => some ⟨.tuple [.tt true, .int .i64 x.1, .int .i32 x.2], σ.set r (.siter rest), []⟩
        | [] => some ⟨.tuple [.tt false], σ, []⟩
      else none
    | .miter none _ _ _ => if isStr then none else some ⟨.tuple [.tt false], σ, []⟩
    | .miter (some id) since seen last =>
      if isStr then none else
      match obj σ id with
      | .mpn _ ents bs c => anextM r id since seen last ents bs c σ
      | _ => none
    | _ => none
  | _ => none
def aentry (it : AVal) (σ : AState) : Option Out :=
  match it with
  | .ptr r _ 0 0 =>
    match obj σ r with
    | .miter (some id) since seen last =>
      match obj σ id with
      | .mpn _ ents bs c =>
        some ⟨(entV ents bs seen).getD .any, σ, [(entV ents bs seen).isSome = true, last = c]⟩
      | _ => none
    | _ => none
  | _ => none
def adelete (P : Program) (t : TypeId) (m k : AVal) (σ : AState) : Option Out :=
  match P.underlying t, m with
  | some (.map kt e), .map id =>
    if keyKind P kt k then
      match obj σ id with
      | .mp p ents => some ⟨.tuple [], σ.set id (.mp p (adel k ents)), [(ents.all fun p => keyKind P kt p.1) = true]⟩
      | .mpn p ents bs c => some ⟨.tuple [], σ.set id (.mpn p (adel k ents) (adelB k ents bs) c), [(ents.all fun p => keyKind P kt p.1) = true]⟩
      | .mq pre [e] post => some ⟨.tuple [], σ.set id (.mq pre [] post), [((pre ++ [e] ++ post).all fun p => keyKind P kt p.1) = true, (afind k pre).isNone = true, keq k e.1 = true]⟩
      | _ => none
    else none
  | _, _ => none

def alen (P : Program) (t : TypeId) (x : AVal) (σ : AState) : Option Out :=
  match P.underlying t, x with
  | some .string, .str s => some ⟨.int .i64 s.size, σ, []⟩
  | some (.array n _), _ => some ⟨.int .i64 n, σ, []⟩
  | some (.slice _), .slc _ _ _ _ len _ => some ⟨.int .i64 len, σ, []⟩
  | some (.slice _), .fsl _ _ rs _ => some ⟨.int .i64 rs.length, σ, []⟩
  | some (.map _ _), .nilm => some ⟨.int .i64 0, σ, []⟩
  | some (.map _ _), .map id =>
    match objM σ id with
    | .mp _ ents => some ⟨.int .i64 ents.length, σ, []⟩
    | _ => none
  | _, _ => none

end Go.Abs
end

section
set_option linter.unusedVariables false
set_option linter.unusedSectionVars false
namespace Go.Abs

inductive AExit where
  | normal
  | exit (id : Nat)
  | ret
  | pan (t : TypeId)
  deriving Inhabited, DecidableEq

inductive Dec where
  | br (b : Bool)
  | call (r : AVal) (σ : AState)
  | rw (v : AVal)
  | rwl (v : AVal)
  | lift (i : Nat)
  | go
  | unroll (n : Nat)
  | place (t es : Nat) (pure : Bool)
  | placeH (id i j es : Nat) (pure : Bool)
  | compact (m : List Bool) (π : List Nat)
  | use (es : List Nat) (as : List AVal) (σ : AState) (r : AVal) (σ' : AState)
  | loop (e : AExit) (rg : Regs) (σ : AState)
  deriving Inhabited

structure St where
  rg : Regs
  σ : AState
  s : List Dec
  cs : List Prop

class Glob where
  val : Nat → Option AVal
  ds : List Deferred
variable [Glob]

def aev (rg : Regs) : Operand → AVal
  | .tmp t => rg.getD t .any
  | .const v => abs0 v
  | .global g => (Glob.val g).getD .any
  | .func f => .func f []

def rput (rg : Regs) (dst : Option Tmp) (v : AVal) : Regs :=
  match dst with
  | some d => rg.set d v
  | none => rg

structure Owed where
  call : FuncId → List AVal → AState → AVal → AState → Prop
  use : FuncId → List Nat → List AVal → AState → List AVal → AState → AVal → AState → Prop
  loop : Code → Regs → AState → AExit → Regs → AState → Prop
  n : Nat

def amakeFunc (fn : Fn) (first : List Operand) (cap : List AVal) (σ : AState) : Option Out :=
  match fn, first with
  | .func f, [] => some ⟨.func f cap, σ, []⟩
  | _, _ => none

def abuiltin (P : Program) (c : Callee) (ts : List TypeId) (vs : List AVal) (σ : AState) : Option Out :=
  match c with
  | .builtin b =>
    match b, ts, vs with
    | .append, [t, u], [d, x] => aappend P t u d x σ
    | .len, [t], [x] => alen P t x σ
    | .delete, [t, _], [m, k] => adelete P t m k σ
    | .min, [_, _], [.int k a, .int k' b] => if k == k' then some ⟨.int k (imin a b), σ, []⟩ else none
    | .unsafeSliceData, [t], [x] => aunsafeSliceData x σ
    | .unsafeString, [pt, _], [a, n] => aunsafeString P pt a n σ
    | .max, [_, _], [.int k a, .int k' b] => if k == k' then some ⟨.int k (imax a b), σ, []⟩ else none
    | _, _, _ => none
  | _ => none

def aop (P : Program) (o : Op) (ty : TypeId) (rg : Regs) (σ : AState) : Option Out :=
  let e := aev rg
  match o with
  | .move x => some ⟨e x, σ, []⟩
  | .assign x => some ⟨e x, σ, []⟩
  | .alloc t => aalloc P t σ
  | .box _ x => abox (e x) σ
  | .build t ps => abuild P t (ps.toList.map fun p => (p.1, e p.2)) σ
  | .buildSlice t n ps => abuildSlice P t n (ps.toList.map fun p => (p.1, e p.2)) σ
  | .load t a => aload P t (e a) σ
  | .store t a v => astore P t (e a) (e v) σ
  | .nilCheck x => anilCheck (e x) σ
  | .binOp op t x y _ => abinOp P op t (e x) (e y) σ
  | .unOp op _ x => aunOp op (e x) σ
  | .convert s d x => aconvert P s d (e x) σ
  | .makeFunc fn first cap => amakeFunc fn first.toList (cap.toList.map e) σ
  | .makeMap t r => amakeMap P t (r.map e) σ
  | .makeSlice t l c => amakeSlice P t (e l) (e c) σ
  | .slice t x lo hi mx => aslice P t (e x) (lo.map e) (hi.map e) (mx.map e) σ
  | .fieldAddr s x f => afieldAddr P s (e x) f σ
  | .field t x f => afield P t (e x) f σ
  | .indexAddr t x i => aindexAddr P t (e x) (e i) σ
  | .index t x i => aindex P t (e x) (e i) σ
  | .lookup t x k ok => alookup P t (e x) (e k) ok σ
  | .mapUpdate t m k v => amapUpdate P t (e m) (e k) (e v) σ
  | .range t x => arange P t (e x) σ
  | .next x b => anext (e x) b σ
  | .entry x => aentry (e x) σ
  | .insert t m k v => amapUpdate P t (e m) (e k) (e v) σ
  | .makeInterface t x => amakeIface P t (e x) σ
  | .typeAssert x _ t ok => atypeAssert P t ok (e x) σ
  | .extract t i => aextract (e t) i σ
  | .call c => abuiltin P c.callee c.argTypes.toList (c.args.toList.map e) σ
  | _ => none

def idOf : AVal → List Nat
  | .ptr id _ _ _ => [id]
  | .slc _ id _ _ _ _ => [id]
  | .map id => [id]
  | .iface _ (.map id) => [id]
  | _ => []
def isPureO : AObj → Bool
  | .rows p _ _ => p
  | .trows _ p _ _ => p
  | .mp p _ => p
  | .mpn p _ _ _ => p
  | _ => false
def itIds (a : AVal) (σ : AState) : List Nat :=
  idOf a ++ match a with
  | .ptr id _ _ _ =>
    match obj σ id with
    | .miter (some m) _ _ _ => [m]
    | _ => []
  | _ => []
def putIds (a v : AVal) (σ : AState) : List Nat :=
  match a with
  | .ptr id _ _ _ => id :: (if isPureO (obj σ id) then v.cells.flatMap idOf else [])
  | .map id => id :: (if isPureO (obj σ id) then v.cells.flatMap idOf else [])
  | _ => []
def touchB (vs : List AVal) : List Nat × List Nat :=
  match vs with
  | [d, x] => (idOf d ++ idOf x, idOf d)
  | [x] => (idOf x, [])
  | _ => ([], [])
def touch (o : Op) (rg : Regs) (σ : AState) : List Nat × List Nat :=
  let e := aev rg
  match o with
  | .load _ a => (idOf (e a), [])
  | .store _ a v => (putIds (e a) (e v) σ, putIds (e a) (e v) σ)
  | .convert _ _ x => (idOf (e x), [])
  | .lookup _ x _ _ => (idOf (e x), [])
  | .range _ x => (idOf (e x), [])
  | .next x _ => (itIds (e x) σ, idOf (e x))
  | .entry x => (itIds (e x) σ, [])
  | .mapUpdate _ m _ v => (putIds (e m) (e v) σ, putIds (e m) (e v) σ)
  | .insert _ m _ v => (putIds (e m) (e v) σ, putIds (e m) (e v) σ)
  | .call c => touchB (c.args.toList.map e)
  | _ => ([], [])

def acallee (o : Op) (rg : Regs) : Option (FuncId × List AVal) :=
  match o with
  | .call ⟨.value f, as, _⟩ =>
    match aev rg f with
    | .func f cap => some (f, as.toList.map (aev rg) ++ cap)
    | _ => none
  | _ => none

inductive Need where
  | br (b : Bool)
  | call (f : FuncId) (as : List AVal) (σ : AState)
  | loop (c : Code) (rg : Regs) (σ : AState)
  | look (v : AVal)
  | bad (o : Oper) (rg : Regs) (σ : AState)
  | odd

inductive Res (α : Type) where
  | ok (a : α)
  | no (n : Need)

def Res.then {α β : Type} (r : Res α) (f : α → Res β) : Res β :=
  match r with
  | .ok a => f a
  | .no n => .no n

def Brd (b d : Bool) : Prop := b = d
def ask (v : AVal) (x : Option Tmp) (st : St) : Res (Bool × St) :=
  match v with
  | .tt b => .ok (b, st)
  | .bool b =>
    match st.s with
    | .br d :: s => .ok (d, { st with rg := rput st.rg x (.tt d), s := s, cs := Brd b d :: st.cs })
    | _ => .no (.br b)
  | _ => .no .odd

def tmpOf : Operand → Option Tmp
  | .tmp t => some t
  | _ => none

def awant (ops : Array Oper) (o : Oper) (st : St) : Res (Bool × St) :=
  match o.guard with
  | none => .ok (true, st)
  | some (j, want) =>
    match (ops[j]?).bind (·.dst) with
    | none => .no .odd
    | some d =>
      match st.rg.getD d .any with
      | .tuple [] => .ok (false, st)
      | v => (ask v (some d) st).then fun p => .ok (p.1 == want, p.2)

structure Done where
  st : St
  v : AVal
  σ : AState
  T : List Nat
  W : List Nat

def Done.next (d : Done) (o : Oper) : St := { d.st with rg := rput d.st.rg o.dst d.v, σ := d.σ }

def isLookup : Op → Bool
  | .lookup _ _ _ _ => true
  | .entry _ => true
  | _ => false
def isLoad : Op → Bool
  | .load _ _ => true
  | _ => false

def evalOp (P : Program) (H : Owed) (o : Oper) (st : St) : Res Done :=
  match o.op with
  | .pick c a b => (ask (aev st.rg c) (tmpOf c) st).then fun p => .ok ⟨p.2, aev p.2.rg (if p.1 then a else b), p.2.σ, [], []⟩
  | .panic x =>
    match aev st.rg x with
    | .iface t (.agg []) => .ok ⟨st, .pan t, st.σ, [], []⟩
    | _ => .no (.bad o st.rg st.σ)
  | op =>
    match acallee op st.rg with
    | some (f, as) =>
      if bodiless P f then
        match aextern P f as st.σ with
        | some r => .ok ⟨{ st with cs := r.cs ++ st.cs }, r.v, r.σ, (touchB as).1, []⟩
        | none => .no (.bad o st.rg st.σ)
      else
      match st.s with
      | .call r σ' :: s => .ok ⟨{ st with s := s, cs := H.call f as st.σ r σ' :: st.cs }, r, σ', List.range st.σ.length, List.range st.σ.length⟩
      | .use es as0 σ0 r σ' :: s => .ok ⟨{ st with s := s, cs := H.use f es (normTs P (paramsOf P f) as) st.σ as0 σ0 r σ' :: st.cs }, ren (emb es st.σ.length) r, plug st.σ es σ', es, es⟩
      | _ => .no (.call f (normTs P (paramsOf P f) as) st.σ)
    | none =>
      match aop P op o.type st.rg st.σ with
      | some r =>
        if isLookup op then
          match st.s with
          | .rw v :: s => .ok ⟨{ st with s := s, cs := (r.v = v) :: (r.cs ++ st.cs) }, v, r.σ, (touch op st.rg st.σ).1, (touch op st.rg st.σ).2⟩
          | .go :: s => .ok ⟨{ st with s := s, cs := r.cs ++ st.cs }, r.v, r.σ, (touch op st.rg st.σ).1, (touch op st.rg st.σ).2⟩
          | _ => .no (.look r.v)
        else if isLoad op then
          match st.s with
          | .rwl v :: s => .ok ⟨{ st with s := s, cs := (r.v = v) :: (r.cs ++ st.cs) }, v, r.σ, (touch op st.rg st.σ).1, (touch op st.rg st.σ).2⟩
          | _ => .ok ⟨{ st with cs := r.cs ++ st.cs }, r.v, r.σ, (touch op st.rg st.σ).1, (touch op st.rg st.σ).2⟩
        else .ok ⟨{ st with cs := r.cs ++ st.cs }, r.v, r.σ, (touch op st.rg st.σ).1, (touch op st.rg st.σ).2⟩
      | none => .no (.bad o st.rg st.σ)

def evalOne (P : Program) (H : Owed) (all : Array Oper) (o : Oper) (st : St) : Res Done :=
  (awant all o st).then fun p => if p.1 then evalOp P H o p.2 else .ok ⟨p.2, aundef, p.2.σ, [], []⟩

def forceV {α : Type} (v : AVal) (K : AVal → α) : α :=
  match v with
  | .any => K .any
  | .tt b => K (.tt b)
  | .bool b => K (.bool b)
  | .int k n => K (.int k n)
  | .str s => K (.str s)
  | .nilp => K .nilp
  | .ptr a b c d => K (.ptr a b c d)
  | .slc a b c d e f => K (.slc a b c d e f)
  | .fsl a b c d => K (.fsl a b c d)
  | .fptr a b c d => K (.fptr a b c d)
  | .blk a b c d => K (.blk a b c d)
  | .nilm => K .nilm
  | .map a => K (.map a)
  | .func f c => K (.func f c)
  | .nilf => K .nilf
  | .agg c => K (.agg c)
  | .pagg c => K (.pagg c)
  | .tuple c => K (.tuple c)
  | .nili => K .nili
  | .iface t v => K (.iface t v)
  | .pan t => K (.pan t)
theorem forceV_eq {α : Type} (v : AVal) (K : AVal → α) : forceV v K = K v := by cases v <;> rfl
def forceL {α β : Type} : List α → (List α → β) → β
  | [], K => K []
  | x :: xs, K => forceL xs fun ys => K (x :: ys)
theorem forceL_eq {α β : Type} : ∀ (l : List α) (K : List α → β), forceL l K = K l
  | [], K => rfl
  | x :: xs, K => by rw [forceL, forceL_eq xs]
def forceSt {α : Type} (st : St) (K : St → α) : α := forceL st.rg fun rg => forceL st.σ fun σ => K ⟨rg, σ, st.s, st.cs⟩
theorem forceSt_eq {α : Type} (st : St) (K : St → α) : forceSt st K = K st := by unfold forceSt; rw [forceL_eq, forceL_eq]

def orPan {α : Type} (v : AVal) (A : TypeId → α) (B : α) : α :=
  match v with
  | .pan t => A t
  | _ => B
theorem orPan_pan {α : Type} (t : TypeId) (A : TypeId → α) (B : α) : orPan (.pan t) A B = A t := rfl
theorem orPan_no {α : Type} {v : AVal} (h : v.isPan = false) (A : TypeId → α) (B : α) : orPan v A B = B := by
  cases v <;> first | rfl | (simp [AVal.isPan] at h)
def evalOps (P : Program) (H : Owed) (all : Array Oper) : List Oper → St → Res (AExit × St)
  | [], st => .ok (.normal, st)
  | x :: os, st => (evalOne P H all x st).then fun d => forceV d.v fun v => orPan v (fun t => .ok (.pan t, { d.st with σ := d.σ })) (evalOps P H all os (({ d with v := v } : Done).next x))

def ancs : List Oper → List Nat → List Nat
  | [], acc => acc
  | o :: os, acc => ancs os (acc ++ [(o.after.toList.filter (Region.binds .any)).foldl (fun m e => m ||| (1 <<< e.on) ||| acc.getD e.on 0) 0])

structure Rec where
  T : List Nat
  W : List Nat
  σ : AState
  σ' : AState
def pairC (x y : Rec) : List Prop :=
  (x.W.filter fun id => y.T.contains id).map (fun id => obj x.σ' id = obj x.σ id) ++
  (y.W.filter fun id => x.T.contains id).map (fun id => obj y.σ' id = obj y.σ id) ++
  (if y.T.isEmpty then [] else [(y.T.all fun id => decide (id < x.σ.length) || decide (x.σ'.length ≤ id)) = true])
def pairsC (anc : Nat) (y : Rec) : Nat → List Rec → List Prop
  | _, [] => []
  | i, x :: xs => (if anc.testBit i then [] else pairC x y) ++ pairsC anc y (i + 1) xs
def okScope (σ : AState) (v : AVal) : Bool := inScope σ.length v && σ.all (inScopeO σ.length)
def allAnc (a j : Nat) : Bool := (List.range j).all fun i => a.testBit i
def evalAny (P : Program) (H : Owed) (all : Array Oper) (as : List Nat) : Nat → List Oper → List Rec → St → Res (AExit × St)
  | _, [], _, st => .ok (.normal, st)
  | j, x :: os, rs, st => (evalOne P H all x st).then fun d => forceV d.v fun v => forceL d.T fun T => forceL d.W fun W =>
      orPan v (fun t =>
        if os.isEmpty && allAnc (as.getD j 0) j then
          .ok (.pan t, { d.st with σ := d.σ, cs := pairsC (as.getD j 0) ⟨T, W, d.st.σ, d.σ⟩ 0 rs ++ ((okScope d.σ v = true) :: (decide (d.st.σ.length ≤ d.σ.length) = true) :: d.st.cs) })
        else .no .odd)
      (evalAny P H all as (j + 1) os (rs ++ [⟨T, W, d.st.σ, d.σ⟩]) { ({ d with v := v } : Done).next x with cs := pairsC (as.getD j 0) ⟨T, W, d.st.σ, d.σ⟩ 0 rs ++ ((okScope d.σ v = true) :: (decide (d.st.σ.length ≤ d.σ.length) = true) :: d.st.cs) })

def okPair (ops : Array Oper) (as : List Nat) (i j : Nat) : Bool :=
  match ops[i]?, ops[j]? with
  | some x, some y => ((as.getD j 0).testBit i || x.apart ops y) && (x.dst.isNone || x.dst != y.dst)
  | _, _ => true
def okOrd (ops : Array Oper) : Bool :=
  let as := ancs ops.toList []
  Region.noSelect ops && (List.range ops.size).all fun j => ((ops[j]?).map fun o => o.after.toList.all fun e => !Region.binds .any e || decide (e.on < j)).getD true &&
    (List.range j).all fun i => okPair ops as i j

def liftE (i n j : Nat) : Nat := if j == i then n else j
def liftH (i : Nat) (σ : AState) : AState := ((σ.map (renO (liftE i σ.length))).set i .dead) ++ [renO (liftE i σ.length) (obj σ i)]
structure Plc where
  rg : Regs
  σ : AState
  s : List Dec
def placed (n : Nat) : List Dec → Regs → AState → Plc
  | .place t es p :: s, rg, σ =>
    match rg.getD t .any with
    | .fsl true _ [] _ => placed n s (rput rg (some t) (.slc true σ.length es 0 0 none)) (σ ++ [.rows p es []])
    | _ => ⟨rg, σ, .place t es p :: s⟩
  | .placeH id i j es p :: s, rg, σ =>
    match obj σ id with
    | .rows false es' rs =>
      match (rs.getD i []).getD j .any with
      | .fsl true _ [] _ => placed n s rg (σ.set id (.rows false es' (rs.set i ((rs.getD i []).set j (.slc true σ.length es 0 0 none)))) ++ [.rows p es []])
      | _ => ⟨rg, σ, .placeH id i j es p :: s⟩
    | _ => ⟨rg, σ, .placeH id i j es p :: s⟩
  | .compact m π :: s, rg, σ =>
    if okMove n π σ.length (renL (invId π) (keepR m rg)) (π.map fun j => renO (invId π) (obj σ j)) && idsInL π (keepR m rg) && π.all (fun j => idsInO π (obj σ j)) then
      placed n s (renL (invId π) (keepR m rg)) (π.map fun j => renO (invId π) (obj σ j))
    else ⟨rg, σ, .compact m π :: s⟩
  | .lift i :: s, rg, σ =>
    if (obj σ i).live then placed n s (renL (liftE i σ.length) rg) (liftH i σ) else ⟨rg, σ, .lift i :: s⟩
  | s, rg, σ => ⟨rg, σ, s⟩
def St.placed (n : Nat) (st : St) : St := let x := Abs.placed n st.s st.rg st.σ; { rg := x.rg, σ := x.σ, s := x.s, cs := st.cs }

def iterC (ev : St → Res (AExit × St)) : Nat → St → Res (AExit × St)
  | 0, st => .no (.loop .skip st.rg st.σ)
  | n + 1, st => (ev st).then fun p =>
      match p.1 with
      | .normal => iterC ev n p.2
      | e => .ok (e, p.2)

def evalC (P : Program) (H : Owed) : Code → St → Res (AExit × St)
  | .skip, st => .ok (.normal, st)
  | .region _ ops draw, st =>
    if draw then
      if okOrd ops then (evalAny P H ops (ancs ops.toList []) 0 ops.toList [] { st with cs := ((inScopeL st.σ.length st.rg && st.σ.all (inScopeO st.σ.length)) = true) :: st.cs }).then fun p => forceSt p.2 fun st => .ok (p.1, st) else .no .odd
    else (evalOps P H ops ops.toList st).then fun p => forceSt p.2 fun st => .ok (p.1, st)
  | .seq a b, st => (evalC P H a st).then fun p =>
      match p.1 with
      | .normal => evalC P H b p.2
      | e => .ok (e, p.2)
  | .cond c x y, st => (ask (aev st.rg c) (tmpOf c) st).then fun p => if p.1 then evalC P H x p.2 else evalC P H y p.2
  | .block id c, st => (evalC P H c st).then fun p =>
      match p.1 with
      | .exit k => .ok (if k == id then .normal else .exit k, p.2)
      | e => .ok (e, p.2)
  | .loop c, st0 =>
    let st := st0.placed H.n
    match st.s with
    | .loop e rg σ :: s => .ok (e, { rg := rg, σ := σ, s := s, cs := H.loop c st.rg st.σ e rg σ :: st.cs })
    | .unroll n :: s => iterC (fun st => evalC P H c st) n { st with s := s }
    | _ => .no (.loop c st.rg st.σ)
  | .exit id, st => .ok (.exit id, st)
  | .ret, st => .ok (.ret, st)
  | .label _, st => .ok (.normal, st)
  | _, _ => .no .odd

end Go.Abs
end

section
set_option linter.unusedVariables false
set_option linter.unusedSectionVars false
namespace Go.Abs

abbrev RMap := Nat → Option Nat
def noId : RMap := fun _ => none

structure FS where
  fz : Nat → Prop
  own : Nat → Nat → Prop
instance : CoeFun FS (fun _ => Nat → Prop) := ⟨FS.fz⟩
def FS.of (f : Nat → Prop) : FS := ⟨f, fun _ _ => False⟩
def FS.or (F : FS) (G : Nat → Prop) : FS := ⟨fun b => F.fz b ∨ G b, F.own⟩
theorem FS.or_false (F : FS) : F.or (fun _ => False) = F := by cases F; simp [FS.or]

inductive VRel (F : FS) (w : World) : RMap → AVal → Value → Prop
  | any (ρ : RMap) (v : Value) : VRel F w ρ .any v
  | tt (ρ : RMap) (b : Bool) : VRel F w ρ (.tt b) (.bool b)
  | bool (ρ : RMap) (b : Bool) : VRel F w ρ (.bool b) (.bool b)
  | int (ρ : RMap) (k : IntKind) (n : Int) : VRel F w ρ (.int k n) (.int k n)
  | str (ρ : RMap) (s : ByteArray) : VRel F w ρ (.str s) (.string s)
  | nilp (ρ : RMap) : VRel F w ρ .nilp (.pointer none)
  | ptr (ρ : RMap) (id es i j b : Nat) (h : ρ id = some b) : VRel F w ρ (.ptr id es i j) (.pointer (some ⟨b, i * es + j, none⟩))
  | blk (ρ : RMap) (b es i j : Nat) : VRel F w ρ (.blk b es i j) (.pointer (some ⟨b, i * es + j, none⟩))
  | slc (ρ : RMap) (id es off len : Nat) (cap : Option Nat) (c b : Nat) (h : ρ id = some b) (hl : len ≤ c) (hc : ∀ k, cap = some k → c = k)
      (hs : ∃ cs T fr, w.heap[b]? = some (.cells cs T fr) ∧ (off + c) * es ≤ cs.size) : VRel F w ρ (.slc false id es off len cap) (.slice (some ⟨b, off * es, none⟩) len c)
  | slcE (ρ : RMap) (n : Bool) (id es off : Nat) (cap : Option Nat) (base : Option Addr) (hb : base.isNone = n) (hc : ∀ k, cap = some k → k = 0) : VRel F w ρ (.slc n id es off 0 cap) (.slice base 0 0)
  | fnil (ρ : RMap) (es : Nat) (cap : Option Nat) (hc : ∀ k, cap = some k → k = 0) : VRel F w ρ (.fsl true es [] cap) (.slice none 0 0)
  | femp (ρ : RMap) (es : Nat) (a : Addr) (c : Nat) (cap : Option Nat) (hc : ∀ k, cap = some k → c = k) : VRel F w ρ (.fsl false es [] cap) (.slice (some a) 0 c)
  | fsl (ρ : RMap) (es : Nat) (rows : List (List AVal)) (b o c : Nat) (cap : Option Nat) (f : Nat → Nat → Value) (hF : F b) (hl : rows.length ≤ c) (hc : ∀ k, cap = some k → c = k)
      (hw : ∀ (i : Nat) (row : List AVal), rows[i]? = some row → row.length = es)
      (hg : ∀ (i j : Nat) (row : List AVal) (v : AVal), rows[i]? = some row → row[j]? = some v → w.cell? ⟨b, o + i * es + j, none⟩ = some (f i j))
      (hv : ∀ (i j : Nat) (row : List AVal) (v : AVal), rows[i]? = some row → row[j]? = some v → VRel F w noId v (f i j)) :
      VRel F w ρ (.fsl false es rows cap) (.slice (some ⟨b, o, none⟩) rows.length c)
  | fptr (ρ : RMap) (es : Nat) (rows : List (List AVal)) (i0 j0 b o : Nat) (f : Nat → Nat → Value) (hF : F b)
      (hw : ∀ (i : Nat) (row : List AVal), rows[i]? = some row → row.length = es)
      (hg : ∀ (i j : Nat) (row : List AVal) (v : AVal), rows[i]? = some row → row[j]? = some v → w.cell? ⟨b, o + i * es + j, none⟩ = some (f i j))
      (hv : ∀ (i j : Nat) (row : List AVal) (v : AVal), rows[i]? = some row → row[j]? = some v → VRel F w noId v (f i j)) :
      VRel F w ρ (.fptr es rows i0 j0) (.pointer (some ⟨b, o + i0 * es + j0, none⟩))
  | nilm (ρ : RMap) : VRel F w ρ .nilm (.map none)
  | map (ρ : RMap) (id b : Nat) (h : ρ id = some b) : VRel F w ρ (.map id) (.map (some b))
  | func (ρ : RMap) (f : FuncId) (cap : List AVal) (cv : Array Value) (hl : cap.length = cv.size)
      (h : ∀ (i : Nat) (v : AVal) (u : Value), cap[i]? = some v → cv[i]? = some u → VRel F w ρ v u) : VRel F w ρ (.func f cap) (.func (.func f) #[] cv)
  | nilf (ρ : RMap) : VRel F w ρ .nilf .nilFunc
  | agg (ρ : RMap) (cs : List AVal) (cv : Array Value) (hl : cs.length = cv.size)
      (h : ∀ (i : Nat) (v : AVal) (u : Value), cs[i]? = some v → cv[i]? = some u → VRel F w ρ v u) : VRel F w ρ (.agg cs) (.agg cv)
  | pagg (ρ : RMap) (cs : List AVal) (cv : Array Value) (hl : cs.length = cv.size)
      (h : ∀ (i : Nat) (v : AVal) (u : Value), cs[i]? = some v → cv[i]? = some u → VRel F w noId v u) : VRel F w ρ (.pagg cs) (.agg cv)
  | tuple (ρ : RMap) (cs : List AVal) (cv : Array Value) (hl : cs.length = cv.size)
      (h : ∀ (i : Nat) (v : AVal) (u : Value), cs[i]? = some v → cv[i]? = some u → VRel F w ρ v u) : VRel F w ρ (.tuple cs) (.tuple cv)
  | nili (ρ : RMap) : VRel F w ρ .nili .nilIface
  | iface (ρ : RMap) (t : TypeId) (v : AVal) (u : Value) (h : VRel F w ρ v u) : VRel F w ρ (.iface t v) (.iface t u)

theorem cell_heap {w w' : World} {a : Addr} (h : w'.heap[a.block]? = w.heap[a.block]?) : w'.cell? a = w.cell? a := by
  unfold World.cell?; rw [h]

theorem VRel.mono {F F' : FS} {w w' : World} (hF : ∀ b, F b → F' b ∧ w'.heap[b]? = w.heap[b]?)
    (hrow : ∀ (b : Nat) (cs : Array Value) (T : TypeId) (fr : Nat × Nat), w.heap[b]? = some (.cells cs T fr) → ∃ cs' fr', w'.heap[b]? = some (.cells cs' T fr') ∧ cs'.size = cs.size) :
    ∀ {ρ : RMap} {v : AVal} {c : Value}, VRel F w ρ v c → ∀ {ρ' : RMap}, (∀ id b, ρ id = some b → ρ' id = some b) → VRel F' w' ρ' v c := by
  intro ρ v c h
  induction h with
  | any => intros; exact .any _ _
  | tt => intros; exact .tt _ _
  | bool => intros; exact .bool _ _
  | int => intros; exact .int _ _ _
  | str => intros; exact .str _ _
  | nilp => intros; exact .nilp _
  | ptr ρ id es i j b h => intro ρ' hρ; exact .ptr _ _ _ _ _ _ (hρ _ _ h)
  | blk => intros; exact .blk _ _ _ _ _
  | slc ρ id es off len cap c b h hl hc hs =>
    intro ρ' hρ
    obtain ⟨cs, T, fr, h1, h2⟩ := hs
    obtain ⟨cs', fr', h3, h4⟩ := hrow _ _ _ _ h1
    exact .slc _ _ _ _ _ _ _ _ (hρ _ _ h) hl hc ⟨cs', T, fr', h3, by rw [h4]; exact h2⟩
  | slcE ρ n id es off cap base hb hc => intros; exact .slcE _ _ _ _ _ _ _ hb hc
  | fnil ρ es cap hc => intros; exact .fnil _ _ _ hc
  | femp ρ es a c cap hc => intros; exact .femp _ _ _ _ _ hc
  | fsl ρ es rows b o c cap f hFb hl hc hw hg hv ih =>
    intro ρ' hρ
    exact .fsl _ _ _ _ _ _ _ f (hF _ hFb).1 hl hc hw (fun i j row v h1 h2 => (cell_heap (hF _ hFb).2).trans (hg i j row v h1 h2))
      (fun i j row v h1 h2 => ih i j row v h1 h2 (fun _ _ h => h))
  | fptr ρ es rows i0 j0 b o f hFb hw hg hv ih =>
    intro ρ' hρ
    exact .fptr _ _ _ _ _ _ _ f (hF _ hFb).1 hw (fun i j row v h1 h2 => (cell_heap (hF _ hFb).2).trans (hg i j row v h1 h2))
      (fun i j row v h1 h2 => ih i j row v h1 h2 (fun _ _ h => h))
  | nilm => intros; exact .nilm _
  | map ρ id b h => intro ρ' hρ; exact .map _ _ _ (hρ _ _ h)
  | func ρ f cap cv hl h ih => intro ρ' hρ; exact .func _ _ _ _ hl fun i v u h1 h2 => ih i v u h1 h2 hρ
  | nilf => intros; exact .nilf _
  | agg ρ cs cv hl h ih => intro ρ' hρ; exact .agg _ _ _ hl fun i v u h1 h2 => ih i v u h1 h2 hρ
  | pagg ρ cs cv hl h ih => intro ρ' hρ; exact .pagg _ _ _ hl fun i v u h1 h2 => ih i v u h1 h2 (fun _ _ h => h)
  | tuple ρ cs cv hl h ih => intro ρ' hρ; exact .tuple _ _ _ hl fun i v u h1 h2 => ih i v u h1 h2 hρ
  | nili => intros; exact .nili _
  | iface ρ t v u h ih => intro ρ' hρ; exact .iface _ _ _ _ (ih hρ)

theorem VRel.weak {F : FS} {w : World} {ρ ρ' : RMap} {v : AVal} {c : Value} (h : VRel F w ρ v c) (hρ : ∀ id b, ρ id = some b → ρ' id = some b) : VRel F w ρ' v c :=
  h.mono (fun _ h => ⟨h, rfl⟩) (fun _ cs _ _ h => ⟨cs, _, h, rfl⟩) hρ
theorem VRel.pure {F : FS} {w : World} {ρ' : RMap} {v : AVal} {c : Value} (h : VRel F w noId v c) : VRel F w ρ' v c :=
  h.weak fun _ _ h => by simp [noId] at h

def inMap (p : Bool) (ρ : RMap) : RMap := if p then noId else ρ

def BRL (bs : List Nat) (c : Nat) : Prop := bs.Pairwise (· < ·) ∧ ∀ b ∈ bs, b < c
def bornL (es : Array MapEntry) : List Nat := es.toList.map (·.born)
def ORelG (G : Nat → List AObj → Prop) (F : FS) (w : World) (ρ : RMap) (b : Nat) : AObj → Prop
  | .dead => True
  | .rows p es rs => ∃ cs T fr, w.heap[b]? = some (.cells cs T fr) ∧ (∀ o, o < cs.size → w.frozen? ⟨b, o, none⟩ = false) ∧ rs.length * es ≤ cs.size ∧
      (∀ (i : Nat) (row : List AVal), rs[i]? = some row → row.length = es) ∧
      ∀ (i j : Nat) (row : List AVal) (v : AVal), rs[i]? = some row → row[j]? = some v → ∃ cv, cs[i * es + j]? = some cv ∧ VRel F w (inMap p ρ) v cv
  | .trows T p es rs => ∃ cs fr, w.heap[b]? = some (.cells cs T fr) ∧ (∀ o, o < cs.size → w.frozen? ⟨b, o, none⟩ = false) ∧ rs.length * es ≤ cs.size ∧
      (∀ (i : Nat) (row : List AVal), rs[i]? = some row → row.length = es) ∧
      ∀ (i j : Nat) (row : List AVal) (v : AVal), rs[i]? = some row → row[j]? = some v → ∃ cv, cs[i * es + j]? = some cv ∧ VRel F w (inMap p ρ) v cv
  | .mp p ents => ∃ es clock, w.heap[b]? = some (.map es clock) ∧ es.size = ents.length ∧ BRL (bornL es) clock ∧
      ∀ (i : Nat) (k v : AVal), ents[i]? = some (k, v) → ∃ e, es[i]? = some e ∧ VRel F w (inMap p ρ) k e.key ∧ VRel F w (inMap p ρ) v e.val
  | .mpn p ents bs c => ∃ es, w.heap[b]? = some (.map es c) ∧ es.size = ents.length ∧ (BRL (bornL es) c ∧ bornL es = bs) ∧
      ∀ (i : Nat) (k v : AVal), ents[i]? = some (k, v) → ∃ e, es[i]? = some e ∧ VRel F w (inMap p ρ) k e.key ∧ VRel F w (inMap p ρ) v e.val
  | .bag es rs0 => ∃ rs : List (List AVal), rs.Perm rs0 ∧ ∃ cs T fr, w.heap[b]? = some (.cells cs T fr) ∧ (∀ o, o < cs.size → w.frozen? ⟨b, o, none⟩ = false) ∧ rs.length * es ≤ cs.size ∧
      (∀ (i : Nat) (row : List AVal), rs[i]? = some row → row.length = es) ∧
      ∀ (i j : Nat) (row : List AVal) (v : AVal), rs[i]? = some row → row[j]? = some v → ∃ cv, cs[i * es + j]? = some cv ∧ VRel F w noId v cv
  | .siter rest => ∃ s pos n, w.heap[b]? = some (.stringIter s pos) ∧ rest = runesF s n pos ∧ s.size ≤ pos + n
  | .miter none since seen last => w.heap[b]? = some (.mapIter none since seen.toArray last)
  | .miter (some id) since seen last => ∃ m, ρ id = some m ∧ w.heap[b]? = some (.mapIter (some m) since seen.toArray last)
  | .gh T => G b T
  | .mq pre own post => (∀ e ∈ pre ++ post, idsIn [] e.1 = true ∧ idsIn [] e.2 = true) ∧ ∃ es clock, w.heap[b]? = some (.map es clock) ∧ es.size = (pre ++ own ++ post).length ∧ BRL (bornL es) clock ∧
      ∀ (i : Nat) (k v : AVal), (pre ++ own ++ post)[i]? = some (k, v) → ∃ e, es[i]? = some e ∧ VRel F w ρ k e.key ∧ VRel F w ρ v e.val

def Live0 (ρ : RMap) (σ : AState) (b : Nat) : Prop := ∃ id o, σ[id]? = some o ∧ o.live = true ∧ ρ id = some b
structure Rel0 (ρ : RMap) (F : FS) (σ : AState) (w : World) : Prop where
  obj : ∀ id o b, σ[id]? = some o → ρ id = some b → ORelG (fun _ _ => False) F w ρ b o
  inj : ∀ id id' o o' b, σ[id]? = some o → σ[id']? = some o' → o.live = true → o'.live = true → ρ id = some b → ρ id' = some b → id = id'
  lt : ∀ id b, ρ id = some b → b < w.heap.size
  dom : ∀ id, σ.length ≤ id → ρ id = none
def GhR (F : FS) (w : World) (b : Nat) (T : AState) : Prop :=
  ∃ ρ, Rel0 ρ F T w ∧ ρ 0 = some b ∧ (∀ x, Live0 ρ T x → x = b ∨ F.own b x) ∧ (∀ x, F.own b x → x < w.heap.size) ∧ (∃ o, T[0]? = some o ∧ o.live = true)
def ORel (F : FS) (w : World) (ρ : RMap) (b : Nat) (o : AObj) : Prop := ORelG (GhR F w) F w ρ b o

def Own (F : FS) (ρ : RMap) (id : Nat) (o : AObj) (x : Nat) : Prop := ρ id = some x ∨ (o.isGh = true ∧ ∃ b, ρ id = some b ∧ F.own b x)
def Live (F : FS) (ρ : RMap) (σ : AState) (b : Nat) : Prop := ∃ id o, σ[id]? = some o ∧ o.live = true ∧ Own F ρ id o b

structure Rel (ρ : RMap) (F : FS) (σ : AState) (w : World) : Prop where
  obj : ∀ id o b, σ[id]? = some o → ρ id = some b → ORel F w ρ b o
  injO : ∀ id id' o o' b, σ[id]? = some o → σ[id']? = some o' → o.live = true → o'.live = true → Own F ρ id o b → Own F ρ id' o' b → id = id'
  fr : ∀ b, F b → b < w.heap.size ∧ ¬ Live F ρ σ b
  lt : ∀ id b, ρ id = some b → b < w.heap.size
  dom : ∀ id, σ.length ≤ id → ρ id = none

theorem Rel.inj {ρ : RMap} {F : FS} {σ : AState} {w : World} (r : Rel ρ F σ w) : ∀ id id' o o' b, σ[id]? = some o → σ[id']? = some o' → o.live = true → o'.live = true → ρ id = some b → ρ id' = some b → id = id' :=
  fun _ _ _ _ _ h1 h2 h3 h4 h5 h6 => r.injO _ _ _ _ _ h1 h2 h3 h4 (.inl h5) (.inl h6)
theorem Own.root {F : FS} {ρ : RMap} {id x : Nat} {o : AObj} (h : Own F ρ id o x) (hg : o.isGh = false) : ρ id = some x := by
  rcases h with h | ⟨h, _⟩
  · exact h
  · rw [hg] at h; cases h

theorem AObj.isGh_live {o : AObj} (h : o.isGh = true) : o.live = true := by cases o <;> first | rfl | cases h
theorem Rel.ownLt {ρ : RMap} {F : FS} {σ : AState} {w : World} (r : Rel ρ F σ w) {x y : Nat} {o : AObj} (h : σ[x]? = some o) (hg : o.isGh = true) (hy : ρ x = some y) : ∀ z, F.own y z → z < w.heap.size := by
  obtain ⟨T, rfl⟩ : ∃ T, o = .gh T := by cases o <;> first | exact ⟨_, rfl⟩ | cases hg
  obtain ⟨_, _, _, _, h4, _⟩ := r.obj _ _ _ h hy
  exact h4
theorem Rel.ownNe {ρ : RMap} {F : FS} {σ : AState} {w : World} (r : Rel ρ F σ w) {x y id b : Nat} {o o0 : AObj} (h : σ[x]? = some o) (hg : o.isGh = true) (hy : ρ x = some y) (hid : σ[id]? = some o0) (hl : o0.live = true) (hρ : ρ id = some b) (hne : x ≠ id) : ∀ z, F.own y z → z ≠ b := fun z hz e => by
  subst e
  exact hne (r.injO _ _ _ _ _ h hid (AObj.isGh_live hg) hl (.inr ⟨hg, y, hy, hz⟩) (.inl hρ))

theorem Own.to {F F' : FS} {ρ ρ' : RMap} {id x : Nat} {o : AObj} (h : Own F ρ id o x) (hm : ∀ y, ρ id = some y → ρ' id = some y) (ho : o.isGh = true → ∀ b, ρ id = some b → F.own b x → F'.own b x := by intros; assumption) : Own F' ρ' id o x := by
  rcases h with h | ⟨hg, b, h1, h2⟩
  · exact .inl (hm _ h)
  · exact .inr ⟨hg, b, hm _ h1, ho hg b h1 h2⟩
theorem Rel.ownB {ρ : RMap} {F : FS} {σ : AState} {w : World} (r : Rel ρ F σ w) {id x : Nat} {o : AObj} (h : σ[id]? = some o) (hw : Own F ρ id o x) : x < w.heap.size := by
  rcases hw with h1 | ⟨hg, b, h1, h2⟩
  · exact r.lt _ _ h1
  · exact r.ownLt h hg h1 x h2

structure GTr (σ σ' : AState) (ρ ρ' : RMap) (F F' : FS) (w : World) : Prop where
  keepO : ∀ b, b < w.heap.size → ¬ Live F ρ σ b → ∀ x, F'.own b x ↔ F.own b x
  newO : ∀ id o' b x, σ'[id]? = some o' → o'.isGh = true → ρ' id = some b → F'.own b x → Live F ρ σ x ∨ w.heap.size ≤ x
theorem GTr.same {σ σ' : AState} {ρ ρ' : RMap} {F F' : FS} {w : World} (h : F'.own = F.own) (hb : ∀ id o' b, σ'[id]? = some o' → o'.isGh = true → ρ' id = some b → ∃ id0, σ[id0]? = some o' ∧ ρ id0 = some b) : GTr σ σ' ρ ρ' F F' w :=
  ⟨fun b _ _ x => by rw [h], fun id o' b x h1 h2 h3 h4 => by
    obtain ⟨id0, g1, g2⟩ := hb id o' b h1 h2 h3
    rw [h] at h4
    exact .inl ⟨id0, o', g1, AObj.isGh_live h2, .inr ⟨h2, b, g2, h4⟩⟩⟩
structure Tr (σ σ' : AState) (ρ ρ' : RMap) (F F' : FS) (w w' : World) : Prop where
  map : ∀ id b, ρ id = some b → ρ' id = some b
  frz : ∀ b, F b → F' b
  os : w'.os = w.os
  tape : w'.tape = w.tape
  output : w'.output = w.output
  size : w.heap.size ≤ w'.heap.size
  row : ∀ (b : Nat) (cs : Array Value) (T : TypeId) (fr : Nat × Nat), w.heap[b]? = some (.cells cs T fr) → ∃ cs' fr', w'.heap[b]? = some (.cells cs' T fr') ∧ cs'.size = cs.size
  keep : ∀ b, b < w.heap.size → ¬ Live F ρ σ b → w'.heap[b]? = w.heap[b]?
  newF : ∀ b, F' b → F b ∨ w.heap.size ≤ b ∨ Live F ρ σ b
  newρ : ∀ id b, ρ' id = some b → ρ id = some b ∨ (σ.length ≤ id ∧ (w.heap.size ≤ b ∨ Live F ρ σ b))
  len : σ.length ≤ σ'.length
  live : ∀ id o', σ'[id]? = some o' → o'.live = true → id < σ.length → ∃ o, σ[id]? = some o ∧ o.live = true
  gho : GTr σ σ' ρ ρ' F F' w

theorem Tr.refl (σ : AState) (ρ : RMap) (F : FS) (w : World) : Tr σ σ ρ ρ F F w w :=
  ⟨fun _ _ h => h, fun _ h => h, rfl, rfl, rfl, Nat.le_refl _, fun _ cs _ _ h => ⟨cs, _, h, rfl⟩, fun _ _ _ => rfl, fun _ h => .inl h, fun _ _ h => .inl h, Nat.le_refl _, fun _ o h1 h2 _ => ⟨o, h1, h2⟩, .same rfl fun id o' b h1 _ h3 => ⟨id, h1, h3⟩⟩

theorem Tr.liveD {σ σ' : AState} {ρ ρ' : RMap} {F F' : FS} {w w' : World} (t : Tr σ σ' ρ ρ' F F' w w') (hd : ∀ id, σ.length ≤ id → ρ id = none) {b : Nat} (h : Live F' ρ' σ' b) : Live F ρ σ b ∨ w.heap.size ≤ b := by
  obtain ⟨id, o, h1, h2, h3⟩ := h
  rcases h3 with h3 | ⟨hg, y, h3, h3'⟩
  case inr => exact t.gho.newO _ _ _ _ h1 hg h3 h3'
  rcases t.newρ _ _ h3 with h4 | ⟨h4, h5⟩
  · have hlt : id < σ.length := by
      rcases Nat.lt_or_ge id σ.length with h | h
      · exact h
      · rw [hd _ h] at h4; cases h4
    obtain ⟨o', h6, h7⟩ := t.live _ _ h1 h2 hlt
    exact .inl ⟨id, o', h6, h7, .inl h4⟩
  · rcases h5 with h5 | h5
    · exact .inr h5
    · exact .inl h5

theorem Tr.live' {σ σ' : AState} {ρ ρ' : RMap} {F F' : FS} {w w' : World} (t : Tr σ σ' ρ ρ' F F' w w') (r : Rel ρ F σ w) {b : Nat} (h : Live F' ρ' σ' b) : Live F ρ σ b ∨ w.heap.size ≤ b := t.liveD r.dom h

theorem Tr.trans {σ σ1 σ2 : AState} {ρ ρ1 ρ2 : RMap} {F F1 F2 : FS} {w w1 w2 : World} (r : Rel ρ F σ w) (a : Tr σ σ1 ρ ρ1 F F1 w w1) (b : Tr σ1 σ2 ρ1 ρ2 F1 F2 w1 w2) :
    Tr σ σ2 ρ ρ2 F F2 w w2 := by
  refine ⟨fun id x h => b.map _ _ (a.map _ _ h), fun x h => b.frz _ (a.frz _ h), b.os.trans a.os, b.tape.trans a.tape, b.output.trans a.output, Nat.le_trans a.size b.size, ?_, ?_, ?_, ?_, Nat.le_trans a.len b.len, ?_, ?_, ?_⟩
  · intro x cs T fr h
    obtain ⟨cs1, fr1, h1, h2⟩ := a.row _ _ _ _ h
    obtain ⟨cs2, fr2, h3, h4⟩ := b.row _ _ _ _ h1
    exact ⟨cs2, fr2, h3, h4.trans h2⟩
  · intro x hx hn
    rw [b.keep x (Nat.lt_of_lt_of_le hx a.size) (fun hl => (a.live' r hl).elim hn (fun h => absurd hx (Nat.not_lt.2 h))), a.keep x hx hn]
  · intro x hx
    rcases b.newF x hx with h | h | h
    · exact a.newF x h
    · exact .inr (.inl (Nat.le_trans a.size h))
    · exact (a.live' r h).elim (fun h => .inr (.inr h)) (fun h => .inr (.inl h))
  · intro id x hx
    rcases b.newρ id x hx with h | ⟨h1, h2⟩
    · exact a.newρ id x h
    · refine .inr ⟨Nat.le_trans a.len h1, ?_⟩
      rcases h2 with h | h
      · exact .inl (Nat.le_trans a.size h)
      · exact (a.live' r h).elim .inr .inl
  · intro id o' h1 h2 h3
    obtain ⟨o, h4, h5⟩ := b.live id o' h1 h2 (Nat.lt_of_lt_of_le h3 a.len)
    exact a.live id o h4 h5 h3
  · intro x h1 h2 y
    rw [b.gho.keepO x (Nat.lt_of_lt_of_le h1 a.size) (fun hl => (a.live' r hl).elim h2 (fun h => absurd h1 (Nat.not_lt.2 h))) y, a.gho.keepO x h1 h2 y]
  · intro id o' y x h1 h2 h3 h4
    rcases b.gho.newO id o' y x h1 h2 h3 h4 with h | h
    · exact a.live' r h
    · exact .inr (Nat.le_trans a.size h)

theorem Rel.frz {ρ : RMap} {F : FS} {σ : AState} {w : World} (r : Rel ρ F σ w) {σ' : AState} {ρ' : RMap} {F' : FS} {w' : World} (t : Tr σ σ' ρ ρ' F F' w w') :
    ∀ b, F b → F' b ∧ w'.heap[b]? = w.heap[b]? := fun b h => ⟨t.frz b h, t.keep b (r.fr b h).1 (r.fr b h).2⟩

theorem VRel.tr {ρ ρ' : RMap} {F F' : FS} {σ σ' : AState} {w w' : World} {v : AVal} {c : Value} (h : VRel F w ρ v c) (r : Rel ρ F σ w) (t : Tr σ σ' ρ ρ' F F' w w') : VRel F' w' ρ' v c :=
  h.mono (r.frz t) t.row t.map
theorem VRel.tr0 {ρ ρ' : RMap} {F F' : FS} {σ σ' : AState} {w w' : World} {v : AVal} {c : Value} (h : VRel F w noId v c) (r : Rel ρ F σ w) (t : Tr σ σ' ρ ρ' F F' w w') : VRel F' w' noId v c :=
  h.mono (r.frz t) t.row (fun _ _ h => h)

variable [Glob]
def GOk (F : FS) (w : World) : Prop := ∀ g v, Glob.val g = some v → VRel F w noId v (.pointer (some ⟨g, 0, none⟩))
theorem GOk.tr {ρ ρ' : RMap} {F F' : FS} {σ σ' : AState} {w w' : World} (h : GOk F w) (r : Rel ρ F σ w) (t : Tr σ σ' ρ ρ' F F' w w') : GOk F' w' := fun g v e => (h g v e).tr0 r t
structure ARel (F : FS) (w : World) (ρ : RMap) (rg : Regs) (a : Act) : Prop where
  size : rg.length = a.tmps.size
  val : ∀ (i : Nat) (v : AVal) (u : Value), rg[i]? = some v → a.tmps[i]? = some u → VRel F w ρ v u
  defers : a.defers = Glob.ds
  glob : GOk F w

theorem ARel.tr {ρ ρ' : RMap} {F F' : FS} {σ σ' : AState} {w w' : World} {rg : Regs} {a : Act} (h : ARel F w ρ rg a) (r : Rel ρ F σ w) (t : Tr σ σ' ρ ρ' F F' w w') : ARel F' w' ρ' rg a :=
  ⟨h.size, fun i v u h1 h2 => (h.val i v u h1 h2).tr r t, h.defers, h.glob.tr r t⟩

theorem ARel.put {F : FS} {w : World} {ρ : RMap} {rg : Regs} {a : Act} (h : ARel F w ρ rg a) (dst : Option Tmp) {v : AVal} {u : Value} (hv : VRel F w ρ v u) : ARel F w ρ (rput rg dst v) (a.put dst u) := by
  cases dst with
  | none => exact h
  | some d =>
    refine ⟨by simp [rput, Act.put, h.size], ?_, h.defers, h.glob⟩
    intro i x y h1 h2
    simp only [rput, Act.put] at h1 h2
    rw [List.getElem?_set] at h1
    rw [Array.getElem?_setIfInBounds] at h2
    by_cases hd : d = i
    · subst hd
      simp only [if_true] at h1 h2
      split at h1
      · split at h2
        · cases h1; cases h2; exact hv
        · cases h2
      · cases h1
    · simp only [hd, if_false] at h1 h2
      exact h.val i x y h1 h2

omit [Glob] in
theorem abs1_ok (F : FS) (w : World) (ρ : RMap) (v : Value) : VRel F w ρ (abs1 v) v := by
  unfold abs1
  split <;> first | exact .tt _ _ | exact .int _ _ _ | exact .str _ _ | exact .nilp _ | exact .fnil _ _ _ (by intro k h; cases h; rfl) | exact .nilm _ | exact .nilf _ | exact .nili _ | exact .any _ _
omit [Glob] in
theorem abs0_ok (F : FS) (w : World) (ρ : RMap) (v : Value) : VRel F w ρ (abs0 v) v := by
  unfold abs0
  split
  · rename_i cs
    refine .agg _ _ _ (by simp) fun i x u h1 h2 => ?_
    rw [List.getElem?_map, Array.getElem?_toList, h2] at h1
    cases h1
    exact abs1_ok _ _ _ _
  · exact abs1_ok _ _ _ _

theorem aev_ok {F : FS} {w : World} {ρ : RMap} {rg : Regs} {a : Act} (h : ARel F w ρ rg a) (x : Operand) : VRel F w ρ (aev rg x) (a.eval x) := by
  cases x with
  | tmp t =>
    simp only [aev, Act.eval]
    by_cases ht : t < rg.length
    · have h1 : rg[t]? = some rg[t] := List.getElem?_eq_getElem ht
      have h2 : a.tmps[t]? = some (a.tmps[t]'(by rw [← h.size]; exact ht)) := Array.getElem?_eq_getElem _
      rw [List.getD_eq_getElem?_getD, h1, Array.getD_eq_getD_getElem?, h2]
      exact h.val t _ _ h1 h2
    · rw [List.getD_eq_getElem?_getD, List.getElem?_eq_none (Nat.not_lt.1 ht)]
      exact .any _ _
  | const v => exact abs0_ok _ _ _ _
  | global g =>
    simp only [aev, Act.eval]
    cases hg : Glob.val g with
    | none => exact .any _ _
    | some v => exact (h.glob g v hg).pure
  | func f => exact .func _ _ _ _ rfl fun i v u h _ => by simp at h

end Go.Abs
end
