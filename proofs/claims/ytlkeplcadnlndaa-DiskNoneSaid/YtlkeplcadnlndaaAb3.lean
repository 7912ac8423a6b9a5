/- The abstract machine: the operations on memory. -/
import Derived.Test.YtlkeplcadnlndaaAb2
set_option autoImplicit false
set_option linter.unusedSimpArgs false
set_option linter.unusedVariables false
namespace Go.Ab

/-- Cells of a row, or of memory at rest. -/
def cellsAt (h : Heap) (x : AV) (n : Nat) : Option (List AV) :=
  match x with
  | .ptr id o =>
    match h.get id with
    | some (.row cells _ _ _) => if o + n ≤ cells.length then some ((cells.drop o).take n) else none
    | _ => none
  | .iptr cells o => if o + n ≤ cells.length then some ((cells.drop o).take n) else none
  | _ => none

def loadA (T : Types) (h : Heap) (t : TypeId) (x : AV) : Option AV :=
  match T.get t with
  | none => none
  | some i =>
    if isAgg i.kind then (cellsAt h x i.size).map .agg
    else match cellsAt h x 1 with
      | some [v] => some v
      | _ => none

/-- Cells written into a row that is written still; rows that may lie in the same memory are given up. -/
def putCells (h : Heap) (id o : Nat) (vs : List AV) : Option Heap :=
  match h.get id with
  | some (.row cells ext false anc) =>
    if o + vs.length ≤ cells.length then some ((h.kill anc).put id (.row (setFrom cells o vs) ext false [])) else none
  | _ => none

def storeA (T : Types) (h : Heap) (t : TypeId) (x v : AV) : Option Heap :=
  match T.get t, x with
  | some i, .ptr id o => if v.cells.length = i.size ∧ v.notTup = true then putCells h id o v.cells else none
  | _, _ => none

/-- A zero element, n times. -/
def zeros (z : List AV) : Nat → List AV
  | 0 => []
  | n + 1 => z ++ zeros z n

def makeSliceA (T : Types) (t : TypeId) (n c : AV) : Option (AObj × (Nat → AV)) :=
  match T.get t, n, c with
  | some ⟨.slice e, _, _, _, _⟩, .int .i64 n, .int .i64 c =>
    (T.get e).bind fun ei =>
      if 0 ≤ n ∧ n ≤ c ∧ c * ei.bytes ≤ 281474976710656 ∧ c ≤ 4294967296 ∧ ei.zero.length = ei.size ∧ ei.zero.all AV.leaf = true then
        some (.row (zeros ei.zero c.toNat) none false [], fun id => .sl id 0 n.toNat (some c.toNat)) else none
  | _, _, _ => none

def buildSliceA (T : Types) (t : TypeId) (n : Nat) (parts : List (Nat × AV)) : Option (AObj × (Nat → AV)) :=
  match T.get t with
  | some ⟨.slice e, _, _, _, _⟩ =>
    (T.get e).bind fun ei =>
      if n * ei.size ≤ 16777216 ∧ ei.zero.length = ei.size ∧ ei.zero.all AV.leaf = true then
        (fillA (fun i => some (i * ei.size, ei.size)) (zeros ei.zero n) parts).map fun cells => (.row cells none false [], fun id => .sl id 0 n (some n))
      else none
  | _ => none

/-- What a new variable is. -/
def boxA (T : Types) (t : TypeId) (v : AV) : Option (AObj × (Nat → AV)) :=
  match T.get t with
  | some i => if v.cells.length = i.size ∧ v.notTup = true then some (.row v.cells none false [], fun id => .ptr id 0) else none
  | none => none

def allocA (T : Types) (t : TypeId) : Option (AObj × (Nat → AV)) :=
  match T.get t with
  | some i => if i.zero.all AV.leaf then some (.row i.zero none false [], fun id => .ptr id 0) else none
  | none => none

def makeMapA : AObj × (Nat → AV) := (.map [] [] 0, fun id => .map id)

/-! ### Maps -/
def sameKey : TK → AV → AV → Option Bool
  | .int _, .int k a, .int l b => if k = l then some (decide (a = b)) else none
  | .str, .str a, .str b => some (decide (a = b))
  | .bool, .bool a, .bool b => some (a == b)
  | _, _, _ => none

def findKeyA (k : TK) (x : AV) : List (AV × AV) → Nat → Option (Option (Nat × AV))
  | [], _ => some none
  | (y, v) :: es, i =>
    match sameKey k x y with
    | some true => some (some (i, v))
    | some false => findKeyA k x es (i + 1)
    | none => none

def plainKey : TK → Bool
  | .int _ | .str | .bool => true
  | _ => false

/-- Of what kind a plain key is. -/
def fitsKey : TK → AV → Bool
  | .int k, .int l _ => decide (k = l)
  | .str, .str _ => true
  | .bool, .bool _ => true
  | _, _ => false

def entriesOf (h : Heap) (m : AV) : Option (List (AV × AV)) :=
  match m with
  | .mnil => some []
  | .map id => match h.get id with
    | some (.map es _ _) => some es
    | _ => none
  | _ => none

def zeroOf (i : TI) : Option AV := if isAgg i.kind then some (.agg i.zero) else match i.zero with | [v] => some v | _ => none

def lookupA (T : Types) (h : Heap) (t : TypeId) (m k : AV) (ok : Bool) : Option AV :=
  match T.get t with
  | some ⟨.map kt et, _, _, _, _⟩ =>
    (T.get kt).bind fun ki => (T.get et).bind fun ei =>
    if fitsKey ki.kind k then
      (entriesOf h m).bind fun es =>
      match findKeyA ki.kind k es 0 with
      | none => none
      | some r =>
        match r with
        | some (_, v) => some (if ok then .tup [v, .bool true] else v)
        | none => (zeroOf ei).map fun z => if ok then .tup [z, .bool false] else z
    else none
  | _ => none

def setVal (k v : AV) : List (AV × AV) → Nat → List (AV × AV)
  | [], _ => []
  | _ :: es, 0 => (k, v) :: es
  | e :: es, i + 1 => e :: setVal k v es i

def mapUpdateA (T : Types) (h : Heap) (t : TypeId) (m k v : AV) : Option Heap :=
  match T.get t, m with
  | some ⟨.map kt _, _, _, _, _⟩, .map id =>
    (T.get kt).bind fun ki =>
    if fitsKey ki.kind k then
      match h.get id with
      | some (.map es bs ck) =>
        match findKeyA ki.kind k es 0 with
        | none => none
        | some (some (i, _)) => some (h.put id (.map (setVal k v es i) bs ck))
        | some none => some (h.put id (.map (es ++ [(k, v)]) (bs ++ [ck]) (ck + 1)))
      | _ => none
    else none
  | _, _ => none

def deleteA (T : Types) (h : Heap) (t : TypeId) (m k : AV) : Option Heap :=
  match T.get t with
  | some ⟨.map kt _, _, _, _, _⟩ =>
    (T.get kt).bind fun ki =>
    if fitsKey ki.kind k then
      match m with
      | .mnil => some h
      | .map id =>
        match h.get id with
        | some (.map es bs ck) =>
          match findKeyA ki.kind k es 0 with
          | none => none
          | some (some (i, _)) => some (h.put id (.map (es.eraseIdx i) (bs.eraseIdx i) ck))
          | some none => some h
        | _ => none
      | _ => none
    else none
  | _ => none

/-! ### append, copy, clear, conversions -/

/-- The elements of what is appended or copied. -/
def elemsOf (h : Heap) (size : Nat) (x : AV) (n : Nat) : Option (List AV) :=
  match x with
  | .snil => if n = 0 then some [] else none
  | .sl id o len _ => if n ≤ len then (if n * size = 0 then some [] else cellsAt h (.ptr id o) (n * size)) else none
  | .isl c len _ => if n ≤ len then (if n * size ≤ c.length then some (c.take (n * size)) else none) else none
  | .str s => if size = 1 ∧ n ≤ s.length then some ((s.take n).map fun (b : Nat) => .int .u8 b) else none
  | _ => none

def lenA : AV → Option Nat
  | .snil => some 0
  | .sl _ _ n _ => some n
  | .isl _ n _ => some n
  | .str s => some s.length
  | _ => none

/-- append(s, x...): in place, in new memory, or who knows: the outcome is the same. -/
def appendA (T : Types) (h : Heap) (t : TypeId) (s x : AV) : Option (AV × Heap) :=
  match T.get t with
  | some ⟨.slice e, _, _, _, _⟩ =>
    (T.get e).bind fun ei =>
    (lenA x).bind fun n =>
    (elemsOf h ei.size x n).bind fun new =>
    (lenA s).bind fun len =>
    if (len + n) * ei.bytes ≤ 274877906944 ∧ len + n ≤ 4294967296 ∧ ei.zero.length = ei.size ∧ ei.size ≠ 0 then
      match s with
      | .snil => if n = 0 then some (.snil, h) else some (.sl h.next 0 n none, h.new (.row new (some ei.size) false []))
      | .isl c len (some cap) =>
        if len + n ≤ cap then (if n = 0 then some (s, h) else none) else
        if len * ei.size ≤ c.length then some (.sl h.next 0 (len + n) none, h.new (.row (c.take (len * ei.size) ++ new) (some ei.size) false [])) else none
      | .sl id o len (some cap) =>
        if len + n ≤ cap then
          if n = 0 then some (s, h) else
          (putCells h id (o + len * ei.size) new).map fun h' => (.sl id o (len + n) (some cap), h')
        else
          (elemsOf h ei.size s len).map fun old => (.sl h.next 0 (len + n) none, h.new (.row (old ++ new) (some ei.size) false []))
      | .sl id o len none =>
        if n = 0 then some (s, h) else
        match h.get id with
        | some (.row cells (some z) false anc) =>
          if z = ei.size then
          let old := (cells.drop o).take (len * ei.size)
          if o + len * ei.size = cells.length then
            some (.sl h.next 0 (len + n) none, (h.put id (.row cells (some z) true anc)).new (.row (old ++ new) (some ei.size) false (id :: anc)))
          else if o + (len + n) * ei.size ≤ cells.length then
            (putCells h id (o + len * ei.size) new).map fun h' => (.sl id o (len + n) none, h')
          else if o + len * ei.size < cells.length then
            some (.sl h.next 0 (len + n) none, ((h.kill anc).put id .dead).new (.row (old ++ new) (some ei.size) false []))
          else none
          else none
        | _ => none
      | _ => none
    else none
  | _ => none

def copyA (T : Types) (h : Heap) (t : TypeId) (d x : AV) : Option (AV × Heap) :=
  match T.get t with
  | some ⟨.slice e, _, _, _, _⟩ =>
    (T.get e).bind fun ei =>
    (lenA x).bind fun n =>
    (lenA d).bind fun m =>
    let k := min n m
    (elemsOf h ei.size x k).bind fun new =>
    if k * ei.size = 0 then (match d with | .str _ => none | _ => some (.int .i64 k, h)) else
    match d with
    | .sl id o _ _ => (putCells h id o new).map fun h' => (.int .i64 k, h')
    | _ => none
  | _ => none

def clearA (T : Types) (h : Heap) (t : TypeId) (x : AV) : Option Heap :=
  match T.get t with
  | some ⟨.slice e, _, _, _, _⟩ =>
    (T.get e).bind fun ei =>
    match x with
    | .snil => some h
    | .sl id o n _ => if n = 0 then some h else if ei.zero.all AV.leaf then putCells h id o (zeros ei.zero n) else none
    | .isl _ n _ => if n = 0 then some h else none
    | _ => none
  | _ => none

def toBytes (l : List AV) : Option (List Nat) :=
  l.mapM fun
    | .int .u8 n => if 0 ≤ n ∧ n ≤ 255 then some n.toNat else none
    | _ => none

/-- string(b) -/
def bytesToStr (h : Heap) (x : AV) : Option AV :=
  (lenA x).bind fun n => (elemsOf h 1 x n).bind fun l => (toBytes l).map .str

/-- []byte(s) -/
def strToBytes (h : Heap) (s : List Nat) : Option (AV × Heap) :=
  if s.length ≤ 4294967296 then some (.sl h.next 0 s.length none, h.new (.row (s.map fun (b : Nat) => .int .u8 b) (some 1) false [])) else none

/-- len(x) -/
def lenOfA (T : Types) (h : Heap) (t : TypeId) (x : AV) : Option AV :=
  match T.get t with
  | some ⟨.str, _, _, _, _⟩ => match x with | .str s => some (.int .i64 s.length) | _ => none
  | some ⟨.slice _, _, _, _, _⟩ => match x with
    | .snil => some (.int .i64 0)
    | .sl _ _ n _ => some (.int .i64 n)
    | .isl _ n _ => some (.int .i64 n)
    | _ => none
  | some ⟨.arr n _, _, _, _, _⟩ => some (.int .i64 n)
  | some ⟨.map _ _, _, _, _, _⟩ => (entriesOf h x).map fun es => .int .i64 es.length
  | _ => none

def maxA : AV → AV → Option AV
  | .int k x, .int _ y => some (.int k (if y > x then y else x))
  | _, _ => none
def minA : AV → AV → Option AV
  | .int k x, .int _ y => some (.int k (if y < x then y else x))
  | _, _ => none

end Go.Ab
