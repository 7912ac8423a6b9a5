/- Regions that draw their order: one order tells all. -/
import Derived.Test.YtlkeplcadnlndaaAb20
import Derived.Orders
set_option autoImplicit false
set_option linter.unusedSimpArgs false
set_option linter.unusedVariables false
namespace Go.Ab
open Go.RowKit (Below)

/-- Does an operation's answer hang on memory? -/
def readsOp : Op → Bool
  | .load _ _ | .lookup _ _ _ _ | .slice _ _ _ _ _ | .convert _ _ _ => true
  | .call ⟨.builtin .len, _, _⟩ => true
  | _ => false

def heavy (T : Types) (o : Oper) : Bool :=
  match cls T o.op with
  | .pure => false
  | _ => true

/-- What goes ahead of each operation, as numbers of bits. -/
def maskOf (acc : List Nat) (o : Oper) : Nat :=
  o.after.toList.foldl (fun s e => if Region.binds .any e then s ||| 2 ^ e.on ||| acc.getD e.on 0 else s) 0

def masksFrom : List Nat → List Oper → List Nat
  | acc, [] => acc
  | acc, o :: l => masksFrom (acc ++ [maskOf acc o]) l

def masks (ops : List Oper) : List Nat := masksFrom [] ops

def ahead (ms : List Nat) (i j : Nat) : Bool := (ms.getD j 0).testBit i

/-- The temporaries that an operation looks at. -/
def looks (ops : List Oper) (o : Oper) : List Tmp :=
  (o.op.operands.toList.filterMap fun | .tmp t => some t | _ => none) ++
  (match o.guard with
   | some (g, _) => (dstOf ops g).toList
   | none => [])

/-- What the order of the text must meet so that it tells every order. -/
def drawOk (T : Types) (ops : List Oper) : Bool :=
  let ms := masks ops
  let ix := ops.zipIdx
  ix.all fun (o, i) =>
    (o.after.toList.all fun e => !Region.binds .any e || Nat.blt e.on i) &&
    (match o.op with | .select _ _ => false | _ => true) &&
    (match o.guard with
      | none => true
      | some (g, _) => match dstOf ops g with | none => false | some _ => ahead ms g i) &&
    ix.all fun (p, j) =>
      (Nat.beq i j || (match o.dst, p.dst with | some a, some b => !Nat.beq a b | _, _ => true)) &&
      (!(heavy T o && heavy T p && Nat.blt i j) || ahead ms i j) &&
      (match p.dst with
        | none => true
        | some t => !((looks ops o).any (Nat.beq t)) || Nat.beq i j && !((looks ops o).any (Nat.beq t)) || ahead ms j i || ahead ms i j)

/-- A step of the text's order: the frame and the memory ahead of it, whether it ran. -/
structure Mom where
  fr : Fr
  h : Heap
  ran : Bool

def optBeq : Option AV → Option AV → Bool
  | some a, some b => AV.beq a b
  | _, _ => false

/-- May operation i be met while memory is as it was ahead of place p (p: behind a heavy one, or 0)? -/
def mayMeet (T : Types) (ops : List Oper) (ms : List Nat) (i p : Nat) : Bool :=
  (Nat.beq p 0 || (match ops[p - 1]? with | some o => heavy T o | none => false)) &&
  ops.zipIdx.all fun (o, e) => !heavy T o || ((!ahead ms e i || Nat.blt e p) && (!Nat.blt e p || !ahead ms i e))

/-- Memory hangs behind the place 'p' as it did ahead of operation i. -/
def hangsAt (T : Types) (ops : List Oper) (ms : List Nat) (tr : List Mom) (last : Heap) : Bool :=
  ops.zipIdx.all fun (o, i) =>
    heavy T o || !readsOp o.op || match tr[i]? with
      | none => false
      | some m => !m.ran || (List.range (ops.length + 1)).all fun p =>
        !mayMeet T ops ms i p || Nat.beq p i || optBeq (evPure T (((tr[p]?).map Mom.h).getD last) m.fr o.op) (evPure T m.h m.fr o.op)

/-- The operations in the text's order, with what is met on the way ('tr' runs backwards). -/
def evTr {R : Type} (T : Types) (Φ : List (Nat × AFn)) (all : List Oper) (K : List Mom → Fr → Heap → Option R) : List Oper → List Mom → Fr → Heap → Option R
  | [], tr, fr, h => K tr fr h
  | o :: rest, tr, fr, h =>
    match o.guard with
    | none => evOne T Φ h fr o.op fun v h' => evTr T Φ all K rest (⟨fr, h, true⟩ :: tr) (putA fr o.dst v) h'
    | some (j, want) =>
      match dstOf all j with
      | none => none
      | some d =>
        match (fr[d]?).join with
        | none => none
        | some v =>
          gcase v
            (if want then evOne T Φ h (fr.set d (some (.bool true))) o.op fun v h' => evTr T Φ all K rest (⟨fr.set d (some (.bool true)), h, true⟩ :: tr) (putA (fr.set d (some (.bool true))) o.dst v) h'
             else evTr T Φ all K rest (⟨fr.set d (some (.bool true)), h, false⟩ :: tr) (putA (fr.set d (some (.bool true))) o.dst .undef) h)
            (if want then evTr T Φ all K rest (⟨fr.set d (some (.bool false)), h, false⟩ :: tr) (putA (fr.set d (some (.bool false))) o.dst .undef) h
             else evOne T Φ h (fr.set d (some (.bool false))) o.op fun v h' => evTr T Φ all K rest (⟨fr.set d (some (.bool false)), h, true⟩ :: tr) (putA (fr.set d (some (.bool false))) o.dst v) h')
            (evTr T Φ all K rest (⟨fr.set d (some .undef), h, false⟩ :: tr) (putA (fr.set d (some .undef)) o.dst .undef) h)

/-- Does a heavy operation lie from place a on, ahead of place b? -/
def heavyIn (T : Types) (ops : List Oper) (a b : Nat) : Bool := (List.range ops.length).any fun e => Nat.ble a e && Nat.blt e b && match ops[e]? with | some o => heavy T o | none => false

/-- The operations that may read memory of another place. -/
def floats (T : Types) (ops : List Oper) (ms : List Nat) : List (Nat × Nat) :=
  ops.zipIdx.flatMap fun (o, i) =>
    if heavy T o || !readsOp o.op then [] else
      ((List.range (ops.length + 1)).filter fun p => mayMeet T ops ms i p && (heavyIn T ops p i || heavyIn T ops i p)).map fun p => (i, p)

/-- Does what floats read the same? -/
def hangs2 (T : Types) (ops : List Oper) (tr : List Mom) (last : Heap) : Bool :=
  (floats T ops (masks ops)).all fun q =>
    match tr[q.1]?, ops[q.1]? with
    | some m, some o => !m.ran || optBeq (evPure T (((tr[q.2]?).map Mom.h).getD last) m.fr o.op) (evPure T m.h m.fr o.op)
    | _, _ => false

/-- A region that draws its order. -/
def evDraw {R : Type} (T : Types) (Φ : List (Nat × AFn)) (ops : List Oper) (K : Fr → Heap → Option R) (fr : Fr) (h : Heap) : Option R :=
  if drawOk T ops then
    evTr T Φ ops (fun tr fr' h' => if hangs2 T ops tr.reverse h' then K fr' h' else none) ops [] fr h
  else none

end Go.Ab
