/- The abstract machine: types, constants, the operations as plain functions. -/
import Derived.Test.YtlkeplcadnlndaaAb1
set_option autoImplicit false
set_option linter.unusedSimpArgs false
set_option linter.unusedVariables false
namespace Go.Ab

/-- What a type's number stands for: its shape. -/
inductive TK where
  | bool
  | int (k : IntKind)
  | str
  | ptr (e : TypeId)
  | slice (e : TypeId)
  | arr (n : Nat) (e : TypeId)
  | map (k e : TypeId)
  | struct (fs : List (Nat × TypeId))
  | func
  | iface
  | tuple
  deriving Inhabited, DecidableEq

structure TI where
  kind : TK
  size : Nat
  bytes : Nat
  zero : List AV
  /-- may two values be held against each other by their parts? -/
  eqOk : Bool
  deriving Inhabited

abbrev Types := PM TI

/-- A constant of the program, or a type's zero. -/
def ofConst : Nat → Value → Option AV
  | 0, _ => none
  | n + 1, v =>
    match v with
    | .bool b => some (.bool b)
    | .int k n => some (.int k n)
    | .string s => some (.str (s.data.toList.map UInt8.toNat))
    | .pointer none => some .pnil
    | .slice none 0 0 => some .snil
    | .map none => some .mnil
    | .nilFunc => some .fnil
    | .nilIface => some .inil
    | .agg cs => (cs.toList.mapM (ofConst n)).bind fun l => if l.all AV.leaf then some (.agg l) else none
    | .tuple vs => (vs.toList.mapM (ofConst n)).map .tup
    | _ => none

def isAgg : TK → Bool
  | .struct _ | .arr _ _ => true
  | _ => false

mutual
def AV.beq : AV → AV → Bool
  | .bool a, .bool b => a == b
  | .int k a, .int l b => decide (k = l) && decide (a = b)
  | .str a, .str b => decide (a = b)
  | .pnil, .pnil => true
  | .ptr i o, .ptr j p => Nat.beq i j && Nat.beq o p
  | .iptr c o, .iptr d p => AV.beqs c d && Nat.beq o p
  | .snil, .snil => true
  | .sl i o n c, .sl j p m d => Nat.beq i j && Nat.beq o p && Nat.beq n m && decide (c = d)
  | .isl a n c, .isl b m d => AV.beqs a b && Nat.beq n m && decide (c = d)
  | .mnil, .mnil => true
  | .map i, .map j => Nat.beq i j
  | .iter i, .iter j => Nat.beq i j
  | .fnil, .fnil => true
  | .fn f c, .fn g d => Nat.beq f g && AV.beqs c d
  | .inil, .inil => true
  | .ifc t v, .ifc u w => Nat.beq t u && AV.beq v w
  | .agg a, .agg b => AV.beqs a b
  | .tup a, .tup b => AV.beqs a b
  | _, _ => false
def AV.beqs : List AV → List AV → Bool
  | [], [] => true
  | a :: l, b :: m => AV.beq a b && AV.beqs l m
  | _, _ => false
end

mutual
theorem AV.eq_of_beq : ∀ a b : AV, AV.beq a b = true → a = b
  | .bool _, b, h => by cases b <;> simp_all [AV.beq]
  | .int _ _, b, h => by cases b <;> simp_all [AV.beq]
  | .str _, b, h => by cases b <;> simp_all [AV.beq]
  | .pnil, b, h => by cases b <;> simp_all [AV.beq]
  | .ptr _ _, b, h => by cases b <;> simp_all [AV.beq]
  | .iptr c _, b, h => by
    cases b <;> simp [AV.beq] at h
    rename_i d p
    rw [AV.eqs_of_beqs c d h.1, h.2]
  | .snil, b, h => by cases b <;> simp_all [AV.beq]
  | .sl _ _ _ _, b, h => by cases b <;> simp_all [AV.beq]
  | .isl c _ _, b, h => by
    cases b <;> simp [AV.beq] at h
    rename_i d p q
    rw [AV.eqs_of_beqs c d h.1.1, h.1.2, h.2]
  | .mnil, b, h => by cases b <;> simp_all [AV.beq]
  | .map _, b, h => by cases b <;> simp_all [AV.beq]
  | .iter _, b, h => by cases b <;> simp_all [AV.beq]
  | .fnil, b, h => by cases b <;> simp_all [AV.beq]
  | .fn f c, b, h => by
    cases b <;> simp [AV.beq] at h
    rename_i g d
    rw [AV.eqs_of_beqs c d h.2, h.1]
  | .inil, b, h => by cases b <;> simp_all [AV.beq]
  | .ifc t v, b, h => by
    cases b <;> simp [AV.beq] at h
    rename_i u w
    rw [AV.eq_of_beq v w h.2, h.1]
  | .agg c, b, h => by
    cases b <;> simp [AV.beq] at h
    rename_i d
    rw [AV.eqs_of_beqs c d h]
  | .tup c, b, h => by
    cases b <;> simp [AV.beq] at h
    rename_i d
    rw [AV.eqs_of_beqs c d h]
theorem AV.eqs_of_beqs : ∀ a b : List AV, AV.beqs a b = true → a = b
  | [], b, h => by cases b <;> simp_all [AV.beqs]
  | x :: l, b, h => by
    cases b with
    | nil => simp [AV.beqs] at h
    | cons y m =>
      simp [AV.beqs] at h
      rw [AV.eq_of_beq x y h.1, AV.eqs_of_beqs l m h.2]
end

mutual
theorem AV.beq_self : ∀ a : AV, AV.beq a a = true
  | .bool _ | .int _ _ | .str _ | .pnil | .ptr _ _ | .snil | .sl _ _ _ _ | .mnil | .map _ | .iter _ | .fnil | .inil => by simp [AV.beq]
  | .iptr c _ => by simp [AV.beq, AV.beqs_self c]
  | .isl c _ _ => by simp [AV.beq, AV.beqs_self c]
  | .fn _ c => by simp [AV.beq, AV.beqs_self c]
  | .ifc _ v => by simp [AV.beq, AV.beq_self v]
  | .agg c => by simp [AV.beq, AV.beqs_self c]
  | .tup c => by simp [AV.beq, AV.beqs_self c]
theorem AV.beqs_self : ∀ a : List AV, AV.beqs a a = true
  | [] => rfl
  | x :: l => by simp [AV.beqs, AV.beq_self x, AV.beqs_self l]
end

/-! ### Operations that look at their operands alone -/

def bytesLess : List Nat → List Nat → Bool
  | _, [] => false
  | [], _ :: _ => true
  | a :: x, b :: y => Nat.blt a b || (Nat.beq a b && bytesLess x y)

def bitsOp (op : BinOp) (k : IntKind) (x y : Int) : Option Int :=
  let a := BitVec.ofInt k.bits x
  let b := BitVec.ofInt k.bits y
  match op with
  | .and => some (k.wrap (a &&& b).toNat)
  | .or => some (k.wrap (a ||| b).toNat)
  | .xor => some (k.wrap (a ^^^ b).toNat)
  | .andNot => some (k.wrap (a &&& ~~~b).toNat)
  | _ => none

def intOp (op : BinOp) (k : IntKind) (x y : Int) : Option AV :=
  match op with
  | .add => some (.int k (k.wrap (x + y)))
  | .sub => some (.int k (k.wrap (x - y)))
  | .mul => some (.int k (k.wrap (x * y)))
  | .quo => if y = 0 then none else some (.int k (k.wrap (x.tdiv y)))
  | .rem => if y = 0 then none else some (.int k (x.tmod y))
  | .and | .or | .xor | .andNot => (bitsOp op k x y).map (.int k)
  | .eql => some (.bool (x == y))
  | .neq => some (.bool (x != y))
  | .lss => some (.bool (x < y))
  | .leq => some (.bool (x ≤ y))
  | .gtr => some (.bool (x > y))
  | .geq => some (.bool (x ≥ y))
  | _ => none

/-- A part of an aggregate. -/
def partOf (T : Types) (t : TypeId) (cs : List AV) (o : Nat) : Option AV :=
  match T.get t with
  | none => none
  | some i => if isAgg i.kind then some (.agg ((cs.drop o).take i.size)) else cs[o]?

/-- '==' part by part. -/
def aeqs (T : Types) (eq : TypeId → AV → AV → Option Bool) : List (Nat × TypeId) → List AV → List AV → Option Bool
  | [], _, _ => some true
  | (o, t) :: fs, xs, ys =>
    match partOf T t xs o, partOf T t ys o with
    | some a, some b =>
      match eq t a b with
      | some true => aeqs T eq fs xs ys
      | r => r
    | _, _ => none

/-- '==' by a type's shape. -/
def aeq (T : Types) : Nat → TypeId → AV → AV → Option Bool
  | 0, _, _, _ => none
  | d + 1, t, x, y =>
    match T.get t with
    | none => none
    | some i =>
      match i.kind, x, y with
      | .bool, .bool a, .bool b => some (a == b)
      | .int _, .int k a, .int l b => if k = l then some (a == b) else none
      | .str, .str a, .str b => some (decide (a = b))
      | .ptr _, .pnil, .pnil => some true
      | .ptr _, .pnil, .ptr _ _ => some false
      | .ptr _, .pnil, .iptr _ _ => some false
      | .ptr _, .ptr _ _, .pnil => some false
      | .ptr _, .iptr _ _, .pnil => some false
      | .slice _, .snil, .snil => some true
      | .slice _, .snil, .sl _ _ _ _ => some false
      | .slice _, .snil, .isl _ _ _ => some false
      | .slice _, .sl _ _ _ _, .snil => some false
      | .slice _, .isl _ _ _, .snil => some false
      | .map _ _, .mnil, .mnil => some true
      | .map _ _, .mnil, .map _ => some false
      | .map _ _, .map _, .mnil => some false
      | .func, .fnil, .fnil => some true
      | .func, .fnil, .fn _ _ => some false
      | .func, .fn _ _, .fnil => some false
      | .struct fs, .agg xs, .agg ys => if i.eqOk then aeqs T (aeq T d) fs xs ys else none
      | _, _, _ => none

def binOpA (T : Types) (op : BinOp) (t : TypeId) (x y : AV) : Option AV :=
  match op, x, y with
  | .shl, .int k a, .int _ b => if b < 0 then none else some (.int k (k.wrap (a * 2 ^ (min b.toNat k.bits))))
  | .shr, .int k a, .int _ b => if b < 0 then none else some (.int k (a.fdiv (2 ^ (min b.toNat k.bits))))
  | _, .int k a, .int l b => if k = l then intOp op k a b else none
  | .add, .str a, .str b => if a.length + b.length ≤ 4294967296 then some (.str (a ++ b)) else none
  | .eql, .str a, .str b => some (.bool (decide (a = b)))
  | .neq, .str a, .str b => some (.bool (!decide (a = b)))
  | .lss, .str a, .str b => some (.bool (bytesLess a b))
  | .leq, .str a, .str b => some (.bool (bytesLess a b || decide (a = b)))
  | .gtr, .str a, .str b => some (.bool (!(bytesLess a b || decide (a = b))))
  | .geq, .str a, .str b => some (.bool (!bytesLess a b))
  | .eql, x, y => (aeq T 100 t x y).map .bool
  | .neq, x, y => (aeq T 100 t x y).map fun b => .bool (!b)
  | _, _, _ => none

def unOpA (op : UnOp) (x : AV) : Option AV :=
  match op, x with
  | .neg, .int k n => some (.int k (k.wrap (0 - n)))
  | .xor, .int k n => (bitsOp .xor k (if k.signed then -1 else k.max) n).map (.int k)
  | .not, .bool b => some (.bool !b)
  | _, _ => none

def setFrom : List AV → Nat → List AV → List AV
  | cs, o, vs => cs.take o ++ vs ++ cs.drop (o + vs.length)

/-- The parts of a composite laid into its zero. -/
def fillA (place : Nat → Option (Nat × Nat)) (cells : List AV) : List (Nat × AV) → Option (List AV)
  | [] => some cells
  | (i, v) :: rest =>
    match place i with
    | none => none
    | some (o, n) => if v.cells.length = n ∧ o + n ≤ cells.length ∧ v.notTup = true then fillA place (setFrom cells o v.cells) rest else none

def structPlace (T : Types) (fs : List (Nat × TypeId)) (i : Nat) : Option (Nat × Nat) :=
  match fs[i]? with
  | none => none
  | some (o, t) => (T.get t).map fun ti => (o, ti.size)

def buildA (T : Types) (t : TypeId) (parts : List (Nat × AV)) : Option AV :=
  match T.get t with
  | none => none
  | some i =>
    match i.kind with
    | .struct fs => if fs.all fun f => (T.get f.2).isSome then (fillA (structPlace T fs) i.zero parts).map .agg else none
    | .arr _ e => (T.get e).bind fun ei => (fillA (fun j => some (j * ei.size, ei.size)) i.zero parts).map .agg
    | _ => none

def fieldAddrA (T : Types) (t : TypeId) (x : AV) (f : Nat) : Option AV :=
  match T.get t with
  | some ⟨.struct fs, _, _, _, _⟩ =>
    match fs[f]? with
    | none => none
    | some (o, ft) =>
      match T.get ft with
      | none => none
      | some fi =>
        if fi.size = 0 then none else
        match x with
        | .ptr id p => some (.ptr id (p + o))
        | .iptr c p => some (.iptr c (p + o))
        | _ => none
  | _ => none

def fieldA (T : Types) (t : TypeId) (x : AV) (f : Nat) : Option AV :=
  match T.get t, x with
  | some ⟨.struct fs, _, _, _, _⟩, .agg cs =>
    match fs[f]? with
    | none => none
    | some (o, ft) => partOf T ft cs o
  | _, _ => none

def indexAddrA (T : Types) (t : TypeId) (x i : AV) : Option AV :=
  match T.get t, x, i with
  | some ⟨.slice e, _, _, _, _⟩, .sl id o n _, .int _ k => if 0 ≤ k ∧ k < n then (T.get e).map fun ei => .ptr id (o + k.toNat * ei.size) else none
  | some ⟨.slice e, _, _, _, _⟩, .isl c n _, .int _ k => if 0 ≤ k ∧ k < n then (T.get e).map fun ei => .iptr c (k.toNat * ei.size) else none
  | some ⟨.arr n e, _, _, _, _⟩, .ptr id o, .int _ k => if 0 ≤ k ∧ k < n then (T.get e).map fun ei => .ptr id (o + k.toNat * ei.size) else none
  | some ⟨.arr n e, _, _, _, _⟩, .iptr c o, .int _ k => if 0 ≤ k ∧ k < n then (T.get e).map fun ei => .iptr c (o + k.toNat * ei.size) else none
  | _, _, _ => none

def indexA (T : Types) (t : TypeId) (x i : AV) : Option AV :=
  match T.get t, x, i with
  | some ⟨.str, _, _, _, _⟩, .str s, .int _ k => if 0 ≤ k then (s[k.toNat]?).map fun (b : Nat) => .int .u8 b else none
  | some ⟨.arr n e, _, _, _, _⟩, .agg cs, .int _ k => if 0 ≤ k ∧ k < n then (T.get e).bind fun ei => partOf T e cs (k.toNat * ei.size) else none
  | _, _, _ => none

/-- A bound of a slice expression. -/
def bound (x : AV) (y : Nat) : Option Nat :=
  match x with
  | .int _ i => if 0 ≤ i ∧ i ≤ y then some i.toNat else none
  | _ => none

def boundOr (x : Option AV) (y d : Nat) : Option Nat :=
  match x with
  | some v => bound v y
  | none => some d

def boundHi (hi mx : Option AV) (m n : Nat) : Option Nat :=
  match hi, mx with
  | none, some _ => none
  | _, _ => boundOr hi m n

/-- 's[lo:hi:mx]'; 'room': how many elements are surely there (its capacity, where that is known). -/
def sliceA (T : Types) (h : Heap) (t : TypeId) (x : AV) (lo hi mx : Option AV) : Option AV :=
  match T.get t, x with
  | some ⟨.str, _, _, _, _⟩, .str s =>
    match mx with
    | some _ => none
    | none => (boundOr hi s.length s.length).bind fun hh => (boundOr lo hh 0).map fun l => .str ((s.take hh).drop l)
  | some ⟨.slice e, _, _, _, _⟩, .snil =>
    (T.get e).bind fun _ => (boundOr mx 0 0).bind fun m => (boundHi hi mx m 0).bind fun hh => (boundOr lo hh 0).map fun _ => .snil
  | some ⟨.slice e, _, _, _, _⟩, .sl id o n cap =>
    (T.get e).bind fun ei =>
    (match cap with
      | some c => some c
      | none => match h.get id with
        | some (.row cells (some z) _ _) => if z = ei.size ∧ ei.size ≠ 0 then some ((cells.length - o) / ei.size) else none
        | _ => none).bind fun room =>
    (boundOr mx room room).bind fun m =>
    (boundHi hi mx m n).bind fun hh =>
    (boundOr lo hh 0).bind fun l =>
    match mx, cap with
    | none, none => some (.sl id (o + l * ei.size) (hh - l) none)
    | _, _ => some (.sl id (if m = l then o else o + l * ei.size) (hh - l) (some (m - l)))
  | some ⟨.slice e, _, _, _, _⟩, .isl c n cap =>
    (T.get e).bind fun ei =>
    (boundOr mx n n).bind fun m =>
    (boundHi hi mx m n).bind fun hh =>
    (boundOr lo hh 0).bind fun l =>
    match mx with
    | some _ => some (.isl ((c.take (hh * ei.size)).drop (l * ei.size)) (hh - l) (some (m - l)))
    | none => some (.isl ((c.take (hh * ei.size)).drop (l * ei.size)) (hh - l) (cap.map (· - l)))
  | _, _ => none

end Go.Ab
