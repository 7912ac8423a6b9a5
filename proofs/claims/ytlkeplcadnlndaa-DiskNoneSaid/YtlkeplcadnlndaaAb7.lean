/- The operations that write nothing: what the abstract machine answers, the model's operation answers. -/
import Derived.Test.YtlkeplcadnlndaaAb6
import Derived.Laws.Strings
set_option autoImplicit false
set_option linter.unusedSimpArgs false
set_option linter.unusedVariables false
namespace Go.Ab
open Go.RowKit (Below)

/-- A frame's temporaries; 'none': nobody looks at it any more. -/
def FrR (κ : Gh) (fr : List (Option AV)) (a : Act) : Prop := fr.length ≤ a.tmps.size ∧ ∀ t v, fr[t]? = some (some v) → VR κ v (a.tmps.getD t undef)

def opd (fr : List (Option AV)) : Operand → Option AV
  | .tmp t => (fr[t]?).join
  | .const v => ofConst 3 v
  | .func f => some (.fn f [])
  | .global _ => none

def opdO (fr : List (Option AV)) : Option Operand → Option (Option AV)
  | none => some none
  | some x => (opd fr x).map some

def opds (fr : List (Option AV)) : List Operand → Option (List AV)
  | [] => some []
  | x :: l => (opd fr x).bind fun a => (opds fr l).map (a :: ·)

def opdParts (fr : List (Option AV)) : List (Nat × Operand) → Option (List (Nat × AV))
  | [] => some []
  | (i, x) :: l => (opd fr x).bind fun a => (opdParts fr l).map ((i, a) :: ·)

def convertA (T : Types) (h : Heap) (src dst : TypeId) (x : AV) : Option AV :=
  match T.get src, T.get dst with
  | some s, some d =>
    match s.kind, d.kind, x with
    | .int _, .int k, .int _ n => some (.int k (k.wrap n))
    | .str, .str, .str s => some (.str s)
    | .slice e, .str, x =>
      match (T.get e).map TI.kind, x with
      | some (.int .u8), .str _ => none
      | some (.int .u8), x => bytesToStr h x
      | _, _ => none
    | .slice e, .slice _, .sl id o n c =>
      match (T.get e).map TI.kind with
      | some (.int .u8) => if Nat.beq src dst && Nat.ble 1 n then (match h.get id with | some (.row _ _ _ _) => some (.sl id o n c) | _ => none) else none
      | _ => none
    | _, _, _ => none
  | _, _ => none

/-- An operation that writes nothing. -/
def evPure (T : Types) (h : Heap) (fr : List (Option AV)) : Op → Option AV
  | .move x => opd fr x
  | .assign x => opd fr x
  | .pick c a b =>
    match opd fr c with
    | some (.bool true) => opd fr a
    | some (.bool false) => opd fr b
    | _ => none
  | .build t parts => (opdParts fr parts.toList).bind fun ps => buildA T t ps
  | .load t a => (opd fr a).bind fun x => loadA T h t x
  | .nilCheck x =>
    match opd fr x with
    | some (.ptr i o) => some (.ptr i o)
    | some (.iptr c o) => some (.iptr c o)
    | some (.fn f c) => some (.fn f c)
    | _ => none
  | .binOp op t x y _ => (opd fr x).bind fun a => (opd fr y).bind fun b => binOpA T op t a b
  | .unOp op _ x => (opd fr x).bind fun a => unOpA op a
  | .convert s d x => (opd fr x).bind fun a => convertA T h s d a
  | .makeFunc (.func f) first caps => if first.size = 0 then (opds fr caps.toList).map fun l => .fn f l else none
  | .slice t x lo hi mx => (opd fr x).bind fun a => (opdO fr lo).bind fun l => (opdO fr hi).bind fun hh => (opdO fr mx).bind fun m => sliceA T h t a l hh m
  | .fieldAddr t x f => (opd fr x).bind fun a => fieldAddrA T t a f
  | .field t x f => (opd fr x).bind fun a => fieldA T t a f
  | .indexAddr t x i => (opd fr x).bind fun a => (opd fr i).bind fun b => indexAddrA T t a b
  | .index t x i => (opd fr x).bind fun a => (opd fr i).bind fun b => indexA T t a b
  | .lookup t m k ok => (opd fr m).bind fun a => (opd fr k).bind fun b => lookupA T h t a b ok
  | .extract x i =>
    match opd fr x with
    | some (.tup vs) => vs[i]?
    | _ => none
  | .call ⟨.builtin .len, args, ts⟩ =>
    match args.toList, ts.toList with
    | [x], t :: _ => (opd fr x).bind fun a => lenOfA T h t a
    | _, _ => none
  | .call ⟨.builtin .max, args, _⟩ =>
    match args.toList with
    | [x, y] => (opd fr x).bind fun a => (opd fr y).bind fun b => maxA a b
    | _ => none
  | .call ⟨.builtin .min, args, _⟩ =>
    match args.toList with
    | [x, y] => (opd fr x).bind fun a => (opd fr y).bind fun b => minA a b
    | _ => none
  | _ => none

section
variable {P : Program} {T : Types} {κ : Gh} {w0 w : World} {h : Heap} {fr : List (Option AV)} {a : Act}

theorem opd_ok (F : FrR κ fr a) {x : Operand} {v : AV} (hx : opd fr x = some v) : VR κ v (a.eval x) := by
  cases x with
  | tmp t =>
    simp only [opd, Option.join_eq_some_iff] at hx
    exact F.2 t v hx
  | const c => exact ofConst_VR κ 3 _ _ hx
  | func f => simp only [opd, Option.some.injEq] at hx; subst hx; exact .fn f [] #[] .nil
  | global g => cases hx

theorem opds_ok (F : FrR κ fr a) : ∀ {l : List Operand} {vs : List AV}, opds fr l = some vs → VRL κ vs (l.map a.eval)
  | [], vs, h => by simp only [opds, Option.some.injEq] at h; subst h; exact .nil
  | x :: l, vs, h => by
    simp only [opds] at h
    cases hx : opd fr x with
    | none => simp [hx] at h
    | some v =>
      cases hl : opds fr l with
      | none => simp [hx, hl] at h
      | some m => simp [hx, hl] at h; subst h; exact .cons _ _ _ _ (opd_ok F hx) (opds_ok F hl)

inductive PartsR (κ : Gh) : List (Nat × AV) → List (Nat × Value) → Prop
  | nil : PartsR κ [] []
  | cons (i : Nat) (a : AV) (v : Value) (l : List (Nat × AV)) (m : List (Nat × Value)) (h : VR κ a v) (r : PartsR κ l m) : PartsR κ ((i, a) :: l) ((i, v) :: m)

theorem opdParts_ok (F : FrR κ fr a) : ∀ {l : List (Nat × Operand)} {vs : List (Nat × AV)}, opdParts fr l = some vs → PartsR κ vs (l.map fun p => (p.1, a.eval p.2))
  | [], vs, h => by simp only [opdParts, Option.some.injEq] at h; subst h; exact .nil
  | (i, x) :: l, vs, h => by
    simp only [opdParts] at h
    cases hx : opd fr x with
    | none => simp [hx] at h
    | some v =>
      cases hl : opdParts fr l with
      | none => simp [hx, hl] at h
      | some m => simp [hx, hl] at h; subst h; exact .cons _ _ _ _ _ (opd_ok F hx) (opdParts_ok F hl)

/-! ### Numbers, strings -/
theorem run_underlying {t : TypeId} {d : TypeDesc} (h : P.underlying t = some d) : (underlying t).run P w = .ok d w := by
  simp [underlying, h]

theorem map_toNat_inj : ∀ {a b : List UInt8}, a.map UInt8.toNat = b.map UInt8.toNat → a = b
  | [], [], _ => rfl
  | [], _ :: _, h => by simp at h
  | _ :: _, [], h => by simp at h
  | x :: a, y :: b, h => by
    simp only [List.map_cons, List.cons.injEq] at h
    rw [UInt8.toNat_inj.1 h.1, map_toNat_inj h.2]

theorem str_inj {a b : ByteArray} (h : a.data.toList.map UInt8.toNat = b.data.toList.map UInt8.toNat) : a = b := by
  have h1 := map_toNat_inj h
  cases a; cases b
  simp at h1
  simp [h1]

theorem bytesLess_ok : ∀ (a b : List UInt8), bytesLess (a.map UInt8.toNat) (b.map UInt8.toNat) = Op.bytesLess a b
  | _, [] => by simp [bytesLess, Op.bytesLess]
  | [], y :: b => by simp [bytesLess, Op.bytesLess]
  | x :: a, y :: b => by
    simp only [List.map_cons, bytesLess, Op.bytesLess, bytesLess_ok a b]
    congr 1
    · rw [Bool.eq_iff_iff]; simp [Nat.blt, UInt8.lt_iff_toNat_lt]; omega
    · congr 1
      rw [Bool.eq_iff_iff]; simp [← UInt8.toNat_inj]

end
end Go.Ab
