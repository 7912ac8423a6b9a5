/- The abstract machine: values, heap, operations on them. Plain definitions; nothing of the program. -/
import Derived.Calls
import Derived.LoopN
import Derived.Below
set_option autoImplicit false
set_option linter.unusedSimpArgs false
set_option linter.unusedVariables false
namespace Go.Ab

/-- An abstract value. Rows of memory are named by numbers of our own; 'iptr', 'isl' bear what they read (memory that is never written any more). -/
inductive AV where
  | bool (b : Bool)
  | int (k : IntKind) (n : Int)
  | str (s : List Nat)
  | pnil
  | ptr (id off : Nat)
  | iptr (cells : List AV) (off : Nat)
  | snil
  | sl (id off len : Nat) (cap : Option Nat)
  | isl (cells : List AV) (len : Nat) (cap : Option Nat)
  | mnil
  | map (id : Nat)
  | iter (id : Nat)
  | fnil
  | fn (f : FuncId) (caps : List AV)
  | inil
  | ifc (t : TypeId) (v : AV)
  | agg (cells : List AV)
  | tup (vs : List AV)
  deriving Inhabited

def AV.undef : AV := .tup []

def AV.cells : AV → List AV
  | .agg cs => cs
  | v => [v]

/-- A value of one cell. -/
def AV.leaf : AV → Bool
  | .agg _ | .tup _ => false
  | _ => true

def AV.notTup : AV → Bool
  | .tup _ => false
  | _ => true

/-- A finite map from numbers: a binary tree. -/
inductive PM (α : Type) where
  | leaf
  | node (l : PM α) (v : Option α) (r : PM α)

namespace PM
variable {α : Type}
def get : PM α → Nat → Option α
  | .leaf, _ => none
  | .node l v r, n =>
    match n with
    | 0 => v
    | m + 1 => if Nat.beq (Nat.mod m 2) 0 then l.get (Nat.div m 2) else r.get (Nat.div m 2)
def setF : Nat → PM α → Nat → α → PM α
  | 0, .leaf, _, v => .node .leaf (some v) .leaf
  | 0, .node l _ r, _, v => .node l (some v) r
  | f + 1, .leaf, n, v =>
    match n with
    | 0 => .node .leaf (some v) .leaf
    | m + 1 => if Nat.beq (Nat.mod m 2) 0 then .node (setF f .leaf (Nat.div m 2) v) none .leaf else .node .leaf none (setF f .leaf (Nat.div m 2) v)
  | f + 1, .node l x r, n, v =>
    match n with
    | 0 => .node l (some v) r
    | m + 1 => if Nat.beq (Nat.mod m 2) 0 then .node (setF f l (Nat.div m 2) v) x r else .node l x (setF f r (Nat.div m 2) v)
def set (t : PM α) (n : Nat) (v : α) : PM α := setF n t n v

@[simp] theorem get_leaf (n : Nat) : (PM.leaf : PM α).get n = none := rfl

theorem get_setF (f : Nat) : ∀ (t : PM α) (n m : Nat) (v : α), n ≤ f → (setF f t n v).get m = if m = n then some v else t.get m := by
  induction f with
  | zero =>
    intro t n m v h
    obtain rfl : n = 0 := by omega
    cases t <;> cases m <;> simp [setF, get]
  | succ f ih =>
    intro t n m v h
    cases n with
    | zero => cases t <;> cases m <;> simp [setF, get]
    | succ n =>
      have hd : Nat.div n 2 ≤ f := by have : n / 2 ≤ n := Nat.div_le_self _ _; show n / 2 ≤ f; omega
      have key : ∀ k, (Nat.beq (Nat.mod n 2) 0 = Nat.beq (Nat.mod k 2) 0 ∧ Nat.div k 2 = Nat.div n 2) ↔ k = n := by
        intro k
        show ((n % 2).beq 0 = (k % 2).beq 0 ∧ k / 2 = n / 2) ↔ _
        rw [Bool.eq_iff_iff, Nat.beq_eq, Nat.beq_eq]
        omega
      cases t with
      | leaf =>
        cases m with
        | zero => simp only [setF]; split <;> simp [get]
        | succ m =>
          have hk := key m
          simp only [setF]
          cases hn : Nat.beq (Nat.mod n 2) 0 <;> cases hm : Nat.beq (Nat.mod m 2) 0 <;> simp [get, hm, ih _ _ _ _ hd] <;> simp [hn, hm] at hk <;> simp [hk]
      | node l x r =>
        cases m with
        | zero => simp only [setF]; split <;> simp [get]
        | succ m =>
          have hk := key m
          simp only [setF]
          cases hn : Nat.beq (Nat.mod n 2) 0 <;> cases hm : Nat.beq (Nat.mod m 2) 0 <;> simp [get, hm, ih _ _ _ _ hd] <;> simp [hn, hm] at hk <;> simp [hk]

theorem get_set (t : PM α) (n m : Nat) (v : α) : (t.set n v).get m = if m = n then some v else t.get m := get_setF n t n m v (Nat.le_refl _)
@[simp] theorem get_set_self (t : PM α) (n : Nat) (v : α) : (t.set n v).get n = some v := by simp [get_set]
theorem get_set_ne (t : PM α) {n m : Nat} (v : α) (h : m ≠ n) : (t.set n v).get m = t.get m := by simp [get_set, h]
theorem setF_setF (f : Nat) : ∀ (t : PM α) (n : Nat) (a b : α), n ≤ f → setF f (setF f t n a) n b = setF f t n b := by
  induction f with
  | zero => intro t n a b h; obtain rfl : n = 0 := by omega
            cases t <;> rfl
  | succ f ih =>
    intro t n a b h
    cases n with
    | zero => cases t <;> rfl
    | succ n =>
      have hd : Nat.div n 2 ≤ f := by have : n / 2 ≤ n := Nat.div_le_self _ _; show n / 2 ≤ f; omega
      cases t with
      | leaf => simp only [setF]; cases hn : Nat.beq (Nat.mod n 2) 0 <;> simp [setF, hn, ih _ _ _ _ hd]
      | node l x r => simp only [setF]; cases hn : Nat.beq (Nat.mod n 2) 0 <;> simp [setF, hn, ih _ _ _ _ hd]
theorem set_set (t : PM α) (n : Nat) (a b : α) : (t.set n a).set n b = t.set n b := setF_setF n t n a b (Nat.le_refl _)
end PM

inductive AObj where
  /-- cells; 'ext': there may be more room behind them (for elements of so many cells); 'stale': appended to, or at rest: never written any more; 'anc': rows that may lie in the same memory. -/
  | row (cells : List AV) (ext : Option Nat) (stale : Bool) (anc : List Nat)
  /-- entries; when each was born; the clock -/
  | map (es : List (AV × AV)) (bs : List Nat) (ck : Nat)
  /-- a walk through a map -/
  | miter (m : Option Nat) (since : Nat) (seen : List Nat) (last : Nat)
  | dead
  deriving Inhabited

structure Heap where
  next : Nat
  mem : PM AObj

def Heap.empty : Heap := ⟨0, .leaf⟩
def Heap.get (h : Heap) (i : Nat) : Option AObj := h.mem.get i
def Heap.put (h : Heap) (i : Nat) (o : AObj) : Heap := ⟨h.next, h.mem.set i o⟩
def Heap.new (h : Heap) (o : AObj) : Heap := ⟨h.next + 1, h.mem.set h.next o⟩

@[simp] theorem Heap.next_put (h : Heap) (i : Nat) (o : AObj) : (h.put i o).next = h.next := rfl
@[simp] theorem Heap.next_new (h : Heap) (o : AObj) : (h.new o).next = h.next + 1 := rfl
theorem Heap.get_put (h : Heap) (i j : Nat) (o : AObj) : (h.put i o).get j = if j = i then some o else h.get j := PM.get_set ..
theorem Heap.get_new (h : Heap) (j : Nat) (o : AObj) : (h.new o).get j = if j = h.next then some o else h.get j := PM.get_set ..
@[simp] theorem Heap.get_put_self (h : Heap) (i : Nat) (o : AObj) : (h.put i o).get i = some o := by simp [Heap.get_put]
@[simp] theorem Heap.get_new_self (h : Heap) (o : AObj) : (h.new o).get h.next = some o := by simp [Heap.get_new]
theorem Heap.get_put_ne (h : Heap) {i j : Nat} (o : AObj) (hne : j ≠ i) : (h.put i o).get j = h.get j := by simp [Heap.get_put, hne]
theorem Heap.get_new_ne (h : Heap) {j : Nat} (o : AObj) (hne : j ≠ h.next) : (h.new o).get j = h.get j := by simp [Heap.get_new, hne]

theorem Heap.put_put (h : Heap) (i : Nat) (o o' : AObj) : (h.put i o).put i o' = h.put i o' := by simp [Heap.put, PM.set_set]
theorem Heap.new_put (h : Heap) (o o' : AObj) : (h.new o).put h.next o' = h.new o' := by simp [Heap.put, Heap.new, PM.set_set]

/-- The rows that may lie in the same memory are given up. -/
def Heap.kill (h : Heap) : List Nat → Heap
  | [] => h
  | i :: l => (h.put i .dead).kill l

end Go.Ab
