/- How the abstract machine stands to the model's world: values, memory. -/
import Derived.Test.YtlkeplcadnlndaaAb3
set_option autoImplicit false
set_option linter.unusedSimpArgs false
set_option linter.unusedVariables false
namespace Go.Ab
open Go.RowKit (Below)

/-- Where a row lies: its block, where it begins there, how many cells the block has, how many an element has. -/
structure RowG where
  b : Nat
  base : Nat
  size : Nat
  esz : Nat

structure Gh where
  row : Nat → Option RowG
  mp : Nat → Option Nat
  /-- blocks that nobody writes any more -/
  im : Nat → Option (List Value)

structure Gh.Le (κ κ' : Gh) : Prop where
  row : ∀ i g, κ.row i = some g → κ'.row i = some g
  mp : ∀ i b, κ.mp i = some b → κ'.mp i = some b
  im : ∀ b c, κ.im b = some c → κ'.im b = some c

theorem Gh.Le.refl (κ : Gh) : Gh.Le κ κ := ⟨fun _ _ h => h, fun _ _ h => h, fun _ _ h => h⟩
theorem Gh.Le.trans {a b c : Gh} (h : Gh.Le a b) (k : Gh.Le b c) : Gh.Le a c :=
  ⟨fun i g e => k.row i g (h.row i g e), fun i g e => k.mp i g (h.mp i g e), fun i g e => k.im i g (h.im i g e)⟩

mutual
inductive VR (κ : Gh) : AV → Value → Prop
  | bool (b : Bool) : VR κ (.bool b) (.bool b)
  | int (k : IntKind) (n : Int) : VR κ (.int k n) (.int k n)
  | str (l : List Nat) (s : ByteArray) (h : s.data.toList.map UInt8.toNat = l) : VR κ (.str l) (.string s)
  | pnil : VR κ .pnil (.pointer none)
  | ptr (id off : Nat) (g : RowG) (h : κ.row id = some g) : VR κ (.ptr id off) (.pointer (some ⟨g.b, g.base + off, none⟩))
  | iptr (cells : List AV) (off b o : Nat) (C : List Value) (h : κ.im b = some C) (hl : cells.all AV.leaf = true) (hv : VRL κ cells ((C.drop o).take cells.length)) :
      VR κ (.iptr cells off) (.pointer (some ⟨b, o + off, none⟩))
  | snil : VR κ .snil (.slice none 0 0)
  | sl (id off len c : Nat) (cap : Option Nat) (g : RowG) (a : Addr) (h : κ.row id = some g) (hc : len ≤ c) (he : ∀ c', cap = some c' → c = c')
      (ho : cap = none → g.base + off + c * g.esz = g.size) (ha : c ≠ 0 → a = ⟨g.b, g.base + off, none⟩) : VR κ (.sl id off len cap) (.slice (some a) len c)
  | isl (cells : List AV) (len c b o : Nat) (cap : Option Nat) (C : List Value) (h : κ.im b = some C) (hc : len ≤ c) (he : ∀ c', cap = some c' → c = c')
      (hl : cells.all AV.leaf = true) (hv : VRL κ cells ((C.drop o).take cells.length)) : VR κ (.isl cells len cap) (.slice (some ⟨b, o, none⟩) len c)
  | isl0 (c : Nat) (cap : Option Nat) (a : Addr) (he : ∀ c', cap = some c' → c = c') : VR κ (.isl [] 0 cap) (.slice (some a) 0 c)
  | mnil : VR κ .mnil (.map none)
  | map (id b : Nat) (h : κ.mp id = some b) : VR κ (.map id) (.map (some b))
  | iter (id b : Nat) (h : κ.mp id = some b) : VR κ (.iter id) (.pointer (some ⟨b, 0, none⟩))
  | fnil : VR κ .fnil .nilFunc
  | fn (f : FuncId) (caps : List AV) (cs : Array Value) (h : VRL κ caps cs.toList) : VR κ (.fn f caps) (.func (.func f) #[] cs)
  | inil : VR κ .inil .nilIface
  | ifc (t : TypeId) (v : AV) (x : Value) (h : VR κ v x) : VR κ (.ifc t v) (.iface t x)
  | agg (cells : List AV) (cs : Array Value) (hl : cells.all AV.leaf = true) (h : VRL κ cells cs.toList) : VR κ (.agg cells) (.agg cs)
  | tup (vs : List AV) (cs : Array Value) (h : VRL κ vs cs.toList) : VR κ (.tup vs) (.tuple cs)
inductive VRL (κ : Gh) : List AV → List Value → Prop
  | nil : VRL κ [] []
  | cons (a : AV) (v : Value) (l : List AV) (m : List Value) (h : VR κ a v) (r : VRL κ l m) : VRL κ (a :: l) (v :: m)
end

mutual
theorem VR.mono {κ κ' : Gh} (hle : Gh.Le κ κ') : ∀ {a : AV} {v : Value}, VR κ a v → VR κ' a v
  | _, _, .bool b => .bool b
  | _, _, .int k n => .int k n
  | _, _, .str l s h => .str l s h
  | _, _, .pnil => .pnil
  | _, _, .ptr id off g h => .ptr id off g (hle.row _ _ h)
  | _, _, .iptr cells off b o C h hl hv => .iptr cells off b o C (hle.im _ _ h) hl (VRL.mono hle hv)
  | _, _, .snil => .snil
  | _, _, .sl id off len c cap g a h hc he ho ha => .sl id off len c cap g a (hle.row _ _ h) hc he ho ha
  | _, _, .isl cells len c b o cap C h hc he hl hv => .isl cells len c b o cap C (hle.im _ _ h) hc he hl (VRL.mono hle hv)
  | _, _, .isl0 c cap a he => .isl0 c cap a he
  | _, _, .mnil => .mnil
  | _, _, .map id b h => .map id b (hle.mp _ _ h)
  | _, _, .iter id b h => .iter id b (hle.mp _ _ h)
  | _, _, .fnil => .fnil
  | _, _, .fn f caps cs h => .fn f caps cs (VRL.mono hle h)
  | _, _, .inil => .inil
  | _, _, .ifc t v x h => .ifc t v x (VR.mono hle h)
  | _, _, .agg cells cs hl h => .agg cells cs hl (VRL.mono hle h)
  | _, _, .tup vs cs h => .tup vs cs (VRL.mono hle h)
theorem VRL.mono {κ κ' : Gh} (hle : Gh.Le κ κ') : ∀ {a : List AV} {v : List Value}, VRL κ a v → VRL κ' a v
  | _, _, .nil => .nil
  | _, _, .cons a v l m h r => .cons a v l m (VR.mono hle h) (VRL.mono hle r)
end

section
variable {κ : Gh}
theorem VRL.length {a : List AV} {v : List Value} (h : VRL κ a v) : a.length = v.length := by
  induction a generalizing v with
  | nil => cases h; rfl
  | cons x l ih => cases h with | cons _ _ _ m hx hr => simp [ih hr]
theorem VRL.append {a b : List AV} {v w : List Value} (h : VRL κ a v) (k : VRL κ b w) : VRL κ (a ++ b) (v ++ w) := by
  induction a generalizing v with
  | nil => cases h; exact k
  | cons x l ih => cases h with | cons _ _ _ m hx hr => exact .cons _ _ _ _ hx (ih hr)
theorem VRL.take {a : List AV} {v : List Value} (h : VRL κ a v) (n : Nat) : VRL κ (a.take n) (v.take n) := by
  induction a generalizing v n with
  | nil => cases h; simp; exact .nil
  | cons x l ih => cases h with | cons _ _ _ m hx hr => cases n with | zero => exact .nil | succ n => exact .cons _ _ _ _ hx (ih hr n)
theorem VRL.drop {a : List AV} {v : List Value} (h : VRL κ a v) (n : Nat) : VRL κ (a.drop n) (v.drop n) := by
  induction a generalizing v n with
  | nil => cases h; simp; exact .nil
  | cons x l ih => cases h with | cons _ _ _ m hx hr => cases n with | zero => exact .cons _ _ _ _ hx hr | succ n => exact ih hr n
theorem VRL.get {a : List AV} {v : List Value} (h : VRL κ a v) {i : Nat} {x : AV} (hi : a[i]? = some x) : ∃ y, v[i]? = some y ∧ VR κ x y := by
  induction a generalizing v i with
  | nil => simp at hi
  | cons z l ih =>
    cases h with
    | cons _ y _ m hx hr =>
      cases i with
      | zero => simp at hi; subst hi; exact ⟨y, rfl, hx⟩
      | succ i => exact ih hr (by simpa using hi)
theorem VRL.single {a : AV} {v : Value} (h : VR κ a v) : VRL κ [a] [v] := .cons _ _ _ _ h .nil

/-- A value's cells. -/
theorem VR.cells {a : AV} {v : Value} (h : VR κ a v) : VRL κ a.cells v.cells.toList := by
  cases h <;> first | assumption | exact VRL.single (by constructor <;> assumption)
theorem VR.leafs {a : AV} {v : Value} (h : VR κ a v) (ht : a.notTup = true) : a.cells.all AV.leaf = true := by
  cases h <;> first | assumption | (simp [AV.notTup] at ht; done) | simp [AV.cells, AV.leaf]
theorem VR.oneCell {a : AV} {v : Value} (h : VR κ a v) (hl : a.leaf = true) : v.oneCell' = true := by
  cases h <;> simp_all [AV.leaf, Value.oneCell']
end

/-- Entries of a map. -/
inductive EntR (κ : Gh) : List (AV × AV) → List MapEntry → Prop
  | nil : EntR κ [] []
  | cons (k v : AV) (e : MapEntry) (l : List (AV × AV)) (m : List MapEntry) (hk : VR κ k e.key) (hv : VR κ v e.val) (r : EntR κ l m) : EntR κ ((k, v) :: l) (e :: m)

theorem EntR.mono {κ κ' : Gh} (hle : Gh.Le κ κ') {l : List (AV × AV)} {m : List MapEntry} (h : EntR κ l m) : EntR κ' l m := by
  induction h with
  | nil => exact .nil
  | cons k v e l m hk hv r ih => exact .cons k v e l m (hk.mono hle) (hv.mono hle) ih

/-- Entries were born one behind the other. -/
def BornOk (E : List MapEntry) (clock : Nat) : Prop := (E.map (·.born)).Pairwise (· < ·) ∧ ∀ e ∈ E, e.born < clock

/-- The map that an iterator walks through. -/
def IterR (κ : Gh) (m bm : Option Nat) : Prop := (∀ id, m = some id → ∃ x, bm = some x ∧ κ.mp id = some x) ∧ (m = none → bm = none)
theorem IterR.mono {κ κ' : Gh} (hle : Gh.Le κ κ') {m bm : Option Nat} (h : IterR κ m bm) : IterR κ' m bm :=
  ⟨fun id hm => by obtain ⟨x, h1, h2⟩ := h.1 id hm; exact ⟨x, h1, hle.mp _ _ h2⟩, h.2⟩

/-- A row as it lies in the world. -/
def RowOk (κ : Gh) (w : World) (g : RowG) (cells : List AV) (ext : Option Nat) : Prop :=
  ∃ C T lo hi, w.heap[g.b]? = some (.cells C T (lo, hi)) ∧ C.size = g.size ∧ (lo = hi ∨ C.size ≤ lo) ∧
    VRL κ cells ((C.toList.drop g.base).take cells.length) ∧ cells.all AV.leaf = true ∧ (∀ z, ext = some z → g.esz = z) ∧ (ext = none → g.base = 0)

structure Sim (κ : Gh) (w0 : World) (h : Heap) (w : World) : Prop where
  below : Below w0.heap.size w0 w
  fresh : ∀ i, h.next ≤ i → κ.row i = none ∧ κ.mp i = none ∧ h.get i = none
  row : ∀ i cells ext stale anc g, h.get i = some (.row cells ext stale anc) → κ.row i = some g → RowOk κ w g cells ext
  base : ∀ i g, κ.row i = some g → w0.heap.size ≤ g.b
  apart : ∀ i j ci ei si ai cj ej sj aj gi gj, i ≠ j → h.get i = some (.row ci ei si ai) → h.get j = some (.row cj ej sj aj) → κ.row i = some gi → κ.row j = some gj →
    gi.b = gj.b → (i ∈ aj ∧ gi.base + ci.length ≤ gj.base + cj.length) ∨ (j ∈ ai ∧ gj.base + cj.length ≤ gi.base + ci.length)
  anc : ∀ j cells ext stale anc, h.get j = some (.row cells ext stale anc) → ∀ i ∈ anc, i < h.next ∧ i ≠ j ∧ (∀ c e s a, h.get i = some (.row c e s a) → s = true) ∧ κ.row i ≠ none
  im : ∀ b C, κ.im b = some C → ∃ T fz, w.heap[b]? = some (.cells C.toArray T fz)
  imApart : ∀ i cells ext anc g, h.get i = some (.row cells ext false anc) → κ.row i = some g → κ.im g.b = none
  map : ∀ i es bs ck b, h.get i = some (.map es bs ck) → κ.mp i = some b → ∃ E, w.heap[b]? = some (.map E ck) ∧ EntR κ es E.toList ∧ E.toList.map (·.born) = bs ∧ BornOk E.toList ck
  miter : ∀ i m since seen last b, h.get i = some (.miter m since seen last) → κ.mp i = some b → ∃ bm, w.heap[b]? = some (.mapIter bm since seen.toArray last) ∧ IterR κ m bm
  mbase : ∀ i b, κ.mp i = some b → w0.heap.size ≤ b ∧ b < w.heap.size
  mapApart : ∀ i j b, κ.mp i = some b → κ.mp j = some b → i = j

theorem RowOk.mono {κ κ' : Gh} (hle : Gh.Le κ κ') {w : World} {g : RowG} {cells : List AV} {ext : Option Nat} (h : RowOk κ w g cells ext) : RowOk κ' w g cells ext := by
  obtain ⟨C, T, lo, hi, h1, h2, h3, h4, h5⟩ := h
  exact ⟨C, T, lo, hi, h1, h2, h3, h4.mono hle, h5⟩

theorem RowOk.of_block {κ : Gh} {w w' : World} {g : RowG} {cells : List AV} {ext : Option Nat} (h : RowOk κ w g cells ext) (hb : w'.heap[g.b]? = w.heap[g.b]?) : RowOk κ w' g cells ext := by
  obtain ⟨C, T, lo, hi, h1, h⟩ := h
  exact ⟨C, T, lo, hi, hb.trans h1, h⟩

end Go.Ab
