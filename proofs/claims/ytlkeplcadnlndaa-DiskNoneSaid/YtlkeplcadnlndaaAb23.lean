/- The shallow words: what the machine's operations come to once types are known. -/
import Derived.Test.YtlkeplcadnlndaaAb22
set_option autoImplicit false
set_option linter.unusedSimpArgs false
set_option linter.unusedVariables false
namespace Go.Ab

abbrev Rs := Option (AV × Heap)

/-! ### Sequencing -/
def pureK {R : Type} (x : Option AV) (h : Heap) (k : AV → Heap → Option R) : Option R := (x.map fun v => (v, h)).bind fun p => k p.1 p.2
def alK {R : Type} (x : Option (AObj × (Nat → AV))) (h : Heap) (k : AV → Heap → Option R) : Option R := (x.map fun p => (p.2 h.next, h.new p.1)).bind fun p => k p.1 p.2
def stK {R : Type} (x : Option Heap) (k : AV → Heap → Option R) : Option R := (x.map fun h' => (AV.undef, h')).bind fun p => k p.1 p.2
def efK {R : Type} (x : Rs) (k : AV → Heap → Option R) : Option R := x.bind fun p => k p.1 p.2

@[simp] theorem pureK_some {R : Type} (v : AV) (h : Heap) (k : AV → Heap → Option R) : pureK (some v) h k = k v h := rfl
@[simp] theorem pureK_none {R : Type} (h : Heap) (k : AV → Heap → Option R) : pureK none h k = none := rfl
@[simp] theorem alK_some {R : Type} (p : AObj × (Nat → AV)) (h : Heap) (k : AV → Heap → Option R) : alK (some p) h k = k (p.2 h.next) (h.new p.1) := rfl
@[simp] theorem alK_none {R : Type} (h : Heap) (k : AV → Heap → Option R) : alK none h k = none := rfl
@[simp] theorem stK_some {R : Type} (h : Heap) (k : AV → Heap → Option R) : stK (some h) k = k AV.undef h := rfl
@[simp] theorem stK_none {R : Type} (k : AV → Heap → Option R) : stK none k = none := rfl
@[simp] theorem efK_some {R : Type} (v : AV) (h : Heap) (k : AV → Heap → Option R) : efK (some (v, h)) k = k v h := rfl
@[simp] theorem efK_none {R : Type} (k : AV → Heap → Option R) : efK none k = none := rfl
@[simp] theorem gcase_true {R : Type} (t f u : Option R) : gcase (.bool true) t f u = t := rfl
@[simp] theorem gcase_false {R : Type} (t f u : Option R) : gcase (.bool false) t f u = f := rfl
@[simp] theorem gcase_undef {R : Type} (t f u : Option R) : gcase .undef t f u = u := rfl
@[simp] theorem bcase_true {R : Type} (t f : Option R) : bcase (.bool true) t f = t := rfl
@[simp] theorem bcase_false {R : Type} (t f : Option R) : bcase (.bool false) t f = f := rfl
theorem bcase_congr {R : Type} (v : AV) {t f t' f' : Option R} (h : t = t') (k : f = f') : bcase v t f = bcase v t' f' := by rw [h, k]

/-- A frame: the temporaries that are known. -/
def frFrom : Nat → Nat → List (Nat × AV) → Fr
  | 0, _, _ => []
  | n + 1, i, [] => none :: frFrom n (i + 1) []
  | n + 1, i, (j, v) :: l => if Nat.beq i j then some v :: frFrom n (i + 1) l else none :: frFrom n (i + 1) ((j, v) :: l)
def frOf (n : Nat) (l : List (Nat × AV)) : Fr := frFrom n 0 l

def chkK {R : Type} (b : Bool) (x : Option R) : Option R := if b then x else none
@[simp] theorem chkK_true {R : Type} (x : Option R) : chkK true x = x := rfl

/-- Results some of which lie in memory. -/
def retL : List (Option AV) → Option (List AV)
  | [] => some []
  | x :: l => x.bind fun v => (retL l).map (v :: ·)
def retN (l : List (Option AV)) (h : Heap) : Rs := (retL l).map fun l => (one l, h)
@[simp] theorem retN_one (v : AV) (h : Heap) : retN [some v] h = some (v, h) := rfl
@[simp] theorem retN_two (a b : AV) (h : Heap) : retN [some a, some b] h = some (.tup [a, b], h) := rfl
@[simp] theorem retN_three (a b c : AV) (h : Heap) : retN [some a, some b, some c] h = some (.tup [a, b, c], h) := rfl

/-- Parts of code. -/
def cl : Code → Code
  | .seq a _ => a
  | .cond _ a _ => a
  | .block _ a => a
  | .loop a => a
  | c => c
def cr : Code → Code
  | .seq _ b => b
  | .cond _ _ b => b
  | c => c
def bodyOf (f : Func) : Code := match f.body with | some c => c | none => .skip

section
variable {T : Types} {Φ : List (Nat × AFn)} {L : PM (List Nat)} {n : Nat} {c : Code}
theorem stepSkip (hc : c = .skip) (K : Kont) (fr : Fr) (h : Heap) : ev T Φ L n c K fr h = K .normal fr h := by subst hc; rfl
theorem stepSeq (hc : c = .seq (cl c) (cr c)) (K : Kont) (fr : Fr) (h : Heap) : ev T Φ L n c K fr h = ev T Φ L n (cl c) (kSeq (ev T Φ L n (cr c) K) K) fr h := by
  generalize cl c = a at *; generalize cr c = b at *; subst hc; rfl
def condOp : Code → Operand
  | .cond o _ _ => o
  | _ => .tmp 0
def blockId : Code → Nat
  | .block i _ => i
  | _ => 0
def exitId : Code → Nat
  | .exit i => i
  | _ => 0
theorem stepCond (hc : c = .cond (condOp c) (cl c) (cr c)) (K : Kont) (fr : Fr) (h : Heap) {v : AV} (hv : opd fr (condOp c) = some v) :
    ev T Φ L n c K fr h = bcase v (ev T Φ L n (cl c) K fr h) (ev T Φ L n (cr c) K fr h) := by
  generalize cl c = a at *; generalize cr c = b at *; generalize condOp c = o at *; subst hc; simp only [ev, hv, Option.bind_some]
theorem stepBlock {i : Nat} (hc : c = .block i (cl c)) (K : Kont) (fr : Fr) (h : Heap) : ev T Φ L n c K fr h = ev T Φ L n (cl c) (kBlock i K) fr h := by
  generalize cl c = a at *; subst hc; rfl
theorem stepExit {i : Nat} (hc : c = .exit i) (K : Kont) (fr : Fr) (h : Heap) : ev T Φ L n c K fr h = K (.exit i) fr h := by subst hc; rfl
theorem stepRet (hc : c = .ret) (K : Kont) (fr : Fr) (h : Heap) : ev T Φ L n c K fr h = K .ret fr h := by subst hc; rfl
theorem stepLoop (hc : c = .loop (cl c)) (K : Kont) (fr : Fr) {fr' : Fr} (h : Heap) (hf : cleanO L (headId (cl c)) fr = fr') :
    ev T Φ L n c K fr h = evLoop (cleanO L (headId (cl c))) (ev T Φ L n (cl c)) K n fr' h := by
  subst hf; generalize cl c = a at *; subst hc; rfl
theorem stepNext {R : Type} {clean : Fr → Fr} {body : KontR R → Fr → Heap → Option R} {K : KontR R} {m : Nat} {fr fr' : Fr} (h : Heap) (hf : clean fr = fr') :
    kSeq (fun fr h => evLoop clean body K m (clean fr) h) K .normal fr h = evLoop clean body K m fr' h := by subst hf; rfl
theorem evLoop_succ {R : Type} (clean : Fr → Fr) (body : KontR R → Fr → Heap → Option R) (K : KontR R) (m : Nat) (fr : Fr) (h : Heap) :
    evLoop clean body K (m + 1) fr h = body (kSeq (fun fr h => evLoop clean body K m (clean fr) h) K) fr h := rfl
theorem kSeq_n {R : Type} (f : Fr → Heap → Option R) (K : KontR R) (fr : Fr) (h : Heap) : kSeq f K .normal fr h = f fr h := rfl
theorem kSeq_x {R : Type} (f : Fr → Heap → Option R) (K : KontR R) (i : Nat) (fr : Fr) (h : Heap) : kSeq f K (.exit i) fr h = K (.exit i) fr h := rfl
theorem kSeq_r {R : Type} (f : Fr → Heap → Option R) (K : KontR R) (fr : Fr) (h : Heap) : kSeq f K .ret fr h = K .ret fr h := rfl
theorem kBlock_n {R : Type} (i : Nat) (K : KontR R) (fr : Fr) (h : Heap) : kBlock i K .normal fr h = K .normal fr h := rfl
theorem kBlock_r {R : Type} (i : Nat) (K : KontR R) (fr : Fr) (h : Heap) : kBlock i K .ret fr h = K .ret fr h := rfl
theorem kBlock_hit {R : Type} (i : Nat) (K : KontR R) (fr : Fr) (h : Heap) : kBlock i K (.exit i) fr h = K .normal fr h := by simp [kBlock]
theorem kBlock_miss {R : Type} (i j : Nat) (K : KontR R) (fr : Fr) (h : Heap) (hn : Nat.beq j i = false) : kBlock i K (.exit j) fr h = K (.exit j) fr h := by simp [kBlock, hn]
def regId : Code → Option Nat
  | .region id _ _ => some id
  | _ => none
theorem cleanFrom_twice : ∀ (fr : Fr) (i : Nat) (l : List Nat), cleanFrom i l (cleanFrom i l fr) = cleanFrom i l fr
  | [], i, l => by cases l <;> rfl
  | y :: fr, i, [] => by simp [cleanFrom, cleanFrom_twice fr]
  | y :: fr, i, x :: l => by
    simp only [cleanFrom]
    split
    · rename_i h; simp only [cleanFrom, h, if_true, cleanFrom_twice fr]
    · rename_i h; simp only [cleanFrom, h, if_false, cleanFrom_twice fr, Bool.false_eq_true]
theorem clean_twice (L : PM (List Nat)) (id : Nat) (fr : Fr) : clean L id (clean L id fr) = clean L id fr := by
  unfold clean
  split
  · exact cleanFrom_twice ..
  · rfl
theorem stepClean {id : Nat} (hc : regId c = some id) (K : Kont) (fr : Fr) {fr' : Fr} (h : Heap) (hf : clean L (2 * id) fr = fr') : ev T Φ L n c K fr h = ev T Φ L n c K fr' h := by
  subst hf
  cases c <;> simp only [regId] at hc <;> try (cases hc; done)
  simp only [Option.some.injEq] at hc; subst hc
  simp only [ev, clean_twice]
end

/-- As many rounds as anybody asks for. -/
def fuel : Nat := 1000000000000

/-! ### Operations -/
def cvtB (h : Heap) (x : AV) : Option AV :=
  match x with
  | .str _ => none
  | x => bytesToStr h x
def ldV (h : Heap) (x : AV) : Option AV :=
  match cellsAt h x 1 with
  | some [v] => some v
  | _ => none
def ldG (n : Nat) (h : Heap) (x : AV) : Option AV := (cellsAt h x n).map .agg
def stV (n : Nat) (h : Heap) (x v : AV) : Option Heap :=
  match x with
  | .ptr id o => if v.cells.length = n ∧ v.notTup = true then putCells h id o v.cells else none
  | _ => none
def faddr (o : Nat) (x : AV) : Option AV :=
  match x with
  | .ptr id p => some (.ptr id (p + o))
  | .iptr c p => some (.iptr c (p + o))
  | _ => none
def fldV (o : Nat) (x : AV) : Option AV :=
  match x with
  | .agg cs => cs[o]?
  | _ => none
def fldG (o n : Nat) (x : AV) : Option AV :=
  match x with
  | .agg cs => some (.agg ((cs.drop o).take n))
  | _ => none
def iaddr (n : Nat) (x i : AV) : Option AV :=
  match x, i with
  | .sl id o m _, .int _ k => if 0 ≤ k ∧ k < m then some (.ptr id (o + k.toNat * n)) else none
  | .isl c m _, .int _ k => if 0 ≤ k ∧ k < m then some (.iptr c (k.toNat * n)) else none
  | _, _ => none
def iaddrA (m n : Nat) (x i : AV) : Option AV :=
  match x, i with
  | .ptr id o, .int _ k => if 0 ≤ k ∧ k < m then some (.ptr id (o + k.toNat * n)) else none
  | .iptr c o, .int _ k => if 0 ≤ k ∧ k < m then some (.iptr c (o + k.toNat * n)) else none
  | _, _ => none
def idxS (x i : AV) : Option AV :=
  match x, i with
  | .str s, .int _ k => if 0 ≤ k then (s[k.toNat]?).map fun (b : Nat) => .int .u8 b else none
  | _, _ => none
def nilck (x : AV) : Option AV :=
  match (some x : Option AV) with
  | some (.ptr i o) => some (.ptr i o)
  | some (.iptr c o) => some (.iptr c o)
  | some (.fn f c) => some (.fn f c)
  | _ => none
def extr (x : AV) (i : Nat) : Option AV :=
  match (some x : Option AV) with
  | some (.tup vs) => vs[i]?
  | _ => none
def pickA (c a b : AV) : Option AV :=
  match (some c : Option AV) with
  | some (.bool true) => some a
  | some (.bool false) => some b
  | _ => none
def cvtI (k : IntKind) (x : AV) : Option AV :=
  match x with
  | .int _ n => some (.int k (k.wrap n))
  | _ => none
def cvtS (x : AV) : Option AV :=
  match x with
  | .str s => some (.str s)
  | _ => none
def slcStr (x : AV) (lo hi : Option AV) : Option AV :=
  match x with
  | .str s => (boundOr hi s.length s.length).bind fun hh => (boundOr lo hh 0).map fun l => .str ((s.take hh).drop l)
  | _ => none
def slc (n : Nat) (h : Heap) (x : AV) (lo hi mx : Option AV) : Option AV :=
  match x with
  | .snil => (boundOr mx 0 0).bind fun m => (boundHi hi mx m 0).bind fun hh => (boundOr lo hh 0).map fun _ => .snil
  | .sl id o k cap =>
    (match cap with
      | some c => some c
      | none => match h.get id with
        | some (.row cells (some z) _ _) => if z = n ∧ n ≠ 0 then some ((cells.length - o) / n) else none
        | _ => none).bind fun room =>
    (boundOr mx room room).bind fun m =>
    (boundHi hi mx m k).bind fun hh =>
    (boundOr lo hh 0).bind fun l =>
    match mx, cap with
    | none, none => some (.sl id (o + l * n) (hh - l) none)
    | _, _ => some (.sl id (if m = l then o else o + l * n) (hh - l) (some (m - l)))
  | .isl c k cap =>
    (boundOr mx k k).bind fun m =>
    (boundHi hi mx m k).bind fun hh =>
    (boundOr lo hh 0).bind fun l =>
    match mx with
    | some _ => some (.isl ((c.take (hh * n)).drop (l * n)) (hh - l) (some (m - l)))
    | none => some (.isl ((c.take (hh * n)).drop (l * n)) (hh - l) (cap.map (· - l)))
  | _ => none
def fillP (cells : List AV) : List (Nat × Nat × AV) → Option (List AV)
  | [] => some cells
  | (o, n, v) :: rest => if v.cells.length = n ∧ o + n ≤ cells.length ∧ v.notTup = true then fillP (setFrom cells o v.cells) rest else none
def bldP (zero : List AV) (parts : List (Nat × Nat × AV)) : Option AV := (fillP zero parts).map .agg
def bldSl (zs : List AV) (n : Nat) (parts : List (Nat × Nat × AV)) : Option (AObj × (Nat → AV)) :=
  (fillP zs parts).map fun cells => (.row cells none false [], fun id => .sl id 0 n (some n))
def boxV (n : Nat) (v : AV) : Option (AObj × (Nat → AV)) :=
  if v.cells.length = n ∧ v.notTup = true then some (.row v.cells none false [], fun id => .ptr id 0) else none
def allc (zero : List AV) : Option (AObj × (Nat → AV)) := some (.row zero none false [], fun id => .ptr id 0)
def mkSl (zl : List AV) (sz bytes : Nat) (n c : AV) : Option (AObj × (Nat → AV)) :=
  match n, c with
  | .int .i64 n, .int .i64 c =>
      if 0 ≤ n ∧ n ≤ c ∧ c * bytes ≤ 281474976710656 ∧ c ≤ 4294967296 ∧ zl.length = sz ∧ zl.all AV.leaf = true then
        some (.row (zeros zl c.toNat) none false [], fun id => .sl id 0 n.toNat (some c.toNat)) else none
  | _, _ => none
def mkMap : Option (AObj × (Nat → AV)) := some makeMapA
def lkp (tk : TK) (z : AV) (h : Heap) (m k : AV) (ok : Bool) : Option AV :=
  if fitsKey tk k then
    (entriesOf h m).bind fun es =>
    match findKeyA tk k es 0 with
    | none => none
    | some r =>
      match r with
      | some (_, v) => some (if ok then .tup [v, .bool true] else v)
      | none => some (if ok then .tup [z, .bool false] else z)
  else none
def mupd (tk : TK) (h : Heap) (m k v : AV) : Option Heap :=
  match m with
  | .map id =>
    if fitsKey tk k then
      match h.get id with
      | some (.map es bs ck) =>
        match findKeyA tk k es 0 with
        | none => none
        | some (some (i, _)) => some (h.put id (.map (setVal k v es i) bs ck))
        | some none => some (h.put id (.map (es ++ [(k, v)]) (bs ++ [ck]) (ck + 1)))
      | _ => none
    else none
  | _ => none
def mdel (tk : TK) (h : Heap) (m k : AV) : Option Heap :=
  if fitsKey tk k then
    match m with
    | .mnil => some h
    | .map id =>
      match h.get id with
      | some (.map es bs ck) =>
        match findKeyA tk k es 0 with
        | none => none
        | some (some (i, _)) => some (h.put id (.map (es.eraseIdx i) (bs.eraseIdx i) ck))
        | some none => some h
      | _ => none
    | _ => none
  else none
def appd (sz bytes zl : Nat) (h : Heap) (s x : AV) : Rs :=
  (lenA x).bind fun n =>
  (elemsOf h sz x n).bind fun new =>
  (lenA s).bind fun len =>
  if (len + n) * bytes ≤ 274877906944 ∧ len + n ≤ 4294967296 ∧ zl = sz ∧ sz ≠ 0 then
    match s with
    | .snil => if n = 0 then some (.snil, h) else some (.sl h.next 0 n none, h.new (.row new (some sz) false []))
    | .isl c len (some cap) =>
      if len + n ≤ cap then (if n = 0 then some (s, h) else none) else
      if len * sz ≤ c.length then some (.sl h.next 0 (len + n) none, h.new (.row (c.take (len * sz) ++ new) (some sz) false [])) else none
    | .sl id o len (some cap) =>
      if len + n ≤ cap then
        if n = 0 then some (s, h) else
        (putCells h id (o + len * sz) new).map fun h' => (.sl id o (len + n) (some cap), h')
      else
        (elemsOf h sz s len).map fun old => (.sl h.next 0 (len + n) none, h.new (.row (old ++ new) (some sz) false []))
    | .sl id o len none =>
      if n = 0 then some (s, h) else
      match h.get id with
      | some (.row cells (some z) false anc) =>
        if z = sz then
        let old := (cells.drop o).take (len * sz)
        if o + len * sz = cells.length then
          some (.sl h.next 0 (len + n) none, (h.put id (.row cells (some z) true anc)).new (.row (old ++ new) (some sz) false (id :: anc)))
        else if o + (len + n) * sz ≤ cells.length then
          (putCells h id (o + len * sz) new).map fun h' => (.sl id o (len + n) none, h')
        else if o + len * sz < cells.length then
          some (.sl h.next 0 (len + n) none, ((h.kill anc).put id .dead).new (.row (old ++ new) (some sz) false []))
        else none
        else none
      | _ => none
    | _ => none
  else none
def cpyd (sz : Nat) (h : Heap) (d x : AV) : Rs :=
  (lenA x).bind fun n =>
  (lenA d).bind fun m =>
  let k := min n m
  (elemsOf h sz x k).bind fun new =>
  if k * sz = 0 then (match d with | .str _ => none | _ => some (.int .i64 k, h)) else
  match d with
  | .sl id o _ _ => (putCells h id o new).map fun h' => (.int .i64 k, h')
  | _ => none
def lenStr (x : AV) : Option AV := match x with | .str s => some (.int .i64 s.length) | _ => none
def lenSl (x : AV) : Option AV := match x with
  | .snil => some (.int .i64 0)
  | .sl _ _ n _ => some (.int .i64 n)
  | .isl _ n _ => some (.int .i64 n)
  | _ => none
def lenMap (h : Heap) (x : AV) : Option AV := (entriesOf h x).map fun es => .int .i64 es.length
def clV (Φ : List (Nat × AFn)) (x : AV) (args : List AV) (h : Heap) : Rs :=
  match (some x : Option AV) with
  | some (.fn f caps) => (lk Φ f).bind fun F => F (args ++ caps) h
  | _ => none
def str2b (h : Heap) (x : AV) : Rs :=
  (fun (x : AV) => match x with
        | .str l => strToBytes h l
        | _ => none) x

/-- A function of which nothing is asked. -/
def stub : AFn := fun _ _ => none
theorem stubOk {P : Program} (f : FuncId) (fn : Func) (hf : P.funcs[f]? = some fn) (hn : ((fn.name == "runtime.NumGoroutine") || fn.body.isNone) = false) : Sound P f stub := by
  simp only [Bool.or_eq_false_iff] at hn
  exact ⟨⟨fn, hf, hn.1, hn.2⟩, fun _ _ _ _ h => by cases h⟩

/-- What answers less is sound, too. -/
theorem Sound.le {P : Program} {f : FuncId} {F G : AFn} (s : Sound P f F) (h : ∀ args h r, G args h = some r → F args h = some r) : Sound P f G :=
  ⟨s.1, fun args h0 h' r hr => s.2 args h0 h' r (h _ _ _ hr)⟩

end Go.Ab
