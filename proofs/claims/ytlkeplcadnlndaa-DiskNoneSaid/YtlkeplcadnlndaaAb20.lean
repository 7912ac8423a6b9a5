/- The abstract machine: code. -/
import Derived.Test.YtlkeplcadnlndaaAb19
set_option autoImplicit false
set_option linter.unusedSimpArgs false
set_option linter.unusedVariables false
namespace Go.Ab
open Go.RowKit (Below)

/-- What a Go function does to abstract values and memory. -/
abbrev AFn := List AV → Heap → Option (AV × Heap)
abbrev Fr := List (Option AV)

def lk : List (Nat × AFn) → Nat → Option AFn
  | [], _ => none
  | (g, F) :: l, f => if Nat.beq f g then some F else lk l f

inductive AEx where
  | normal
  | exit (id : Nat)
  | ret

abbrev KontR (R : Type) := AEx → Fr → Heap → Option R
abbrev Kont := KontR (AV × Heap)

def putA (fr : Fr) (dst : Option Tmp) (v : AV) : Fr :=
  match dst with
  | some d => fr.set d (some v)
  | none => fr

/-- What is looked at later alone is kept ('l' rises). -/
def cleanFrom : Nat → List Nat → Fr → Fr
  | _, _, [] => []
  | i, [], _ :: fr => none :: cleanFrom (i + 1) [] fr
  | i, x :: l, y :: fr => if Nat.beq i x then y :: cleanFrom (i + 1) l fr else none :: cleanFrom (i + 1) (x :: l) fr

def clean (L : PM (List Nat)) (id : Nat) (fr : Fr) : Fr :=
  match L.get id with
  | some l => cleanFrom 0 l fr
  | none => fr

inductive Cls where
  | pure | alloc | eff | call

def cls (T : Types) : Op → Cls
  | .alloc _ | .box _ _ | .buildSlice _ _ _ | .makeSlice _ _ _ | .makeMap _ _ => .alloc
  | .store _ _ _ | .mapUpdate _ _ _ _ | .insert _ _ _ _ => .eff
  | .convert s d _ =>
    match (T.get s).map TI.kind, (T.get d).map TI.kind with
    | some .str, some (.slice _) => .eff
    | _, _ => .pure
  | .call ⟨.builtin .append, _, _⟩ | .call ⟨.builtin .copy, _, _⟩ | .call ⟨.builtin .clear, _, _⟩ | .call ⟨.builtin .delete, _, _⟩ => .eff
  | .call ⟨.value _, _, _⟩ => .call
  | _ => .pure

/-- A call of a Go function. -/
def evCall (Φ : List (Nat × AFn)) (h : Heap) (fr : Fr) : Op → Option (AV × Heap)
  | .call ⟨.value x, args, _⟩ =>
    match opd fr x with
    | some (.fn f caps) => (opds fr args.toList).bind fun vs => (lk Φ f).bind fun F => F (vs ++ caps) h
    | _ => none
  | _ => none

def evOp (T : Types) (Φ : List (Nat × AFn)) (h : Heap) (fr : Fr) (op : Op) : Option (AV × Heap) :=
  match cls T op with
  | .pure => (evPure T h fr op).map fun v => (v, h)
  | .alloc => (evAlloc T fr op).map fun p => (p.2 h.next, h.new p.1)
  | .eff => evEff T h fr op
  | .call => evCall Φ h fr op

/-- By cases on a guard. -/
@[reducible] def gcase {R : Type} (v : AV) (t f u : Option R) : Option R :=
  match v with
  | .bool true => t
  | .bool false => f
  | .tup [] => u
  | _ => none

/-- By cases on a test. -/
@[reducible] def bcase {R : Type} (v : AV) (t f : Option R) : Option R :=
  match v with
  | .bool true => t
  | .bool false => f
  | _ => none

def dstOf (all : List Oper) (j : Nat) : Option Tmp := (all[j]?).bind (·.dst)

/-- One operation, and on. -/
def evOne {R : Type} (T : Types) (Φ : List (Nat × AFn)) (h : Heap) (fr : Fr) (op : Op) (k : AV → Heap → Option R) : Option R :=
  match op with
  | .move x =>
    match opd fr x with
    | some v => k v h
    | none => none
  | .assign x =>
    match opd fr x with
    | some v => k v h
    | none => none
  | .pick c a b =>
    match opd fr c with
    | some v => bcase v (match opd fr a with | some x => k x h | none => none) (match opd fr b with | some x => k x h | none => none)
    | none => none
  | op => (evOp T Φ h fr op).bind fun p => k p.1 p.2

theorem evOne_eq {R : Type} (T : Types) (Φ : List (Nat × AFn)) (h : Heap) (fr : Fr) (op : Op) (k : AV → Heap → Option R) :
    evOne T Φ h fr op k = (evOp T Φ h fr op).bind fun p => k p.1 p.2 := by
  unfold evOne
  split
  · rename_i x
    cases hx : opd fr x <;> simp [evOp, cls, evPure, hx]
  · rename_i x
    cases hx : opd fr x <;> simp [evOp, cls, evPure, hx]
  · rename_i c a b
    cases hc : opd fr c with
    | none => simp [evOp, cls, evPure, hc]
    | some v =>
      simp only [evOp, cls, evPure, hc]
      cases v <;> try (simp [bcase]; done)
      rename_i bb
      cases bb
      · cases hx : opd fr b <;> simp [bcase]
      · cases hx : opd fr a <;> simp [bcase]
  · rfl

/-- The operations of a region, one behind the other. -/
def evSeq {R : Type} (T : Types) (Φ : List (Nat × AFn)) (all : List Oper) (K : Fr → Heap → Option R) : List Oper → Fr → Heap → Option R
  | [], fr, h => K fr h
  | o :: rest, fr, h =>
    match o.guard with
    | none => evOne T Φ h fr o.op fun v h' => evSeq T Φ all K rest (putA fr o.dst v) h'
    | some (j, want) =>
      match dstOf all j with
      | none => none
      | some d =>
        match (fr[d]?).join with
        | none => none
        | some v =>
          gcase v
            (if want then evOne T Φ h (fr.set d (some (.bool true))) o.op fun v h' => evSeq T Φ all K rest (putA (fr.set d (some (.bool true))) o.dst v) h'
             else evSeq T Φ all K rest (putA (fr.set d (some (.bool true))) o.dst .undef) h)
            (if want then evSeq T Φ all K rest (putA (fr.set d (some (.bool false))) o.dst .undef) h
             else evOne T Φ h (fr.set d (some (.bool false))) o.op fun v h' => evSeq T Φ all K rest (putA (fr.set d (some (.bool false))) o.dst v) h')
            (evSeq T Φ all K rest (putA (fr.set d (some .undef)) o.dst .undef) h)

def kSeq {R : Type} (nx : Fr → Heap → Option R) (K : KontR R) : KontR R
  | .normal => nx
  | e => K e

def kBlock {R : Type} (id : Nat) (K : KontR R) : KontR R
  | .exit i => if Nat.beq i id then K .normal else K (.exit i)
  | e => K e

def evLoop {R : Type} (cl : Fr → Fr) (body : KontR R → Fr → Heap → Option R) (K : KontR R) : Nat → Fr → Heap → Option R
  | 0, _, _ => none
  | m + 1, fr, h => body (kSeq (fun fr h => evLoop cl body K m (cl fr) h) K) fr h

/-- The region that a code begins with. -/
def headId : Code → Option Nat
  | .region id _ _ => some (2 * id)
  | .seq x _ => headId x
  | .block _ c => headId c
  | .loop c => headId c
  | _ => none

def cleanO (L : PM (List Nat)) (o : Option Nat) (fr : Fr) : Fr :=
  match o with
  | some id => clean L id fr
  | none => fr

section
variable {P : Program} {T : Types} {κ κ' κ'' : Gh} {w0 w w' w'' : World} {h h' h'' : Heap} {fr : Fr} {a : Act}

/-- An abstract function tells what the program's does. -/
def Sound (P : Program) (f : FuncId) (F : AFn) : Prop :=
  (∃ fn, P.funcs[f]? = some fn ∧ (fn.name == "runtime.NumGoroutine") = false ∧ fn.body.isNone = false) ∧
  ∀ (args : List AV) (h h' : Heap) (r : AV), F args h = some (r, h') → ∀ (κ : Gh) (w0 w : World) (vals : Array Value), Sim κ w0 h w → VRL κ args vals.toList →
    Calls P f vals w fun e w' => ∃ v κ', e = .returned v ∧ Done w0 κ h κ' h' w' ∧ VR κ' r v

theorem lk_sound {Φ : List (Nat × AFn)} (hΦ : ∀ p ∈ Φ, Sound P p.1 p.2) {f : Nat} {F : AFn} (hf : lk Φ f = some F) : Sound P f F := by
  induction Φ with
  | nil => cases hf
  | cons p Φ ih =>
    obtain ⟨g, G⟩ := p
    simp only [lk] at hf
    split at hf
    · rename_i e
      have : f = g := Nat.eq_of_beq_eq_true e
      subst this
      simp only [Option.some.injEq] at hf; subst hf
      exact hΦ _ (List.mem_cons_self ..)
    · exact ih (fun p hp => hΦ p (List.mem_cons_of_mem _ hp)) hf

theorem FrR.mono (F : FrR κ fr a) (hle : Gh.Le κ κ') : FrR κ' fr a := ⟨F.1, fun t v ht => (F.2 t v ht).mono hle⟩

theorem FrR.put (F : FrR κ fr a) (dst : Option Tmp) {v : AV} {q : Value} (hv : VR κ v q) : FrR κ (putA fr dst v) (a.put dst q) := by
  cases dst with
  | none => exact F
  | some d =>
    refine ⟨by simpa [putA, Act.put] using F.1, fun t x ht => ?_⟩
    simp only [putA, List.getElem?_set] at ht
    split at ht
    · rename_i e
      subst e
      split at ht
      · rename_i hlt
        simp only [Option.some.injEq] at ht; subst ht
        have : d < a.tmps.size := Nat.lt_of_lt_of_le hlt F.1
        simpa [Act.put, this] using hv
      · cases ht
    · rename_i hne
      have := F.2 t x ht
      simpa [Act.put, Array.getElem?_setIfInBounds_ne hne] using this

/-- A temporary told anew. -/
theorem FrR.know (F : FrR κ fr a) {d : Nat} {v : AV} (hv : (fr[d]?).join = some v) : FrR κ (fr.set d (some v)) a := by
  refine ⟨by simpa using F.1, fun t x ht => ?_⟩
  simp only [List.getElem?_set] at ht
  split at ht
  · rename_i e
    subst e
    split at ht
    · simp only [Option.some.injEq] at ht; subst ht
      simp only [Option.join_eq_some_iff] at hv
      exact F.2 _ _ hv
    · cases ht
  · exact F.2 t x ht

theorem cleanFrom_len : ∀ (fr : Fr) (i : Nat) (l : List Nat), (cleanFrom i l fr).length = fr.length
  | [], i, l => by cases l <;> rfl
  | y :: fr, i, [] => by simp [cleanFrom, cleanFrom_len fr]
  | y :: fr, i, x :: l => by simp only [cleanFrom]; split <;> simp [cleanFrom_len fr]

theorem cleanFrom_get : ∀ (fr : Fr) (i : Nat) (l : List Nat) (t : Nat) (v : AV), (cleanFrom i l fr)[t]? = some (some v) → fr[t]? = some (some v)
  | [], i, l, t, v, h => by cases l <;> simp [cleanFrom] at h
  | y :: fr, i, [], t, v, h => by
    cases t with
    | zero => simp [cleanFrom] at h
    | succ t => simp only [cleanFrom, List.getElem?_cons_succ] at h ⊢; exact cleanFrom_get fr _ _ t v h
  | y :: fr, i, x :: l, t, v, h => by
    simp only [cleanFrom] at h
    split at h
    · cases t with
      | zero => simpa using h
      | succ t => simp only [List.getElem?_cons_succ] at h ⊢; exact cleanFrom_get fr _ _ t v h
    · cases t with
      | zero => simp at h
      | succ t => simp only [List.getElem?_cons_succ] at h ⊢; exact cleanFrom_get fr _ _ t v h

theorem FrR.clean (F : FrR κ fr a) (L : PM (List Nat)) (id : Nat) : FrR κ (clean L id fr) a := by
  unfold Ab.clean
  split
  · rename_i l _
    exact ⟨by rw [cleanFrom_len]; exact F.1, fun t v ht => F.2 t v (cleanFrom_get _ _ _ _ _ ht)⟩
  · exact F

theorem FrR.cleanO (F : FrR κ fr a) (L : PM (List Nat)) (o : Option Nat) : FrR κ (cleanO L o fr) a := by
  cases o with
  | none => exact F
  | some id => exact F.clean L id

theorem evAlloc_anc {op : Op} {ob : AObj} {mk : Nat → AV} (hp : evAlloc T fr op = some (ob, mk)) {cells : List AV} {ext : Option Nat} {stale : Bool} {anc : List Nat} (e : ob = .row cells ext stale anc) : anc = [] := by
  subst e
  cases op <;> simp only [evAlloc] at hp <;> try (cases hp; done)
  case alloc t =>
    unfold allocA at hp
    split at hp
    · split at hp
      · simp only [Option.some.injEq, Prod.mk.injEq, AObj.row.injEq] at hp; exact hp.1.2.2.2.symm
      · cases hp
    · cases hp
  case box t x =>
    cases hx : opd fr x with
    | none => simp [hx] at hp
    | some v =>
      simp only [hx, Option.bind_some] at hp
      unfold boxA at hp
      split at hp
      · split at hp
        · simp only [Option.some.injEq, Prod.mk.injEq, AObj.row.injEq] at hp; exact hp.1.2.2.2.symm
        · cases hp
      · cases hp
  case buildSlice t n parts =>
    cases hx : opdParts fr parts.toList with
    | none => simp [hx] at hp
    | some v =>
      simp only [hx, Option.bind_some] at hp
      unfold buildSliceA at hp
      split at hp
      · rename_i e _ _ _ _ _
        cases he : T.get e with
        | none => simp [he] at hp
        | some ei =>
          simp only [he, Option.bind_some] at hp
          split at hp
          · cases hf : fillA (fun i => some (i * ei.size, ei.size)) (zeros ei.zero n) v with
            | none => simp [hf] at hp
            | some cs => simp only [hf, Option.map_some, Option.some.injEq, Prod.mk.injEq, AObj.row.injEq] at hp; exact hp.1.2.2.2.symm
          · cases hp
      · cases hp
  case makeSlice t n c =>
    cases hx : opd fr n with
    | none => simp [hx] at hp
    | some v =>
      cases hy : opd fr c with
      | none => simp [hx, hy] at hp
      | some u =>
        simp only [hx, hy, Option.bind_some] at hp
        unfold makeSliceA at hp
        split at hp
        · rename_i e _ _ _ _ _ _ _
          cases he : T.get e with
          | none => simp [he] at hp
          | some ei =>
            simp only [he, Option.bind_some] at hp
            split at hp
            · simp only [Option.some.injEq, Prod.mk.injEq, AObj.row.injEq] at hp; exact hp.1.2.2.2.symm
            · cases hp
        · cases hp
  case makeMap t r =>
    cases r with
    | none => simp [makeMapA] at hp
    | some x =>
      cases x <;> try (simp at hp; done)
      rename_i cv
      cases cv <;> try (simp at hp; done)
      simp only at hp
      split at hp
      · simp [makeMapA] at hp
      · cases hp

/-- One operation. -/
theorem evOp_ok (K : TOk P T) {Φ : List (Nat × AFn)} (hΦ : ∀ p ∈ Φ, Sound P p.1 p.2) (S : Sim κ w0 h w) (F : FrR κ fr a) {o : Oper} {v : AV} (hv : evOp T Φ h fr o.op = some (v, h'))
    {next : Act → World → Prop} {Q : Exit → Act → World → Prop} (hn : ∀ κ' w' q, Done w0 κ h κ' h' w' → VR κ' v q → next (a.put o.dst q) w') : o.wp P a w next Q := by
  unfold evOp at hv
  unfold Oper.wp
  split at hv
  · -- pure
    cases hp : evPure T h fr o.op with
    | none => simp [hp] at hv
    | some x =>
      simp only [hp, Option.map_some, Option.some.injEq, Prod.mk.injEq] at hv
      obtain ⟨rfl, rfl⟩ := hv
      obtain ⟨q, w', hrun, hvq, hsim⟩ := evPure_ok K S F hp
      rw [hrun, Oper.upon_value]
      exact hn κ w' q (Done.refl (hsim h S)) hvq
  · -- alloc
    cases hp : evAlloc T fr o.op with
    | none => simp [hp] at hv
    | some p =>
      obtain ⟨ob, mk⟩ := p
      simp only [hp, Option.map_some, Option.some.injEq, Prod.mk.injEq] at hv
      obtain ⟨rfl, rfl⟩ := hv
      obtain ⟨f1, f2, _⟩ := S.fresh h.next (Nat.le_refl _)
      have S' := S.pend (o := ob) (fun cells ext stale anc e i hi => by
        rw [evAlloc_anc hp e] at hi; cases hi)
      obtain ⟨s, ⟨q, ob', κ', hrun, hle, hsame, hS, hvq⟩, hex⟩ := evAlloc_ok K S' F hp (Heap.get_new_self _ _) f1 f2
      rw [hex]
      simp only [Sem.run_bind, hrun, Result.andThen_ok, Sem.run_pure, Oper.upon_value]
      refine hn κ' _ q ⟨hle, fun j hj => hsame j (by omega), hS, fun j hj _ _ => Heap.get_new_ne _ _ (by omega), by simp⟩ hvq
  · -- writes
    obtain ⟨res, q, w', κ', hrun, hres, hD, hvq⟩ := evEff_ok K S F hv
    rw [hrun]
    rcases hres with rfl | ⟨rfl, rfl⟩
    · exact hn κ' w' q hD hvq
    · exact hn κ' w' undef hD hvq
  · -- a call
    generalize hop : o.op = op at hv
    cases op <;> simp only [evCall] at hv <;> try (cases hv; done)
    rename_i c
    obtain ⟨callee, args, ts⟩ := c
    cases callee <;> try (simp [evCall] at hv; done)
    rename_i x
    simp only [evCall] at hv
    split at hv
    · rename_i f caps hx
      cases hvs : opds fr args.toList with
      | none => simp [hvs] at hv
      | some vs =>
        cases hlk : lk Φ f with
        | none => simp [hvs, hlk] at hv
        | some G =>
          simp only [hvs, hlk, Option.bind_some] at hv
          have hG := lk_sound hΦ hlk
          obtain ⟨⟨fn, g1, g2, g3⟩, hG⟩ := hG
          have hxv := opd_ok F hx
          generalize hxe : a.eval x = xe at hxv
          cases hxv with
          | fn _ _ cs hcs =>
            have hrun : (execOp a.eval o).run P w = .ok (.enter f ((#[] ++ args.map a.eval) ++ cs)) w := by
              have g2' : fn.name ≠ "runtime.NumGoroutine" := by simpa using g2
              have g3' : fn.body ≠ none := by intro e; rw [e] at g3; cases g3
              unfold execOp
              rw [hop]
              simp [resolve, Deferred.ofValue, hxe, invoke, callFunc, g1, g2', g3']
            rw [hrun, Oper.upon_enter]
            refine (hG _ _ _ _ hv κ w0 w _ S ?_).mono ?_
            · simpa using (opds_ok F hvs).append hcs
            · rintro e w' ⟨q, κ', rfl, hD, hvq⟩
              exact hn κ' w' q hD hvq
    · cases hv
end
end Go.Ab
