/- Code in which a map is walked through: whatever order. -/
import Derived.Test.YtlkeplcadnlndaaAb23
set_option autoImplicit false
set_option linter.unusedSimpArgs false
set_option linter.unusedVariables false
namespace Go.Ab
open Go.RowKit (Below)

/-- It comes to something, and that holds. -/
def Ev (x : Option Prop) : Prop := ∃ p, x = some p ∧ p

/-- A walk begins. -/
def rangeA (T : Types) (h : Heap) (t : TypeId) (x : AV) : Option (AV × Heap) :=
  match T.get t, x with
  | some ⟨.map _ _, _, _, _, _⟩, .mnil => some (.iter h.next, h.new (.miter none 0 [] 0))
  | some ⟨.map _ _, _, _, _, _⟩, .map id =>
    match h.get id with
    | some (.map _ _ ck) => some (.iter h.next, h.new (.miter (some id) ck [] ck))
    | _ => none
  | _, _ => none

/-- The entry that the walk is at. -/
def entryA (h : Heap) (x : AV) : Option AV :=
  match x with
  | .iter id =>
    match h.get id with
    | some (.miter (some m) _ seen last) =>
      match seen.getLast?, h.get m with
      | some b, some (.map es bs ck) => if ck = last then ((bs.idxOf? b).bind fun j => es[j]?).map fun e => .tup [e.1, e.2] else none
      | _, _ => none
    | _ => none
  | _ => none

/-- A step of a walk: to whatever entry that was not seen. -/
def nextP (h : Heap) (x : AV) (k : AV → Heap → Prop) : Prop :=
  match x with
  | .iter id =>
    match h.get id with
    | some (.miter none _ _ _) => k (.tup [.bool false]) (h.put id .dead)
    | some (.miter (some m) since seen last) =>
      match h.get m with
      | some (.map es bs ck) =>
        (seen = [] ∨ es = [] ∨ ∃ b ∈ bs, b < last) ∧ (∀ b ∈ bs, b < since) ∧
        ((∀ b ∈ bs, b ∈ seen) → k (.tup [.bool false]) (h.put id .dead)) ∧
        (∀ (j : Nat) (kk vv : AV) (b : Nat), es[j]? = some (kk, vv) → bs[j]? = some b → b ∉ seen → k (.tup [.bool true, kk, vv]) (h.put id (.miter (some m) since (seen ++ [b]) ck)))
      | _ => False
    | _ => False
  | _ => False

def nxK (h : Heap) (x : AV) (k : AV → Heap → Option Prop) : Option Prop := some (nextP h x fun r h' => Ev (k r h'))

def walks (o : Oper) : Bool :=
  match o.op with
  | .range _ _ | .entry _ | .next _ _ => true
  | _ => false

/-- A region with steps of a walk. -/
def seqW (T : Types) (Φ : List (Nat × AFn)) (K : Fr → Heap → Option Prop) : List Oper → Fr → Heap → Option Prop
  | [], fr, h => K fr h
  | o :: l, fr, h =>
    match o.guard with
    | some _ => none
    | none =>
      match o.op with
      | .range t x =>
        match opd fr x with
        | some v => (rangeA T h t v).bind fun p => seqW T Φ K l (putA fr o.dst p.1) p.2
        | none => none
      | .entry x =>
        match opd fr x with
        | some v => ((entryA h v).map fun r => (r, h)).bind fun p => seqW T Φ K l (putA fr o.dst p.1) p.2
        | none => none
      | .next x false =>
        match opd fr x with
        | some v => nxK h v fun r h' => seqW T Φ K l (putA fr o.dst r) h'
        | none => none
      | op => evOne T Φ h fr op fun v h' => seqW T Φ K l (putA fr o.dst v) h'

def evW (T : Types) (Φ : List (Nat × AFn)) (L : PM (List Nat)) (n : Nat) : Code → KontR Prop → Fr → Heap → Option Prop
  | .skip, K, fr, h => K .normal fr h
  | .region id ops draw, K, fr, h =>
    if ops.toList.any walks then
      (if draw then none else seqW T Φ (fun fr h => K .normal (clean L (2 * id + 1) fr) h) ops.toList (clean L (2 * id) fr) h)
    else if draw then evDraw T Φ ops.toList (fun fr h => K .normal (clean L (2 * id + 1) fr) h) (clean L (2 * id) fr) h
    else evSeq T Φ ops.toList (fun fr h => K .normal (clean L (2 * id + 1) fr) h) ops.toList (clean L (2 * id) fr) h
  | .seq x y, K, fr, h => evW T Φ L n x (kSeq (evW T Φ L n y K) K) fr h
  | .cond c x y, K, fr, h => (opd fr c).bind fun v => bcase v (evW T Φ L n x K fr h) (evW T Φ L n y K fr h)
  | .block id c, K, fr, h => evW T Φ L n c (kBlock id K) fr h
  | .loop c, K, fr, h => evLoop (cleanO L (headId c)) (evW T Φ L n c) K n (cleanO L (headId c) fr) h
  | .exit id, K, fr, h => K (.exit id) fr h
  | .ret, K, fr, h => K .ret fr h
  | _, _, _, _ => none

section
variable {T : Types} {Φ : List (Nat × AFn)} {L : PM (List Nat)} {n : Nat} {c : Code}
theorem stepSkipW (hc : c = .skip) (K : KontR Prop) (fr : Fr) (h : Heap) : evW T Φ L n c K fr h = K .normal fr h := by subst hc; rfl
theorem stepSeqW (hc : c = .seq (cl c) (cr c)) (K : KontR Prop) (fr : Fr) (h : Heap) : evW T Φ L n c K fr h = evW T Φ L n (cl c) (kSeq (evW T Φ L n (cr c) K) K) fr h := by
  generalize cl c = a at *; generalize cr c = b at *; subst hc; rfl
theorem stepCondW (hc : c = .cond (condOp c) (cl c) (cr c)) (K : KontR Prop) (fr : Fr) (h : Heap) {v : AV} (hv : opd fr (condOp c) = some v) :
    evW T Φ L n c K fr h = bcase v (evW T Φ L n (cl c) K fr h) (evW T Φ L n (cr c) K fr h) := by
  generalize cl c = a at *; generalize cr c = b at *; generalize condOp c = o at *; subst hc; simp only [evW, hv, Option.bind_some]
theorem stepBlockW {i : Nat} (hc : c = .block i (cl c)) (K : KontR Prop) (fr : Fr) (h : Heap) : evW T Φ L n c K fr h = evW T Φ L n (cl c) (kBlock i K) fr h := by
  generalize cl c = a at *; subst hc; rfl
theorem stepExitW {i : Nat} (hc : c = .exit i) (K : KontR Prop) (fr : Fr) (h : Heap) : evW T Φ L n c K fr h = K (.exit i) fr h := by subst hc; rfl
theorem stepRetW (hc : c = .ret) (K : KontR Prop) (fr : Fr) (h : Heap) : evW T Φ L n c K fr h = K .ret fr h := by subst hc; rfl
theorem stepLoopW (hc : c = .loop (cl c)) (K : KontR Prop) (fr : Fr) {fr' : Fr} (h : Heap) (hf : cleanO L (headId (cl c)) fr = fr') :
    evW T Φ L n c K fr h = evLoop (cleanO L (headId (cl c))) (evW T Φ L n (cl c)) K n fr' h := by
  subst hf; generalize cl c = a at *; subst hc; rfl
theorem stepCleanW {id : Nat} (hc : regId c = some id) (K : KontR Prop) (fr : Fr) {fr' : Fr} (h : Heap) (hf : clean L (2 * id) fr = fr') : evW T Φ L n c K fr h = evW T Φ L n c K fr' h := by
  subst hf
  cases c <;> simp only [regId] at hc <;> try (cases hc; done)
  simp only [Option.some.injEq] at hc; subst hc
  simp only [evW, clean_twice]
end
section
variable {P : Program} {T : Types} {κ κ' κ'' : Gh} {w0 w w' w'' : World} {h h' h'' : Heap} {fr : Fr} {a : Act}

/-- A row that had no place is found in a block that nobody holds. -/
theorem Sim.placeAt (S : Sim κ w0 h w) {i : Nat} {cells : List AV} {ext : Option Nat} {anc : List Nat} (ho : h.get i = some (.row cells ext false anc)) (hu : κ.row i = none)
    {g0 : Nat} {C : Array Value} {T : TypeId} {lo hi esz : Nat} (hg0 : w0.heap.size ≤ g0) (hx : w.heap[g0]? = some (.cells C T (lo, hi))) (hf : lo = hi ∨ C.size ≤ lo)
    (hfree : ∀ j c e s a g, h.get j = some (.row c e s a) → κ.row j = some g → g.b ≠ g0) (him : κ.im g0 = none)
    (hv : VRL κ cells (C.toList.take cells.length)) (hall : cells.all AV.leaf = true) (he : ∀ z, ext = some z → esz = z) :
    Sim (κ.setRow i ⟨g0, 0, C.size, esz⟩) w0 h w := by
  have hle : Gh.Le κ (κ.setRow i ⟨g0, 0, C.size, esz⟩) := Gh.le_setRow hu
  have hlt : i < h.next := lt_next S ho
  have hrow : ∀ j g, (κ.setRow i ⟨g0, 0, C.size, esz⟩).row j = some g → (j = i ∧ g = ⟨g0, 0, C.size, esz⟩) ∨ (j ≠ i ∧ κ.row j = some g) := by
    intro j g hg
    by_cases hj : j = i
    · exact .inl ⟨hj, by simpa [Gh.setRow, hj] using hg.symm⟩
    · exact .inr ⟨hj, by simpa [Gh.setRow, hj] using hg⟩
  exact {
    below := S.below
    fresh := fun j hj => by
      obtain ⟨a, b, c⟩ := S.fresh j hj
      refine ⟨?_, b, c⟩
      show (if j = i then _ else κ.row j) = none
      rw [if_neg (by omega)]; exact a
    row := fun j cells' ext' stale anc g hj hg => by
      rcases hrow j g hg with ⟨rfl, rfl⟩ | ⟨_, hg'⟩
      · rw [ho] at hj
        simp only [Option.some.injEq, AObj.row.injEq] at hj
        obtain ⟨rfl, rfl, rfl, rfl⟩ := hj
        refine ⟨C, T, lo, hi, hx, rfl, hf, ?_, hall, he, fun _ => rfl⟩
        simpa using hv.mono hle
      · exact (S.row j cells' ext' stale anc g hj hg').mono hle
    base := fun j g hg => by
      rcases hrow j g hg with ⟨rfl, rfl⟩ | ⟨_, hg'⟩
      · exact hg0
      · exact S.base j g hg'
    apart := fun a b ca ea sa aa cb eb sb ab ga gb hne ha hb' hga hgb hbb => by
      rcases hrow a ga hga with ⟨rfl, rfl⟩ | ⟨hai, hga'⟩
      · rcases hrow b gb hgb with ⟨rfl, rfl⟩ | ⟨_, hgb'⟩
        · exact absurd rfl hne
        · exact absurd hbb.symm (hfree b _ _ _ _ gb hb' hgb')
      · rcases hrow b gb hgb with ⟨rfl, rfl⟩ | ⟨_, hgb'⟩
        · exact absurd hbb (hfree a _ _ _ _ ga ha hga')
        · exact S.apart a b ca ea sa aa cb eb sb ab ga gb hne ha hb' hga' hgb' hbb
    anc := fun j c e s l hj k hk => by
      obtain ⟨h1, h2, h3, h4⟩ := S.anc j c e s l hj k hk
      refine ⟨h1, h2, h3, fun hn => ?_⟩
      cases hx : κ.row k with
      | none => exact h4 hx
      | some x => rw [hle.row _ _ hx] at hn; cases hn
    im := S.im
    imApart := fun j cells' ext' anc g hj hg => by
      rcases hrow j g hg with ⟨rfl, rfl⟩ | ⟨_, hg'⟩
      · exact him
      · exact S.imApart j cells' ext' anc g hj hg'
    map := fun j es bs ck b hj hm => by
      obtain ⟨E, hx, r, q⟩ := S.map j es bs ck b hj hm
      exact ⟨E, hx, r.mono hle, q⟩
    miter := fun j m since seen last b hj hm => by
      obtain ⟨bm, hx, r⟩ := S.miter j m since seen last b hj hm
      exact ⟨bm, hx, r.mono hle⟩
    mbase := S.mbase
    mapApart := S.mapApart }

/-- An iterator that had no place gets one. -/
theorem Sim.placeIter (S : Sim κ w0 h w) {i : Nat} {m : Option Nat} {since : Nat} {seen : List Nat} {last : Nat} (ho : h.get i = some (.miter m since seen last)) (hu : κ.mp i = none) {bm : Option Nat} (hI : IterR κ m bm) :
    Sim (κ.setMp i w.heap.size) w0 h (w.alloc (.mapIter bm since seen.toArray last)) := by
  have hle : Gh.Le κ (κ.setMp i w.heap.size) := Gh.le_setMp hu
  have hb : Below w.heap.size w (w.alloc (.mapIter bm since seen.toArray last)) := (Below.refl _ _).alloc (Nat.le_refl _) _
  have S' := S.grown hb
  have hlt : i < h.next := by
    rcases Nat.lt_or_ge i h.next with h1 | h1
    · exact h1
    · have := (S.fresh i h1).2.2; rw [ho] at this; cases this
  have hmp : ∀ j b, (κ.setMp i w.heap.size).mp j = some b → (j = i ∧ b = w.heap.size) ∨ (j ≠ i ∧ κ.mp j = some b) := by
    intro j b hg
    by_cases hj : j = i
    · exact .inl ⟨hj, by simpa [Gh.setMp, hj] using hg.symm⟩
    · exact .inr ⟨hj, by simpa [Gh.setMp, hj] using hg⟩
  exact {
    below := S'.below
    fresh := fun j hj => by
      obtain ⟨a, b, c⟩ := S.fresh j hj
      refine ⟨a, ?_, c⟩
      show (if j = i then _ else κ.mp j) = none
      rw [if_neg (by omega)]; exact b
    row := fun j cells' ext' stale anc g hj hg => (S'.row j cells' ext' stale anc g hj hg).mono hle
    base := S.base
    apart := S.apart
    anc := S.anc
    im := S'.im
    imApart := S.imApart
    map := fun j es bs ck b hj hm => by
      rcases hmp j b hm with ⟨rfl, rfl⟩ | ⟨_, hm'⟩
      · rw [ho] at hj; cases hj
      · obtain ⟨E, hx, r, q⟩ := S'.map j es bs ck b hj hm'
        exact ⟨E, hx, r.mono hle, q⟩
    miter := fun j m' since' seen' last' b hj hm => by
      rcases hmp j b hm with ⟨rfl, rfl⟩ | ⟨_, hm'⟩
      · rw [ho] at hj
        simp only [Option.some.injEq, AObj.miter.injEq] at hj
        obtain ⟨rfl, rfl, rfl, rfl⟩ := hj
        exact ⟨bm, alloc_here _ _, hI.mono hle⟩
      · obtain ⟨bm', hx, r⟩ := S'.miter j m' since' seen' last' b hj hm'
        exact ⟨bm', hx, r.mono hle⟩
    mbase := fun j b hm => by
      rcases hmp j b hm with ⟨rfl, rfl⟩ | ⟨_, hm'⟩
      · exact ⟨S.below.size, by simp⟩
      · exact S'.mbase j b hm'
    mapApart := fun a b x ha hb' => by
      rcases hmp a x ha with ⟨rfl, rfl⟩ | ⟨hai, ha'⟩
      · rcases hmp b _ hb' with ⟨rfl, _⟩ | ⟨_, hb''⟩
        · rfl
        · exact absurd (S.mbase _ _ hb'').2 (Nat.lt_irrefl _)
      · rcases hmp b x hb' with ⟨rfl, rfl⟩ | ⟨_, hb''⟩
        · exact absurd (S.mbase _ _ ha').2 (Nat.lt_irrefl _)
        · exact S.mapApart a b x ha' hb'' }

/-- A map with entries that had no place gets one. -/
theorem Sim.placeMapE (S : Sim κ w0 h w) {i : Nat} {es : List (AV × AV)} {bs : List Nat} {ck : Nat} (ho : h.get i = some (.map es bs ck)) (hu : κ.mp i = none) {E : Array MapEntry} (hE : EntR κ es E.toList) (hbs : E.toList.map (·.born) = bs) (hB : BornOk E.toList ck) :
    Sim (κ.setMp i w.heap.size) w0 h (w.alloc (.map E ck)) := by
  have hle : Gh.Le κ (κ.setMp i w.heap.size) := Gh.le_setMp hu
  have hb : Below w.heap.size w (w.alloc (.map E ck)) := (Below.refl _ _).alloc (Nat.le_refl _) _
  have S' := S.grown hb
  have hlt : i < h.next := by
    rcases Nat.lt_or_ge i h.next with h1 | h1
    · exact h1
    · have := (S.fresh i h1).2.2; rw [ho] at this; cases this
  have hmp : ∀ j b, (κ.setMp i w.heap.size).mp j = some b → (j = i ∧ b = w.heap.size) ∨ (j ≠ i ∧ κ.mp j = some b) := by
    intro j b hg
    by_cases hj : j = i
    · exact .inl ⟨hj, by simpa [Gh.setMp, hj] using hg.symm⟩
    · exact .inr ⟨hj, by simpa [Gh.setMp, hj] using hg⟩
  exact {
    below := S'.below
    fresh := fun j hj => by
      obtain ⟨a, b, c⟩ := S.fresh j hj
      refine ⟨a, ?_, c⟩
      show (if j = i then _ else κ.mp j) = none
      rw [if_neg (by omega)]; exact b
    row := fun j cells' ext' stale anc g hj hg => (S'.row j cells' ext' stale anc g hj hg).mono hle
    base := S.base
    apart := S.apart
    anc := S.anc
    im := S'.im
    imApart := S.imApart
    map := fun j es' bs' ck' b hj hm => by
      rcases hmp j b hm with ⟨rfl, rfl⟩ | ⟨_, hm'⟩
      · rw [ho] at hj
        simp only [Option.some.injEq, AObj.map.injEq] at hj
        obtain ⟨rfl, rfl, rfl⟩ := hj
        exact ⟨E, alloc_here _ _, hE.mono hle, hbs, hB⟩
      · obtain ⟨E, hx, r, q⟩ := S'.map j es' bs' ck' b hj hm'
        exact ⟨E, hx, r.mono hle, q⟩
    miter := fun j m' since' seen' last' b hj hm => by
      rcases hmp j b hm with ⟨rfl, rfl⟩ | ⟨_, hm'⟩
      · rw [ho] at hj; cases hj
      · obtain ⟨bm', hx, r⟩ := S'.miter j m' since' seen' last' b hj hm'
        exact ⟨bm', hx, r.mono hle⟩
    mbase := fun j b hm => by
      rcases hmp j b hm with ⟨rfl, rfl⟩ | ⟨_, hm'⟩
      · exact ⟨S.below.size, by simp⟩
      · exact S'.mbase j b hm'
    mapApart := fun a b x ha hb' => by
      rcases hmp a x ha with ⟨rfl, rfl⟩ | ⟨hai, ha'⟩
      · rcases hmp b _ hb' with ⟨rfl, _⟩ | ⟨_, hb''⟩
        · rfl
        · exact absurd (S.mbase _ _ hb'').2 (Nat.lt_irrefl _)
      · rcases hmp b x hb' with ⟨rfl, rfl⟩ | ⟨_, hb''⟩
        · exact absurd (S.mbase _ _ ha').2 (Nat.lt_irrefl _)
        · exact S.mapApart a b x ha' hb'' }

/-- An iterator goes on. -/
theorem Sim.setIter (S : Sim κ w0 h w) {id b : Nat} {m : Option Nat} {since last since' last' : Nat} {seen seen' : List Nat} (ho : h.get id = some (.miter m since seen last)) (hb : κ.mp id = some b) {bm : Option Nat} (hI : IterR κ m bm) :
    Sim κ w0 (h.put id (.miter m since' seen' last')) { w with heap := w.heap.setIfInBounds b (.mapIter bm since' seen'.toArray last') } := by
  have hid := lt_next S ho
  obtain ⟨E0, hx, _⟩ := S.miter _ _ _ _ _ _ ho hb
  obtain ⟨hb0, hblt⟩ := S.mbase _ _ hb
  have hne : ∀ k, k ≠ b → (w.heap.setIfInBounds b (.mapIter bm since' seen'.toArray last'))[k]? = w.heap[k]? := fun k hk => Array.getElem?_setIfInBounds_ne (Ne.symm hk)
  have hhere : (w.heap.setIfInBounds b (.mapIter bm since' seen'.toArray last'))[b]? = some (.mapIter bm since' seen'.toArray last') := by simp [hblt]
  have hget : ∀ j o, (h.put id (.miter m since' seen' last')).get j = some o → (j = id ∧ o = .miter m since' seen' last') ∨ (j ≠ id ∧ h.get j = some o) := by
    intro j o hj
    rw [Heap.get_put] at hj
    split at hj
    · simp only [Option.some.injEq] at hj; exact .inl ⟨by assumption, hj.symm⟩
    · exact .inr ⟨by assumption, hj⟩
  have hrow : ∀ j d e s l, (h.put id (.miter m since' seen' last')).get j = some (.row d e s l) → h.get j = some (.row d e s l) := by
    intro j d e s l hj
    rcases hget j _ hj with ⟨_, h1⟩ | ⟨_, h1⟩
    · cases h1
    · exact h1
  exact {
    below := ⟨S.below.os, S.below.tape, S.below.output, by simpa using S.below.size, fun k hk => by show (w.heap.setIfInBounds b _)[k]? = _; rw [hne k (by omega)]; exact S.below.block k hk⟩
    fresh := fun j hj => by
      obtain ⟨p, q, r⟩ := S.fresh j hj
      have hj' : h.next ≤ j := hj
      exact ⟨p, q, by rw [Heap.get_put_ne _ _ (by omega)]; exact r⟩
    row := fun j c e s l g hj hg => (S.row j c e s l g (hrow j c e s l hj) hg).of_block (hne _ (by
      rintro rfl
      obtain ⟨C, TT, lo, hi, hc, _⟩ := S.row j c e s l g (hrow j c e s l hj) hg
      rw [hx] at hc; cases hc))
    base := S.base
    apart := fun j k cj ej sj aj ck ek sk ak gj gk hne' hj hk => S.apart j k cj ej sj aj ck ek sk ak gj gk hne' (hrow _ _ _ _ _ hj) (hrow _ _ _ _ _ hk)
    anc := fun j c e s l hj k hk => by
      obtain ⟨p1, p2, p3, p4⟩ := S.anc j c e s l (hrow _ _ _ _ _ hj) k hk
      exact ⟨p1, p2, fun c e s l hh => p3 c e s l (hrow _ _ _ _ _ hh), p4⟩
    im := fun k c hc => by
      obtain ⟨T1, fz, e1⟩ := S.im k c hc
      exact ⟨T1, fz, (hne k (by rintro rfl; rw [hx] at e1; cases e1)).trans e1⟩
    imApart := fun j c e l g hj hg => S.imApart j c e l g (hrow _ _ _ _ _ hj) hg
    map := fun j es1 bs1 ck1 k hj hm => by
      rcases hget j _ hj with ⟨_, h1⟩ | ⟨hji, h1⟩
      · cases h1
      · obtain ⟨E1, e1, r⟩ := S.map j es1 bs1 ck1 k h1 hm
        exact ⟨E1, (hne k (by rintro rfl; exact hji (S.mapApart _ _ _ hm hb))).trans e1, r⟩
    miter := fun j m1 since1 seen1 last1 k hj hm => by
      rcases hget j _ hj with ⟨rfl, h1⟩ | ⟨hji, h1⟩
      · simp only [AObj.miter.injEq] at h1
        obtain ⟨rfl, rfl, rfl, rfl⟩ := h1
        rw [hb] at hm; cases hm
        exact ⟨bm, hhere, hI⟩
      · obtain ⟨bs, e1, r⟩ := S.miter j m1 since1 seen1 last1 k h1 hm
        exact ⟨bs, (hne k (by rintro rfl; exact hji (S.mapApart _ _ _ hm hb))).trans e1, r⟩
    mbase := fun j k hm => by
      obtain ⟨p, q⟩ := S.mbase j k hm
      exact ⟨p, by simpa using q⟩
    mapApart := S.mapApart }

theorem EntR.at {es : List (AV × AV)} {E : List MapEntry} (hE : EntR κ es E) {j : Nat} {e : MapEntry} (h : E[j]? = some e) : ∃ k v, es[j]? = some (k, v) ∧ VR κ k e.key ∧ VR κ v e.val := by
  induction hE generalizing j with
  | nil => simp at h
  | cons k v e' l m hk hv r ih =>
    cases j with
    | zero => simp only [List.getElem?_cons_zero, Option.some.injEq] at h; subst h; exact ⟨k, v, rfl, hk, hv⟩
    | succ j => exact ih (by simpa using h)

theorem EntR.nil_iff {es : List (AV × AV)} {E : List MapEntry} (hE : EntR κ es E) : es = [] ↔ E = [] := by
  cases hE <;> simp
end
end Go.Ab
