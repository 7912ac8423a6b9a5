/- Regions that draw their order: the text's order tells all. -/
import Derived.Test.YtlkeplcadnlndaaAb20d
set_option autoImplicit false
set_option linter.unusedSimpArgs false
set_option linter.unusedVariables false
namespace Go.Ab
open Go.RowKit (Below)

/-- What a check of a region's order has shown. -/
structure Drawn (T : Types) (ops : List Oper) : Prop where
  back : Back ops
  guard : ∀ (i : Nat) (o : Oper), ops[i]? = some o → ∀ g w, o.guard = some (g, w) → (∃ d, dstOf ops g = some d) ∧ ahead (masks ops) g i = true
  dst : ∀ (i j : Nat) (o p : Oper) (t : Tmp), ops[i]? = some o → ops[j]? = some p → o.dst = some t → p.dst = some t → i = j
  chain : ∀ (i j : Nat) (o p : Oper), ops[i]? = some o → ops[j]? = some p → heavy T o = true → heavy T p = true → i < j → ahead (masks ops) i j = true
  look : ∀ (i j : Nat) (o p : Oper) (t : Tmp), ops[i]? = some o → ops[j]? = some p → p.dst = some t → t ∈ looks ops o → ahead (masks ops) j i = true ∨ ahead (masks ops) i j = true

theorem blt_eq (a b : Nat) : Nat.blt a b = decide (a < b) := by
  rw [Bool.eq_iff_iff, decide_eq_true_iff]
  rw [Nat.blt_eq]

theorem mem_zipIdx {α : Type} {l : List α} {x : α} {i : Nat} (h : l[i]? = some x) : (x, i) ∈ l.zipIdx := by
  rw [List.mem_zipIdx_iff_getElem?]; exact h

theorem drawn_of {T : Types} {ops : List Oper} (h : drawOk T ops = true) : Drawn T ops := by
  unfold drawOk at h
  simp only [List.all_eq_true] at h
  refine ⟨?_, ?_, ?_, ?_, ?_⟩
  · intro i o hi e he hb
    have := h _ (mem_zipIdx hi)
    simp only [Bool.and_eq_true] at this
    have := this.1.1.1
    rw [List.all_eq_true] at this
    have := this e he
    simpa [hb, blt_eq] using this
  · intro i o hi g w hg
    have := h _ (mem_zipIdx hi)
    simp only [Bool.and_eq_true] at this
    have := this.1.2
    simp only [hg] at this
    cases hd : dstOf ops g with
    | none => simp [hd] at this
    | some d => simp only [hd] at this; exact ⟨⟨d, rfl⟩, this⟩
  · intro i j o p t hi hj ho hp
    have := h _ (mem_zipIdx hi)
    simp only [Bool.and_eq_true] at this
    have := this.2
    rw [List.all_eq_true] at this
    have := this _ (mem_zipIdx hj)
    simp only [Bool.and_eq_true] at this
    have := this.1.1
    simpa [ho, hp] using this
  · intro i j o p hi hj ho hp hlt
    have := h _ (mem_zipIdx hi)
    simp only [Bool.and_eq_true] at this
    have := this.2
    rw [List.all_eq_true] at this
    have := this _ (mem_zipIdx hj)
    simp only [Bool.and_eq_true] at this
    have := this.1.2
    simpa [ho, hp, blt_eq, hlt] using this
  · intro i j o p t hi hj hp ht
    have := h _ (mem_zipIdx hi)
    simp only [Bool.and_eq_true] at this
    have := this.2
    rw [List.all_eq_true] at this
    have := this _ (mem_zipIdx hj)
    simp only [Bool.and_eq_true] at this
    have := this.2
    have hany : (looks ops o).any (Nat.beq t) = true := List.any_eq_true.2 ⟨t, ht, by simp⟩
    simpa [hp, hany] using this

/-! ### Frames -/
def Agree (ops : List Oper) (V : Nat → AV) (fr0 : Fr) (D : Nat → Bool) (fr : Fr) : Prop :=
  (∀ (t j : Nat) (o : Oper), ops[j]? = some o → o.dst = some t → fr[t]? = if D j then (fr0[t]?).map (fun _ => some (V j)) else fr0[t]?) ∧
  ∀ (t : Nat), (∀ (j : Nat) (o : Oper), ops[j]? = some o → o.dst ≠ some t) → fr[t]? = fr0[t]?

theorem Agree.step {T : Types} {ops : List Oper} (W : Drawn T ops) {V : Nat → AV} {fr0 fr : Fr} {D D' : Nat → Bool} (A : Agree ops V fr0 D fr) {i : Nat} {o : Oper} (hi : ops[i]? = some o) (hn : D i = false)
    (hD : ∀ j, D' j = (D j || Nat.beq j i)) : Agree ops V fr0 D' (putA fr o.dst (V i)) := by
  have keep : ∀ (t : Nat), o.dst ≠ some t → (putA fr o.dst (V i))[t]? = fr[t]? := by
    intro t ht
    cases hd : o.dst with
    | none => rfl
    | some d =>
      have : d ≠ t := fun e => ht (by rw [hd, e])
      simp [putA, List.getElem?_set, this]
  refine ⟨fun t j p hj hp => ?_, fun t ht => ?_⟩
  · by_cases hot : o.dst = some t
    · have hji := W.dst i j o p t hi hj hot hp
      subst hji
      have h0 := A.1 t i o hi hot
      rw [hn] at h0
      simp only [Bool.false_eq_true, if_false] at h0
      rw [hD]
      simp only [hot, putA, List.getElem?_set, if_true, Nat.beq_refl, Bool.or_true]
      by_cases hl : t < fr.length
      · rw [if_pos hl, ← h0]; simp [hl]
      · rw [if_neg hl, ← h0]; simp [hl]
    · rw [keep t hot, A.1 t j p hj hp, hD]
      have : Nat.beq j i = false := by
        rw [Bool.eq_false_iff]; intro e
        have := Nat.eq_of_beq_eq_true e; subst this
        rw [hi] at hj; cases hj; exact hot hp
      simp [this]
  · rw [keep t (ht i o hi), A.2 t ht]

theorem Agree.at {ops : List Oper} {V : Nat → AV} {fr0 fr fr' : Fr} {D D' : Nat → Bool} (A : Agree ops V fr0 D fr) (B : Agree ops V fr0 D' fr') {t : Nat}
    (h : ∀ (j : Nat) (o : Oper), ops[j]? = some o → o.dst = some t → D j = D' j) : fr[t]? = fr'[t]? := by
  by_cases hw : ∃ (j : Nat) (o : Oper), ops[j]? = some o ∧ o.dst = some t
  · obtain ⟨j, o, hj, ho⟩ := hw
    rw [A.1 t j o hj ho, B.1 t j o hj ho, h j o hj ho]
  · have : ∀ (j : Nat) (o : Oper), ops[j]? = some o → o.dst ≠ some t := fun j o hj ho => hw ⟨j, o, hj, ho⟩
    rw [A.2 t this, B.2 t this]

section
variable {T : Types} {Φ : List (Nat × AFn)} {ops : List Oper} {F : Nat → Fr} {H : Nat → Heap} {V : Nat → AV} {R : Nat → Bool}

/-- The text's order. -/
def Can (T : Types) (Φ : List (Nat × AFn)) (ops : List Oper) (F : Nat → Fr) (H : Nat → Heap) (V : Nat → AV) (R : Nat → Bool) : Prop :=
  ∀ (k : Nat) (o : Oper), ops[k]? = some o → StepOk T Φ ops o (F k) (H k) (F (k + 1)) (H (k + 1)) (V k) (R k)

theorem Can.agree (W : Drawn T ops) (C : Can T Φ ops F H V R) : ∀ k, k ≤ ops.length → Agree ops V (F 0) (fun j => Nat.blt j k) (F k) := by
  intro k
  induction k with
  | zero => intro _; exact ⟨fun t j o hj ho => by simp [blt_eq], fun t ht => rfl⟩
  | succ k ih =>
    intro hk
    have hko : ops[k]? = some ops[k] := List.getElem?_eq_getElem (by omega)
    have := C k _ hko
    rw [this.1]
    refine (ih (by omega)).step W hko (by simp [blt_eq]) fun j => ?_
    rw [Bool.eq_iff_iff]
    simp [blt_eq]
    omega

theorem heavy_heap {o : Oper} (h : heavy T o = false) {hp hp' : Heap} {fr : Fr} {v : AV} (he : evOp T Φ hp fr o.op = some (v, hp')) : hp' = hp ∧ evPure T hp fr o.op = some v := by
  unfold heavy at h
  unfold evOp at he
  cases hc : cls T o.op <;> simp only [hc] at h he <;> try (cases h; done)
  cases hp : evPure T hp fr o.op with
  | none => simp [hp] at he
  | some x => simp [hp] at he; exact ⟨he.2.symm, by rw [he.1]⟩

theorem light_op {o : Oper} (h : heavy T o = false) {hp : Heap} {fr : Fr} {v : AV} (he : evPure T hp fr o.op = some v) : evOp T Φ hp fr o.op = some (v, hp) := by
  unfold heavy at h
  unfold evOp
  cases hc : cls T o.op <;> simp only [hc] at h <;> try (cases h; done)
  simp [he]

theorem Can.still (C : Can T Φ ops F H V R) {p : Nat} : ∀ i, p ≤ i → i ≤ ops.length → (∀ (e : Nat) (o : Oper), ops[e]? = some o → p ≤ e → e < i → heavy T o = false) → H i = H p := by
  intro i
  induction i with
  | zero => intro hp _ _; rw [Nat.le_zero.1 hp]
  | succ i ih =>
    intro hp hi hl
    by_cases hpi : p = i + 1
    · rw [hpi]
    · have hio : ops[i]? = some ops[i] := List.getElem?_eq_getElem (by omega)
      rw [← ih (by omega) (by omega) fun e o he h1 h2 => hl e o he h1 (by omega)]
      have := (C i _ hio).2.1
      split at this
      · exact (heavy_heap (hl i _ hio (by omega) (by omega)) this).1
      · exact this.2

/-- Memory while the heavy ones ahead of p have run. -/
def HeapAt (T : Types) (ops : List Oper) (H : Nat → Heap) (D : Nat → Bool) (h : Heap) (p : Nat) : Prop :=
  p ≤ ops.length ∧ (p = 0 ∨ ∃ o, ops[p - 1]? = some o ∧ heavy T o = true) ∧ h = H p ∧ ∀ (e : Nat) (o : Oper), ops[e]? = some o → heavy T o = true → (D e = true ↔ e < p)

/-- One operation of another order. -/
theorem Can.other (W : Drawn T ops) (C : Can T Φ ops F H V R)
    (hh : hangsAt T ops (masks ops) ((List.range ops.length).map fun k => Mom.mk (F k) (H k) (R k)) (H ops.length) = true)
    {D : Nat → Bool} {fr : Fr} {h : Heap} {p : Nat} (hS : Shut ops (fun j => D j = true)) (A : Agree ops V (F 0) D fr) (M : HeapAt T ops H D h p)
    {i : Nat} {o : Oper} (hi : ops[i]? = some o) (hn : D i = false) (hr : ∀ e ∈ o.after.toList, Region.binds .any e = true → D e.on = true) :
    ∃ h' p', (if R i then evOp T Φ h fr o.op = some (V i, h') else V i = .undef ∧ h' = h) ∧
      (∀ g d w, o.guard = some (g, w) → dstOf ops g = some d → fr[d]? = (F i)[d]?) ∧
      Agree ops V (F 0) (fun j => D j || Nat.beq j i) (putA fr o.dst (V i)) ∧ HeapAt T ops H (fun j => D j || Nat.beq j i) h' p' := by
  have hil : i < ops.length := (List.getElem?_eq_some_iff.1 hi).1
  have hsame : ∀ t, t ∈ looks ops o → fr[t]? = (F i)[t]? := by
    intro t ht
    refine A.at (C.agree W i (by omega)) fun j q hj hq => ?_
    rcases W.look i j o q t hi hj hq ht with ha | ha
    · rw [hS.ready W.back hi hr ha]
      have := ahead_lt W.back i ha
      simp [blt_eq, this]
    · have h1 : D j = false := by
        rw [Bool.eq_false_iff]; intro e
        have := hS.ahead W.back j e ha
        rw [hn] at this; cases this
      have := ahead_lt W.back j ha
      rw [h1]
      simp [blt_eq]; omega
  have hopd : ∀ x ∈ o.op.operands, opd fr x = opd (F i) x := by
    intro x hx
    cases x with
    | tmp t =>
      have : t ∈ looks ops o := List.mem_append_left _ (List.mem_filterMap.2 ⟨.tmp t, by simpa using hx, rfl⟩)
      simp only [opd, hsame t this]
    | _ => rfl
  have hgd : ∀ g d w, o.guard = some (g, w) → dstOf ops g = some d → fr[d]? = (F i)[d]? := by
    intro g d w hg hd
    exact hsame d (List.mem_append_right _ (by simp [hg, hd]))
  have hAg := A.step W hi hn (D' := fun j => D j || Nat.beq j i) fun j => rfl
  have hst := (C i o hi).2.1
  obtain ⟨m1, m2, m3, m4⟩ := M
  cases hhv : heavy T o with
  | true =>
    -- all heavy ones ahead of i have run, none behind
    have hiff : ∀ (e : Nat) (q : Oper), ops[e]? = some q → heavy T q = true → (e < p ↔ e < i) := by
      intro e q he hq
      rw [← m4 e q he hq]
      constructor
      · intro hd
        rcases Nat.lt_trichotomy e i with h1 | h1 | h1
        · exact h1
        · subst h1; rw [hn] at hd; cases hd
        · have := hS.ahead W.back e hd (W.chain i e o q hi he hhv hq h1)
          rw [hn] at this; cases this
      · intro h1
        exact hS.ready W.back hi hr (W.chain e i q o he hi hq hhv h1)
    have hpi : p ≤ i := by
      rcases m2 with h0 | ⟨q, hq, hqh⟩
      · omega
      · by_cases hp0 : p = 0
        · omega
        · have := (hiff (p - 1) q hq hqh).1 (by omega)
          omega
    have hHp : H i = H p := C.still i hpi (by omega) fun e q he h1 h2 => by
      cases hq : heavy T q with
      | false => rfl
      | true => exact absurd ((hiff e q he hq).2 h2) (by omega)
    refine ⟨H (i + 1), i + 1, ?_, hgd, hAg, by omega, .inr ⟨o, by simpa using hi, hhv⟩, rfl, ?_⟩
    · rw [m3, ← hHp, evOp_congr hopd]
      exact hst
    · intro e q he hq
      simp only [Bool.or_eq_true, Nat.beq_eq, m4 e q he hq, hiff e q he hq]
      omega
  | false =>
    refine ⟨h, p, ?_, hgd, hAg, m1, m2, m3, ?_⟩
    · cases hR : R i with
      | false =>
        rw [hR] at hst
        simp only [Bool.false_eq_true, if_false] at hst ⊢
        exact ⟨hst.1, trivial⟩
      | true =>
        rw [hR] at hst
        simp only [if_true] at hst ⊢
        obtain ⟨e1, e2⟩ := heavy_heap hhv hst
        refine light_op hhv ?_
        rw [evPure_congr hopd]
        cases hro : readsOp o.op with
        | false => rw [evPure_heap hro (h' := H i)]; exact e2
        | true =>
          unfold hangsAt at hh
          rw [List.all_eq_true] at hh
          have := hh _ (mem_zipIdx hi)
          have hget : ((List.range ops.length).map fun k => Mom.mk (F k) (H k) (R k))[i]? = some ⟨F i, H i, R i⟩ := by simp [hil]
          simp only [hhv, hro, hget, hR, Bool.not_true, Bool.false_or, List.all_eq_true] at this
          have := this p (by simp; omega)
          have hmay : mayMeet T ops (masks ops) i p = true := by
            unfold mayMeet
            rw [Bool.and_eq_true, List.all_eq_true]
            refine ⟨?_, ?_⟩
            · rcases m2 with h0 | ⟨q, hq, hqh⟩
              · simp [h0]
              · simp [hq, hqh]
            · rintro ⟨q, e⟩ hm
              rw [List.mem_zipIdx_iff_getElem?] at hm
              show (!heavy T q || ((!ahead (masks ops) e i || Nat.blt e p) && (!Nat.blt e p || !ahead (masks ops) i e))) = true
              cases hq : heavy T q with
              | false => rfl
              | true =>
                have h4 := m4 e q hm hq
                simp only [Bool.not_true, Bool.false_or, Bool.and_eq_true, Bool.or_eq_true, Bool.not_eq_true']
                refine ⟨?_, ?_⟩
                · cases ha : ahead (masks ops) e i with
                  | false => exact .inl rfl
                  | true =>
                    have := h4.1 (hS.ready W.back hi hr ha)
                    right; simp [blt_eq, this]
                · cases ha : ahead (masks ops) i e with
                  | false => exact .inr rfl
                  | true =>
                    left
                    rw [Bool.eq_false_iff]
                    intro hb
                    have hlt : e < p := by simpa [blt_eq] using hb
                    have := hS.ahead W.back e (h4.2 hlt) ha
                    rw [hn] at this; cases this
          simp only [hmay, Bool.not_true, Bool.false_or, Bool.or_eq_true] at this
          rcases this with hpe | hob
          · rw [m3, Nat.eq_of_beq_eq_true hpe]; exact e2
          · have hHp : ((((List.range ops.length).map fun k => Mom.mk (F k) (H k) (R k))[p]?).map Mom.h).getD (H ops.length) = H p := by
              by_cases hpl : p < ops.length
              · simp [hpl]
              · have : p = ops.length := by omega
                subst this
                simp
            rw [hHp] at hob
            unfold optBeq at hob
            split at hob
            · rename_i x y hx hy
              rw [e2] at hy; cases hy
              rw [m3, hx, AV.eq_of_beq _ _ hob]
            · cases hob
    · intro e q he hq
      simp only [Bool.or_eq_true, Nat.beq_eq, m4 e q he hq]
      constructor
      · rintro (h1 | h1)
        · exact h1
        · subst h1; rw [hi] at he; cases he; rw [hhv] at hq; cases hq
      · exact .inl

/-- What floats tells all. -/
theorem Can.hangs (C : Can T Φ ops F H V R)
    (hh : hangs2 T ops ((List.range ops.length).map fun k => Mom.mk (F k) (H k) (R k)) (H ops.length) = true) :
    hangsAt T ops (masks ops) ((List.range ops.length).map fun k => Mom.mk (F k) (H k) (R k)) (H ops.length) = true := by
  unfold hangsAt
  rw [List.all_eq_true]
  rintro ⟨o, i⟩ hm
  rw [List.mem_zipIdx_iff_getElem?] at hm
  simp only at hm
  show (heavy T o || !readsOp o.op || _) = true
  have hil : i < ops.length := (List.getElem?_eq_some_iff.1 hm).1
  have hget : ((List.range ops.length).map fun k => Mom.mk (F k) (H k) (R k))[i]? = some ⟨F i, H i, R i⟩ := by simp [hil]
  cases hhv : heavy T o with
  | true => simp
  | false =>
    cases hro : readsOp o.op with
    | false => simp
    | true =>
      simp only [hget, Bool.not_true, Bool.false_or]
      cases hR : R i with
      | false => simp
      | true =>
        simp only [Bool.not_true, Bool.false_or]
        rw [List.all_eq_true]
        intro p hp
        have hpl : p ≤ ops.length := by have := List.mem_range.1 hp; omega
        cases hmm : mayMeet T ops (masks ops) i p with
        | false => rfl
        | true =>
          simp only [Bool.not_true, Bool.false_or]
          rw [Bool.or_eq_true]
          right
          have hHp : ((((List.range ops.length).map fun k => Mom.mk (F k) (H k) (R k))[p]?).map Mom.h).getD (H ops.length) = H p := by
            by_cases hpl : p < ops.length
            · simp [hpl]
            · have : p = ops.length := by omega
              subst this
              simp
          have hst := (C i o hm).2.1
          rw [hR] at hst
          simp only [if_true] at hst
          obtain ⟨e1, e2⟩ := heavy_heap hhv hst
          by_cases hb : (heavyIn T ops p i || heavyIn T ops i p) = true
          · unfold hangs2 at hh
            rw [List.all_eq_true] at hh
            have hmem : (i, p) ∈ floats T ops (masks ops) := by
              unfold floats
              rw [List.mem_flatMap]
              refine ⟨(o, i), mem_zipIdx hm, ?_⟩
              simp only [hhv, hro, Bool.not_true, Bool.or_self, Bool.false_eq_true, if_false]
              rw [List.mem_map]
              exact ⟨p, by rw [List.mem_filter]; exact ⟨hp, by rw [hmm, hb]; rfl⟩, rfl⟩
            have := hh _ hmem
            simpa only [hget, hm, hR, Bool.not_true, Bool.false_or] using this
          · have hb' : heavyIn T ops p i = false ∧ heavyIn T ops i p = false := by simpa using hb
            have noHv : ∀ a b, heavyIn T ops a b = false → ∀ (e : Nat) (q : Oper), ops[e]? = some q → a ≤ e → e < b → heavy T q = false := by
              intro a b hab e q he h1 h2
              unfold heavyIn at hab
              rw [List.any_eq_false] at hab
              have := hab e (List.mem_range.2 (List.getElem?_eq_some_iff.1 he).1)
              simp only [he] at this
              cases hq : heavy T q with
              | false => rfl
              | true =>
                rw [hq] at this
                exfalso; apply this
                simp [blt_eq, h1, h2]
            have hpi : H p = H i := by
              rcases Nat.le_total p i with h1 | h1
              · exact (C.still i h1 (by omega) (noHv p i hb'.1)).symm
              · exact C.still p h1 hpl (noHv i p hb'.2)
            rw [hHp, hpi, e2]
            unfold optBeq
            exact AV.beq_self _

/-- All have run. -/
theorem Can.all (W : Drawn T ops) (C : Can T Φ ops F H V R) {D : Nat → Bool} {fr : Fr} {h : Heap} {p : Nat} (A : Agree ops V (F 0) D fr) (M : HeapAt T ops H D h p)
    (hall : ∀ i, i < ops.length → D i = true) : fr = F ops.length ∧ h = H ops.length := by
  obtain ⟨m1, m2, m3, m4⟩ := M
  constructor
  · apply List.ext_getElem?
    intro t
    refine A.at (C.agree W _ (Nat.le_refl _)) fun j o hj ho => ?_
    have hjl := (List.getElem?_eq_some_iff.1 hj).1
    rw [hall j hjl]
    simp [blt_eq, hjl]
  · rw [m3]
    refine (C.still ops.length m1 (Nat.le_refl _) fun e o he h1 h2 => ?_).symm
    cases hq : heavy T o with
    | false => rfl
    | true => have := (m4 e o he hq).1 (hall e h2); omega

end
end Go.Ab
