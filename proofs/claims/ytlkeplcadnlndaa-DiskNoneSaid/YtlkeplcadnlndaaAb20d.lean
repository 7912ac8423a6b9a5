/- Regions that draw their order: what goes ahead. -/
import Derived.Test.YtlkeplcadnlndaaAb20c
set_option autoImplicit false
set_option linter.unusedSimpArgs false
set_option linter.unusedVariables false
namespace Go.Ab

/-! ### Masks -/
theorem masksFrom_prefix : ∀ (l : List Oper) (acc : List Nat), ∃ r, masksFrom acc l = acc ++ r
  | [], acc => ⟨[], by simp [masksFrom]⟩
  | o :: l, acc => by
    obtain ⟨r, hr⟩ := masksFrom_prefix l (acc ++ [maskOf acc o])
    exact ⟨maskOf acc o :: r, by simp [masksFrom, hr]⟩

theorem masksFrom_at : ∀ (l : List Oper) (acc : List Nat) (k : Nat) (o : Oper), l[k]? = some o →
    (masksFrom acc l).getD (acc.length + k) 0 = maskOf ((masksFrom acc l).take (acc.length + k)) o
  | [], acc, k, o, h => by simp at h
  | x :: l, acc, 0, o, h => by
    simp only [List.getElem?_cons_zero, Option.some.injEq] at h
    subst h
    obtain ⟨r, hr⟩ := masksFrom_prefix l (acc ++ [maskOf acc x])
    simp [masksFrom, hr]
  | x :: l, acc, k + 1, o, h => by
    have := masksFrom_at l (acc ++ [maskOf acc x]) k o (by simpa using h)
    simp only [masksFrom]
    rw [List.length_append, List.length_singleton] at this
    rw [show acc.length + (k + 1) = acc.length + 1 + k by omega]
    exact this

theorem mask_at {ops : List Oper} {j : Nat} {o : Oper} (h : ops[j]? = some o) : (masks ops).getD j 0 = maskOf ((masks ops).take j) o := by
  have := masksFrom_at ops [] j o h
  simpa [masks] using this

theorem foldl_bits (f : Nat → Edge → Nat) (g : Edge → Nat) (p : Edge → Bool) (hf : ∀ s e, f s e = if p e then s ||| g e else s) (i : Nat) : ∀ (l : List Edge) (s : Nat),
    (l.foldl f s).testBit i = true ↔ s.testBit i = true ∨ ∃ e ∈ l, p e = true ∧ (g e).testBit i = true
  | [], s => by simp
  | e :: l, s => by
    simp only [List.foldl_cons]
    rw [foldl_bits f g p hf i l, hf]
    by_cases hp : p e = true
    · simp [hp, Nat.testBit_or, or_assoc]
    · simp [hp]

theorem maskOf_bit {acc : List Nat} {o : Oper} {i : Nat} : (maskOf acc o).testBit i = true ↔ ∃ e ∈ o.after.toList, Region.binds .any e = true ∧ (e.on = i ∨ (acc.getD e.on 0).testBit i = true) := by
  unfold maskOf
  rw [foldl_bits _ (fun e => 2 ^ e.on ||| acc.getD e.on 0) (fun e => Region.binds .any e) (fun s e => by simp only [Nat.or_assoc]) i]
  simp only [Nat.zero_testBit, Bool.false_eq_true, false_or, Nat.testBit_or, Bool.or_eq_true, Nat.testBit_two_pow, decide_eq_true_eq]

/-- Every edge goes back. -/
def Back (ops : List Oper) : Prop := ∀ (i : Nat) (o : Oper), ops[i]? = some o → ∀ e ∈ o.after.toList, Region.binds .any e = true → e.on < i

theorem ahead_iff {ops : List Oper} (B : Back ops) {i j : Nat} {o : Oper} (h : ops[j]? = some o) : ahead (masks ops) i j = true ↔
    ∃ e ∈ o.after.toList, Region.binds .any e = true ∧ (e.on = i ∨ ahead (masks ops) i e.on = true) := by
  unfold ahead
  rw [mask_at h, maskOf_bit]
  constructor
  · rintro ⟨e, he, hb, hi⟩
    refine ⟨e, he, hb, hi.imp id fun hi => ?_⟩
    rwa [List.getD_eq_getElem?_getD, List.getElem?_take_of_lt (B j o h e he hb), ← List.getD_eq_getElem?_getD] at hi
  · rintro ⟨e, he, hb, hi⟩
    refine ⟨e, he, hb, hi.imp id fun hi => ?_⟩
    rwa [List.getD_eq_getElem?_getD, List.getElem?_take_of_lt (B j o h e he hb), ← List.getD_eq_getElem?_getD]

theorem masksFrom_length : ∀ (l : List Oper) (acc : List Nat), (masksFrom acc l).length = acc.length + l.length
  | [], acc => by simp [masksFrom]
  | o :: l, acc => by simp [masksFrom, masksFrom_length l]; omega

theorem ahead_none {ops : List Oper} {i j : Nat} (h : ops[j]? = none) : ahead (masks ops) i j = false := by
  unfold ahead
  rw [List.getD_eq_getElem?_getD, List.getElem?_eq_none]
  · simp
  · rw [masks, masksFrom_length]; simpa using h

theorem ahead_lt {ops : List Oper} (B : Back ops) {i : Nat} : ∀ (j : Nat), ahead (masks ops) i j = true → i < j := by
  intro j
  induction j using Nat.strongRecOn with
  | _ j ih =>
    intro h
    cases ho : ops[j]? with
    | none => rw [ahead_none ho] at h; cases h
    | some o =>
      obtain ⟨e, he, hb, hi⟩ := (ahead_iff B ho).1 h
      have hlt := B j o ho e he hb
      rcases hi with rfl | hi
      · exact hlt
      · exact Nat.lt_trans (ih e.on hlt hi) hlt

/-- What has run is closed under the edges. -/
def Shut (ops : List Oper) (D : Nat → Prop) : Prop := ∀ (j : Nat) (o : Oper), D j → ops[j]? = some o → ∀ e ∈ o.after.toList, Region.binds .any e = true → D e.on

theorem Shut.ahead {ops : List Oper} (B : Back ops) {D : Nat → Prop} (S : Shut ops D) {i : Nat} : ∀ (j : Nat), D j → Ab.ahead (masks ops) i j = true → D i := by
  intro j
  induction j using Nat.strongRecOn with
  | _ j ih =>
    intro hj h
    cases ho : ops[j]? with
    | none => rw [ahead_none ho] at h; cases h
    | some o =>
      obtain ⟨e, he, hb, hi⟩ := (ahead_iff B ho).1 h
      have hD := S j o hj ho e he hb
      rcases hi with rfl | hi
      · exact hD
      · exact ih e.on (B j o ho e he hb) hD hi

theorem Shut.ready {ops : List Oper} (B : Back ops) {D : Nat → Prop} (S : Shut ops D) {i j : Nat} {o : Oper} (ho : ops[j]? = some o)
    (hr : ∀ e ∈ o.after.toList, Region.binds .any e = true → D e.on) (h : Ab.ahead (masks ops) i j = true) : D i := by
  obtain ⟨e, he, hb, hi⟩ := (ahead_iff B ho).1 h
  rcases hi with rfl | hi
  · exact hr e he hb
  · exact S.ahead B e.on (hr e he hb) hi

/-! ### The text's order -/
/-- One step of the text's order. -/
def StepOk (T : Types) (Φ : List (Nat × AFn)) (all : List Oper) (o : Oper) (fr : Fr) (h : Heap) (fr' : Fr) (h' : Heap) (v : AV) (ran : Bool) : Prop :=
  fr' = putA fr o.dst v ∧
  (if ran then evOp T Φ h fr o.op = some (v, h') else v = .undef ∧ h' = h) ∧
  match o.guard with
  | none => ran = true
  | some (j, want) => ∃ d, dstOf all j = some d ∧ ∃ u, (fr[d]?).join = some u ∧ ((∃ b, u = .bool b ∧ ran = (b == want)) ∨ (u = .undef ∧ ran = false))

theorem set_known {fr : Fr} {d : Nat} {v : AV} (h : (fr[d]?).join = some v) : fr.set d (some v) = fr := by
  simp only [Option.join_eq_some_iff] at h
  apply List.ext_getElem?
  intro i
  rw [List.getElem?_set]
  split
  · rename_i e; subst e
    split
    · exact h.symm
    · rename_i hn; rw [List.getElem?_eq_none (by omega)] at h; cases h
  · rfl

def TrOut {R : Type} (T : Types) (Φ : List (Nat × AFn)) (all : List Oper) (K : List Mom → Fr → Heap → Option R) (res : R) (rest : List Oper) (tr : List Mom) (fr : Fr) (h : Heap) : Prop :=
    ∃ (F : Nat → Fr) (H : Nat → Heap) (V : Nat → AV) (R : Nat → Bool), F 0 = fr ∧ H 0 = h ∧
      (∀ (k : Nat) (o : Oper), rest[k]? = some o → StepOk T Φ all o (F k) (H k) (F (k + 1)) (H (k + 1)) (V k) (R k)) ∧
      K (((List.range rest.length).map fun k => Mom.mk (F k) (H k) (R k)).reverse ++ tr) (F rest.length) (H rest.length) = some res

theorem evTr_inv {R : Type} {T : Types} {Φ : List (Nat × AFn)} {all : List Oper} {K : List Mom → Fr → Heap → Option R} {res : R} :
    ∀ (rest : List Oper) (tr : List Mom) (fr : Fr) (h : Heap), evTr T Φ all K rest tr fr h = some res →
    TrOut T Φ all K res rest tr fr h := by
  intro rest
  induction rest with
  | nil => intro tr fr h he; exact ⟨fun _ => fr, fun _ => h, fun _ => .undef, fun _ => true, rfl, rfl, fun k o hk => by simp at hk, by simpa [evTr] using he⟩
  | cons o rest ih =>
    intro tr fr h he
    have go : ∀ (ran : Bool) (v : AV) (h1 : Heap), StepOk T Φ all o fr h (putA fr o.dst v) h1 v ran → evTr T Φ all K rest (⟨fr, h, ran⟩ :: tr) (putA fr o.dst v) h1 = some res →
        TrOut T Φ all K res (o :: rest) tr fr h := by
      intro ran v h1 hs he
      obtain ⟨F, H, V, R, hF, hH, hst, hK⟩ := ih _ _ _ he
      refine ⟨fun | 0 => fr | k + 1 => F k, fun | 0 => h | k + 1 => H k, fun | 0 => v | k + 1 => V k, fun | 0 => ran | k + 1 => R k, rfl, rfl, ?_, ?_⟩
      · intro k o' hk
        cases k with
        | zero => simp only [List.getElem?_cons_zero, Option.some.injEq] at hk; subst hk; simp only [hF, hH]; exact hs
        | succ k => exact hst k o' (by simpa using hk)
      · rw [List.length_cons, List.range_succ_eq_map]
        simp only [List.map_cons, List.map_map, List.reverse_cons, List.append_assoc, List.singleton_append, Function.comp_def]
        exact hK
    have step : ∀ (want b : Bool) (g : Nat) (d : Nat), o.guard = some (g, want) → dstOf all g = some d → (fr[d]?).join = some (.bool b) →
        (if b == want then (evOp T Φ h fr o.op).bind fun p => evTr T Φ all K rest (⟨fr, h, true⟩ :: tr) (putA fr o.dst p.1) p.2
             else evTr T Φ all K rest (⟨fr, h, false⟩ :: tr) (putA fr o.dst .undef) h) = some res → TrOut T Φ all K res (o :: rest) tr fr h := by
      intro want b g d hg hd hv he
      split at he
      · rename_i hb
        cases hp : evOp T Φ h fr o.op with
        | none => simp [hp] at he
        | some p =>
          simp only [hp, Option.bind_some] at he
          exact go true p.1 p.2 ⟨rfl, by simpa using hp, by rw [hg]; exact ⟨d, hd, _, hv, .inl ⟨b, rfl, hb.symm⟩⟩⟩ he
      · rename_i hb
        exact go false .undef h ⟨rfl, by simp, by rw [hg]; exact ⟨d, hd, _, hv, .inl ⟨b, rfl, by simpa using hb⟩⟩⟩ he
    simp only [evTr, evOne_eq] at he
    cases hg : o.guard with
    | none =>
      simp only [hg] at he
      cases hp : evOp T Φ h fr o.op with
      | none => simp [hp] at he
      | some p =>
        simp only [hp, Option.bind_some] at he
        exact go true p.1 p.2 ⟨rfl, by simpa using hp, by rw [hg]⟩ he
    | some jw =>
      obtain ⟨j, want⟩ := jw
      simp only [hg] at he
      cases hd : dstOf all j with
      | none => simp [hd] at he
      | some d =>
        simp only [hd] at he
        cases hv : (fr[d]?).join with
        | none => simp [hv] at he
        | some v =>
          simp only [hv, Option.bind_some] at he
          unfold gcase at he
          split at he
          · rw [set_known hv] at he
            exact step want true j d hg hd hv (by cases want <;> simpa using he)
          · rw [set_known hv] at he
            exact step want false j d hg hd hv (by cases want <;> simpa using he)
          · rw [show (AV.tup []) = .undef from rfl] at hv
            rw [set_known hv] at he
            exact go false .undef h ⟨rfl, by simp, by rw [hg]; exact ⟨d, hd, _, hv, .inr ⟨rfl, rfl⟩⟩⟩ he
          · cases he

end Go.Ab
