/- Operations hang on their operands alone. -/
import Derived.Test.YtlkeplcadnlndaaAb20b
set_option autoImplicit false
set_option linter.unusedSimpArgs false
set_option linter.unusedVariables false
namespace Go.Ab

section
variable {T : Types} {Φ : List (Nat × AFn)} {h h' : Heap} {fr fr' : Fr}

theorem opds_congr : ∀ {l : List Operand}, (∀ x ∈ l, opd fr x = opd fr' x) → opds fr l = opds fr' l
  | [], _ => rfl
  | x :: l, hx => by
    simp only [opds]
    rw [hx x (List.mem_cons_self ..), opds_congr fun y hy => hx y (List.mem_cons_of_mem _ hy)]

theorem opdParts_congr : ∀ {l : List (Nat × Operand)}, (∀ x ∈ l.map (·.2), opd fr x = opd fr' x) → opdParts fr l = opdParts fr' l
  | [], _ => rfl
  | (i, x) :: l, hx => by
    simp only [opdParts]
    rw [hx x (List.mem_cons_self ..), opdParts_congr fun y hy => hx y (List.mem_cons_of_mem _ hy)]

theorem opdO_congr {o : Option Operand} (hx : ∀ x, o = some x → opd fr x = opd fr' x) : opdO fr o = opdO fr' o := by
  cases o with
  | none => rfl
  | some x => simp only [opdO, hx x rfl]

theorem evPure_congr {op : Op} (hx : ∀ x ∈ op.operands, opd fr x = opd fr' x) : evPure T h fr op = evPure T h fr' op := by
  cases op <;> simp only [Op.operands] at hx <;> try (simp only [evPure]; done)
  case build t ps => simp only [evPure, opdParts_congr (l := ps.toList) fun x hm => hx x (by simpa using hm)]
  case makeFunc f first caps =>
    cases f <;> simp only [evPure]
    split
    · rw [opds_congr fun x hm => hx x (by simp; right; simpa using hm)]
    · rfl
  case slice t x lo hi mx =>
    simp only [evPure]
    rw [hx x (by simp), opdO_congr (o := lo) fun y e => hx y (by simp [e]), opdO_congr (o := hi) fun y e => hx y (by simp [e]), opdO_congr (o := mx) fun y e => hx y (by simp [e])]
  case call c =>
    obtain ⟨callee, args, ts⟩ := c
    have ha : ∀ x ∈ args.toList, opd fr x = opd fr' x := fun x hm => hx x (by simp [Call.operands]; right; simpa using hm)
    cases callee <;> try (simp only [evPure]; done)
    rename_i b
    generalize hl : args.toList = l at ha
    cases b <;> simp only [evPure, hl]
    all_goals
      split
      · simp_all
      · rfl
  all_goals simp only [evPure]
  all_goals simp_all

theorem evPure_heap {op : Op} (hr : readsOp op = false) : evPure T h fr op = evPure T h' fr op := by
  cases op <;> simp only [readsOp] at hr <;> try (first | (cases hr; done) | (simp only [evPure]; done))
  case makeFunc f _ _ => cases f <;> rfl
  case call c =>
    obtain ⟨callee, args, ts⟩ := c
    cases callee <;> try (simp only [evPure]; done)
    rename_i b
    cases b <;> first | (simp only [evPure]; done) | (simp [readsOp] at hr; done)

theorem evAlloc_congr {op : Op} (hx : ∀ x ∈ op.operands, opd fr x = opd fr' x) : evAlloc T fr op = evAlloc T fr' op := by
  cases op <;> simp only [Op.operands] at hx <;> try (simp only [evAlloc]; done)
  case buildSlice t n ps => simp only [evAlloc, opdParts_congr (l := ps.toList) fun x hm => hx x (by simpa using hm)]
  all_goals simp only [evAlloc]
  all_goals simp_all

theorem evEff_congr {op : Op} (hx : ∀ x ∈ op.operands, opd fr x = opd fr' x) : evEff T h fr op = evEff T h fr' op := by
  cases op <;> simp only [Op.operands] at hx <;> try (simp only [evEff]; done)
  case call c =>
    obtain ⟨callee, args, ts⟩ := c
    have ha : ∀ x ∈ args.toList, opd fr x = opd fr' x := fun x hm => hx x (by simp [Call.operands]; right; simpa using hm)
    cases callee <;> try (simp only [evEff]; done)
    rename_i b
    generalize hl : args.toList = l at ha
    cases b <;> simp only [evEff, hl]
    all_goals
      split
      · simp_all
      · rfl
  all_goals simp only [evEff]
  all_goals simp_all

theorem evCall_congr {op : Op} (hx : ∀ x ∈ op.operands, opd fr x = opd fr' x) : evCall Φ h fr op = evCall Φ h fr' op := by
  cases op <;> simp only [Op.operands] at hx <;> try (simp only [evCall]; done)
  case call c =>
    obtain ⟨callee, args, ts⟩ := c
    have ha : ∀ x ∈ args.toList, opd fr x = opd fr' x := fun x hm => hx x (by simp [Call.operands]; right; simpa using hm)
    cases callee <;> try (simp only [evCall]; done)
    rename_i b
    have hb : opd fr b = opd fr' b := hx b (by simp [Call.operands])
    simp only [evCall, hb, opds_congr ha]

theorem evOp_congr {op : Op} (hx : ∀ x ∈ op.operands, opd fr x = opd fr' x) : evOp T Φ h fr op = evOp T Φ h fr' op := by
  unfold evOp
  rw [evPure_congr hx, evAlloc_congr hx, evEff_congr hx, evCall_congr hx]

end
end Go.Ab
