/- maps.Clone, as the machine's function. Conditions: none. -/
import Derived.Test.YtlkeplcadnlndaaH1
import Derived.Test.YtlkeplcadnlndaaC1
set_option linter.unusedSimpArgs false
set_option linter.unusedVariables false
set_option autoImplicit false
set_option linter.unusedVariables false
namespace Go.Ab
open Go.Proofs
open Go.RowKit (Below)

/-- maps.Clone: a new map with the old one's entries. -/
def G40 : AFn
  | [.map m], h =>
    match h.get m with
    | some (.map es bs ck) => some (.map h.next, h.new (.map es bs ck))
    | _ => none
  | _, _ => none

set_option maxRecDepth 100000 in
theorem s40 : Sound Try.prog 40 G40 := by
  refine ⟨⟨Try.f40, rfl, rfl, rfl⟩, ?_⟩
  intro args h h' r hr κ w0 w vals S hargs
  unfold G40 at hr
  split at hr
  · rename_i m
    split at hr
    · rename_i es bs ck hm
      simp only [Option.some.injEq, Prod.mk.injEq] at hr
      obtain ⟨rfl, rfl⟩ := hr
      obtain ⟨vs⟩ := vals
      cases hargs with
      | cons _ v _ l hv hl =>
        cases hl
        cases hv with
        | map _ b hb =>
          obtain ⟨E, hx, hE, hbs, hB⟩ := S.map _ _ _ _ _ hm hb
          obtain ⟨f1, f2, _⟩ := S.fresh h.next (Nat.le_refl _)
          have S' := S.pend (o := .map es bs ck) (fun cells ext stale anc e => by cases e)
          have S2 := S'.placeMapE (Heap.get_new_self _ _) f2 hE hbs hB
          refine (clone40 b E ck w hx).mono ?_
          rintro e w' ⟨rfl, rfl⟩
          exact ⟨_, _, rfl, ⟨Gh.le_setMp f2, fun j hj => ⟨rfl, by simp [Gh.setMp, Nat.ne_of_lt hj]⟩, S2, fun j hj _ _ => Heap.get_new_ne _ _ (by omega), by simp⟩, .map _ _ (by simp [Gh.setMp])⟩
    · cases hr
  · cases hr
end Go.Ab
