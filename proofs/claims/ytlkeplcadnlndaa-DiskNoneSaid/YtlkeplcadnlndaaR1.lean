/- The statement 'DiskNone': no disk. -/
import Derived.Test.YtlkeplcadnlndaaRows
import Derived.Test.YtlkeplcadnlndaaD1
import Derived.WalkKit
import Derived.ProofKit
import Derived.OpenShut
import Derived.ShutString
import Derived.ChangeOld
import Derived.Below
import Derived.SizedLaws
set_option linter.unusedSimpArgs false
set_option linter.unusedVariables false
set_option autoImplicit false
namespace Go.Ab
open Go.RowKit (Below)
/-- At the start nothing is known. -/
theorem Sim.init (w : World) : Sim ⟨fun _ => none, fun _ => none, fun _ => none⟩ w .empty w where
  below := Below.refl _ _
  fresh := fun i _ => ⟨rfl, rfl, rfl⟩
  row := fun i cells ext stale anc g _ h => by cases h
  base := fun i g h => by cases h
  apart := fun i j ci ei si ai cj ej sj aj gi gj _ _ _ h => by cases h
  anc := fun j cells ext stale anc h => by cases h
  im := fun b C h => by cases h
  imApart := fun i cells ext anc g _ h => by cases h
  map := fun i es bs ck b _ h => by cases h
  miter := fun i m since seen last b _ h => by cases h
  mbase := fun i b h => by cases h
  mapApart := fun i j b h => by cases h

/-- A law without arguments that comes out true. -/
theorem lawNone {P : Program} {f : FuncId} {F : AFn} (s : Sound P f F) (h : isTrue (F [] .empty) = true) (w : World) :
    Calls P f #[] w fun e w' => e = .returned (.bool true) ∧ Below w.heap.size w w' := by
  cases hF : F [] .empty with
  | none => rw [hF] at h; cases h
  | some p =>
    obtain ⟨r, h'⟩ := p
    rw [hF] at h
    have hr : r = .bool true := by
      cases r <;> try (cases h; done)
      rename_i b; cases b
      · cases h
      · rfl
    subst hr
    refine (s.2 [] .empty h' _ hF _ w w #[] (Sim.init w) .nil).mono ?_
    rintro e w' ⟨v, κ', rfl, hD, hv⟩
    cases hv
    exact ⟨rfl, hD.sim.below⟩
end Go.Ab

namespace Go.Proofs.Ytlkeplcadnlndaa.diskNone
open Go.ChangeShapes Go.WideShapes Go.ChangeAt Go.RowKit
open Go.ChangeMaps (open_string shut_string)
set_option linter.unusedVariables false
theorem own : ownKnob Try.prog.godebug = none := by kernel_rfl
set_option maxRecDepth 100000 in
theorem lifted (os : Os) (started : os.Started) (H : Type) (enc : TypeId × Value → H) :
    ReturnsInHanded {} Try.checked os 4 .any (Rows.diskNoneSpec.pre6 enc Try.prog Try.f4 Rows.diskNoneRow.domain false) (Rows.diskNoneSpec.post enc Try.prog Try.f4 false true false false) := by
  refine returnsInHanded_of_change_sized (C := Try.checked) own started (by kernel_rfl) Try.func4
    (ChangeSpec.witness6 (enc := enc) (C := Try.checked) false ⟨#[], #[], []⟩ 8 (by kernel_rfl) (by kernel_rfl) (by kernel_rfl) (by kernel_rfl)) ?_
  intro W base args ds gs before hval0 hW hcnd hsz0 _
  have hW' := hW
  obtain ⟨p, q, hA0, hV, rfl, hfz, hnd⟩ := hW
  have hA : DataW.TrodAll enc Try.prog W 0 (fun _ => true) true Try.f4.params.toList args.toList ds p := hA0
  rw [Try.params4] at hA
  obtain ⟨rfl, rfl, rfl⟩ := trodAll_none hA
  obtain ⟨rfl, rfl⟩ := trodVars_none hV
  clear hA0 hval0 hsz0
  refine (Go.Ab.lawNone Go.Ab.s4 Go.Ab.none3 W).mono fun e W' ⟨he, bel⟩ => ?_
  subst he
  exact ⟨_, rfl, _, _, _, [], _, [], hW', trodAll_mk1 (shut_bool Try.underlying4 _), trodAll_mk0, rfl, bel.frame _, fun h => by cases h⟩
theorem over : Rows.diskNoneRow.holds Try.pinned (OpenSpec.ofChange Rows.diskNoneSpec) :=
  OpenClaim.holds_of_wide 4 Try.f4 rfl rfl rfl rfl rfl rfl rfl ⟨rfl, rfl, rfl, rfl, rfl⟩ rfl rfl rfl rfl rfl (by kernel_rfl) Try.func4 (by kernel_rfl)
    (of_decide_eq_true (by kernel_rfl)) (by unfold Func.isWrapper; first | (rw [if_pos (by decide +kernel)]; kernel_rfl) | (rw [if_neg (by decide +kernel)]; exact ⟨rfl, rfl⟩))
    (fun os started H enc _ => lifted os started H enc)
end Go.Proofs.Ytlkeplcadnlndaa.diskNone
namespace Go.Proofs.Ytlkeplcadnlndaa
theorem diskNone_holds : Rows.DiskNoneSaid := diskNone.over
#print axioms diskNone_holds
end Go.Proofs.Ytlkeplcadnlndaa
