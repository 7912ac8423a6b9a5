/- The table of types held against the program's. -/
import Derived.Test.YtlkeplcadnlndaaAb21
set_option autoImplicit false
set_option linter.unusedSimpArgs false
set_option linter.unusedVariables false
namespace Go.Ab

def PM.allI {α : Type} (f : Nat → α → Bool) : (Nat → Nat) → PM α → Bool
  | _, .leaf => true
  | g, .node l v r => (match v with | some x => f (g 0) x | none => true) && PM.allI f (fun n => g (2 * n + 1)) l && PM.allI f (fun n => g (2 * n + 2)) r

theorem PM.allI_get {α : Type} {f : Nat → α → Bool} : ∀ {t : PM α} {g : Nat → Nat} (h : PM.allI f g t = true) {n : Nat} {x : α}, t.get n = some x → f (g n) x = true
  | .leaf, g, h, n, x, hx => by simp at hx
  | .node l v r, g, h, n, x, hx => by
    simp only [PM.allI, Bool.and_eq_true] at h
    cases n with
    | zero => simp only [PM.get] at hx; subst hx; exact h.1.1
    | succ m =>
      simp only [PM.get] at hx
      split at hx
      · rename_i hm
        have h0 : m % 2 = 0 := Nat.eq_of_beq_eq_true hm
        have := PM.allI_get h.1.2 hx
        have e : 2 * Nat.div m 2 + 1 = m + 1 := by show 2 * (m / 2) + 1 = m + 1; omega
        simpa only [e] using this
      · rename_i hm
        have h0 : m % 2 ≠ 0 := fun e => hm (by show (m % 2).beq 0 = true; rw [e]; rfl)
        have := PM.allI_get h.2 hx
        have e : 2 * Nat.div m 2 + 2 = m + 1 := by show 2 * (m / 2) + 2 = m + 1; omega
        simpa only [e] using this

def tiCheck (P : Program) (t : TypeId) (i : TI) : Bool :=
  (match P.underlying t with
    | some d => decide (kindD d = some i.kind)
    | none => false) &&
  (match P.info? t with
    | some inf => Nat.beq inf.size i.size && Nat.beq inf.bytes i.bytes &&
      (match inf.zero with
        | some z => match ofConst 3 z, zeroOf i with
          | some a, some b => AV.beq a b && AV.beqs a.cells i.zero
          | _, _ => false
        | none => false)
    | none => false) &&
  (!i.eqOk || match P.underlying t with
    | some (.struct fs) => !P.stoodInHeld t && !P.eqGuardType P.depth t && fs.toList.all fun f => f.name != "_"
    | _ => true)

theorem TOk.of_check {P : Program} {T : Types} (h : PM.allI (tiCheck P) id T = true) (hm : P.follows .mixedOrders = true) : TOk P T := by
  have key : ∀ t i, T.get t = some i → tiCheck P t i = true := fun t i ht => PM.allI_get h ht
  refine ⟨fun t i ht => ?_, fun t i ht => ?_, fun t i fs ht he hu => ?_, hm⟩
  · have := key t i ht
    simp only [tiCheck, Bool.and_eq_true] at this
    obtain ⟨⟨h1, _⟩, _⟩ := this
    split at h1
    · rename_i d hd
      exact ⟨d, hd, of_decide_eq_true h1⟩
    · cases h1
  · have := key t i ht
    simp only [tiCheck, Bool.and_eq_true] at this
    obtain ⟨⟨_, h1⟩, _⟩ := this
    split at h1
    · rename_i inf hinf
      simp only [Bool.and_eq_true] at h1
      obtain ⟨⟨a1, a2⟩, a3⟩ := h1
      split at a3
      · rename_i z hz
        split at a3
        · rename_i a b ha hb
          simp only [Bool.and_eq_true] at a3
          have e := AV.eq_of_beq _ _ a3.1
          subst e
          exact ⟨inf, hinf, Nat.eq_of_beq_eq_true a1, Nat.eq_of_beq_eq_true a2, z, a, hz, ha, hb, AV.eqs_of_beqs _ _ a3.2⟩
        · cases a3
      · cases a3
    · cases h1
  · have := key t i ht
    simp only [tiCheck, Bool.and_eq_true] at this
    obtain ⟨_, h1⟩ := this
    rw [he, hu] at h1
    simp only [Bool.not_true, Bool.false_or, Bool.and_eq_true, Bool.not_eq_true'] at h1
    refine ⟨h1.1.1, h1.1.2, fun f hf => ?_⟩
    have := List.all_eq_true.1 h1.2 f hf
    simpa using this
/-- A function's soundness, by what the program's table says. -/
theorem soundOf {P : Program} {T : Types} (K : TOk P T) (f : FuncId) (fn : Func) (hf : P.funcs[f]? = some fn) (hn : ((fn.name == "runtime.NumGoroutine") || fn.body.isNone) = false) {Φ : List (Nat × AFn)} (hΦ : ∀ p ∈ Φ, Sound P p.1 p.2)
    (L : PM (List Nat)) (n : Nat) : Sound P f (evFunc T Φ L fn n) := by
  simp only [Bool.or_eq_false_iff] at hn
  cases hb : fn.body with
  | none => rw [hb] at hn; cases hn.2
  | some c => exact evFunc_sound K hf hn.1 hb hΦ L n

theorem allNil {P : Program} : ∀ p ∈ ([] : List (Nat × AFn)), Sound P p.1 p.2 := fun p h => by cases h
theorem allCons {P : Program} {f : Nat} {F : AFn} {Φ : List (Nat × AFn)} (h : Sound P f F) (r : ∀ p ∈ Φ, Sound P p.1 p.2) : ∀ p ∈ (f, F) :: Φ, Sound P p.1 p.2 := by
  intro p hp
  cases hp with
  | head => exact h
  | tail _ hp => exact r p hp

end Go.Ab
