/- The pure operations all together. -/
import Derived.Test.YtlkeplcadnlndaaAb13
set_option autoImplicit false
set_option linter.unusedSimpArgs false
set_option linter.unusedVariables false
namespace Go.Ab
open Go.RowKit (Below)

section
variable {P : Program} {T : Types} {κ : Gh} {w0 w : World} {h : Heap} {fr : List (Option AV)} {a : Act}

/-- A mark behind a row's cells turns no cell. -/
theorem Sim.freeze (S : Sim κ w0 h w) {b : Nat} (hb : w0.heap.size ≤ b) {C : Array Value} {T : TypeId} {fz : Nat × Nat} (hx : w.heap[b]? = some (.cells C T fz)) :
    Sim κ w0 h (w.freeze ⟨b, C.size, none⟩ 1) := by
  obtain ⟨lo, hi⟩ := fz
  have hne : ∀ k, k ≠ b → (w.freeze ⟨b, C.size, none⟩ 1).heap[k]? = w.heap[k]? := by
    intro k hk
    simp only [World.freeze, Nat.one_ne_zero, if_false, Array.getElem?_modify]
    rw [if_neg (fun e => hk e.symm)]
  have hhere : ∃ lo' hi', (w.freeze ⟨b, C.size, none⟩ 1).heap[b]? = some (.cells C T (lo', hi')) ∧ ((lo = hi ∨ C.size ≤ lo) → (lo' = hi' ∨ C.size ≤ lo')) := by
    simp only [World.freeze, Nat.one_ne_zero, if_false, Array.getElem?_modify, if_true, hx, Option.map_some]
    by_cases e : lo == hi
    · exact ⟨C.size, C.size + 1, by simp [e], fun _ => .inr (Nat.le_refl _)⟩
    · refine ⟨min lo C.size, max hi (C.size + 1), by simp [e], fun hh => .inr ?_⟩
      rcases hh with hh | hh
      · subst hh; simp at e
      · omega
  obtain ⟨lo', hi', hh, hfr⟩ := hhere
  have hsz : (w.freeze ⟨b, C.size, none⟩ 1).heap.size = w.heap.size := by simp [World.freeze]
  exact {
    below := ⟨S.below.os, S.below.tape, S.below.output, by rw [hsz]; exact S.below.size, fun k hk => by rw [hne k (by omega)]; exact S.below.block k hk⟩
    fresh := S.fresh
    row := fun i cells ext stale anc g ho hg => by
      obtain ⟨C0, T0, l0, h0, e1, e2, e3, r⟩ := S.row i cells ext stale anc g ho hg
      by_cases hgb : g.b = b
      · rw [hgb, hx] at e1
        simp only [Option.some.injEq, Obj.cells.injEq, Prod.mk.injEq] at e1
        obtain ⟨rfl, rfl, rfl, rfl⟩ := e1
        exact ⟨C, T, lo', hi', by rw [hgb]; exact hh, e2, hfr e3, r⟩
      · exact ⟨C0, T0, l0, h0, by rw [hne _ hgb]; exact e1, e2, e3, r⟩
    base := S.base
    apart := S.apart
    anc := S.anc
    im := fun k c hc => by
      obtain ⟨T0, fz, e1⟩ := S.im k c hc
      by_cases hgb : k = b
      · subst hgb
        rw [hx] at e1
        simp only [Option.some.injEq, Obj.cells.injEq] at e1
        obtain ⟨rfl, rfl, rfl⟩ := e1
        exact ⟨_, _, hh⟩
      · exact ⟨T0, fz, by rw [hne _ hgb]; exact e1⟩
    imApart := S.imApart
    map := fun i es bs ck k ho hm => by
      obtain ⟨E, e1, r⟩ := S.map i es bs ck k ho hm
      refine ⟨E, ?_, r⟩
      rw [hne _ (by rintro rfl; rw [hx] at e1; cases e1)]; exact e1
    miter := fun i m since seen last k ho hm => by
      obtain ⟨bs, e1, r⟩ := S.miter i m since seen last k ho hm
      refine ⟨bs, ?_, r⟩
      rw [hne _ (by rintro rfl; rw [hx] at e1; cases e1)]; exact e1
    mbase := fun i k hm => by rw [hsz]; exact S.mbase i k hm
    mapApart := S.mapApart }

theorem convertA_ok (K : TOk P T) (S : Sim κ w0 h w) {s d : TypeId} {x r : AV} {v : Value} (hx : VR κ x v) (hr : convertA T h s d x = some r) :
    ∃ q w', (convert s d v).run P w = .ok q w' ∧ VR κ r q ∧ ∀ h1, Sim κ w0 h1 w → Sim κ w0 h1 w' := by
  unfold convertA at hr
  split at hr
  · rename_i si di hsi hdi
    obtain ⟨sd, hsd, hsk⟩ := K.und s _ hsi
    obtain ⟨dd, hdd, hdk⟩ := K.und d _ hdi
    split at hr
    · rename_i hk1 hk2
      rw [hk1] at hsk; rw [hk2] at hdk
      obtain rfl := kindD_int hsk
      obtain rfl := kindD_int hdk
      cases hx
      simp only [Option.some.injEq] at hr; subst hr
      exact ⟨_, w, by simp [convert, run_underlying hsd, run_underlying hdd, Conv.intToInt], .int _ _, fun _ h => h⟩
    · rename_i hk1 hk2
      rw [hk1] at hsk; rw [hk2] at hdk
      obtain rfl := kindD_str hsk
      obtain rfl := kindD_str hdk
      simp only [Option.some.injEq] at hr; subst hr
      cases hx with
      | str _ bs e => exact ⟨.string bs, w, by simp [convert, run_underlying hsd, run_underlying hdd], .str _ _ e, fun _ h => h⟩
    · rename_i e hk1 hk2
      rw [hk1] at hsk; rw [hk2] at hdk
      obtain rfl := kindD_slice hsk
      obtain rfl := kindD_str hdk
      split at hr
      · cases hr
      · rename_i y he hne
        cases hti : T.get e with
        | none => simp [hti] at he
        | some ei =>
          obtain ⟨ed, hed, hek⟩ := K.und e _ hti
          simp only [hti, Option.map_some, Option.some.injEq] at he
          rw [he] at hek
          obtain rfl := kindD_int hek
          obtain ⟨q, hq, hvq⟩ := bytesToStr_ok (P := P) S hx (fun s e => hne s e) hr
          refine ⟨q, w, ?_, hvq, fun _ h => h⟩
          have hsl : ∃ a l c, v = .slice a l c := by
            unfold bytesToStr at hr
            cases hx <;> simp [lenA] at hr
            all_goals first | exact ⟨_, _, _, rfl⟩ | exact absurd rfl (hne _)
          obtain ⟨a, l, c, rfl⟩ := hsl
          rw [run_convert_bytes_string w s d e a l c hsd hed hdd]
          exact hq
      · cases hr
    · rename_i e e' id o n c hk1 hk2
      rw [hk1] at hsk; rw [hk2] at hdk
      obtain rfl := kindD_slice hsk
      obtain rfl := kindD_slice hdk
      split at hr
      · rename_i he
        cases hti : T.get e with
        | none => simp [hti] at he
        | some ei =>
          obtain ⟨ed, hed, hek⟩ := K.und e _ hti
          simp only [hti, Option.map_some, Option.some.injEq] at he
          rw [he] at hek
          obtain rfl := kindD_int hek
          split at hr
          · rename_i hb
            simp only [Bool.and_eq_true, Nat.beq_eq, Nat.ble_eq] at hb
            obtain ⟨rfl, hn⟩ := hb
            cases hob : h.get id with
            | none => simp [hob] at hr
            | some ob =>
            cases ob <;> simp only [hob, Option.some.injEq] at hr <;> try (cases hr; done)
            subst hr
            cases hx with
            | sl _ _ _ c' _ g ad hg hc hex hop had =>
              have had' := had (by omega)
              subst had'
              obtain ⟨C, TT, lo, hi, hcell, _⟩ := S.row _ _ _ _ _ _ hob hg
              have hee : e = e' := by
                rw [hsd] at hdd; simpa using hdd
              subst hee
              refine ⟨.slice (some ⟨g.b, g.base + o, none⟩) n c', w.freeze ⟨g.b, C.size, none⟩ 1, ?_, .sl _ _ _ _ _ g _ hg hc hex hop had, fun h1 S1 => S1.freeze (S.base id g hg) hcell⟩
              have hsh : w.shape? g.b = some (TT, C.size) := by simp [World.shape?, hcell]
              simp [convert, run_underlying hsd, run_underlying hed, markStringish, hsh]
          · cases hr
      · cases hr
    · cases hr
  · cases hr

theorem maxA_ok {x y r : AV} {u v : Value} (hx : VR κ x u) (hy : VR κ y v) (hr : maxA x y = some r) (w : World) : ∃ q, (Builtin.max2 u v).run P w = .ok q w ∧ VR κ r q := by
  unfold maxA at hr
  split at hr
  · cases hx; cases hy; simp only [Option.some.injEq] at hr; subst hr
    exact ⟨_, rfl, .int _ _⟩
  · cases hr
theorem minA_ok {x y r : AV} {u v : Value} (hx : VR κ x u) (hy : VR κ y v) (hr : minA x y = some r) (w : World) : ∃ q, (Builtin.min2 u v).run P w = .ok q w ∧ VR κ r q := by
  unfold minA at hr
  split at hr
  · cases hx; cases hy; simp only [Option.some.injEq] at hr; subst hr
    exact ⟨_, rfl, .int _ _⟩
  · cases hr

theorem run_call_builtin (b : Builtin) (args : Array Operand) (ts : Array TypeId) (o : Oper) (ho : o.op = .call ⟨.builtin b, args, ts⟩) (ρ : Operand → Value) :
    execOp ρ o = builtin b ts o.type (args.map fun | .const _ => true | _ => false) (args.map ρ) := by
  unfold execOp
  rw [ho]
  rfl

theorem toList_one {α : Type} {a : Array α} {x : α} (h : a.toList = [x]) : a = #[x] := by cases a; simp_all
theorem toList_two {α : Type} {a : Array α} {x y : α} (h : a.toList = [x, y]) : a = #[x, y] := by cases a; simp_all

set_option maxHeartbeats 1000000 in
theorem evPure_ok (K : TOk P T) (S : Sim κ w0 h w) (F : FrR κ fr a) {o : Oper} {v : AV} (hv : evPure T h fr o.op = some v) :
    ∃ q w', (execOp a.eval o).run P w = .ok (.value q) w' ∧ VR κ v q ∧ ∀ h1, Sim κ w0 h1 w → Sim κ w0 h1 w' := by
  obtain ⟨dst, op, type, pos, after, guard⟩ := o
  simp only at hv
  have same : ∀ {s : Sem Value}, (∃ q, s.run P w = .ok q w ∧ VR κ v q) → ∃ q w', (do pure (.value (← s)) : Sem Next).run P w = .ok (.value q) w' ∧ VR κ v q ∧ ∀ h1, Sim κ w0 h1 w → Sim κ w0 h1 w' := by
    rintro s ⟨q, hq, hvq⟩
    exact ⟨q, w, by simp [hq], hvq, fun _ h => h⟩
  cases op <;> simp only [evPure] at hv <;> try (cases hv; done)
  case move x => exact ⟨_, w, rfl, opd_ok F hv, fun _ h => h⟩
  case assign x => exact ⟨_, w, rfl, opd_ok F hv, fun _ h => h⟩
  case pick c x y =>
    split at hv
    · rename_i hc
      have := opd_ok F hc
      generalize hcv : a.eval c = cv at this
      cases this
      exact ⟨a.eval x, w, by simp [execOp, hcv, asBool], opd_ok F hv, fun _ h => h⟩
    · rename_i hc
      have := opd_ok F hc
      generalize hcv : a.eval c = cv at this
      cases this
      exact ⟨a.eval y, w, by simp [execOp, hcv, asBool], opd_ok F hv, fun _ h => h⟩
    · cases hv
  case build t parts =>
    cases hp : opdParts fr parts.toList with
    | none => simp [hp] at hv
    | some ps =>
      simp only [hp, Option.bind_some] at hv
      exact same (buildA_ok (us := parts.map fun (i, x) => (i, a.eval x)) K (by have := opdParts_ok F hp; simpa using this) hv w)
  case load t x =>
    cases hx : opd fr x with
    | none => simp [hx] at hv
    | some y =>
      simp only [hx, Option.bind_some] at hv
      exact same (loadA_ok K S (opd_ok F hx) hv)
  case nilCheck x =>
    split at hv <;> try (cases hv; done)
    all_goals
      rename_i hx
      have hxv := opd_ok F hx
      simp only [Option.some.injEq] at hv
      subst hv
      refine ⟨a.eval x, w, ?_, hxv, fun _ h => h⟩
      generalize hcv : a.eval x = cv at hxv
      cases hxv <;> simp [execOp, hcv]
  case binOp op t x y yt =>
    cases hx : opd fr x with
    | none => simp [hx] at hv
    | some p =>
      cases hy : opd fr y with
      | none => simp [hx, hy] at hv
      | some q =>
        simp only [hx, hy, Option.bind_some] at hv
        exact same (binOpA_ok K (opd_ok F hx) (opd_ok F hy) hv x y)
  case unOp op t x =>
    cases hx : opd fr x with
    | none => simp [hx] at hv
    | some p =>
      simp only [hx, Option.bind_some] at hv
      exact same (unOpA_ok (opd_ok F hx) hv w)
  case convert s d x =>
    cases hx : opd fr x with
    | none => simp [hx] at hv
    | some p =>
      simp only [hx, Option.bind_some] at hv
      obtain ⟨q, w', hq, hvq, hs⟩ := convertA_ok K S (opd_ok F hx) hv
      exact ⟨q, w', by simp [execOp, hq], hvq, hs⟩
  case makeFunc fn first caps =>
    cases fn <;> simp only at hv <;> try (cases hv; done)
    rename_i f
    split at hv
    · rename_i hf
      cases hc : opds fr caps.toList with
      | none => simp [hc] at hv
      | some l =>
        simp only [hc, Option.map_some, Option.some.injEq] at hv; subst hv
        have hfe : first = #[] := Array.eq_empty_of_size_eq_zero hf
        subst hfe
        exact ⟨.func (.func f) #[] (caps.map a.eval), w, by simp [execOp, Instr.makeFunc], .fn _ _ _ (by simpa using opds_ok F hc), fun _ h => h⟩
    · cases hv
  case slice t x lo hi mx =>
    cases hx : opd fr x with
    | none => simp [hx] at hv
    | some p =>
      cases hl : opdO fr lo with
      | none => simp [hx, hl] at hv
      | some l =>
        cases hh : opdO fr hi with
        | none => simp [hx, hl, hh] at hv
        | some hh' =>
          cases hm : opdO fr mx with
          | none => simp [hx, hl, hh, hm] at hv
          | some m =>
            simp only [hx, hl, hh, hm, Option.bind_some] at hv
            exact same (sliceA_ok K S (opd_ok F hx) (opdO_ok F hl) (opdO_ok F hh) (opdO_ok F hm) hv)
  case fieldAddr t x f =>
    cases hx : opd fr x with
    | none => simp [hx] at hv
    | some p => simp only [hx, Option.bind_some] at hv; exact same (fieldAddrA_ok K (opd_ok F hx) hv w)
  case field t x f =>
    cases hx : opd fr x with
    | none => simp [hx] at hv
    | some p => simp only [hx, Option.bind_some] at hv; exact same (fieldA_ok K (opd_ok F hx) hv w)
  case indexAddr t x i =>
    cases hx : opd fr x with
    | none => simp [hx] at hv
    | some p =>
      cases hi : opd fr i with
      | none => simp [hx, hi] at hv
      | some q => simp only [hx, hi, Option.bind_some] at hv; exact same (indexAddrA_ok K (opd_ok F hx) (opd_ok F hi) hv w)
  case index t x i =>
    cases hx : opd fr x with
    | none => simp [hx] at hv
    | some p =>
      cases hi : opd fr i with
      | none => simp [hx, hi] at hv
      | some q => simp only [hx, hi, Option.bind_some] at hv; exact same (indexA_ok K (opd_ok F hx) (opd_ok F hi) hv w)
  case lookup t m k ok =>
    cases hx : opd fr m with
    | none => simp [hx] at hv
    | some p =>
      cases hi : opd fr k with
      | none => simp [hx, hi] at hv
      | some q => simp only [hx, hi, Option.bind_some] at hv; exact same (lookupA_ok K S (opd_ok F hx) (opd_ok F hi) hv)
  case extract x i =>
    split at hv
    · rename_i vs hx
      have := opd_ok F hx
      generalize hcv : a.eval x = cv at this
      cases this with
      | tup _ cs hr =>
        obtain ⟨y, hy, hvy⟩ := hr.get hv
        simp only [Array.getElem?_toList] at hy
        exact ⟨y, w, by simp [execOp, hcv, Instr.extract, hy], hvy, fun _ h => h⟩
    · cases hv
  case call c =>
    obtain ⟨callee, args, ts⟩ := c
    cases callee <;> try (simp at hv; done)
    rename_i b
    cases b <;> try (simp at hv; done)
    case len =>
      simp only at hv
      split at hv
      · rename_i x t tl ha ht
        cases hx : opd fr x with
        | none => simp [hx] at hv
        | some y =>
          simp only [hx, Option.bind_some] at hv
          rw [run_call_builtin .len args ts _ rfl]
          obtain rfl := toList_one ha
          have ht0 : ts[0]? = some t := by rw [← Array.getElem?_toList, ht]; rfl
          rw [show (#[x] : Array Operand).map a.eval = #[a.eval x] from by simp]
          exact same (lenOfA_ok K S (opd_ok F hx) hv ts ht0 type)
      · cases hv
    case max =>
      simp only at hv
      split at hv
      · rename_i x y ha
        cases hx : opd fr x with
        | none => simp [hx] at hv
        | some p =>
          cases hy : opd fr y with
          | none => simp [hx, hy] at hv
          | some q =>
            simp only [hx, hy, Option.bind_some] at hv
            rw [run_call_builtin .max args ts _ rfl]
            obtain rfl := toList_two ha
            obtain ⟨r, hr, hvr⟩ := maxA_ok (P := P) (opd_ok F hx) (opd_ok F hy) hv w
            simpa only [builtin] using same ⟨r, by simp [Builtin.max_, hr], hvr⟩
      · cases hv
    case min =>
      simp only at hv
      split at hv
      · rename_i x y ha
        cases hx : opd fr x with
        | none => simp [hx] at hv
        | some p =>
          cases hy : opd fr y with
          | none => simp [hx, hy] at hv
          | some q =>
            simp only [hx, hy, Option.bind_some] at hv
            rw [run_call_builtin .min args ts _ rfl]
            obtain rfl := toList_two ha
            obtain ⟨r, hr, hvr⟩ := minA_ok (P := P) (opd_ok F hx) (opd_ok F hy) hv w
            simpa only [builtin] using same ⟨r, by simp [Builtin.min_, hr], hvr⟩
      · cases hv
end
end Go.Ab
