/- The operations that make memory. -/
import Derived.Test.YtlkeplcadnlndaaAb14
set_option autoImplicit false
set_option linter.unusedSimpArgs false
set_option linter.unusedVariables false
namespace Go.Ab
open Go.RowKit (Below)

/-- An operation that makes one new object: what it is, what its name makes of it. -/
def evAlloc (T : Types) (fr : List (Option AV)) : Op → Option (AObj × (Nat → AV))
  | .alloc t => allocA T t
  | .box t x => (opd fr x).bind fun v => boxA T t v
  | .buildSlice t n parts => (opdParts fr parts.toList).bind fun ps => buildSliceA T t n ps
  | .makeSlice t n c => (opd fr n).bind fun a => (opd fr c).bind fun b => makeSliceA T t a b
  | .makeMap t r =>
    match r with
    | none => some makeMapA
    | some (.const (.int _ _)) =>
      match T.get t with
      | some ⟨.map _ _, _, _, _, _⟩ => some makeMapA
      | _ => none
    | _ => none
  | _ => none

section
variable {P : Program} {T : Types} {κ : Gh} {w0 w : World} {h : Heap} {fr : List (Option AV)} {a : Act}

theorem VRL.zeros {z : List AV} {Z : List Value} (hz : VRL κ z Z) (n : Nat) : ∃ L, VRL κ (zeros z n) L ∧ L.length = n * z.length ∧ ∀ i, i < L.length → L[i]? = Z[i % Z.length]? := by
  induction n with
  | zero => exact ⟨[], .nil, by simp, fun i hi => by simp at hi⟩
  | succ n ih =>
    obtain ⟨L, h1, h2, h3⟩ := ih
    refine ⟨Z ++ L, hz.append h1, by simp [h2, hz.length, Nat.succ_mul, Nat.add_comm], fun i hi => ?_⟩
    by_cases hlt : i < Z.length
    · rw [List.getElem?_append_left hlt, Nat.mod_eq_of_lt hlt]
    · rw [List.getElem?_append_right (by omega), h3 _ (by simp at hi; omega)]
      rw [← Nat.mod_eq_sub_mod (by omega)]

theorem zerosArr {z : List AV} {Z : Array Value} (hz : VRL κ z Z.toList) (n m : Nat) (hm : m = n * z.length) : VRL κ (zeros z n) ((Array.range m).map (Z[· % Z.size]!)).toList := by
  obtain ⟨L, h1, h2, h3⟩ := hz.zeros n
  have : ((Array.range m).map (Z[· % Z.size]!)).toList = L := by
    apply List.ext_getElem?
    intro i
    by_cases hi : i < m
    · rw [h3 i (by omega)]
      have hsz : 0 < Z.size := by
        rcases Nat.eq_zero_or_pos Z.size with h0 | h0
        · have hzl : z.length = Z.size := hz.length.trans Array.length_toList
          rw [h0] at hzl; rw [hzl] at hm; omega
        · exact h0
      have hlt := Nat.mod_lt i hsz
      simp [hi, hlt, getElem!_pos]
    · rw [List.getElem?_eq_none (by simp; omega), List.getElem?_eq_none (by omega)]
  rw [this]
  exact h1

theorem all_zeros {z : List AV} (hz : z.all AV.leaf = true) (n : Nat) : (zeros z n).all AV.leaf = true := by
  induction n with
  | zero => rfl
  | succ n ih => simp only [zeros, List.all_append, hz, ih, Bool.and_self]

/-- What a new object becomes in the world. -/
structure Placed (P : Program) (w0 : World) (h : Heap) (κ : Gh) (w : World) (i : Nat) (mk : Nat → AV) (s : Sem Value) : Prop where
  out : ∃ q o κ', s.run P w = .ok q (w.alloc o) ∧ Gh.Le κ κ' ∧ (∀ j, j ≠ i → κ'.row j = κ.row j ∧ κ'.mp j = κ.mp j) ∧ Sim κ' w0 h (w.alloc o) ∧ VR κ' (mk i) q

theorem place_row (S : Sim κ w0 h w) {i : Nat} {cells : List AV} (ho : h.get i = some (.row cells none false [])) (hu : κ.row i = none) {s : Sem Value} {C : Array Value} {t : TypeId} {mk : Nat → AV}
    {q : Value} (hr : s.run P w = .ok q (w.alloc (.cells C t))) (hv : VRL κ cells C.toList) (hl : cells.all AV.leaf = true)
    (hq : VR (κ.setRow i ⟨w.heap.size, 0, C.size, 0⟩) (mk i) q) : Placed P w0 h κ w i mk s := by
  refine ⟨q, _, _, hr, Gh.le_setRow hu, fun j hj => ⟨by simp [Gh.setRow, hj], rfl⟩, S.place ho hu ?_ hl (fun z e => by cases e), hq⟩
  rw [List.take_of_length_le]
  · exact hv
  · rw [hv.length]; exact Nat.le_refl _

theorem setRow_self {i : Nat} {g : RowG} : (κ.setRow i g).row i = some g := by simp [Gh.setRow]

theorem evAlloc_ok (K : TOk P T) (S : Sim κ w0 h w) (F : FrR κ fr a) {o : Oper} {ob : AObj} {mk : Nat → AV} (hv : evAlloc T fr o.op = some (ob, mk)) {i : Nat} (hi : h.get i = some ob)
    (hu : κ.row i = none) (hm : κ.mp i = none) : ∃ s, Placed P w0 h κ w i mk s ∧ execOp a.eval o = (do pure (.value (← s))) := by
  obtain ⟨dst, op, type, pos, after, guard⟩ := o
  simp only at hv
  cases op <;> simp only [evAlloc] at hv <;> try (cases hv; done)
  case alloc t =>
    refine ⟨_, ?_, rfl⟩
    unfold allocA at hv
    cases ht : T.get t with
    | none => simp [ht] at hv
    | some ti =>
      simp only [ht] at hv
      split at hv
      · rename_i hl
        simp only [Option.some.injEq, Prod.mk.injEq] at hv
        obtain ⟨rfl, rfl⟩ := hv
        obtain ⟨z, hz, hzc, _⟩ := zero_ok K ht κ w
        refine place_row (q := .pointer (some ⟨w.heap.size, 0, none⟩)) (t := t) S hi hu ?_ hzc hl (.ptr i 0 _ setRow_self)
        simp [Instr.alloc, hz, newVar, newRow]
      · cases hv
  case box t x =>
    refine ⟨_, ?_, rfl⟩
    cases hx : opd fr x with
    | none => simp [hx] at hv
    | some v =>
      simp only [hx, Option.bind_some] at hv
      unfold boxA at hv
      cases ht : T.get t with
      | none => simp [ht] at hv
      | some ti =>
        simp only [ht] at hv
        split at hv
        · rename_i hl
          simp only [Option.some.injEq, Prod.mk.injEq] at hv
          obtain ⟨rfl, rfl⟩ := hv
          have hxv := opd_ok F hx
          refine place_row (q := .pointer (some ⟨w.heap.size, 0, none⟩)) (t := t) S hi hu ?_ hxv.cells (hxv.leafs hl.2) (.ptr i 0 _ setRow_self)
          simp [Instr.box, newVar, newRow]
        · cases hv
  case buildSlice t n parts =>
    refine ⟨_, ?_, rfl⟩
    cases hp : opdParts fr parts.toList with
    | none => simp [hp] at hv
    | some ps =>
      simp only [hp, Option.bind_some] at hv
      unfold buildSliceA at hv
      split at hv
      · rename_i e s b z q ht
        obtain ⟨d, hd, hk⟩ := K.und t _ ht
        obtain rfl := kindD_slice hk
        cases he : T.get e with
        | none => simp [he] at hv
        | some ei =>
          simp only [he, Option.bind_some] at hv
          split at hv
          · rename_i hc
            cases hf : fillA (fun i => some (i * ei.size, ei.size)) (zeros ei.zero n) ps with
            | none => simp [hf] at hv
            | some cells =>
              simp only [hf, Option.map_some, Option.some.injEq, Prod.mk.injEq] at hv
              obtain ⟨rfl, rfl⟩ := hv
              obtain ⟨zv, hz, hzc, _⟩ := zero_ok K he κ w
              have hps := opdParts_ok F hp
              obtain ⟨C', h1, h2, h3⟩ := fill_ok (place := fun i => some (i * ei.size, ei.size)) (fun _ _ _ h => h) hps
                (zerosArr hzc n (n * ei.size) (by rw [hc.2.1])) (all_zeros hc.2.2 n) hf
              refine place_row (q := .slice (some ⟨w.heap.size, 0, none⟩) n n) (t := e) S hi hu ?_ h2 h3
                (.sl i 0 n n (some n) _ _ setRow_self (Nat.le_refl _) (fun c' e => by simpa using e) (fun e => by cases e) (fun _ => rfl))
              have hpm : (parts.map fun (i, x) => (i, a.eval x)).toList = parts.toList.map fun p => (p.1, a.eval p.2) := by simp
              have hle : ¬ (n * ei.size > 2 ^ 24) := by omega
              by_cases h0 : n * ei.size = 0
              · have hC : (Array.range (n * ei.size)).map (zv.cells[· % zv.cells.size]!) = (Array.range (n * ei.size)).map ((#[] : Array Value)[· % (#[] : Array Value).size]!) := by simp [h0]
                rw [hC] at h1
                simp only [Instr.buildSlice, Sem.run_bind, run_underlying hd, Result.andThen_ok, run_sizeOf K he, Sem.run_ite, if_neg hle, if_pos h0, Sem.run_pure, hpm, h1, newRow, run_newObj]
                rfl
              · simp only [Instr.buildSlice, Sem.run_bind, run_underlying hd, Result.andThen_ok, run_sizeOf K he, Sem.run_ite, if_neg hle, if_neg h0, Sem.run_pure, hz, hpm, h1, newRow, run_newObj]
                rfl
          · cases hv
      · cases hv
  case makeSlice t n c =>
    refine ⟨_, ?_, rfl⟩
    cases hn : opd fr n with
    | none => simp [hn] at hv
    | some nv =>
      cases hc : opd fr c with
      | none => simp [hn, hc] at hv
      | some cv =>
        simp only [hn, hc, Option.bind_some] at hv
        have hnv := opd_ok F hn
        have hcv := opd_ok F hc
        unfold makeSliceA at hv
        split at hv
        · rename_i e s b z q n' c' ht
          obtain ⟨d, hd, hk⟩ := K.und t _ ht
          obtain rfl := kindD_slice hk
          cases he : T.get e with
          | none => simp [he] at hv
          | some ei =>
            simp only [he, Option.bind_some] at hv
            split at hv
            · rename_i hb
              simp only [Option.some.injEq, Prod.mk.injEq] at hv
              obtain ⟨rfl, rfl⟩ := hv
              obtain ⟨zv, hz, hzc, _⟩ := zero_ok K he κ w
              generalize hne : a.eval n = ne at hnv
              generalize hce : a.eval c = ce at hcv
              cases hnv; cases hcv
              obtain ⟨inf, i1, i2, i3, _⟩ := K.info e _ he
              refine place_row (q := .slice (some ⟨w.heap.size, 0, none⟩) n'.toNat c'.toNat) (t := e) (C := (Array.range (c'.toNat * ei.size)).map (zv.cells[· % zv.cells.size]!)) S hi hu ?_
                (zerosArr hzc c'.toNat (c'.toNat * ei.size) (by rw [hb.2.2.2.2.1])) (all_zeros hb.2.2.2.2.2 _)
                (.sl i 0 _ _ (some _) _ _ setRow_self (by omega) (fun c' e => by simpa using e) (fun e => by cases e) (fun _ => rfl))
              have w1 : IntKind.i64.wrap n' = n' := by unfold IntKind.wrap; simp [IntKind.bits, IntKind.signed]; omega
              have w2 : IntKind.i64.wrap c' = c' := by unfold IntKind.wrap; simp [IntKind.bits, IntKind.signed]; omega
              have g1 : ¬ (c' < 0) := by omega
              have g2 : ¬ (n' < 0) := by omega
              have g3 : ¬ (n' > c') := by omega
              have g4 : ¬ (281474976710656 < (ei.bytes : Int) * c') := by
                have := hb.2.2.1; rw [Int.mul_comm] at this; omega
              by_cases h0 : c'.toNat * ei.size = 0
              · simp only [Instr.makeSlice, Sem.run_bind, run_underlying hd, Result.andThen_ok, asInt, asIntOf, Sem.run_pure, typeInfo, run_program, i1, i3, w1, w2, run_sizeOf K he]
                simp [g1, g2, g3, g4, i3, h0, newRow, run_sizeOf K he]
                rw [show ∀ f g : Nat → Value, (Array.range 0).map f = (Array.range 0).map g from fun f g => by apply Array.ext'; simp]
              · simp only [Instr.makeSlice, Sem.run_bind, run_underlying hd, Result.andThen_ok, asInt, asIntOf, Sem.run_pure, typeInfo, run_program, i1, i3, w1, w2, run_sizeOf K he]
                simp [g1, g2, g3, g4, i3, h0, hz, newRow, run_sizeOf K he]
            · cases hv
        · cases hv
  case makeMap t r =>
    refine ⟨_, ?_, rfl⟩
    have key : ob = .map [] [] 0 ∧ mk = (fun id => .map id) ∧ (Instr.makeMap t (r.map a.eval)).run P w = .ok (.map (some w.heap.size)) (w.alloc (.map #[] 0)) := by
      cases r with
      | none =>
        simp only [makeMapA, Option.some.injEq, Prod.mk.injEq] at hv
        exact ⟨hv.1.symm, hv.2.symm, by simp [Instr.makeMap]⟩
      | some x =>
        cases x <;> try (simp at hv; done)
        rename_i cv
        cases cv <;> try (simp at hv; done)
        simp only at hv
        split at hv
        · rename_i k e s b z q ht
          obtain ⟨d, hd, hk⟩ := K.und t _ ht
          obtain rfl := kindD_map hk
          simp only [makeMapA, Option.some.injEq, Prod.mk.injEq] at hv
          exact ⟨hv.1.symm, hv.2.symm, by simp [Instr.makeMap, run_underlying hd, Act.eval, asInt, asIntOf]⟩
        · cases hv
    obtain ⟨rfl, rfl, hrun⟩ := key
    exact ⟨_, _, _, hrun, Gh.le_setMp hm, fun j hj => ⟨rfl, by simp [Gh.setMp, hj]⟩, S.placeMap hi hm, .map i _ (by simp [Gh.setMp])⟩
end
end Go.Ab
