/- Composites; conversions; lookups; the pure operations all together. -/
import Derived.Test.YtlkeplcadnlndaaAb11
set_option autoImplicit false
set_option linter.unusedSimpArgs false
set_option linter.unusedVariables false
namespace Go.Ab
open Go.RowKit (Below)

section
variable {P : Program} {T : Types} {κ : Gh} {w0 w : World} {h : Heap} {fr : List (Option AV)} {a : Act}

theorem foldl_set : ∀ (vs : List Value) (C : Array Value) (o j : Nat), o + j + vs.length ≤ C.size →
    ((vs.zipIdx j).foldl (fun (cs : Array Value) (p : Value × Nat) => cs.setIfInBounds (o + p.2) p.1) C).toList = C.toList.take (o + j) ++ vs ++ C.toList.drop (o + j + vs.length) := by
  intro vs
  induction vs with
  | nil => intro C o j _; simp
  | cons v vs ih =>
    intro C o j h
    simp only [List.length_cons] at h
    simp only [List.zipIdx_cons, List.foldl_cons]
    rw [ih _ _ _ (by simp; omega), Array.toList_setIfInBounds]
    have hlt : o + j < C.toList.length := by simp; omega
    rw [show o + (j + 1) = o + j + 1 from by omega, List.take_set, List.drop_set_of_lt (by omega)]
    rw [List.take_succ_eq_append_getElem hlt]
    have hlen : (C.toList.take (o + j)).length = o + j := by rw [List.length_take]; omega
    rw [List.set_append, if_neg (by omega), hlen]
    simp [Nat.add_assoc, Nat.add_comm 1]

theorem fill_ok {place : Nat → Option (Nat × Nat)} {pl : Nat → Option (Nat × Nat)} (hp : ∀ i o n, pl i = some (o, n) → place i = some (o, n)) :
    ∀ {ps : List (Nat × AV)} {us : List (Nat × Value)} (hr : PartsR κ ps us) {cells r : List AV} {C : Array Value}, VRL κ cells C.toList → cells.all AV.leaf = true → fillA pl cells ps = some r →
    ∃ C', Instr.fill place C us = some C' ∧ VRL κ r C'.toList ∧ r.all AV.leaf = true := by
  intro ps us hr
  induction hr with
  | nil => intro cells r C hv hl h; simp only [fillA, Option.some.injEq] at h; subst h; exact ⟨C, rfl, hv, hl⟩
  | cons i x v l m hx hr ih =>
    intro cells r C hv hl h
    simp only [fillA] at h
    cases hpi : pl i with
    | none => simp [hpi] at h
    | some on =>
      obtain ⟨o, n⟩ := on
      simp only [hpi] at h
      split at h
      · rename_i hc
        have hlen : cells.length = C.size := hv.length.trans Array.length_toList
        have hcl : x.cells.length = v.cells.size := hx.cells.length.trans Array.length_toList
        have h1 : ¬ (v.cells.size ≠ n ∨ o + v.cells.size > C.size) := by omega
        have hC : (v.cells.zipIdx.foldl (fun (cs : Array Value) (p : Value × Nat) => cs.setIfInBounds (o + p.2) p.1) C).toList = C.toList.take o ++ v.cells.toList ++ C.toList.drop (o + v.cells.toList.length) := by
          rw [← Array.foldl_toList, Array.toList_zipIdx]
          exact foldl_set v.cells.toList C o 0 (by rw [Array.length_toList]; omega)
        obtain ⟨C', hf, hv', hl'⟩ := ih (C := v.cells.zipIdx.foldl (fun (cs : Array Value) (p : Value × Nat) => cs.setIfInBounds (o + p.2) p.1) C) (cells := setFrom cells o x.cells) (r := r) (by
            rw [hC]
            show VRL κ (cells.take o ++ x.cells ++ cells.drop (o + x.cells.length)) _
            have hd := hv.drop (o + x.cells.length)
            rw [← hx.cells.length]
            exact ((hv.take o).append hx.cells).append hd) (by
            show (cells.take o ++ x.cells ++ cells.drop (o + x.cells.length)).all AV.leaf = true
            rw [List.all_append, List.all_append]
            have hll := hx.leafs hc.2.2
            rw [List.all_eq_true] at *
            simp only [Bool.and_eq_true, List.all_eq_true]
            exact ⟨⟨fun y hy => hl y (List.mem_of_mem_take hy), hll⟩, fun y hy => hl y (List.mem_of_mem_drop hy)⟩) h
        refine ⟨C', ?_, hv', hl'⟩
        simp only [Instr.fill, hp i o n hpi]
        rw [if_neg (by simpa using h1)]
        exact hf
      · cases h

theorem run_mapM_array {α β : Type} (f : α → Sem β) (g : α → β) (w : World) (L : Array α) (hf : ∀ x ∈ L.toList, (f x).run P w = .ok (g x) w) :
    (L.mapM f).run P w = .ok (L.map g) w := by
  have key : ∀ l : List α, (∀ x ∈ l, (f x).run P w = .ok (g x) w) → (l.mapM f).run P w = .ok (l.map g) w := by
    intro l
    induction l with
    | nil => intro _; rfl
    | cons x l ih =>
      intro hx
      rw [List.mapM_cons, Sem.run_bind, hx x (List.mem_cons_self ..), Result.andThen_ok, Sem.run_bind, ih (fun y hy => hx y (List.mem_cons_of_mem _ hy))]
      rfl
  rw [Array.mapM_eq_mapM_toList, Sem.run_map, key L.toList hf]
  simp only [Result.andThen_ok]
  rw [← Array.toList_map]

theorem zero_ok (K : TOk P T) {t : TypeId} {i : TI} (ht : T.get t = some i) (κ : Gh) (w : World) :
    ∃ z, (zeroValue t).run P w = .ok z w ∧ VRL κ i.zero z.cells.toList ∧ ∀ v, zeroOf i = some v → VR κ v z := by
  obtain ⟨inf, h1, h2, h3, z, av, hz, hc, hzo, hcells⟩ := K.info t i ht
  have hv := ofConst_VR κ 3 z av hc
  refine ⟨z, by simp [zeroValue, typeInfo, h1, hz], ?_, ?_⟩
  · rw [← hcells]; exact hv.cells
  · intro v e; rw [hzo] at e; cases e; exact hv

theorem zero_leaf (K : TOk P T) {t : TypeId} {i : TI} (ht : T.get t = some i) (hnt : ∀ v, zeroOf i = some v → v.notTup = true) : i.zero.all AV.leaf = true := by
  obtain ⟨inf, h1, h2, h3, z, av, hz, hc, hzo, hcells⟩ := K.info t i ht
  rw [← hcells]
  exact (ofConst_VR ⟨fun _ => none, fun _ => none, fun _ => none⟩ 3 z av hc).leafs (hnt _ hzo)

theorem zero_leaf' (K : TOk P T) {t : TypeId} {i : TI} (ht : T.get t = some i) (hk : isAgg i.kind = true) : i.zero.all AV.leaf = true :=
  zero_leaf K ht fun v e => by simp only [zeroOf, hk, if_true, Option.some.injEq] at e; subst e; rfl

theorem buildA_ok (K : TOk P T) {t : TypeId} {ps : List (Nat × AV)} {us : Array (Nat × Value)} {r : AV} (hp : PartsR κ ps us.toList) (hr : buildA T t ps = some r) (w : World) :
    ∃ q, (Instr.build t us).run P w = .ok q w ∧ VR κ r q := by
  unfold buildA at hr
  cases ht : T.get t with
  | none => simp [ht] at hr
  | some i =>
    simp only [ht] at hr
    obtain ⟨z, hz, hzc, _⟩ := zero_ok K ht κ w
    obtain ⟨d, hd, hk⟩ := K.und t i ht
    split at hr
    · rename_i fs hkind
      rw [hkind] at hk
      obtain ⟨F, rfl, hF⟩ := kindD_struct hk
      have hzl := zero_leaf' K ht (by rw [hkind]; rfl)
      split at hr
      · rename_i hall
        cases hf : fillA (structPlace T fs) i.zero ps with
        | none => simp [hf] at hr
        | some cells =>
          simp only [hf, Option.map_some, Option.some.injEq] at hr; subst hr
          have hsz : ∀ x ∈ F.toList, (do pure (x.offset, ← sizeOf x.type) : Sem (Nat × Nat)).run P w = .ok (x.offset, ((T.get x.type).map TI.size).getD 0) w := by
            intro x hx
            rw [List.all_eq_true] at hall
            have := hall (x.offset, x.type) (by rw [← hF]; exact List.mem_map.2 ⟨x, hx, rfl⟩)
            cases hti : T.get x.type with
            | none => simp [hti] at this
            | some fi => simp [run_sizeOf K hti]
          have hm := run_mapM_array (P := P) (fun (x : Field) => (do pure (x.offset, ← sizeOf x.type) : Sem (Nat × Nat))) _ w F hsz
          obtain ⟨C', h1, h2, h3⟩ := fill_ok (place := fun i => (F.map fun (x : Field) => (x.offset, ((T.get x.type).map TI.size).getD 0))[i]?) (fun j o n hj => by
            unfold structPlace at hj
            rw [← hF] at hj
            rw [List.getElem?_map, Array.getElem?_toList] at hj
            rw [Array.getElem?_map]
            cases hfj : F[j]? with
            | none => simp [hfj] at hj
            | some x =>
              simp only [hfj, Option.map_some] at hj ⊢
              cases hti : T.get x.type with
              | none => simp [hti] at hj
              | some fi => simp [hti] at hj; simp [hj]) hp hzc hzl hf
          refine ⟨.agg C', ?_, .agg _ _ h3 h2⟩
          simp only [Instr.build, Sem.run_bind, hz, Result.andThen_ok, run_underlying hd]
          rw [hm]
          simp only [Result.andThen_ok, h1, Sem.run_pure]
      · cases hr
    · rename_i n e hkind
      rw [hkind] at hk
      obtain rfl := kindD_arr hk
      have hzl := zero_leaf' K ht (by rw [hkind]; rfl)
      cases he : T.get e with
      | none => simp [he] at hr
      | some ei =>
        simp only [he, Option.bind_some] at hr
        cases hf : fillA (fun j => some (j * ei.size, ei.size)) i.zero ps with
        | none => simp [hf] at hr
        | some cells =>
          simp only [hf, Option.map_some, Option.some.injEq] at hr; subst hr
          obtain ⟨C', h1, h2, h3⟩ := fill_ok (place := fun i => some (i * ei.size, ei.size)) (fun _ _ _ h => h) hp hzc hzl hf
          refine ⟨.agg C', ?_, .agg _ _ h3 h2⟩
          simp [Instr.build, hz, run_underlying hd, run_sizeOf K he, h1]
    · cases hr
end
end Go.Ab
