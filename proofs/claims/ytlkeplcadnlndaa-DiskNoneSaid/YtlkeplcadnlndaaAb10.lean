/- Addresses, parts, composites, conversions, lookups: what the abstract machine answers, the model's operation answers. -/
import Derived.Test.YtlkeplcadnlndaaAb9
set_option autoImplicit false
set_option linter.unusedSimpArgs false
set_option linter.unusedVariables false
namespace Go.Ab
open Go.RowKit (Below)

section
variable {P : Program} {T : Types} {κ : Gh} {w0 w : World} {h : Heap} {fr : List (Option AV)} {a : Act}

theorem unOpA_ok {op : UnOp} {x r : AV} {u : Value} (hx : VR κ x u) (hr : unOpA op x = some r) (w : World) : ∃ q, (Op.unary op u).run P w = .ok q w ∧ VR κ r q := by
  unfold unOpA at hr
  split at hr
  · cases hx
    simp only [Option.some.injEq] at hr; subst hr
    exact ⟨.int _ _, by simp [Op.unary, Op.intArith], .int _ _⟩
  · cases hx
    simp only [bitsOp, Option.map_some, Option.some.injEq] at hr; subst hr
    exact ⟨.int _ _, by simp only [Op.unary, Op.intBits, Sem.run_pure], .int _ _⟩
  · cases hx
    simp only [Option.some.injEq] at hr; subst hr
    exact ⟨.bool _, by simp [Op.unary], .bool _⟩
  · cases hr

theorem run_struct (K : TOk P T) {t : TypeId} {fs : List (Nat × TypeId)} {s b : Nat} {z : List AV} {e : Bool} (ht : T.get t = some ⟨.struct fs, s, b, z, e⟩) :
    ∃ F : Array Field, (underlying t).run P w = .ok (.struct F) w ∧ ∀ f : Nat, fs[f]? = (F[f]?).map fun (x : Field) => (x.offset, x.type) := by
  obtain ⟨d, hd, hk⟩ := K.und t _ ht
  obtain ⟨F, rfl, hF⟩ := kindD_struct hk
  refine ⟨F, run_underlying hd, fun f => ?_⟩
  rw [← hF]; simp

theorem fieldAddrA_ok (K : TOk P T) {t : TypeId} {x r : AV} {u : Value} {f : Nat} (hx : VR κ x u) (hr : fieldAddrA T t x f = some r) (w : World) :
    ∃ q, (Instr.fieldAt t u f).run P w = .ok q w ∧ VR κ r q := by
  unfold fieldAddrA at hr
  split at hr
  · rename_i fs s b z e ht
    obtain ⟨F, hu, hF⟩ := run_struct (w := w) K ht
    cases hf : F[f]? with
    | none => simp [hF f, hf] at hr
    | some g =>
      simp only [hF f, hf, Option.map_some] at hr
      cases hti : T.get g.type with
      | none => simp [hti] at hr
      | some fi =>
        simp only [hti] at hr
        split at hr
        · cases hr
        · rename_i hz
          cases hx <;> simp only [Option.some.injEq] at hr <;> try (cases hr; done)
          case ptr id off g' hg =>
            subst hr
            refine ⟨.pointer (some ⟨g'.b, g'.base + (off + g.offset), none⟩), ?_, .ptr _ _ _ hg⟩
            simp [Instr.fieldAt, hu, hf, Instr.sureAddr, fieldPlace, run_sizeOf K hti, hz, add_none, Nat.add_assoc]
          case iptr cells off b' o C hC hl hv =>
            subst hr
            refine ⟨.pointer (some ⟨b', o + (off + g.offset), none⟩), ?_, .iptr _ _ _ _ _ hC hl hv⟩
            simp [Instr.fieldAt, hu, hf, Instr.sureAddr, fieldPlace, run_sizeOf K hti, hz, add_none, Nat.add_assoc]
  · cases hr

theorem fieldA_ok (K : TOk P T) {t : TypeId} {x r : AV} {u : Value} {f : Nat} (hx : VR κ x u) (hr : fieldA T t x f = some r) (w : World) :
    ∃ q, (Instr.field t u f).run P w = .ok q w ∧ VR κ r q := by
  unfold fieldA at hr
  split at hr
  · rename_i fs s b z e cs ht
    obtain ⟨F, hu, hF⟩ := run_struct (w := w) K ht
    cases hx with
    | agg _ C hl hv =>
      cases hf : F[f]? with
      | none => simp [hF f, hf] at hr
      | some g =>
        simp only [hF f, hf, Option.map_some] at hr
        obtain ⟨q, hq, hvq⟩ := part_ok (w := w) K hv hl hr
        refine ⟨q, ?_, hvq⟩
        simp [Instr.field, hu, hf, asAgg, hq]
  · cases hr

theorem indexAddrA_ok (K : TOk P T) {t : TypeId} {x i r : AV} {u v : Value} (hx : VR κ x u) (hi : VR κ i v) (hr : indexAddrA T t x i = some r) (w : World) :
    ∃ q, (Instr.indexAt t u v).run P w = .ok q w ∧ VR κ r q := by
  unfold indexAddrA at hr
  split at hr
  · rename_i e s b z q id o n cap ik k ht
    split at hr
    · rename_i hb
      obtain ⟨d, hd, hk⟩ := K.und t _ ht
      obtain rfl := kindD_slice hk
      cases he : T.get e with
      | none => simp [he] at hr
      | some ei =>
        simp only [he, Option.map_some, Option.some.injEq] at hr; subst hr
        cases hi
        cases hx with
        | sl _ _ _ c _ g ad hg hc hex hop had =>
          have hc0 : c ≠ 0 := by omega
          obtain rfl := had hc0
          refine ⟨.pointer (some ⟨g.b, g.base + (o + k.toNat * ei.size), none⟩), ?_, .ptr _ _ _ hg⟩
          simp [Instr.indexAt, asIntOf, run_underlying hd, hb, run_sizeOf K he, add_none, Nat.add_assoc]
    · cases hr
  · rename_i e s b z q cells n cap ik k ht
    split at hr
    · rename_i hb
      obtain ⟨d, hd, hk⟩ := K.und t _ ht
      obtain rfl := kindD_slice hk
      cases he : T.get e with
      | none => simp [he] at hr
      | some ei =>
        simp only [he, Option.map_some, Option.some.injEq] at hr; subst hr
        cases hi
        cases hx with
        | isl _ _ c b' o' _ C hC hc hex hl hv =>
          refine ⟨.pointer (some ⟨b', o' + k.toNat * ei.size, none⟩), ?_, .iptr _ _ _ _ _ hC hl hv⟩
          simp [Instr.indexAt, asIntOf, run_underlying hd, hb, run_sizeOf K he, add_none]
        | isl0 c _ ad hex => omega
    · cases hr
  · rename_i n e s b z q id o ik k ht
    split at hr
    · rename_i hb
      obtain ⟨d, hd, hk⟩ := K.und t _ ht
      obtain rfl := kindD_arr hk
      cases he : T.get e with
      | none => simp [he] at hr
      | some ei =>
        simp only [he, Option.map_some, Option.some.injEq] at hr; subst hr
        cases hi
        cases hx with
        | ptr _ _ g hg =>
          refine ⟨.pointer (some ⟨g.b, g.base + (o + k.toNat * ei.size), none⟩), ?_, .ptr _ _ _ hg⟩
          simp [Instr.indexAt, asIntOf, run_underlying hd, hb, run_sizeOf K he, add_none, Nat.add_assoc, Instr.sureAddr]
    · cases hr
  · rename_i n e s b z q cells o ik k ht
    split at hr
    · rename_i hb
      obtain ⟨d, hd, hk⟩ := K.und t _ ht
      obtain rfl := kindD_arr hk
      cases he : T.get e with
      | none => simp [he] at hr
      | some ei =>
        simp only [he, Option.map_some, Option.some.injEq] at hr; subst hr
        cases hi
        cases hx with
        | iptr _ _ b' o' C hC hl hv =>
          refine ⟨.pointer (some ⟨b', o' + (o + k.toNat * ei.size), none⟩), ?_, .iptr _ _ _ _ _ hC hl hv⟩
          simp [Instr.indexAt, asIntOf, run_underlying hd, hb, run_sizeOf K he, add_none, Nat.add_assoc, Instr.sureAddr]
    · cases hr
  · cases hr

theorem indexA_ok (K : TOk P T) {t : TypeId} {x i r : AV} {u v : Value} (hx : VR κ x u) (hi : VR κ i v) (hr : indexA T t x i = some r) (w : World) :
    ∃ q, (Instr.index t u v).run P w = .ok q w ∧ VR κ r q := by
  unfold indexA at hr
  split at hr
  · rename_i s b z q l ik k ht
    split at hr
    · rename_i hb
      obtain ⟨d, hd, hk⟩ := K.und t _ ht
      obtain rfl := kindD_str hk
      cases hi
      cases hx with
      | str _ bs e1 =>
        cases hl : l[k.toNat]? with
        | none => simp [hl] at hr
        | some c =>
          simp only [hl, Option.map_some, Option.some.injEq] at hr; subst hr
          rw [← e1, List.getElem?_map] at hl
          cases hg : bs.data.toList[k.toNat]? with
          | none => simp [hg] at hl
          | some y =>
            simp only [hg, Option.map_some, Option.some.injEq] at hl
            subst hl
            have hlt : k.toNat < bs.size := by
              have := (List.getElem?_eq_some_iff.1 hg).1
              rwa [Array.length_toList] at this
            have hgb : bs[k.toNat]? = some y := by
              rw [getElem?_pos bs k.toNat hlt]
              have := (List.getElem?_eq_some_iff.1 hg).2
              rw [← this]; rfl
            refine ⟨.int .u8 y.toNat, ?_, .int _ _⟩
            simp [Instr.index, asIntOf, run_underlying hd, hb, hgb]
    · cases hr
  · rename_i n e s b z q cs ik k ht
    split at hr
    · rename_i hb
      obtain ⟨d, hd, hk⟩ := K.und t _ ht
      obtain rfl := kindD_arr hk
      cases he : T.get e with
      | none => simp [he] at hr
      | some ei =>
        simp only [he, Option.bind_some] at hr
        cases hi
        cases hx with
        | agg _ C hl hv =>
          obtain ⟨q, hq, hvq⟩ := part_ok (w := w) K hv hl hr
          exact ⟨q, by simp [Instr.index, asIntOf, run_underlying hd, hb, run_sizeOf K he, hq], hvq⟩
    · cases hr
  · cases hr

/-! ### Slices -/
end
end Go.Ab
