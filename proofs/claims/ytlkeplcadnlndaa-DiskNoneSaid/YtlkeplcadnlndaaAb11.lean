/- Slice expressions. -/
import Derived.Test.YtlkeplcadnlndaaAb10
set_option autoImplicit false
set_option linter.unusedSimpArgs false
set_option linter.unusedVariables false
namespace Go.Ab
open Go.RowKit (Below)

theorem extract_list (s : ByteArray) (a b : Nat) : (s.extract a b).data.toList = (s.data.toList.take b).drop a := by
  rw [ByteArray.data_extract, Array.toList_extract, List.extract_eq_take_drop, List.drop_take]

inductive VRO (κ : Gh) : Option AV → Option Value → Prop
  | none : VRO κ none none
  | some (a : AV) (v : Value) (h : VR κ a v) : VRO κ (some a) (some v)

section
variable {P : Program} {T : Types} {κ : Gh} {w0 w : World} {h : Heap} {fr : List (Option AV)} {a : Act}

theorem opdO_ok (F : FrR κ fr a) {x : Option Operand} {v : Option AV} (hx : opdO fr x = some v) : VRO κ v (x.map a.eval) := by
  cases x with
  | none => simp only [opdO, Option.some.injEq] at hx; subst hx; exact .none
  | some x =>
    simp only [opdO] at hx
    cases ho : opd fr x with
    | none => simp [ho] at hx
    | some y => simp [ho] at hx; subst hx; exact .some _ _ (opd_ok F ho)

theorem run_bound {x : AV} {y m : Nat} {u : Value} (hx : VR κ x u) (hb : bound x y = some m) (c : BoundsCode) (w : World) :
    (Instr.sliceBound u y c).run P w = .ok m w ∧ m ≤ y := by
  unfold bound at hb
  split at hb
  · cases hx
    split at hb
    · rename_i h0
      simp only [Option.some.injEq] at hb
      subst hb
      exact ⟨by simp [Instr.sliceBound, asIntOf, h0], by omega⟩
    · cases hb
  · cases hb

theorem bound_mono {x : AV} {y y' m : Nat} (hb : bound x y = some m) (hy : y ≤ y') : bound x y' = some m := by
  unfold bound at *
  split at hb
  · split at hb
    · rename_i h0; rw [if_pos (by omega)]; exact hb
    · cases hb
  · cases hb

theorem sliceBounds_ok {lo hi mx : Option AV} {ul uh um : Option Value} (hl : VRO κ lo ul) (hh : VRO κ hi uh) (hm : VRO κ mx um) {len cap l h m : Nat} (isS : Bool)
    (h1 : boundOr mx cap cap = some m) (h2 : boundHi hi mx m len = some h) (h3 : boundOr lo h 0 = some l) (hlc : len ≤ cap) (w : World) :
    (Instr.sliceBounds isS len cap ul uh um).run P w = .ok (l, h, m) w ∧ l ≤ h ∧ (mx = none → m = cap) ∧ m ≤ cap ∧ (hi ≠ none → h ≤ m) ∧ (hi = none → h = len) := by
  have e1 : (∀ c, (match um with | some v => Instr.sliceBound v cap c | none => pure cap : Sem Nat).run P w = .ok m w) ∧ m ≤ cap ∧ (mx = none → m = cap) := by
    cases hm with
    | none => simp only [boundOr, Option.some.injEq] at h1; exact ⟨fun c => by simp [h1], by omega, fun _ => h1.symm⟩
    | some x v hx => exact ⟨fun c => (run_bound hx h1 c w).1, (run_bound (P := P) hx h1 .index w).2, fun e => by cases e⟩
  have e3 : (∀ c, (match ul with | some v => Instr.sliceBound v h c | none => pure 0 : Sem Nat).run P w = .ok l w) ∧ l ≤ h := by
    cases hl with
    | none => simp only [boundOr, Option.some.injEq] at h3; exact ⟨fun c => by simp [h3], by omega⟩
    | some x v hx => exact ⟨fun c => (run_bound hx h3 c w).1, (run_bound (P := P) hx h3 .index w).2⟩
  cases hh with
  | none =>
    cases hm with
    | some x v hx => simp [boundHi] at h2
    | none =>
      simp only [boundHi, boundOr, Option.some.injEq] at h2
      subst h2
      refine ⟨?_, e3.2, fun _ => e1.2.2 rfl, e1.2.1, fun e => absurd rfl e, fun _ => rfl⟩
      unfold Instr.sliceBounds
      have := e1.1 (if isS then .slice3Acap else .slice3Alen)
      have g := e3.1 .sliceB
      cases ul <;> simp_all
  | some x v hx =>
    have h2' : boundOr (some x) m len = some h := by cases mx <;> exact h2
    refine ⟨?_, e3.2, e1.2.2, e1.2.1, fun _ => (run_bound (P := P) hx h2' .index w).2, fun e => by cases e⟩
    unfold Instr.sliceBounds
    have t1 := e1.1 (if isS then .slice3Acap else .slice3Alen)
    have t2 : ∀ c, (Instr.sliceBound v m c).run P w = .ok h w := fun c => (run_bound hx h2' c w).1
    have t3 := e3.1
    cases um <;> cases ul <;> simp_all

theorem sliceA_ok (K : TOk P T) (S : Sim κ w0 h w) {t : TypeId} {x r : AV} {u : Value} {lo hi mx : Option AV} {ul uh um : Option Value} (hx : VR κ x u)
    (hl : VRO κ lo ul) (hh : VRO κ hi uh) (hm : VRO κ mx um) (hr : sliceA T h t x lo hi mx = some r) :
    ∃ q, (Instr.sliceAt t u ul uh um).run P w = .ok q w ∧ VR κ r q := by
  unfold sliceA at hr
  split at hr
  · rename_i s b z q l ht
    obtain ⟨d, hd, hk⟩ := K.und t _ ht
    obtain rfl := kindD_str hk
    cases hm with
    | some _ _ _ => cases hr
    | none =>
      simp only at hr
      cases h1 : boundOr hi l.length l.length with
      | none => simp [h1] at hr
      | some hh' =>
        cases h2 : boundOr lo hh' 0 with
        | none => simp [h1, h2] at hr
        | some l' =>
          simp only [h1, h2, Option.bind_some, Option.map_some, Option.some.injEq] at hr; subst hr
          cases hx with
          | str _ bs e1 =>
            have hsz : l.length = bs.size := by rw [← e1, List.length_map, size_data]
            have hb := sliceBounds_ok (P := P) (mx := none) hl hh .none (len := bs.size) (cap := bs.size) (m := bs.size) false rfl (by rw [← hsz]; cases hi <;> exact h1) h2 (Nat.le_refl _) w
            refine ⟨.string (bs.extract l' hh'), ?_, .str _ _ ?_⟩
            · simp [Instr.sliceAt, Instr.slice, run_underlying hd, hb.1]
            · rw [extract_list, ← e1, List.map_drop, List.map_take]
  · rename_i e s b z q ht
    obtain ⟨d, hd, hk⟩ := K.und t _ ht
    obtain rfl := kindD_slice hk
    cases hx
    cases he : T.get e with
    | none => simp [he] at hr
    | some ei =>
    simp only [he, Option.bind_some] at hr
    cases h0 : boundOr mx 0 0 with
    | none => simp [h0] at hr
    | some m =>
      cases h1 : boundHi hi mx m 0 with
      | none => simp [h0, h1] at hr
      | some hh' =>
        cases h2 : boundOr lo hh' 0 with
        | none => simp [h0, h1, h2] at hr
        | some l' =>
          simp only [h0, h1, h2, Option.bind_some, Option.map_some, Option.some.injEq] at hr; subst hr
          have hb := sliceBounds_ok (P := P) hl hh hm (len := 0) (cap := 0) true h0 h1 h2 (Nat.le_refl _) w
          have hhz : hh' = 0 := by
            cases hi with
            | none => exact hb.2.2.2.2.2 rfl
            | some v => have := hb.2.2.2.2.1 (by simp); omega
          have hlz : l' = 0 := by omega
          have hmz : m = 0 := by omega
          subst hhz; subst hlz; subst hmz
          refine ⟨.slice none 0 0, ?_, .snil⟩
          simp [Instr.sliceAt, Instr.slice, run_underlying hd, hb.1, run_sizeOf K he]
  · rename_i e s b z q id o n cap ht
    obtain ⟨d, hd, hk⟩ := K.und t _ ht
    obtain rfl := kindD_slice hk
    cases he : T.get e with
    | none => simp [he] at hr
    | some ei =>
      simp only [he, Option.bind_some] at hr
      cases hx with
      | sl _ _ _ c _ g ad hg hc hex hop had =>
        -- the room that is surely there
        have hroom : ∃ room, room ≤ c ∧ (∀ c0, cap = some c0 → room = c) ∧ (cap = none → g.esz = ei.size) ∧
            ((boundOr mx room room).bind fun m => (boundHi hi mx m n).bind fun hh => (boundOr lo hh 0).bind fun l =>
              match mx, cap with
              | none, none => some (AV.sl id (o + l * ei.size) (hh - l) none)
              | _, _ => some (.sl id (if m = l then o else o + l * ei.size) (hh - l) (some (m - l)))) = some r := by
          cases cap with
          | some c0 =>
            refine ⟨c0, Nat.le_of_eq (hex c0 rfl).symm, fun _ e => ?_, (fun e => by cases e), hr⟩
            simp only [Option.some.injEq] at e; subst e; exact (hex c0 rfl).symm
          | none =>
            cases hob : h.get id with
            | none => simp [hob] at hr
            | some ob =>
              cases ob with
              | row cells ext stale anc =>
                cases ext with
                | none => simp [hob] at hr
                | some z' =>
                  simp only [hob] at hr
                  by_cases hz : z' = ei.size ∧ ei.size ≠ 0
                  · rw [if_pos hz] at hr
                    obtain ⟨C, TT, lo', hi', hb, hsz, _, hvr, hall, hez⟩ := S.row _ _ _ _ _ _ hob hg
                    have hes : g.esz = ei.size := by rw [hez.1 z' rfl, hz.1]
                    have hlen := hvr.length
                    simp only [List.length_take, List.length_drop, Array.length_toList] at hlen
                    refine ⟨(cells.length - o) / ei.size, ?_, (fun _ e => by cases e), fun _ => hes, hr⟩
                    have := hop rfl
                    rw [hes] at this
                    refine Nat.div_le_of_le_mul ?_
                    rw [Nat.mul_comm ei.size c]
                    omega
                  · rw [if_neg hz] at hr; cases hr
              | _ => simp [hob] at hr
        obtain ⟨room, hrc, hre, hes, hr⟩ := hroom
        cases h1 : boundOr mx room room with
        | none => simp [h1] at hr
        | some m =>
          cases h2 : boundHi hi mx m n with
          | none => simp [h1, h2] at hr
          | some hh' =>
            cases h3 : boundOr lo hh' 0 with
            | none => simp [h1, h2, h3] at hr
            | some l' =>
              simp only [h1, h2, h3, Option.bind_some] at hr
              cases mx with
              | some vm =>
                have hrr : r = .sl id (if m = l' then o else o + l' * ei.size) (hh' - l') (some (m - l')) := by simpa using hr.symm
                subst hrr
                have hm1 : boundOr (some vm) c c = some m := bound_mono h1 hrc
                have hb := sliceBounds_ok (P := P) hl hh hm true hm1 h2 h3 hc w
                refine ⟨.slice (some (if m = l' then ad else ad.add (l' * ei.size))) (hh' - l') (m - l'), ?_, ?_⟩
                · simp [Instr.sliceAt, Instr.slice, run_underlying hd, hb.1, run_sizeOf K he]
                  split <;> rfl
                · have hle : hh' ≤ m := by
                    cases hi with
                    | none => simp [boundHi] at h2
                    | some v => exact hb.2.2.2.2.1 (by simp)
                  refine .sl _ _ _ _ _ g _ hg (by omega) (fun c' e => by simpa using e) (fun e => by cases e) (fun hne => ?_)
                  have hml : m ≠ l' := by omega
                  rw [if_neg hml, if_neg hml, had (by have := hb.2.2.2.1; omega), add_none, Nat.add_assoc]
              | none =>
                simp only [boundOr, Option.some.injEq] at h1
                subst h1
                have h2' : boundHi hi none c n = some hh' := by
                  cases hi with
                  | none => exact h2
                  | some v => exact bound_mono (y := room) h2 hrc
                have hb := sliceBounds_ok (P := P) (mx := none) hl hh hm true (m := c) rfl h2' h3 hc w
                have hle : hh' ≤ c := by
                  cases hi with
                  | none => rw [hb.2.2.2.2.2 rfl]; exact hc
                  | some v => exact hb.2.2.2.2.1 (by simp)
                refine ⟨.slice (some (if c = l' then ad else ad.add (l' * ei.size))) (hh' - l') (c - l'), ?_, ?_⟩
                · simp [Instr.sliceAt, Instr.slice, run_underlying hd, hb.1, run_sizeOf K he]
                  split <;> rfl
                · cases cap with
                  | none =>
                    have hrr : r = .sl id (o + l' * ei.size) (hh' - l') none := by simpa using hr.symm
                    subst hrr
                    have hes' := hes rfl
                    have hop' := hop rfl
                    refine .sl _ _ _ _ _ g _ hg (by omega) (fun c' e => by cases e) (fun _ => ?_) (fun hne => ?_)
                    · rw [hes', Nat.sub_mul]
                      rw [hes'] at hop'
                      have : l' * ei.size ≤ c * ei.size := Nat.mul_le_mul_right _ (by omega)
                      omega
                    · have hml : c ≠ l' := by omega
                      rw [if_neg hml, had (by omega), add_none, Nat.add_assoc]
                  | some c0 =>
                    have hrr : r = .sl id (if room = l' then o else o + l' * ei.size) (hh' - l') (some (room - l')) := by simpa using hr.symm
                    subst hrr
                    have := hre c0 rfl
                    subst this
                    refine .sl _ _ _ _ _ g _ hg (by omega) (fun c' e => by simpa using e) (fun e => by cases e) (fun hne => ?_)
                    have hml : room ≠ l' := by omega
                    rw [if_neg hml, if_neg hml, had (by omega), add_none, Nat.add_assoc]
  · rename_i e s b z q cells n cap ht
    obtain ⟨d, hd, hk⟩ := K.und t _ ht
    obtain rfl := kindD_slice hk
    cases he : T.get e with
    | none => simp [he] at hr
    | some ei =>
      simp only [he, Option.bind_some] at hr
      cases h1 : boundOr mx n n with
      | none => simp [h1] at hr
      | some m =>
        cases h2 : boundHi hi mx m n with
        | none => simp [h1, h2] at hr
        | some hh' =>
          cases h3 : boundOr lo hh' 0 with
          | none => simp [h1, h2, h3] at hr
          | some l' =>
            simp only [h1, h2, h3, Option.bind_some] at hr
            obtain ⟨cap', hrr, hcap⟩ : ∃ cap', r = .isl ((cells.take (hh' * ei.size)).drop (l' * ei.size)) (hh' - l') cap' ∧
                ((∃ v, mx = some v ∧ cap' = some (m - l')) ∨ (mx = none ∧ cap' = cap.map (· - l'))) := by
              cases mx with
              | none => exact ⟨_, by simpa using hr.symm, .inr ⟨rfl, rfl⟩⟩
              | some v => exact ⟨_, by simpa using hr.symm, .inl ⟨v, rfl, rfl⟩⟩
            subst hrr
            have main : ∀ c ad, n ≤ c → (∀ c', cap = some c' → c = c') →
                (∃ mc, (Instr.sliceAt t (.slice (some ad) n c) ul uh um).run P w = .ok (.slice (some (if mc = l' then ad else ad.add (l' * ei.size))) (hh' - l') (mc - l')) w ∧ hh' ≤ mc ∧
                  (∀ c', cap' = some c' → mc - l' = c')) ∧ l' ≤ hh' := by
              intro c ad hc hex
              cases mx with
              | some vm =>
                have hb := sliceBounds_ok (P := P) hl hh hm true (bound_mono (y := n) h1 hc : boundOr (some vm) c c = some m) h2 h3 hc w
                refine ⟨⟨m, ?_, ?_, ?_⟩, hb.2.1⟩
                · simp [Instr.sliceAt, Instr.slice, run_underlying hd, hb.1, run_sizeOf K he]; split <;> rfl
                · cases hi with
                  | none => simp [boundHi] at h2
                  | some v => exact hb.2.2.2.2.1 (by simp)
                · rcases hcap with ⟨v, _, e⟩ | ⟨e, _⟩
                  · intro c' e'; rw [e] at e'; simpa using e'
                  · cases e
              | none =>
                simp only [boundOr, Option.some.injEq] at h1
                subst h1
                have h2' : boundHi hi none c n = some hh' := by
                  cases hi with
                  | none => exact h2
                  | some v => exact bound_mono (y := n) h2 hc
                have hb := sliceBounds_ok (P := P) (mx := none) hl hh hm true (m := c) rfl h2' h3 hc w
                refine ⟨⟨c, ?_, ?_, ?_⟩, hb.2.1⟩
                · simp [Instr.sliceAt, Instr.slice, run_underlying hd, hb.1, run_sizeOf K he]; split <;> rfl
                · cases hi with
                  | none => rw [hb.2.2.2.2.2 rfl]; exact hc
                  | some v => exact hb.2.2.2.2.1 (by simp)
                · rcases hcap with ⟨v, e, _⟩ | ⟨_, e⟩
                  · cases e
                  · intro c' e'
                    rw [e] at e'
                    cases cap with
                    | none => cases e'
                    | some c0 => simp only [Option.map_some, Option.some.injEq] at e'; rw [hex c0 rfl]; exact e'
            cases hx with
            | isl _ _ c b' o' _ C hC hc hex hl' hv =>
              obtain ⟨⟨mc, hrun, hle, hcc⟩, hll⟩ := main c ⟨b', o', none⟩ hc hex
              refine ⟨_, hrun, ?_⟩
              by_cases hml : mc = l'
              · rw [if_pos hml]
                have : hh' - l' = 0 := by omega
                have hz : (cells.take (hh' * ei.size)).drop (l' * ei.size) = [] := by
                  have : hh' = l' := by omega
                  subst this
                  rw [List.drop_eq_nil_iff]; simp; omega
                rw [this, hz]
                exact .isl0 _ _ _ hcc
              · rw [if_neg hml, add_none]
                refine .isl _ _ _ _ _ _ C hC (by omega) hcc ?_ ?_
                · rw [List.all_eq_true] at *
                  exact fun x hx => hl' x (List.mem_of_mem_take (List.mem_of_mem_drop hx))
                · have h5 := (hv.take (hh' * ei.size)).drop (l' * ei.size)
                  have hlen := h5.length
                  rw [hlen]
                  have hseg : ((List.take (hh' * ei.size) (List.take cells.length (List.drop o' C))).drop (l' * ei.size)) =
                      (C.drop (o' + l' * ei.size)).take ((List.take (hh' * ei.size) (List.take cells.length (List.drop o' C))).drop (l' * ei.size)).length := by
                    rw [List.take_take, List.drop_take, List.drop_drop, List.length_take, List.length_drop]
                    rw [List.take_eq_take_iff, List.length_drop]
                    omega
                  rw [← hseg]
                  exact h5
            | isl0 c _ ad hex =>
              obtain ⟨⟨mc, hrun, hle, hcc⟩, hll⟩ := main c ad (Nat.zero_le _) hex
              refine ⟨_, hrun, ?_⟩
              have h0 : hh' ≤ 0 := by
                cases hi with
                | none =>
                  cases mx with
                  | none => simp [boundHi, boundOr] at h2; omega
                  | some v => simp [boundHi] at h2
                | some v =>
                  have hm0 : m ≤ 0 := by
                    cases mx with
                    | none => simp [boundOr] at h1; omega
                    | some v' =>
                      cases hm with
                      | some _ u' hu' => exact (run_bound (P := P) hu' h1 .index w).2
                  have h2'' : bound v m = some hh' := by cases mx <;> exact h2
                  cases hh with
                  | some _ u' hu' => have := (run_bound (P := P) hu' h2'' .index w).2; omega
              have h1' : hh' - l' = 0 := by omega
              rw [h1', List.take_nil, List.drop_nil]
              exact .isl0 _ _ _ hcc
  · cases hr
end
end Go.Ab
