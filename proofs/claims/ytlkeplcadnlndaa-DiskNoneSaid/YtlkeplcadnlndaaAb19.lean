/- The writing operations all together. -/
import Derived.Test.YtlkeplcadnlndaaAb18
set_option autoImplicit false
set_option linter.unusedSimpArgs false
set_option linter.unusedVariables false
namespace Go.Ab
open Go.RowKit (Below)

section
variable {P : Program} {T : Types} {κ κ' κ'' : Gh} {w0 w w' w'' : World} {h h' h'' : Heap} {fr : List (Option AV)} {a : Act}

theorem copyA_ok (K : TOk P T) (S : Sim κ w0 h w) {t : TypeId} {d x r : AV} {du xu : Value} (hd : VR κ d du) (hx : VR κ x xu) (hr : copyA T h t d x = some (r, h')) {ts : Array TypeId} (hts : ts[0]? = some t) (ty : TypeId) :
    ∃ q w', (Builtin.copy_ ts ty #[du, xu]).run P w = .ok q w' ∧ Done w0 κ h κ h' w' ∧ VR κ r q := by
  unfold copyA at hr
  split at hr
  · rename_i e s b z q ht
    obtain ⟨dd, hdd, hk⟩ := K.und t _ ht
    obtain rfl := kindD_slice hk
    cases he : T.get e with
    | none => simp [he] at hr
    | some ei =>
      cases hlx : lenA x with
      | none => simp [he, hlx] at hr
      | some n =>
        cases hld : lenA d with
        | none => simp [he, hlx, hld] at hr
        | some m =>
          cases hel : elemsOf h ei.size x (min n m) with
          | none => simp [he, hlx, hld, hel] at hr
          | some new =>
            simp only [he, hlx, hld, hel, Option.bind_some] at hr
            obtain ⟨arr, hA, hV, hL, hn⟩ := elemsOf_ok (P := P) S hx hel
            have hxl := lenA_ok (P := P) hx hlx w
            have hsz : (sizeOf e).run P w = .ok ei.size w := run_sizeOf K he
            have hmin : Nat.min n m = min n m := rfl
            split at hr
            · rename_i h0
              have hnr : ∀ s, d ≠ .str s := by rintro s rfl; simp at hr
              have hr' : r = .int .i64 (min n m : Nat) ∧ h' = h := by
                cases d <;> first | (simp only [Option.some.injEq, Prod.mk.injEq] at hr; exact ⟨hr.1.symm, hr.2.symm⟩) | exact absurd rfl (hnr _)
              obtain ⟨rfl, rfl⟩ := hr'
              have harr : arr.toList = [] := by
                have := hV.length; rw [hn, h0] at this; exact List.length_eq_zero_iff.1 this.symm
              have key : ∀ base c, (Builtin.copy_ ts ty #[.slice base m c, xu]).run P w = .ok (goInt (min n m : Nat)) w := by
                intro base c
                cases base with
                | none => simp [Builtin.copy_, hts, run_underlying hdd, hxl, hsz, hmin, hA]
                | some ad => simp [Builtin.copy_, hts, run_underlying hdd, hxl, hsz, hmin, hA, harr, storeCells]
              cases hd <;> simp only [lenA, Option.some.injEq] at hld <;> try (cases hld; done)
              case snil => subst hld; exact ⟨_, w, key _ _, Done.refl S, .int _ _⟩
              case sl => subst hld; exact ⟨_, w, key _ _, Done.refl S, .int _ _⟩
              case isl => subst hld; exact ⟨_, w, key _ _, Done.refl S, .int _ _⟩
              case isl0 => subst hld; exact ⟨_, w, key _ _, Done.refl S, .int _ _⟩
              case str s e' => exact absurd rfl (hnr _)
            · rename_i h0
              split at hr
              · rename_i id o l cap
                simp only [lenA, Option.some.injEq] at hld
                subst hld
                cases hp : putCells h id o new with
                | none => simp [hp] at hr
                | some h2 =>
                  simp only [hp, Option.map_some, Option.some.injEq, Prod.mk.injEq] at hr
                  obtain ⟨rfl, rfl⟩ := hr
                  cases hd with
                  | sl _ _ _ c _ g ad hg hc hex hop had =>
                    have hc0 : c ≠ 0 := by
                      rintro rfl
                      have : l = 0 := by omega
                      subst this; simp at h0
                    obtain rfl := had hc0
                    obtain ⟨w', hst, hD⟩ := putCells_ok (P := P) S hp hg hV hL
                    refine ⟨goInt (min n l : Nat), w', ?_, hD, .int _ _⟩
                    simp [Builtin.copy_, hts, run_underlying hdd, hxl, hsz, hmin, hA, hst]
              · cases hr
  · cases hr

theorem clearA_ok (K : TOk P T) (S : Sim κ w0 h w) {t : TypeId} {x : AV} {xu : Value} (hx : VR κ x xu) (hr : clearA T h t x = some h') {ts : Array TypeId} (hts : ts[0]? = some t) (ty : TypeId) :
    ∃ w', (Builtin.clear_ ts ty #[xu]).run P w = .ok (.tuple #[]) w' ∧ Done w0 κ h κ h' w' := by
  unfold clearA at hr
  split at hr
  · rename_i e s b z q ht
    obtain ⟨dd, hdd, hk⟩ := K.und t _ ht
    obtain rfl := kindD_slice hk
    cases he : T.get e with
    | none => simp [he] at hr
    | some ei =>
      simp only [he, Option.bind_some] at hr
      split at hr
      · cases hx
        simp only [Option.some.injEq] at hr; subst hr
        exact ⟨w, by simp [Builtin.clear_, hts, run_underlying hdd], Done.refl S⟩
      · rename_i id o n cap
        cases hx with
        | sl _ _ _ c _ g ad hg hc hex hop had =>
          split at hr
          · rename_i hn
            simp only [Option.some.injEq] at hr; subst hr; subst hn
            exact ⟨w, by simp [Builtin.clear_, hts, run_underlying hdd], Done.refl S⟩
          · rename_i hn
            split at hr
            · rename_i hzl
              obtain ⟨zv, hzr, hzc, _⟩ := zero_ok K he κ w
              have hc0 : c ≠ 0 := by omega
              obtain rfl := had hc0
              have hzs : zv.cells.size = ei.zero.length := by rw [hzc.length, Array.length_toList]
              obtain ⟨w', hst, hD⟩ := putCells_ok (P := P) S hr hg (us := (Builtin.zeroCells zv.cells n).toList) (zerosArr hzc n _ (by rw [hzs])) (all_zeros hzl n)
              refine ⟨w', ?_, hD⟩
              simp [Builtin.clear_, hts, run_underlying hdd, hzr, hst]
            · cases hr
      · rename_i c n cap
        split at hr
        · rename_i hn
          simp only [Option.some.injEq] at hr; subst hr; subst hn
          cases hx <;> exact ⟨w, by simp [Builtin.clear_, hts, run_underlying hdd], Done.refl S⟩
        · cases hr
      · cases hr
  · cases hr

def byteCells (bs : ByteArray) (n : Nat) : Array Value := bs.data.map (fun (b : UInt8) => Value.int .u8 b.toNat) ++ Array.replicate n (.int .u8 0)

theorem strToBytes_ok (K : TOk P T) (S : Sim κ w0 h w) {s d e : TypeId} (hs : P.underlying s = some .string) (hd : P.underlying d = some (.slice e)) (he : P.underlying e = some (.int .u8)) {l : List Nat} {x : Value} (hx : VR κ (.str l) x)
    {r : AV} (hr : strToBytes h l = some (r, h')) : ∃ q w' κ', (convert s d x).run P w = .ok q w' ∧ Done w0 κ h κ' h' w' ∧ VR κ' r q := by
  unfold strToBytes at hr
  split at hr
  · rename_i hle
    simp only [Option.some.injEq, Prod.mk.injEq] at hr
    obtain ⟨rfl, rfl⟩ := hr
    cases hx with
    | str _ bs eb =>
      have hl : l.length = bs.size := by rw [← eb, List.length_map, ← size_data]
      have hcap := grownCap_ge' w bs.size 0 e
      have hCs : (byteCells bs (grownCap w bs.size 0 e - bs.size)).size = grownCap w bs.size 0 e := by
        unfold byteCells
        rw [Array.size_append, Array.size_map, Array.size_replicate]
        show bs.size + _ = _
        omega
      have S' : Sim κ w0 h w.drew := S.grown (Below.refl _ _).drew
      have hu : κ.row h.next = none := (S.fresh _ (Nat.le_refl _)).1
      have S2 := (S'.pend (o := .row (l.map fun (b : Nat) => .int .u8 b) (some 1) false []) (fun c' e' s' a' hh => by
        simp only [AObj.row.injEq] at hh
        obtain ⟨_, _, _, rfl⟩ := hh
        intro i hi; cases hi)).place (i := h.next) (Heap.get_new_self _ _) hu
          (C := byteCells bs (grownCap w bs.size 0 e - bs.size)) (T := e) (esz := 1) (by
            have hbl : (bs.data.toList.map (fun (b : UInt8) => Value.int .u8 b.toNat)).length = (l.map fun (b : Nat) => AV.int .u8 b).length := by rw [List.length_map, List.length_map, ← eb, List.length_map]
            unfold byteCells
            rw [Array.toList_append, Array.toList_map, List.take_append_of_le_length (by omega), List.take_of_length_le (by omega), ← eb, List.map_map]
            exact VRL.bytes _) (by
            rw [List.all_eq_true]
            intro y hy
            obtain ⟨z, _, rfl⟩ := List.mem_map.1 hy
            rfl) (fun z e => by simpa using e)
      have S3 := S2.freeze (b := w.drew.heap.size) S'.below.size (alloc_here _ _)
      refine ⟨.slice (some ⟨w.heap.size, 0, none⟩) bs.size (grownCap w bs.size 0 e), _, _, ?_, ⟨Gh.le_setRow hu, fun j hj => ⟨?_, rfl⟩, S3, ?_, by simp⟩, ?_⟩
      · have hsh : (w.drew.alloc (.cells (byteCells bs (grownCap w bs.size 0 e - bs.size)) e)).shape? w.heap.size = some (e, (byteCells bs (grownCap w bs.size 0 e - bs.size)).size) := by
          unfold World.shape?
          rw [show w.heap.size = w.drew.heap.size from rfl, alloc_here]
        simp only [convert, Sem.run_bind, run_underlying hs, run_underlying hd, Result.andThen_ok, run_underlying he, Conv.stringToBytes, run_choose, Question.forced, Bool.false_eq_true, if_false, World.drew_eq, newRow, run_newObj, World.alloc_eq, Sem.run_pure, markStringish, run_shape]
        rw [show (Question.appendCap bs.size 0 e).cut (w.tape w.drawn (.appendCap bs.size 0 e)) = grownCap w bs.size 0 e from rfl]
        rw [show w.drew.heap.size = w.heap.size from rfl]
        rw [show (Array.map (fun b : UInt8 => Value.int IntKind.u8 (b.toNat : Int)) bs.data ++ Array.replicate (grownCap w bs.size 0 e - bs.size) (Value.int IntKind.u8 0)) = byteCells bs (grownCap w bs.size 0 e - bs.size) from rfl, hsh]
        rfl
      · show (if j = h.next then _ else κ.row j) = κ.row j
        rw [if_neg (by omega)]
      · intro j hj _ _
        rw [Heap.get_new_ne _ _ (by omega)]
      · rw [hl]
        refine .sl _ _ _ _ _ _ _ (by simp [Gh.setRow]; rfl) hcap (fun _ e => by cases e) (fun _ => ?_) (fun _ => rfl)
        simp only [hCs]; omega
  · cases hr

set_option maxHeartbeats 1000000 in
theorem evEff_ok (K : TOk P T) (S : Sim κ w0 h w) (F : FrR κ fr a) {o : Oper} {v : AV} (hv : evEff T h fr o.op = some (v, h')) :
    ∃ res q w' κ', (execOp a.eval o).run P w = .ok res w' ∧ (res = .value q ∨ res = .skip ∧ q = undef) ∧ Done w0 κ h κ' h' w' ∧ VR κ' v q := by
  obtain ⟨dst, op, type, pos, after, guard⟩ := o
  simp only at hv
  have val : ∀ {s : Sem Value}, (∃ q w' κ', s.run P w = .ok q w' ∧ Done w0 κ h κ' h' w' ∧ VR κ' v q) → ∃ res q w' κ', (do pure (.value (← s)) : Sem Next).run P w = .ok res w' ∧ (res = .value q ∨ res = .skip ∧ q = undef) ∧ Done w0 κ h κ' h' w' ∧ VR κ' v q := by
    rintro s ⟨q, w', κ', h1, h2, h3⟩
    exact ⟨.value q, q, w', κ', by simp [h1], .inl rfl, h2, h3⟩
  have unit : ∀ {s : Sem Unit}, v = .undef → (∃ w', s.run P w = .ok () w' ∧ Done w0 κ h κ h' w') → ∃ res q w' κ', (do s; pure .skip : Sem Next).run P w = .ok res w' ∧ (res = .value q ∨ res = .skip ∧ q = undef) ∧ Done w0 κ h κ' h' w' ∧ VR κ' v q := by
    rintro s rfl ⟨w', h1, h2⟩
    exact ⟨.skip, undef, w', κ, by simp [h1], .inr ⟨rfl, rfl⟩, h2, .tup _ _ .nil⟩
  have mapU : ∀ {t : TypeId} {m k x : Operand}, ((opd fr m).bind fun a => (opd fr k).bind fun b => (opd fr x).bind fun c => (mapUpdateA T h t a b c).map fun h' => (AV.undef, h')) = some (v, h') →
      v = .undef ∧ ∃ w', (Instr.mapUpdate t (a.eval m) (a.eval k) (a.eval x)).run P w = .ok () w' ∧ Done w0 κ h κ h' w' := by
    intro t m k x hv
    cases hm : opd fr m with
    | none => simp [hm] at hv
    | some p =>
      cases hk : opd fr k with
      | none => simp [hm, hk] at hv
      | some q =>
        cases hx : opd fr x with
        | none => simp [hm, hk, hx] at hv
        | some r =>
          cases hu : mapUpdateA T h t p q r with
          | none => simp [hm, hk, hx, hu] at hv
          | some h2 =>
            simp only [hm, hk, hx, hu, Option.bind_some, Option.map_some, Option.some.injEq, Prod.mk.injEq] at hv
            obtain ⟨rfl, rfl⟩ := hv
            exact ⟨rfl, mapUpdateA_ok K S (opd_ok F hm) (opd_ok F hk) (opd_ok F hx) hu⟩
  cases op <;> simp only [evEff] at hv <;> try (cases hv; done)
  case store t x y =>
    cases hx : opd fr x with
    | none => simp [hx] at hv
    | some p =>
      cases hy : opd fr y with
      | none => simp [hx, hy] at hv
      | some q =>
        cases hs : storeA T h t p q with
        | none => simp [hx, hy, hs] at hv
        | some h2 =>
          simp only [hx, hy, hs, Option.bind_some, Option.map_some, Option.some.injEq, Prod.mk.injEq] at hv
          obtain ⟨rfl, rfl⟩ := hv
          exact unit rfl (storeA_ok K S (opd_ok F hx) (opd_ok F hy) hs)
  case mapUpdate t m k x => obtain ⟨e, r⟩ := mapU hv; exact unit e r
  case insert t m k x => obtain ⟨e, r⟩ := mapU hv; exact unit e r
  case convert s d x =>
    split at hv
    · rename_i e hsk hdk
      cases hts : T.get s with
      | none => simp [hts] at hsk
      | some si =>
        cases htd : T.get d with
        | none => simp [htd] at hdk
        | some di =>
          simp only [hts, htd, Option.map_some, Option.some.injEq] at hsk hdk
          obtain ⟨sd, hsd, hk1⟩ := K.und s _ hts
          obtain ⟨dd, hdd, hk2⟩ := K.und d _ htd
          rw [hsk] at hk1; rw [hdk] at hk2
          obtain rfl := kindD_str hk1
          obtain rfl := kindD_slice hk2
          split at hv
          · rename_i hek
            cases hte : T.get e with
            | none => simp [hte] at hek
            | some ei =>
              simp only [hte, Option.map_some, Option.some.injEq] at hek
              obtain ⟨ed, hed, hk3⟩ := K.und e _ hte
              rw [hek] at hk3
              obtain rfl := kindD_int hk3
              cases hx : opd fr x with
              | none => simp [hx] at hv
              | some p =>
                simp only [hx, Option.bind_some] at hv
                cases p <;> simp only at hv <;> try (cases hv; done)
                exact val (strToBytes_ok K S hsd hdd hed (opd_ok F hx) hv)
          · cases hv
    · cases hv
  case call c =>
    obtain ⟨callee, args, ts⟩ := c
    cases callee <;> try (simp at hv; done)
    rename_i b
    cases b <;> try (simp at hv; done)
    case append =>
      simp only at hv
      split at hv
      · rename_i s x t u ha ht
        have hmain : (T.get u).map TI.kind = some .str ∨ (∃ e, (T.get u).map TI.kind = some (.slice e)) → ((opd fr s).bind fun a => (opd fr x).bind fun b => appendA T h t a b) = some (v, h') →
            ∃ res q w' κ', (execOp a.eval { dst, op := .call ⟨.builtin .append, args, ts⟩, type, pos, after, guard }).run P w = .ok res w' ∧ (res = .value q ∨ res = .skip ∧ q = undef) ∧ Done w0 κ h κ' h' w' ∧ VR κ' v q := by
          intro hk hv
          cases hs : opd fr s with
          | none => simp [hs] at hv
          | some p =>
            cases hx : opd fr x with
            | none => simp [hs, hx] at hv
            | some q =>
              simp only [hs, hx, Option.bind_some] at hv
              rw [run_call_builtin .append args ts _ rfl]
              obtain rfl := toList_two ha
              obtain rfl := toList_two ht
              rw [show (#[s, x] : Array Operand).map a.eval = #[a.eval s, a.eval x] from by simp]
              cases htu : T.get u with
              | none => rcases hk with hk | ⟨_, hk⟩ <;> simp [htu] at hk
              | some ui =>
                refine val (appendA_ok K S (opd_ok F hs) (opd_ok F hx) htu ?_ hv type)
                intro k e
                rcases hk with hk | ⟨_, hk⟩ <;> simp [htu, e] at hk
        split at hv
        · rename_i hk; exact hmain (.inl hk) hv
        · rename_i e hk; exact hmain (.inr ⟨e, hk⟩) hv
        · cases hv
      · cases hv
    case copy =>
      simp only at hv
      split at hv
      · rename_i d x t tl ha ht
        cases hd : opd fr d with
        | none => simp [hd] at hv
        | some p =>
          cases hx : opd fr x with
          | none => simp [hd, hx] at hv
          | some q =>
            simp only [hd, hx, Option.bind_some] at hv
            rw [run_call_builtin .copy args ts _ rfl]
            obtain rfl := toList_two ha
            rw [show (#[d, x] : Array Operand).map a.eval = #[a.eval d, a.eval x] from by simp]
            have ht0 : ts[0]? = some t := by rw [← Array.getElem?_toList, ht]; rfl
            obtain ⟨r, w', h1, h2, h3⟩ := copyA_ok K S (opd_ok F hd) (opd_ok F hx) hv ht0 type
            exact val ⟨r, w', κ, h1, h2, h3⟩
      · cases hv
    case clear =>
      simp only at hv
      split at hv
      · rename_i x t tl ha ht
        cases hx : opd fr x with
        | none => simp [hx] at hv
        | some q =>
          cases hc : clearA T h t q with
          | none => simp [hx, hc] at hv
          | some h2 =>
            simp only [hx, hc, Option.bind_some, Option.map_some, Option.some.injEq, Prod.mk.injEq] at hv
            obtain ⟨rfl, rfl⟩ := hv
            rw [run_call_builtin .clear args ts _ rfl]
            obtain rfl := toList_one ha
            rw [show (#[x] : Array Operand).map a.eval = #[a.eval x] from by simp]
            have ht0 : ts[0]? = some t := by rw [← Array.getElem?_toList, ht]; rfl
            obtain ⟨w', h1, h2⟩ := clearA_ok K S (opd_ok F hx) hc ht0 type
            exact val ⟨.tuple #[], w', κ, h1, h2, .tup _ _ .nil⟩
      · cases hv
    case delete =>
      simp only at hv
      split at hv
      · rename_i m k t tl ha ht
        cases hm : opd fr m with
        | none => simp [hm] at hv
        | some p =>
          cases hk : opd fr k with
          | none => simp [hm, hk] at hv
          | some q =>
            cases hc : deleteA T h t p q with
            | none => simp [hm, hk, hc] at hv
            | some h2 =>
              simp only [hm, hk, hc, Option.bind_some, Option.map_some, Option.some.injEq, Prod.mk.injEq] at hv
              obtain ⟨rfl, rfl⟩ := hv
              rw [run_call_builtin .delete args ts _ rfl]
              obtain rfl := toList_two ha
              rw [show (#[m, k] : Array Operand).map a.eval = #[a.eval m, a.eval k] from by simp]
              have ht0 : ts[0]? = some t := by rw [← Array.getElem?_toList, ht]; rfl
              obtain ⟨w', h1, h2⟩ := deleteA_ok K S (opd_ok F hm) (opd_ok F hk) hc ht0 type
              exact val ⟨.tuple #[], w', κ, h1, h2, .tup _ _ .nil⟩
      · cases hv
end
end Go.Ab
