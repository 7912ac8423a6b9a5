/- Stores, maps, copies: the operations that write. -/
import Derived.Test.YtlkeplcadnlndaaAb17
set_option autoImplicit false
set_option linter.unusedSimpArgs false
set_option linter.unusedVariables false
namespace Go.Ab
open Go.RowKit (Below)

/-- An operation that writes (calls aside). -/
def evEff (T : Types) (h : Heap) (fr : List (Option AV)) : Op → Option (AV × Heap)
  | .store t x v => (opd fr x).bind fun a => (opd fr v).bind fun b => (storeA T h t a b).map fun h' => (.undef, h')
  | .mapUpdate t m k v => (opd fr m).bind fun a => (opd fr k).bind fun b => (opd fr v).bind fun c => (mapUpdateA T h t a b c).map fun h' => (.undef, h')
  | .insert t m k v => (opd fr m).bind fun a => (opd fr k).bind fun b => (opd fr v).bind fun c => (mapUpdateA T h t a b c).map fun h' => (.undef, h')
  | .convert s d x =>
    match (T.get s).map TI.kind, (T.get d).map TI.kind with
    | some .str, some (.slice e) =>
      match (T.get e).map TI.kind with
      | some (.int .u8) => (opd fr x).bind fun
        | .str l => strToBytes h l
        | _ => none
      | _ => none
    | _, _ => none
  | .call ⟨.builtin .append, args, ts⟩ =>
    match args.toList, ts.toList with
    | [s, x], [t, u] =>
      match (T.get u).map TI.kind with
      | some .str | some (.slice _) => (opd fr s).bind fun a => (opd fr x).bind fun b => appendA T h t a b
      | _ => none
    | _, _ => none
  | .call ⟨.builtin .copy, args, ts⟩ =>
    match args.toList, ts.toList with
    | [d, x], t :: _ => (opd fr d).bind fun a => (opd fr x).bind fun b => copyA T h t a b
    | _, _ => none
  | .call ⟨.builtin .clear, args, ts⟩ =>
    match args.toList, ts.toList with
    | [x], t :: _ => (opd fr x).bind fun a => (clearA T h t a).map fun h' => (.tup [], h')
    | _, _ => none
  | .call ⟨.builtin .delete, args, ts⟩ =>
    match args.toList, ts.toList with
    | [m, k], t :: _ => (opd fr m).bind fun a => (opd fr k).bind fun b => (deleteA T h t a b).map fun h' => (.tup [], h')
    | _, _ => none
  | _ => none

section
variable {P : Program} {T : Types} {κ κ' κ'' : Gh} {w0 w w' w'' : World} {h h' h'' : Heap} {fr : List (Option AV)} {a : Act}

theorem storeA_ok (K : TOk P T) (S : Sim κ w0 h w) {t : TypeId} {x v : AV} {u y : Value} (hx : VR κ x u) (hv : VR κ v y) (hr : storeA T h t x v = some h') :
    ∃ w', (Instr.storeAt t u y).run P w = .ok () w' ∧ Done w0 κ h κ h' w' := by
  unfold storeA at hr
  split at hr
  · rename_i i id o ht
    split at hr
    · rename_i hc
      cases hx with
      | ptr _ _ g hg =>
        obtain ⟨w', hst, hD⟩ := putCells_ok (P := P) S hr hg hv.cells (hv.leafs hc.2)
        refine ⟨w', ?_, hD⟩
        have hsz : y.cells.size = i.size := by rw [← hc.1, hv.cells.length, Array.length_toList]
        simp [Instr.storeAt, Instr.sureAddr, storeVar, run_sizeOf K ht, hsz, hst]
    · cases hr
  · cases hr

theorem map_eraseIdx' {α β : Type} (f : α → β) : ∀ (l : List α) (i : Nat), (l.eraseIdx i).map f = (l.map f).eraseIdx i
  | [], i => by simp
  | a :: l, 0 => rfl
  | a :: l, i + 1 => by simp only [List.eraseIdx_cons_succ, List.map_cons, map_eraseIdx' f l i]

theorem map_born_modify (E : List MapEntry) (i : Nat) (kv vv : Value) : (E.modify i fun e => { e with key := kv, val := vv }).map (·.born) = E.map (·.born) := by
  induction E generalizing i with
  | nil => cases i <;> rfl
  | cons e E ih => cases i with
    | zero => rfl
    | succ i => simp only [List.modify_succ_cons, List.map_cons, ih]

/-- A map is written. -/
theorem Sim.setMap (S : Sim κ w0 h w) {id b : Nat} {es es' : List (AV × AV)} {bs bs' : List Nat} {ck : Nat} (ho : h.get id = some (.map es bs ck)) (hb : κ.mp id = some b) {E : Array MapEntry} {c : Nat} (hE : EntR κ es' E.toList) (hbs : E.toList.map (·.born) = bs') (hB : BornOk E.toList c) :
    Sim κ w0 (h.put id (.map es' bs' c)) { w with heap := w.heap.setIfInBounds b (.map E c) } := by
  have hid := lt_next S ho
  obtain ⟨E0, hx, _⟩ := S.map _ _ _ _ _ ho hb
  obtain ⟨hb0, hblt⟩ := S.mbase _ _ hb
  have hne : ∀ k, k ≠ b → (w.heap.setIfInBounds b (.map E c))[k]? = w.heap[k]? := fun k hk => Array.getElem?_setIfInBounds_ne (Ne.symm hk)
  have hhere : (w.heap.setIfInBounds b (.map E c))[b]? = some (.map E c) := by simp [hblt]
  have hget : ∀ j o, (h.put id (.map es' bs' c)).get j = some o → (j = id ∧ o = .map es' bs' c) ∨ (j ≠ id ∧ h.get j = some o) := by
    intro j o hj
    rw [Heap.get_put] at hj
    split at hj
    · simp only [Option.some.injEq] at hj; exact .inl ⟨by assumption, hj.symm⟩
    · exact .inr ⟨by assumption, hj⟩
  have hrow : ∀ j d e s l, (h.put id (.map es' bs' c)).get j = some (.row d e s l) → h.get j = some (.row d e s l) := by
    intro j d e s l hj
    rcases hget j _ hj with ⟨_, h1⟩ | ⟨_, h1⟩
    · cases h1
    · exact h1
  exact {
    below := ⟨S.below.os, S.below.tape, S.below.output, by simpa using S.below.size, fun k hk => by show (w.heap.setIfInBounds b _)[k]? = _; rw [hne k (by omega)]; exact S.below.block k hk⟩
    fresh := fun j hj => by
      obtain ⟨p, q, r⟩ := S.fresh j hj
      have hj' : h.next ≤ j := hj
      exact ⟨p, q, by rw [Heap.get_put_ne _ _ (by omega)]; exact r⟩
    row := fun j c e s l g hj hg => (S.row j c e s l g (hrow j c e s l hj) hg).of_block (hne _ (by
      rintro rfl
      obtain ⟨C, TT, lo, hi, hc, _⟩ := S.row j c e s l g (hrow j c e s l hj) hg
      rw [hx] at hc; cases hc))
    base := S.base
    apart := fun j k cj ej sj aj ck ek sk ak gj gk hne' hj hk => S.apart j k cj ej sj aj ck ek sk ak gj gk hne' (hrow _ _ _ _ _ hj) (hrow _ _ _ _ _ hk)
    anc := fun j c e s l hj k hk => by
      obtain ⟨p1, p2, p3, p4⟩ := S.anc j c e s l (hrow _ _ _ _ _ hj) k hk
      exact ⟨p1, p2, fun c e s l hh => p3 c e s l (hrow _ _ _ _ _ hh), p4⟩
    im := fun k c hc => by
      obtain ⟨T1, fz, e1⟩ := S.im k c hc
      exact ⟨T1, fz, (hne k (by rintro rfl; rw [hx] at e1; cases e1)).trans e1⟩
    imApart := fun j c e l g hj hg => S.imApart j c e l g (hrow _ _ _ _ _ hj) hg
    map := fun j es1 bs1 ck1 k hj hm => by
      rcases hget j _ hj with ⟨rfl, h1⟩ | ⟨hji, h1⟩
      · simp only [AObj.map.injEq] at h1
        obtain ⟨rfl, rfl, rfl⟩ := h1
        rw [hb] at hm; cases hm
        exact ⟨E, hhere, hE, hbs, hB⟩
      · obtain ⟨E1, e1, r⟩ := S.map j es1 bs1 ck1 k h1 hm
        exact ⟨E1, (hne k (by rintro rfl; exact hji (S.mapApart _ _ _ hm hb))).trans e1, r⟩
    miter := fun j m since seen last k hj hm => by
      rcases hget j _ hj with ⟨_, h1⟩ | ⟨hji, h1⟩
      · cases h1
      · obtain ⟨bs, e1, r⟩ := S.miter j m since seen last k h1 hm
        exact ⟨bs, (hne k (by rintro rfl; exact hji (S.mapApart _ _ _ hm hb))).trans e1, r⟩
    mbase := fun j k hm => by
      obtain ⟨p, q⟩ := S.mbase j k hm
      exact ⟨p, by simpa using q⟩
    mapApart := S.mapApart }

theorem EntR.append {κ : Gh} {l l' : List (AV × AV)} {m m' : List MapEntry} (h : EntR κ l m) (k : EntR κ l' m') : EntR κ (l ++ l') (m ++ m') := by
  induction h with
  | nil => exact k
  | cons k v e l m hk hv _ ih => exact .cons k v e _ _ hk hv ih

theorem EntR.setVal {κ : Gh} {k v : AV} {kv vv : Value} (hk : VR κ k kv) (hv : VR κ v vv) : ∀ {es : List (AV × AV)} {E : List MapEntry} (h : EntR κ es E) (i : Nat), EntR κ (setVal k v es i) (E.modify i fun e => { e with key := kv, val := vv })
  | _, _, .nil, i => by cases i <;> simp [Ab.setVal] <;> exact .nil
  | _, _, .cons a b e l m h1 h2 r, 0 => by simpa [Ab.setVal] using EntR.cons k v { e with key := kv, val := vv } l m hk hv r
  | _, _, .cons a b e l m h1 h2 r, i + 1 => by simpa [Ab.setVal] using EntR.cons a b e _ _ h1 h2 (EntR.setVal hk hv r i)

theorem EntR.eraseIdx {κ : Gh} : ∀ {es : List (AV × AV)} {E : List MapEntry} (h : EntR κ es E) (i : Nat), EntR κ (es.eraseIdx i) (E.eraseIdx i)
  | _, _, .nil, i => by simp; exact .nil
  | _, _, .cons a b e l m h1 h2 r, 0 => r
  | _, _, .cons a b e l m h1 h2 r, i + 1 => .cons a b e _ _ h1 h2 (EntR.eraseIdx r i)

theorem modify_born (E : List MapEntry) (i : Nat) (kv vv : Value) : (E.modify i fun e => { e with key := kv, val := vv }).map (·.born) = E.map (·.born) := by
  induction E generalizing i with
  | nil => simp
  | cons e E ih => cases i <;> simp [ih]

theorem BornOk.modify {E : List MapEntry} {c : Nat} (h : BornOk E c) (i : Nat) (kv vv : Value) : BornOk (E.modify i fun e => { e with key := kv, val := vv }) c := by
  refine ⟨by rw [modify_born]; exact h.1, fun e he => ?_⟩
  have : e.born ∈ (E.modify i fun e => { e with key := kv, val := vv }).map (·.born) := List.mem_map.2 ⟨e, he, rfl⟩
  rw [modify_born] at this
  obtain ⟨e', he', heq⟩ := List.mem_map.1 this
  rw [← heq]; exact h.2 e' he'

theorem BornOk.push {E : List MapEntry} {c : Nat} (h : BornOk E c) (kv vv : Value) : BornOk (E ++ [{ key := kv, val := vv, born := c }]) (c + 1) := by
  refine ⟨?_, fun e he => ?_⟩
  · rw [List.map_append, List.pairwise_append]
    refine ⟨h.1, by simp, fun x hx y hy => ?_⟩
    obtain ⟨e, he, rfl⟩ := List.mem_map.1 hx
    simp at hy; subst hy
    exact h.2 e he
  · rw [List.mem_append] at he
    rcases he with he | he
    · exact Nat.lt_succ_of_lt (h.2 e he)
    · simp at he; subst he; exact Nat.lt_succ_self _

theorem BornOk.erase {E : List MapEntry} {c : Nat} (h : BornOk E c) (i : Nat) : BornOk (E.eraseIdx i) c :=
  ⟨h.1.sublist ((List.eraseIdx_sublist E i).map _), fun e he => h.2 e ((List.eraseIdx_sublist E i).mem he)⟩

theorem run_setObj {i : Nat} {o o' : Obj} (h : w.heap[i]? = some o) (hc : ∀ c e f, o ≠ .cells c e f) : (setObj i o').run P w = .ok () { w with heap := w.heap.setIfInBounds i o' } := by
  unfold setObj
  simp only [Sem.run, h]
  try (cases o <;> first | rfl | exact absurd rfl (hc _ _ _))

theorem findKeyA_hit {kind : TK} {x : AV} : ∀ {es : List (AV × AV)} {i j : Nat} {v : AV}, findKeyA kind x es i = some (some (j, v)) → i ≤ j ∧ ∃ y, es[j - i]? = some (y, v) ∧ sameKey kind x y = some true
  | [], i, j, v, h => by simp [findKeyA] at h
  | (y, u) :: es, i, j, v, h => by
    simp only [findKeyA] at h
    cases hs : sameKey kind x y with
    | none => simp [hs] at h
    | some b =>
      cases b with
      | true => simp only [hs, Option.some.injEq, Prod.mk.injEq] at h; obtain ⟨rfl, rfl⟩ := h; exact ⟨Nat.le_refl _, y, by simp, hs⟩
      | false =>
        simp only [hs] at h
        obtain ⟨h1, z, h2, h3⟩ := findKeyA_hit h
        exact ⟨by omega, z, by rw [show j - i = (j - (i + 1)) + 1 from by omega]; simpa using h2, h3⟩

theorem EntR.get {κ : Gh} : ∀ {es : List (AV × AV)} {E : List MapEntry} (h : EntR κ es E) {i : Nat} {k v : AV}, es[i]? = some (k, v) → ∃ e, E[i]? = some e ∧ VR κ k e.key ∧ VR κ v e.val
  | _, _, .nil, i, k, v, hi => by simp at hi
  | _, _, .cons a b e l m h1 h2 r, 0, k, v, hi => by simp at hi; obtain ⟨rfl, rfl⟩ := hi; exact ⟨e, rfl, h1, h2⟩
  | _, _, .cons a b e l m h1 h2 r, i + 1, k, v, hi => by simp at hi; simpa using EntR.get r hi

theorem sameKey_bits {kind : TK} {x y : AV} {u v : Value} (hx : VR κ x u) (hy : VR κ y v) (h : sameKey kind x y = some true) : Instr.sameBits 10000 v u = true := by
  have key : ∀ n, Instr.sameBits n v u = true := by
    intro n
    unfold sameKey at h
    split at h
    · cases hx; cases hy
      split at h
      · rename_i e; subst e
        simp only [Option.some.injEq, decide_eq_true_eq] at h
        subst h
        simp [Instr.sameBits]
      · cases h
    · cases hx with
      | str _ s e => cases hy with
        | str _ s' e' =>
          simp only [Option.some.injEq, decide_eq_true_eq] at h
          subst h
          have : s' = s := str_inj (e'.trans e.symm)
          subst this
          simp [Instr.sameBits, beq_bytes]
    · cases hx; cases hy
      simp only [Option.some.injEq, beq_iff_eq] at h
      subst h
      simp [Instr.sameBits]
    · cases h
  exact key 10000

theorem doneMap (S : Sim κ w0 h w) {id b : Nat} (hb : κ.mp id = some b) {o : AObj} (S' : Sim κ w0 (h.put id o) w') : Done w0 κ h κ (h.put id o) w' :=
  ⟨Gh.Le.refl _, fun _ _ => ⟨rfl, rfl⟩, S', fun j _ _ hm => Heap.get_put_ne _ _ (by rintro rfl; rw [hb] at hm; cases hm), Nat.le_refl _⟩

theorem mapUpdateA_ok (K : TOk P T) (S : Sim κ w0 h w) {t : TypeId} {m k v : AV} {mu ku vu : Value} (hm : VR κ m mu) (hk : VR κ k ku) (hv : VR κ v vu) (hr : mapUpdateA T h t m k v = some h') :
    ∃ w', (Instr.mapUpdate t mu ku vu).run P w = .ok () w' ∧ Done w0 κ h κ h' w' := by
  unfold mapUpdateA at hr
  split at hr
  · rename_i kt et s b z q id ht
    obtain ⟨d, hd, hkd⟩ := K.und t _ ht
    obtain rfl := kindD_map hkd
    cases hki : T.get kt with
    | none => simp [hki] at hr
    | some ki =>
      simp only [hki, Option.bind_some] at hr
      split at hr
      · rename_i hf
        obtain ⟨kd, hkd', hkk⟩ := K.und kt _ hki
        cases hm with
        | map _ b hb =>
          cases hob : h.get id with
          | none => simp [hob] at hr
          | some ob =>
            cases ob <;> simp only [hob] at hr <;> try (cases hr; done)
            rename_i es bs c
            obtain ⟨E, hx, hE, hbs, hB⟩ := S.map _ _ _ _ _ hob hb
            cases hfk : findKeyA ki.kind k es 0 with
            | none => simp [hfk] at hr
            | some fr' =>
              obtain ⟨r', h1, h2⟩ := run_findKey (P := P) hkd' hkk hk hE hfk w
              have hck := fitsKey_check (P := P) hkd' hkk hk hf false w
              cases fr' with
              | none =>
                simp only [hfk, Option.some.injEq] at hr
                subst hr
                cases r' with
                | some _ => exact h2.elim
                | none =>
                  have hS := S.setMap hob hb (es' := es ++ [(k, v)]) (E := E.push { key := ku, val := vu, born := c }) (c := c + 1) (by rw [Array.toList_push]; exact hE.append (.cons k v _ _ _ hk hv .nil)) (by rw [Array.toList_push, List.map_append, hbs]; try rfl) (by rw [Array.toList_push]; exact hB.push _ _)
                  refine ⟨_, ?_, doneMap S hb hS⟩
                  simp [Instr.mapUpdate, run_underlying hd, run_getObj hx (by simp), hck, h1, run_setObj hx (by simp)]
              | some p =>
                obtain ⟨i, av⟩ := p
                simp only [hfk, Option.some.injEq] at hr
                subst hr
                cases r' with
                | none => exact h2.elim
                | some p' =>
                  obtain ⟨j, v'⟩ := p'
                  obtain ⟨rfl, _⟩ := h2
                  obtain ⟨_, y, hy, hsame⟩ := findKeyA_hit hfk
                  obtain ⟨e, he, hke, _⟩ := hE.get hy
                  simp only [Nat.sub_zero, Array.getElem?_toList] at he
                  have hbits := sameKey_bits hk hke hsame
                  have hS := S.setMap hob hb (es' := setVal k v es i) (E := E.modify i fun e => { e with key := ku, val := vu }) (c := c) (by rw [Array.toList_modify]; exact hE.setVal hk hv i) (bs' := bs) (by rw [Array.toList_modify, map_born_modify]; exact hbs) (by rw [Array.toList_modify]; exact hB.modify _ _ _)
                  refine ⟨_, ?_, doneMap S hb hS⟩
                  simp [Instr.mapUpdate, run_underlying hd, run_getObj hx (by simp), hck, h1, run_setObj hx (by simp), he, Instr.keyThatStays, hbits]
      · cases hr
  · cases hr

theorem deleteA_ok (K : TOk P T) (S : Sim κ w0 h w) {t : TypeId} {m k : AV} {mu ku : Value} (hm : VR κ m mu) (hk : VR κ k ku) (hr : deleteA T h t m k = some h') {ts : Array TypeId} (hts : ts[0]? = some t) (ty : TypeId) :
    ∃ w', (Builtin.delete_ ts ty #[mu, ku]).run P w = .ok (.tuple #[]) w' ∧ Done w0 κ h κ h' w' := by
  unfold deleteA at hr
  split at hr
  · rename_i kt et s b z q ht
    obtain ⟨d, hd, hkd⟩ := K.und t _ ht
    obtain rfl := kindD_map hkd
    cases hki : T.get kt with
    | none => simp [hki] at hr
    | some ki =>
      simp only [hki, Option.bind_some] at hr
      split at hr
      · rename_i hf
        obtain ⟨kd, hkd', hkk⟩ := K.und kt _ hki
        have hck := fun e => fitsKey_check (P := P) hkd' hkk hk hf e w
        cases hm <;> simp only at hr <;> try (cases hr; done)
        case mnil =>
          simp only [Option.some.injEq] at hr; subst hr
          exact ⟨w, by simp [Builtin.delete_, hts, run_underlying hd, hck], Done.refl S⟩
        case map id b hb =>
          cases hob : h.get id with
          | none => simp [hob] at hr
          | some ob =>
            cases ob <;> simp only [hob] at hr <;> try (cases hr; done)
            rename_i es bs c
            obtain ⟨E, hx, hE, hbs, hB⟩ := S.map _ _ _ _ _ hob hb
            cases hfk : findKeyA ki.kind k es 0 with
            | none => simp [hfk] at hr
            | some fr' =>
              obtain ⟨r', h1, h2⟩ := run_findKey (P := P) hkd' hkk hk hE hfk w
              cases fr' with
              | none =>
                simp only [hfk, Option.some.injEq] at hr
                subst hr
                cases r' with
                | some _ => exact h2.elim
                | none =>
                  refine ⟨{ w with heap := w.heap.setIfInBounds b (.map E c) }, ?_, ?_⟩
                  · simp [Builtin.delete_, hts, run_underlying hd, run_getObj hx (by simp), hck, h1, run_setObj hx (by simp)]
                  · have hw : { w with heap := w.heap.setIfInBounds b (.map E c) } = w := by
                      have : w.heap.setIfInBounds b (.map E c) = w.heap := by
                        apply Array.ext_getElem?
                        intro i
                        by_cases hi : i = b
                        · subst hi; rw [hx]; simp [(Array.getElem?_eq_some_iff.1 hx).1]
                        · exact Array.getElem?_setIfInBounds_ne (Ne.symm hi)
                      rw [this]
                    rw [hw]; exact Done.refl S
              | some p =>
                obtain ⟨i, av⟩ := p
                simp only [hfk, Option.some.injEq] at hr
                subst hr
                cases r' with
                | none => exact h2.elim
                | some p' =>
                  obtain ⟨j, v'⟩ := p'
                  obtain ⟨rfl, _⟩ := h2
                  have hS := S.setMap hob hb (es' := es.eraseIdx i) (E := E.eraseIdxIfInBounds i) (c := c) (by rw [Array.toList_eraseIdxIfInBounds]; exact hE.eraseIdx i) (bs' := bs.eraseIdx i) (by rw [Array.toList_eraseIdxIfInBounds, map_eraseIdx', hbs]) (by rw [Array.toList_eraseIdxIfInBounds]; exact hB.erase _)
                  refine ⟨_, ?_, doneMap S hb hS⟩
                  simp [Builtin.delete_, hts, run_underlying hd, run_getObj hx (by simp), hck, h1, run_setObj hx (by simp)]
      · cases hr
  · cases hr
end
end Go.Ab
