/- Code in which a map is walked through: its law. -/
import Derived.Test.YtlkeplcadnlndaaAb25
set_option autoImplicit false
set_option linter.unusedSimpArgs false
set_option linter.unusedVariables false
namespace Go.Ab
open Go.RowKit (Below)

section
variable {P : Program} {T : Types} {κ κ' κ'' : Gh} {w0 w w' w'' : World} {h h' h'' : Heap} {fr : Fr} {a : Act}

theorem Ev.none (h : Ev none) : False := by obtain ⟨p, hp, _⟩ := h; cases hp

/-- A step with a walk, or another one. -/
theorem stepW_ok (K : TOk P T) {Φ : List (Nat × AFn)} (hΦ : ∀ p ∈ Φ, Sound P p.1 p.2) (S : Sim κ w0 h w) (F : FrR κ fr a) {Kf : Fr → Heap → Option Prop} {o : Oper} {l : List Oper} (hs : Ev (seqW T Φ Kf (o :: l) fr h))
    {next : Act → World → Prop} {Q : Exit → Act → World → Prop} (hn : ∀ κ' w' q v h', Done w0 κ h κ' h' w' → VR κ' v q → Ev (seqW T Φ Kf l (putA fr o.dst v) h') → next (a.put o.dst q) w') :
    o.guard = none ∧ o.wp P a w next Q := by
  obtain ⟨dst, op, type, pos, after, guard⟩ := o
  cases guard with
  | some g => exact (Ev.none (by simpa only [seqW] using hs)).elim
  | none =>
    refine ⟨rfl, ?_⟩
    simp only [seqW] at hs
    split at hs
    · rename_i t x
      cases hx : opd fr x with
      | none => simp only [hx] at hs; exact (Ev.none hs).elim
      | some v =>
        cases hr : rangeA T h t v with
        | none => simp only [hx, hr, Option.bind_none] at hs; exact (Ev.none hs).elim
        | some p =>
          obtain ⟨r, h'⟩ := p
          simp only [hx, hr, Option.bind_some] at hs
          obtain ⟨q, w', κ', hrun, hD, hq⟩ := rangeA_ok K S (opd_ok F hx) hr
          unfold Oper.wp
          have : (execOp a.eval { dst := dst, op := .range t x, type := type, pos := pos, after := after, guard := none }).run P w = .ok (.value q) w' := by simp [execOp, hrun]
          rw [this, Oper.upon_value]
          exact hn κ' w' q r h' hD hq hs
    · rename_i x
      cases hx : opd fr x with
      | none => simp only [hx] at hs; exact (Ev.none hs).elim
      | some v =>
        cases hr : entryA h v with
        | none => simp only [hx, hr, Option.map_none, Option.bind_none] at hs; exact (Ev.none hs).elim
        | some r =>
          simp only [hx, hr, Option.map_some, Option.bind_some] at hs
          obtain ⟨q, hrun, hq⟩ := entryA_ok (P := P) S (opd_ok F hx) hr
          unfold Oper.wp
          have : (execOp a.eval { dst := dst, op := .entry x, type := type, pos := pos, after := after, guard := none }).run P w = .ok (.value q) w := by simp [execOp, hrun]
          rw [this, Oper.upon_value]
          exact hn κ w q r h (Done.refl S) hq hs
    · rename_i x
      cases hx : opd fr x with
      | none => simp only [hx] at hs; exact (Ev.none hs).elim
      | some v =>
        simp only [hx, nxK] at hs
        obtain ⟨p, hp, hs⟩ := hs
        cases hp
        obtain ⟨q, w', r, h', hrun, hD, hq, hk⟩ := nextP_ok (P := P) S (opd_ok F hx) hs type
        unfold Oper.wp
        have : (execOp a.eval { dst := dst, op := .next x false, type := type, pos := pos, after := after, guard := none }).run P w = .ok (.value q) w' := by simp [execOp, hrun]
        rw [this, Oper.upon_value]
        exact hn κ w' q r h' hD hq hk
    · rw [evOne_eq] at hs
      cases hv : evOp T Φ h fr op with
      | none => simp only [hv, Option.bind_none] at hs; exact (Ev.none hs).elim
      | some p =>
        obtain ⟨v, h'⟩ := p
        simp only [hv, Option.bind_some] at hs
        exact evOp_ok K hΦ S F (o := { dst := dst, op := op, type := type, pos := pos, after := after, guard := none }) hv fun κ' w' q hD hq => hn κ' w' q v h' hD hq hs

theorem seqW_ok (K : TOk P T) {Φ : List (Nat × AFn)} (hΦ : ∀ p ∈ Φ, Sound P p.1 p.2) {ops : Array Oper} {Kf : Fr → Heap → Option Prop} {Q : Exit → Act → World → Prop} {ds : List Deferred} {κ0 : Gh} {h0 : Heap}
    (hk : ∀ κ' fr' h' a' w', Done w0 κ0 h0 κ' h' w' → FrR κ' fr' a' → a'.defers = ds → Ev (Kf fr' h') → Q .normal a' w') :
    ∀ (rest : List Oper) (i : Nat), ops.toList.drop i = rest → ∀ (κ : Gh) (fr : Fr) (h : Heap) (a : Act) (w : World), Done w0 κ0 h0 κ h w → FrR κ fr a → a.defers = ds → Ev (seqW T Φ Kf rest fr h) →
      wpOps P ops Q (List.range' i rest.length) a w := by
  intro rest
  induction rest with
  | nil =>
    intro i _ κ fr h a w hD F hds hev
    exact hk κ fr h a w hD F hds hev
  | cons o rest ih =>
    intro i hi κ fr h a w hD F hds hev
    have hio : ops[i]? = some o := by
      have : (ops.toList.drop i)[0]? = some o := by rw [hi]; rfl
      simpa using this
    have hi' : ops.toList.drop (i + 1) = rest := by rw [← List.drop_drop, hi]; rfl
    rw [List.length_cons, List.range'_succ]
    simp only [wpOps, hio]
    have key := stepW_ok (Q := Q) (next := wpOps P ops Q (List.range' (i + 1) rest.length)) K hΦ hD.sim F hev fun κ' w' q v h' hD' hq hk' => by
      exact ih (i + 1) hi' κ' _ h' _ w' (hD.trans hD') ((F.mono hD'.le).put o.dst hq) (by rw [put_defers]; exact hds) hk'
    have hw : Region.wanted o (yielded ops a.tmps) = true := by simp [Region.wanted, key.1]
    rw [if_pos hw]
    exact .inl key.2

theorem evW_ok (K : TOk P T) {Φ : List (Nat × AFn)} (hΦ : ∀ p ∈ Φ, Sound P p.1 p.2) {L : PM (List Nat)} {n : Nat} {ds : List Deferred} {κ0 : Gh} {h0 : Heap} (c : Code) :
    ∀ (Kt : KontR Prop) (Q : Exit → Act → World → Prop),
    (∀ e κ' fr' h' a' w', Done w0 κ0 h0 κ' h' w' → FrR κ' fr' a' → a'.defers = ds → Ev (Kt e fr' h') → Q e.to a' w') →
    ∀ (κ : Gh) (fr : Fr) (h : Heap) (a : Act) (w : World), Done w0 κ0 h0 κ h w → FrR κ fr a → a.defers = ds → Ev (evW T Φ L n c Kt fr h) → c.wp P Q a w := by
  induction c with
  | skip => intro Kt Q hq κ fr h a w hD F hds hev; exact wp_skip (hq .normal κ fr h a w hD F hds hev)
  | region id ops draw =>
    intro Kt Q hq κ fr h a w hD F hds hev
    simp only [evW] at hev
    split at hev
    · split at hev
      · exact (Ev.none hev).elim
      · rename_i hd
        obtain rfl : draw = false := by simpa using hd
        refine wp_region ?_
        have := seqW_ok K hΦ (Q := Q) (fun κ' fr' h' a' w' D' F' d' e' => hq .normal κ' _ h' a' w' D' (F'.clean L _) d' e') ops.toList 0 rfl κ _ h a w hD (F.clean L (2 * id)) hds hev
        rwa [Array.length_toList, ← List.range_eq_range'] at this
    · obtain ⟨p, he, hp⟩ := hev
      have hq' : ∀ κ' fr' h' a' w', Done w0 κ0 h0 κ' h' w' → FrR κ' fr' a' → a'.defers = ds → Kt .normal (clean L (2 * id + 1) fr') h' = some p → Q .normal a' w' :=
        fun κ' fr' h' a' w' hD' F' hds' e => hq .normal κ' _ _ a' w' hD' (F'.clean L _) hds' ⟨p, e, hp⟩
      cases draw with
      | true =>
        simp only [if_true] at he
        have hD' : Done w0 κ0 h0 κ h { w with drawn := w.drawn + 1 } := ⟨hD.le, hD.same, hD.sim.drawn _, hD.rest, hD.next⟩
        exact wp_region_any K.mixed (evDraw_ok K hΦ hq' hD' (F.clean L _) hds he)
      | false =>
        simp only [Bool.false_eq_true, if_false] at he
        refine wp_region ?_
        have := evSeq_ok K hΦ (Q := Q) hq' ops.toList 0 rfl κ _ h a w hD (F.clean L (2 * id)) hds he
        rwa [Array.length_toList, ← List.range_eq_range'] at this
  | seq x y ihx ihy =>
    intro Kt Q hq κ fr h a w hD F hds hev
    simp only [evW] at hev
    refine wp_seq (ihx _ _ ?_ κ fr h a w hD F hds hev)
    intro e κ' fr' h' a' w' hD' F' hds' he
    cases e with
    | normal => exact ihy Kt Q hq κ' fr' h' a' w' hD' F' hds' he
    | exit i => exact hq (.exit i) κ' fr' h' a' w' hD' F' hds' he
    | ret => exact hq .ret κ' fr' h' a' w' hD' F' hds' he
  | cond c x y ihx ihy =>
    intro Kt Q hq κ fr h a w hD F hds hev
    simp only [evW] at hev
    cases hc : opd fr c with
    | none => simp only [hc, Option.bind_none] at hev; exact (Ev.none hev).elim
    | some v =>
      simp only [hc, Option.bind_some] at hev
      have hv := opd_ok F hc
      unfold bcase at hev
      split at hev
      · generalize hcv : a.eval c = cv at hv
        cases hv
        exact wp_cond_true hcv (ihx Kt Q hq κ fr h a w hD F hds hev)
      · generalize hcv : a.eval c = cv at hv
        cases hv
        exact wp_cond_false hcv (ihy Kt Q hq κ fr h a w hD F hds hev)
      · exact (Ev.none hev).elim
  | block id c ih =>
    intro Kt Q hq κ fr h a w hD F hds hev
    simp only [evW] at hev
    refine wp_block (ih _ _ ?_ κ fr h a w hD F hds hev)
    intro e κ' fr' h' a' w' hD' F' hds' he
    cases e with
    | normal => exact hq .normal κ' fr' h' a' w' hD' F' hds' he
    | exit i =>
      simp only [kBlock] at he
      show (if i = id then _ else _)
      split at he
      · rename_i hb
        rw [if_pos (Nat.eq_of_beq_eq_true hb)]
        exact hq .normal κ' fr' h' a' w' hD' F' hds' he
      · rename_i hb
        rw [if_neg (fun e => hb (by rw [e]; exact Nat.beq_refl _))]
        exact hq (.exit i) κ' fr' h' a' w' hD' F' hds' he
    | ret => exact hq .ret κ' fr' h' a' w' hD' F' hds' he
  | loop c ih =>
    intro Kt Q hq κ fr h a w hD F hds hev
    simp only [evW] at hev
    refine wp_loop_rounds n ?_
    have key : ∀ (m : Nat) (κ : Gh) (fr : Fr) (h : Heap) (a : Act) (w : World), Done w0 κ0 h0 κ h w → FrR κ fr a → a.defers = ds → Ev (evLoop (cleanO L (headId c)) (evW T Φ L n c) Kt m fr h) → Code.rounds P c Q m a w := by
      intro m
      induction m with
      | zero => intro κ fr h a w _ _ _ he; exact (Ev.none he).elim
      | succ m ihm =>
        intro κ fr h a w hD F hds he
        simp only [evLoop] at he
        refine ih _ _ ?_ κ fr h a w hD F hds he
        intro e κ' fr' h' a' w' hD' F' hds' he'
        cases e with
        | normal => exact ihm κ' _ h' a' w' hD' (F'.cleanO L _) hds' he'
        | exit i => exact hq (.exit i) κ' fr' h' a' w' hD' F' hds' he'
        | ret => exact hq .ret κ' fr' h' a' w' hD' F' hds' he'
    exact key n κ _ h a w hD (F.cleanO L _) hds hev
  | exit id => intro Kt Q hq κ fr h a w hD F hds hev; exact wp_exit (hq (.exit id) κ fr h a w hD F hds hev)
  | ret => intro Kt Q hq κ fr h a w hD F hds hev; exact wp_ret (hq .ret κ fr h a w hD F hds hev)
  | _ => intro Kt Q hq κ fr h a w hD F hds hev; exact (Ev.none (by simpa only [evW] using hev)).elim

theorem FrR.entry {fn : Func} {args : List AV} {vals : Array Value} (hargs : VRL κ args vals.toList) :
    FrR κ (args.map some ++ List.replicate (fn.ntmps - args.length) none) { tmps := vals ++ Array.replicate (fn.ntmps - vals.size) undef, defers := [] } := by
  have hlen : args.length = vals.size := hargs.length.trans Array.length_toList
  refine ⟨by simp [hlen], fun t v ht => ?_⟩
  rw [List.getElem?_append] at ht
  split at ht
  · rename_i hlt
    rw [List.getElem?_map] at ht
    cases hx : args[t]? with
    | none => simp [hx] at ht
    | some x =>
      simp only [hx, Option.map_some, Option.some.injEq] at ht; subst ht
      obtain ⟨y, hy, hvy⟩ := hargs.get hx
      simp only [Array.getElem?_toList] at hy
      have hlt' : t < vals.size := (Array.getElem?_eq_some_iff.1 hy).1
      have : ((vals ++ Array.replicate (fn.ntmps - vals.size) undef).getD t undef) = y := by
        have hyy : vals[t] = y := by rw [Array.getElem?_eq_getElem hlt'] at hy; exact Option.some.inj hy
        simp [Array.getElem?_append, hlt', hyy]
      rw [this]; exact hvy
  · rw [List.getElem?_replicate] at ht
    split at ht
    · simp at ht
    · cases ht

theorem kFin_ok (K : TOk P T) {fn : Func} {κ0 : Gh} {h0 h1 h' : Heap} {r : AV} {e : AEx} {fr' : Fr} {a' : Act} {κ' : Gh} {w' : World} (hD : Done w0 κ0 h0 κ' h1 w') (F : FrR κ' fr' a') (hds : a'.defers = [])
    (he : kFin T fn.results.toList e fr' h1 = some (r, h')) : bodyPost P fn (fun e w' => ∃ v κ', e = .returned v ∧ Done w0 κ0 h0 κ' h' w' ∧ VR κ' r v) e.to a' w' := by
  have main : ((resVars T fr' h1 fn.results.toList).map fun l => (one l, h1)) = some (r, h') → a'.defers = [] ∧ ∃ v, (results fn a'.tmps).run P w' = .ok v w' ∧ ∃ v' κ'', Ending.returned v = .returned v' ∧ Done w0 κ0 h0 κ'' h' w' ∧ VR κ'' r v' := by
    intro he
    cases hl : resVars T fr' h1 fn.results.toList with
    | none => simp [hl] at he
    | some l =>
      simp only [hl, Option.map_some, Option.some.injEq, Prod.mk.injEq] at he
      obtain ⟨rfl, rfl⟩ := he
      obtain ⟨vs, hrun, hvl⟩ := resVars_ok K hD.sim F hl
      refine ⟨hds, (if h : vs.toArray.size = 1 then vs.toArray[0] else .tuple vs.toArray), ?_, _, κ', rfl, hD, ?_⟩
      · rw [results_eq, Array.mapM_eq_mapM_toList, Sem.run_bind, Sem.run_map, hrun]
        rfl
      · cases hvl with
        | nil => exact .tup _ _ .nil
        | cons x v l m hx hr =>
          cases hr with
          | nil => simpa [one] using hx
          | cons y u l' m' hy hr' =>
            simp only [one, List.size_toArray, List.length_cons]
            rw [dif_neg (by omega)]
            exact .tup _ _ (.cons _ _ _ _ hx (.cons _ _ _ _ hy hr'))
  cases e with
  | normal => exact main he
  | exit i => cases he
  | ret => exact main he

/-- What a function must come to. -/
def kFinW (T : Types) (rs : List ResultVar) (res : AV × Heap) : KontR Prop := fun e fr h => (kFin T rs e fr h).map fun r => r = res

theorem soundW {P : Program} {T : Types} (K : TOk P T) (f : FuncId) (fn : Func) (hf : P.funcs[f]? = some fn) (hn : ((fn.name == "runtime.NumGoroutine") || fn.body.isNone) = false) {Φ : List (Nat × AFn)} (hΦ : ∀ p ∈ Φ, Sound P p.1 p.2)
    (L : PM (List Nat)) (n : Nat) {F : AFn}
    (hF : ∀ args h res, F args h = some res → Ev (evW T Φ L n (bodyOf fn) (kFinW T fn.results.toList res) (args.map some ++ List.replicate (fn.ntmps - args.length) none) h)) : Sound P f F := by
  simp only [Bool.or_eq_false_iff] at hn
  cases hb : fn.body with
  | none => rw [hb] at hn; cases hn.2
  | some c =>
    have hbo : bodyOf fn = c := by unfold bodyOf; rw [hb]
    refine ⟨⟨fn, hf, hn.1, by rw [hb]; rfl⟩, ?_⟩
    intro args h h' r hev κ w0 w vals S hargs
    have hev := hF _ _ _ hev
    rw [hbo] at hev
    refine calls_of_wp hf hb ?_
    have F0 := FrR.entry (fn := fn) hargs
    refine evW_ok K hΦ (ds := []) (κ0 := κ) (h0 := h) (w0 := w0) c _ _ ?_ κ _ h _ w (Done.refl S) F0 rfl hev
    intro e κ' fr' h1 a' w' hD F hds he
    obtain ⟨p, hp, hpp⟩ := he
    cases hk : kFin T fn.results.toList e fr' h1 with
    | none => simp [kFinW, hk] at hp
    | some r' =>
      simp only [kFinW, hk, Option.map_some, Option.some.injEq] at hp
      subst hp; subst hpp
      exact kFin_ok K hD F hds hk
end
end Go.Ab
