/- The abstract machine: regions, code, functions. -/
import Derived.Test.YtlkeplcadnlndaaAb20f
set_option autoImplicit false
set_option linter.unusedSimpArgs false
set_option linter.unusedVariables false
namespace Go.Ab
open Go.RowKit (Below)

section
variable {P : Program} {T : Types} {κ κ' κ'' : Gh} {w0 w w' w'' : World} {h h' h'' : Heap} {fr : Fr} {a : Act}

theorem Sim.drawn (S : Sim κ w0 h w) (n : Nat) : Sim κ w0 h { w with drawn := n } where
  below := ⟨S.below.os, S.below.tape, S.below.output, S.below.size, S.below.block⟩
  fresh := S.fresh
  row := S.row
  base := S.base
  apart := S.apart
  anc := S.anc
  im := S.im
  imApart := S.imApart
  map := S.map
  miter := S.miter
  mbase := S.mbase
  mapApart := S.mapApart

theorem evSeq_ok {R : Type} (K : TOk P T) {Φ : List (Nat × AFn)} (hΦ : ∀ p ∈ Φ, Sound P p.1 p.2) {ops : Array Oper} {Kf : Fr → Heap → Option R} {res : R} {Q : Exit → Act → World → Prop} {ds : List Deferred} {κ0 : Gh} {h0 : Heap}
    (hk : ∀ κ' fr' h' a' w', Done w0 κ0 h0 κ' h' w' → FrR κ' fr' a' → a'.defers = ds → Kf fr' h' = some res → Q .normal a' w') :
    ∀ (rest : List Oper) (i : Nat), ops.toList.drop i = rest → ∀ (κ : Gh) (fr : Fr) (h : Heap) (a : Act) (w : World), Done w0 κ0 h0 κ h w → FrR κ fr a → a.defers = ds → evSeq T Φ ops.toList Kf rest fr h = some res →
      wpOps P ops Q (List.range' i rest.length) a w := by
  intro rest
  induction rest with
  | nil =>
    intro i _ κ fr h a w hD F hds hev
    exact hk κ fr h a w hD F hds hev
  | cons o rest ih =>
    intro i hi κ fr h a w hD F hds hev
    have hio : ops[i]? = some o := by
      have : (ops.toList.drop i)[0]? = some o := by rw [hi]; rfl
      simpa using this
    have hi' : ops.toList.drop (i + 1) = rest := by rw [← List.drop_drop, hi]; rfl
    rw [List.length_cons, List.range'_succ]
    simp only [wpOps, hio]
    have run : ∀ (fr1 : Fr), FrR κ fr1 a → ((evOp T Φ h fr1 o.op).bind fun p => evSeq T Φ ops.toList Kf rest (putA fr1 o.dst p.1) p.2) = some res →
        o.wp P a w (wpOps P ops Q (List.range' (i + 1) rest.length)) Q := by
      intro fr1 F1 he
      cases hp : evOp T Φ h fr1 o.op with
      | none => simp [hp] at he
      | some p =>
        obtain ⟨v, h1⟩ := p
        simp only [hp, Option.bind_some] at he
        refine evOp_ok K hΦ hD.sim F1 hp (fun κ' w' q hD' hvq => ?_)
        exact ih (i + 1) hi' κ' _ h1 _ w' (hD.trans hD') ((F1.mono hD'.le).put o.dst hvq) (by rw [put_defers]; exact hds) he
    have skip : ∀ (fr1 : Fr), FrR κ fr1 a → evSeq T Φ ops.toList Kf rest (putA fr1 o.dst .undef) h = some res →
        wpOps P ops Q (List.range' (i + 1) rest.length) (a.put o.dst undef) w := by
      intro fr1 F1 he
      exact ih (i + 1) hi' κ _ h _ w hD (F1.put o.dst (.tup _ _ .nil)) (by rw [put_defers]; exact hds) he
    simp only [evSeq, evOne_eq] at hev
    cases hg : o.guard with
    | none =>
      simp only [hg] at hev
      have hw : Region.wanted o (yielded ops a.tmps) = true := by simp [Region.wanted, hg]
      rw [if_pos hw]
      exact .inl (run fr F hev)
    | some jw =>
      obtain ⟨j, want⟩ := jw
      simp only [hg] at hev
      cases hd : dstOf ops.toList j with
      | none => simp [hd] at hev
      | some d =>
        simp only [hd] at hev
        cases hv : (fr[d]?).join with
        | none => simp [hv] at hev
        | some v =>
          simp only [hv, Option.bind_some] at hev
          obtain ⟨x, hx, hvx⟩ := F.at hv
          have hdo : (ops[j]?).bind (·.dst) = some d := by unfold dstOf at hd; simpa using hd
          have hy : yielded ops a.tmps j = match x with | .bool b => some b | _ => none := by
            unfold yielded
            rw [hdo]
            simp only [Option.bind_some, hx]
            cases x <;> rfl
          have hwant : Region.wanted o (yielded ops a.tmps) = (yielded ops a.tmps j == some want) := by simp [Region.wanted, hg]
          rw [hwant, hy]
          unfold gcase at hev
          split at hev
          · cases hvx
            have F1 : FrR κ (fr.set d (some (.bool true))) a := F.know hv
            cases want with
            | true => exact .inl (run _ F1 hev)
            | false => exact skip _ F1 hev
          · cases hvx
            have F1 : FrR κ (fr.set d (some (.bool false))) a := F.know hv
            cases want with
            | true => exact skip _ F1 hev
            | false => exact .inl (run _ F1 hev)
          · cases hvx
            have F1 : FrR κ (fr.set d (some .undef)) a := F.know hv
            exact skip _ F1 hev
          · cases hev

/-- The exits of the model. -/
def AEx.to : AEx → Exit
  | .normal => .normal
  | .exit i => .exit i
  | .ret => .ret

def ev (T : Types) (Φ : List (Nat × AFn)) (L : PM (List Nat)) (n : Nat) : Code → Kont → Fr → Heap → Option (AV × Heap)
  | .skip, K, fr, h => K .normal fr h
  | .region id ops draw, K, fr, h =>
    if draw then evDraw T Φ ops.toList (fun fr h => K .normal (clean L (2 * id + 1) fr) h) (clean L (2 * id) fr) h
    else evSeq T Φ ops.toList (fun fr h => K .normal (clean L (2 * id + 1) fr) h) ops.toList (clean L (2 * id) fr) h
  | .seq x y, K, fr, h => ev T Φ L n x (kSeq (ev T Φ L n y K) K) fr h
  | .cond c x y, K, fr, h => (opd fr c).bind fun v => bcase v (ev T Φ L n x K fr h) (ev T Φ L n y K fr h)
  | .block id c, K, fr, h => ev T Φ L n c (kBlock id K) fr h
  | .loop c, K, fr, h => evLoop (cleanO L (headId c)) (ev T Φ L n c) K n (cleanO L (headId c) fr) h
  | .exit id, K, fr, h => K (.exit id) fr h
  | .ret, K, fr, h => K .ret fr h
  | _, _, _, _ => none

theorem ev_ok (K : TOk P T) {Φ : List (Nat × AFn)} (hΦ : ∀ p ∈ Φ, Sound P p.1 p.2) {L : PM (List Nat)} {n : Nat} {ds : List Deferred} {κ0 : Gh} {h0 : Heap} {res : AV × Heap} (c : Code) :
    ∀ (Kt : Kont) (Q : Exit → Act → World → Prop),
    (∀ e κ' fr' h' a' w', Done w0 κ0 h0 κ' h' w' → FrR κ' fr' a' → a'.defers = ds → Kt e fr' h' = some res → Q e.to a' w') →
    ∀ (κ : Gh) (fr : Fr) (h : Heap) (a : Act) (w : World), Done w0 κ0 h0 κ h w → FrR κ fr a → a.defers = ds → ev T Φ L n c Kt fr h = some res → c.wp P Q a w := by
  induction c with
  | skip => intro Kt Q hq κ fr h a w hD F hds hev; exact wp_skip (hq .normal κ fr h a w hD F hds hev)
  | region id ops draw =>
    intro Kt Q hq κ fr h a w hD F hds hev
    simp only [ev] at hev
    cases draw with
    | true =>
      simp only [if_true] at hev
      have hD' : Done w0 κ0 h0 κ h { w with drawn := w.drawn + 1 } := ⟨hD.le, hD.same, hD.sim.drawn _, hD.rest, hD.next⟩
      exact wp_region_any K.mixed (evDraw_ok K hΦ (fun κ' fr' h' a' w' D' F' d' e' => hq .normal κ' _ h' a' w' D' (F'.clean L _) d' e') hD' (F.clean L _) hds hev)
    | false =>
      simp only [Bool.false_eq_true, if_false] at hev
      refine wp_region ?_
      have := evSeq_ok K hΦ (Q := Q) (fun κ' fr' h' a' w' D' F' d' e' => hq .normal κ' _ h' a' w' D' (F'.clean L _) d' e') ops.toList 0 rfl κ (clean L (2 * id) fr) h a w hD (F.clean L _) hds hev
      rwa [Array.length_toList, ← List.range_eq_range'] at this
  | seq x y ihx ihy =>
    intro Kt Q hq κ fr h a w hD F hds hev
    simp only [ev] at hev
    refine wp_seq (ihx _ _ ?_ κ fr h a w hD F hds hev)
    intro e κ' fr' h' a' w' hD' F' hds' he
    cases e with
    | normal => exact ihy Kt Q hq κ' fr' h' a' w' hD' F' hds' he
    | exit i => exact hq (.exit i) κ' fr' h' a' w' hD' F' hds' he
    | ret => exact hq .ret κ' fr' h' a' w' hD' F' hds' he
  | cond c x y ihx ihy =>
    intro Kt Q hq κ fr h a w hD F hds hev
    simp only [ev] at hev
    cases hc : opd fr c with
    | none => simp [hc] at hev
    | some v =>
      simp only [hc, Option.bind_some] at hev
      have hv := opd_ok F hc
      unfold bcase at hev
      split at hev
      · generalize hcv : a.eval c = cv at hv
        cases hv
        exact wp_cond_true hcv (ihx Kt Q hq κ fr h a w hD F hds hev)
      · generalize hcv : a.eval c = cv at hv
        cases hv
        exact wp_cond_false hcv (ihy Kt Q hq κ fr h a w hD F hds hev)
      · cases hev
  | block id c ih =>
    intro Kt Q hq κ fr h a w hD F hds hev
    simp only [ev] at hev
    refine wp_block (ih _ _ ?_ κ fr h a w hD F hds hev)
    intro e κ' fr' h' a' w' hD' F' hds' he
    cases e with
    | normal => exact hq .normal κ' fr' h' a' w' hD' F' hds' he
    | exit i =>
      simp only [kBlock] at he
      show (if i = id then _ else _)
      split at he
      · rename_i hb
        rw [if_pos (Nat.eq_of_beq_eq_true hb)]
        exact hq .normal κ' fr' h' a' w' hD' F' hds' he
      · rename_i hb
        rw [if_neg (fun e => hb (by rw [e]; exact Nat.beq_refl _))]
        exact hq (.exit i) κ' fr' h' a' w' hD' F' hds' he
    | ret => exact hq .ret κ' fr' h' a' w' hD' F' hds' he
  | loop c ih =>
    intro Kt Q hq κ fr h a w hD F hds hev
    simp only [ev] at hev
    refine wp_loop_rounds n ?_
    have key : ∀ (m : Nat) (κ : Gh) (fr : Fr) (h : Heap) (a : Act) (w : World), Done w0 κ0 h0 κ h w → FrR κ fr a → a.defers = ds → evLoop (cleanO L (headId c)) (ev T Φ L n c) Kt m fr h = some res → Code.rounds P c Q m a w := by
      intro m
      induction m with
      | zero => intro κ fr h a w _ _ _ he; cases he
      | succ m ihm =>
        intro κ fr h a w hD F hds he
        simp only [evLoop] at he
        refine ih _ _ ?_ κ fr h a w hD F hds he
        intro e κ' fr' h' a' w' hD' F' hds' he'
        cases e with
        | normal => exact ihm κ' _ h' a' w' hD' (F'.cleanO L _) hds' he'
        | exit i => exact hq (.exit i) κ' fr' h' a' w' hD' F' hds' he'
        | ret => exact hq .ret κ' fr' h' a' w' hD' F' hds' he'
    exact key n κ _ h a w hD (F.cleanO L _) hds hev
  | exit id => intro Kt Q hq κ fr h a w hD F hds hev; exact wp_exit (hq (.exit id) κ fr h a w hD F hds hev)
  | ret => intro Kt Q hq κ fr h a w hD F hds hev; exact wp_ret (hq .ret κ fr h a w hD F hds hev)
  | _ => intro Kt Q hq κ fr h a w hD F hds hev; simp [ev] at hev

/-- A function's result. -/
def resVar (T : Types) (fr : Fr) (h : Heap) : ResultVar → Option AV
  | .tmp t => (fr[t]?).join
  | .cell t ty => ((fr[t]?).join).bind fun x => loadA T h ty x

def resVars (T : Types) (fr : Fr) (h : Heap) : List ResultVar → Option (List AV)
  | [] => some []
  | r :: l => (resVar T fr h r).bind fun v => (resVars T fr h l).map (v :: ·)

def one : List AV → AV
  | [v] => v
  | l => .tup l

/-- Behind a function's last statement. -/
def kFin (T : Types) (rs : List ResultVar) : Kont
  | .exit _, _, _ => none
  | _, fr, h => (resVars T fr h rs).map fun l => (one l, h)

def evFunc (T : Types) (Φ : List (Nat × AFn)) (L : PM (List Nat)) (fn : Func) (n : Nat) (args : List AV) (h : Heap) : Option (AV × Heap) :=
  match fn.body with
  | none => none
  | some c => ev T Φ L n c (kFin T fn.results.toList) (args.map some ++ List.replicate (fn.ntmps - args.length) none) h

def resSem (tmps : Array Value) : ResultVar → Sem Value
  | .tmp t => pure (tmps.getD t undef)
  | .cell x t => do loadVar t (← asAddr (tmps.getD x undef))

theorem results_eq (fn : Func) (tmps : Array Value) : results fn tmps = (do
    let vs ← fn.results.mapM (resSem tmps)
    pure (if h : vs.size = 1 then vs[0] else .tuple vs)) := by
  unfold results
  congr 1

theorem resVars_ok (K : TOk P T) (S : Sim κ w0 h w) (F : FrR κ fr a) : ∀ {rs : List ResultVar} {l : List AV}, resVars T fr h rs = some l →
    ∃ vs : List Value, (rs.mapM (resSem a.tmps)).run P w = .ok vs w ∧ VRL κ l vs
  | [], l, hr => by simp only [resVars, Option.some.injEq] at hr; subst hr; exact ⟨[], rfl, .nil⟩
  | r :: rs, l, hr => by
    simp only [resVars] at hr
    cases hv : resVar T fr h r with
    | none => simp [hv] at hr
    | some v =>
      cases hl : resVars T fr h rs with
      | none => simp [hv, hl] at hr
      | some m =>
        simp only [hv, hl, Option.bind_some, Option.map_some, Option.some.injEq] at hr; subst hr
        obtain ⟨vs, h1, h2⟩ := resVars_ok K S F hl
        rw [List.mapM_cons]
        cases r with
        | tmp t =>
          simp only [resVar, Option.join_eq_some_iff] at hv
          exact ⟨a.tmps.getD t undef :: vs, by simp [resSem, h1], .cons _ _ _ _ (F.2 _ _ hv) h2⟩
        | cell t ty =>
          simp only [resVar] at hv
          cases hx : (fr[t]?).join with
          | none => simp [hx] at hv
          | some x =>
            simp only [hx, Option.bind_some] at hv
            simp only [Option.join_eq_some_iff] at hx
            have hxv := F.2 _ _ hx
            obtain ⟨q, hq, hvq⟩ := loadA_ok K S hxv hv
            refine ⟨q :: vs, ?_, .cons _ _ _ _ hvq h2⟩
            have ha : ∃ ad, a.tmps.getD t undef = .pointer (some ad) := by
              generalize hgd : a.tmps.getD t undef = gd at hxv
              unfold loadA at hv
              cases hti : T.get ty with
              | none => simp [hti] at hv
              | some ti =>
                simp only [hti] at hv
                cases hxv <;> first | exact ⟨_, rfl⟩ | (exfalso; revert hv; simp [cellsAt])
            obtain ⟨ad, ha⟩ := ha
            rw [ha] at hq
            simp only [Instr.loadAt, Instr.sureAddr, Sem.run_bind, Sem.run_pure, Result.andThen_ok] at hq
            simp only [resSem, ha, asAddr, Sem.run_bind, Sem.run_pure, Result.andThen_ok, hq, h1]

theorem evFunc_sound (K : TOk P T) {f : FuncId} {fn : Func} (hf : P.funcs[f]? = some fn) (hnm : (fn.name == "runtime.NumGoroutine") = false) {c : Code} (hb : fn.body = some c) {Φ : List (Nat × AFn)} (hΦ : ∀ p ∈ Φ, Sound P p.1 p.2)
    (L : PM (List Nat)) (n : Nat) : Sound P f (evFunc T Φ L fn n) := by
  refine ⟨⟨fn, hf, hnm, by rw [hb]; rfl⟩, ?_⟩
  intro args h h' r hev κ w0 w vals S hargs
  simp only [evFunc, hb] at hev
  refine calls_of_wp hf hb ?_
  have hlen : args.length = vals.size := hargs.length.trans Array.length_toList
  have F0 : FrR κ (args.map some ++ List.replicate (fn.ntmps - args.length) none) { tmps := vals ++ Array.replicate (fn.ntmps - vals.size) undef, defers := [] } := by
    refine ⟨by simp [hlen], fun t v ht => ?_⟩
    rw [List.getElem?_append] at ht
    split at ht
    · rename_i hlt
      rw [List.getElem?_map] at ht
      cases hx : args[t]? with
      | none => simp [hx] at ht
      | some x =>
        simp only [hx, Option.map_some, Option.some.injEq] at ht; subst ht
        obtain ⟨y, hy, hvy⟩ := hargs.get hx
        simp only [Array.getElem?_toList] at hy
        have hlt' : t < vals.size := (Array.getElem?_eq_some_iff.1 hy).1
        have : ((vals ++ Array.replicate (fn.ntmps - vals.size) undef).getD t undef) = y := by
          have hyy : vals[t] = y := by rw [Array.getElem?_eq_getElem hlt'] at hy; exact Option.some.inj hy
          simp [Array.getElem?_append, hlt', hyy]
        rw [this]; exact hvy
    · rw [List.getElem?_replicate] at ht
      split at ht
      · simp at ht
      · cases ht
  refine ev_ok K hΦ (ds := []) (κ0 := κ) (h0 := h) (w0 := w0) (res := (r, h')) c (kFin T fn.results.toList) _ ?_ κ _ h _ w (Done.refl S) F0 rfl hev
  intro e κ' fr' h1 a' w' hD F hds he
  have main : ((resVars T fr' h1 fn.results.toList).map fun l => (one l, h1)) = some (r, h') → a'.defers = [] ∧ ∃ v, (results fn a'.tmps).run P w' = .ok v w' ∧ ∃ v' κ'', Ending.returned v = .returned v' ∧ Done w0 κ h κ'' h' w' ∧ VR κ'' r v' := by
    intro he
    cases hl : resVars T fr' h1 fn.results.toList with
    | none => simp [hl] at he
    | some l =>
      simp only [hl, Option.map_some, Option.some.injEq, Prod.mk.injEq] at he
      obtain ⟨rfl, rfl⟩ := he
      obtain ⟨vs, hrun, hvl⟩ := resVars_ok K hD.sim F hl
      refine ⟨hds, (if h : vs.toArray.size = 1 then vs.toArray[0] else .tuple vs.toArray), ?_, _, κ', rfl, hD, ?_⟩
      · rw [results_eq, Array.mapM_eq_mapM_toList, Sem.run_bind, Sem.run_map, hrun]
        rfl
      · cases hvl with
        | nil => exact .tup _ _ .nil
        | cons x v l m hx hr =>
          cases hr with
          | nil => simpa [one] using hx
          | cons y u l' m' hy hr' =>
            simp only [one, List.size_toArray, List.length_cons]
            rw [dif_neg (by omega)]
            exact .tup _ _ (.cons _ _ _ _ hx (.cons _ _ _ _ hy hr'))
  cases e with
  | normal => exact main he
  | exit i => cases he
  | ret => exact main he
end
end Go.Ab
