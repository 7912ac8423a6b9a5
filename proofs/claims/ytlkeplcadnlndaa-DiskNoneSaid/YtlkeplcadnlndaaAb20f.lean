/- Regions that draw their order: the law. -/
import Derived.Test.YtlkeplcadnlndaaAb20e
set_option autoImplicit false
set_option linter.unusedSimpArgs false
set_option linter.unusedVariables false
namespace Go.Ab
open Go.RowKit (Below)

section
variable {P : Program} {T : Types} {κ κ' κ'' : Gh} {w0 w w' w'' : World} {h h' h'' : Heap} {fr : Fr} {a : Act}

theorem FrR.at (F : FrR κ fr a) {d : Nat} {v : AV} (hv : (fr[d]?).join = some v) : ∃ x, a.tmps[d]? = some x ∧ VR κ v x := by
  simp only [Option.join_eq_some_iff] at hv
  have hlt : d < a.tmps.size := Nat.lt_of_lt_of_le (List.getElem?_eq_some_iff.1 hv).1 F.1
  refine ⟨a.tmps[d], Array.getElem?_eq_getElem hlt, ?_⟩
  have := F.2 _ _ hv
  simpa [hlt] using this

theorem put_defers (a : Act) (d : Option Tmp) (v : Value) : (a.put d v).defers = a.defers := by cases d <;> rfl

theorem mem_ready {ops : Array Oper} {listed : Array Bool} (hs : listed.size = ops.size) {i : Nat} : i ∈ Region.ready .any ops listed ↔
    ∃ o, ops.toList[i]? = some o ∧ listed.getD i false = false ∧ ∀ e ∈ o.after.toList, Region.binds .any e = true → listed.getD e.on false = true := by
  unfold Region.ready
  rw [List.mem_filter, List.mem_range]
  constructor
  · rintro ⟨hi, hc⟩
    have hio : ops[i]? = some ops[i] := Array.getElem?_eq_getElem hi
    rw [hio] at hc
    simp only [Option.map_some, Option.getD_some, Bool.and_eq_true, Array.all_eq_true_iff_forall_mem] at hc
    refine ⟨ops[i], by simp, ?_, ?_⟩
    · have : listed.getD i true = false := by simpa using hc.1
      simpa [Array.getD, hs, hi] using this
    · intro e he hb
      have := hc.2 e (by simpa using he)
      simpa [hb] using this
  · rintro ⟨o, ho, h1, h2⟩
    have hi : i < ops.size := by
      have := (List.getElem?_eq_some_iff.1 ho).1
      simpa using this
    have hio : ops[i]? = some o := by simpa using ho
    refine ⟨hi, ?_⟩
    rw [hio]
    simp only [Option.map_some, Option.getD_some, Bool.and_eq_true, Array.all_eq_true_iff_forall_mem]
    refine ⟨?_, ?_⟩
    · have : listed.getD i true = false := by simpa [Array.getD, hs, hi] using h1
      simp [this]
    · intro e he
      cases hb : Region.binds .any e with
      | false => rfl
      | true => simpa [hb] using h2 e (by simpa using he) hb

theorem ready_nil {ops : Array Oper} (B : Back ops.toList) {listed : Array Bool} (hs : listed.size = ops.size) (hr : Region.ready .any ops listed = []) : ∀ i, i < ops.toList.length → listed.getD i false = true := by
  intro i
  induction i using Nat.strongRecOn with
  | _ i ih =>
    intro hi
    cases hl : listed.getD i false with
    | true => rfl
    | false =>
      have hio : ops.toList[i]? = some ops.toList[i] := List.getElem?_eq_getElem hi
      have : i ∈ Region.ready .any ops listed := (mem_ready hs).2 ⟨_, hio, hl, fun e he hb => ih e.on (B i _ hio e he hb) (Nat.lt_trans (B i _ hio e he hb) hi)⟩
      rw [hr] at this; cases this

theorem count_lt {f g : Nat → Bool} (hfg : ∀ i, g i = true → f i = true) {i : Nat} (hf : f i = true) (hg : g i = false) : ∀ (l : List Nat), i ∈ l → l.countP g < l.countP f
  | [], h => by cases h
  | x :: l, h => by
    have hle : l.countP g ≤ l.countP f := List.countP_mono_left fun y _ => hfg y
    by_cases hx : i = x
    · subst hx
      rw [List.countP_cons_of_pos hf, List.countP_cons_of_neg (by simp [hg])]
      omega
    · have hm : i ∈ l := by
        cases h with
        | head => exact absurd rfl hx
        | tail _ h => exact h
      have := count_lt hfg hf hg l hm
      by_cases hgx : g x = true
      · rw [List.countP_cons_of_pos hgx, List.countP_cons_of_pos (hfg x hgx)]; omega
      · rw [List.countP_cons_of_neg hgx]
        have : l.countP f ≤ (x :: l).countP f := by rw [List.countP_cons]; omega
        omega

def openOf (n : Nat) (listed : Array Bool) : Nat := (List.range n).countP fun i => !listed.getD i false

theorem getD_set {listed : Array Bool} {i : Nat} (hi : i < listed.size) (j : Nat) : (listed.setIfInBounds i true).getD j false = (listed.getD j false || Nat.beq j i) := by
  by_cases e : j = i
  · subst e; simp [Array.getD, hi]
  · have : Nat.beq j i = false := by
      rw [Bool.eq_false_iff]; intro h; exact e (Nat.eq_of_beq_eq_true h)
    rw [this, Bool.or_false]
    simp only [Array.getD_eq_getD_getElem?]
    rw [Array.getElem?_setIfInBounds_ne (Ne.symm e)]

theorem evDraw_ok {R : Type} (K : TOk P T) {Φ : List (Nat × AFn)} (hΦ : ∀ p ∈ Φ, Sound P p.1 p.2) {ops : Array Oper} {Kf : Fr → Heap → Option R} {res : R} {Q : Exit → Act → World → Prop} {ds : List Deferred} {κ0 : Gh} {h0 : Heap}
    (hk : ∀ κ' fr' h' a' w', Done w0 κ0 h0 κ' h' w' → FrR κ' fr' a' → a'.defers = ds → Kf fr' h' = some res → Q .normal a' w')
    (hD : Done w0 κ0 h0 κ h w) (hF : FrR κ fr a) (hds : a.defers = ds) (he : evDraw T Φ ops.toList Kf fr h = some res) :
    wpAny P .any ops Q ops.size (Array.replicate ops.size false) a w := by
  unfold evDraw at he
  split at he
  · rename_i hok
    have W := drawn_of hok
    obtain ⟨F, H, V, R, hF0, hH0, C, hK⟩ := evTr_inv ops.toList [] fr h he
    rw [List.append_nil] at hK
    simp only at hK
    rw [List.reverse_reverse] at hK
    split at hK
    · rename_i hh
      have C : Can T Φ ops.toList F H V R := C
      have hh := Can.hangs C hh
      have loop : ∀ (fuel : Nat) (listed : Array Bool) (κ1 : Gh) (fr1 : Fr) (h1 : Heap) (a1 : Act) (w1 : World) (p : Nat), listed.size = ops.size → openOf ops.size listed ≤ fuel →
          Shut ops.toList (fun j => listed.getD j false = true) → Agree ops.toList V (F 0) (fun j => listed.getD j false) fr1 → HeapAt T ops.toList H (fun j => listed.getD j false) h1 p →
          Done w0 κ0 h0 κ1 h1 w1 → FrR κ1 fr1 a1 → a1.defers = ds → wpAny P .any ops Q fuel listed a1 w1 := by
        have fin : ∀ (listed : Array Bool) (κ1 : Gh) (fr1 : Fr) (h1 : Heap) (a1 : Act) (w1 : World) (p : Nat), listed.size = ops.size → Agree ops.toList V (F 0) (fun j => listed.getD j false) fr1 →
            HeapAt T ops.toList H (fun j => listed.getD j false) h1 p → Done w0 κ0 h0 κ1 h1 w1 → FrR κ1 fr1 a1 → a1.defers = ds → Region.ready .any ops listed = [] → Q .normal a1 w1 := by
          intro listed κ1 fr1 h1 a1 w1 p hs A M hD1 hF1 hds1 hr
          obtain ⟨e1, e2⟩ := C.all W A M (ready_nil W.back hs hr)
          subst e1 e2
          exact hk κ1 _ _ a1 w1 hD1 hF1 hds1 hK
        intro fuel
        induction fuel with
        | zero =>
          intro listed κ1 fr1 h1 a1 w1 p hs hc hS A M hD1 hF1 hds1
          have hr : Region.ready .any ops listed = [] := by
            rw [List.eq_nil_iff_forall_not_mem]
            intro i hi
            obtain ⟨o, ho, hl, _⟩ := (mem_ready hs).1 hi
            have hil : i < ops.size := by
              have := (List.getElem?_eq_some_iff.1 ho).1
              simpa using this
            have h0 := Nat.le_zero.1 hc
            unfold openOf at h0
            rw [List.countP_eq_zero] at h0
            exact h0 i (List.mem_range.2 hil) (by simp only [hl]; rfl)
          exact ⟨hr, fin listed κ1 fr1 h1 a1 w1 p hs A M hD1 hF1 hds1 hr⟩
        | succ fuel ih =>
          intro listed κ1 fr1 h1 a1 w1 p hs hc hS A M hD1 hF1 hds1
          refine ⟨fin listed κ1 fr1 h1 a1 w1 p hs A M hD1 hF1 hds1, ?_⟩
          intro i hi
          obtain ⟨o, ho, hl, hr⟩ := (mem_ready hs).1 hi
          have hil : i < ops.size := by
            have := (List.getElem?_eq_some_iff.1 ho).1
            simpa using this
          have hio : ops[i]? = some o := by simpa using ho
          obtain ⟨h2, p2, hst, hgd, A2, M2⟩ := C.other W hh hS A M ho hl hr
          have hset := getD_set (listed := listed) (i := i) (by omega)
          have next : ∀ (κ2 : Gh) (q : Value) (w2 : World), Done w0 κ0 h0 κ2 h2 w2 → FrR κ2 fr1 a1 → VR κ2 (V i) q → wpAny P .any ops Q fuel (listed.setIfInBounds i true) (a1.put o.dst q) w2 := by
            intro κ2 q w2 hD2 hF2 hq
            refine ih _ κ2 (putA fr1 o.dst (V i)) h2 _ w2 p2 (by simpa using hs) ?_ ?_ ?_ ?_ hD2 (hF2.put o.dst hq) (by rw [put_defers]; exact hds1)
            · have : openOf ops.size (listed.setIfInBounds i true) < openOf ops.size listed := by
                refine count_lt (i := i) ?_ ?_ ?_ _ (List.mem_range.2 hil)
                · intro j hj
                  rw [hset] at hj
                  cases hlj : listed.getD j false with
                  | false => rfl
                  | true => rw [hlj] at hj; cases hj
                · simp only [hl]; rfl
                · rw [hset]; simp
              omega
            · intro j q' hj hq' e he hb
              rw [hset] at hj ⊢
              rcases Bool.or_eq_true _ _ ▸ hj with hj | hj
              · have := hS j q' hj hq' e he hb
                simp only at this
                rw [this]; rfl
              · have := Nat.eq_of_beq_eq_true hj
                subst this
                rw [ho] at hq'; cases hq'
                rw [hr e he hb]; rfl
            · have : (fun j => (listed.setIfInBounds i true).getD j false) = fun j => listed.getD j false || Nat.beq j i := funext hset
              rw [this]; exact A2
            · have : (fun j => (listed.setIfInBounds i true).getD j false) = fun j => listed.getD j false || Nat.beq j i := funext hset
              rw [this]; exact M2
          unfold wpOp
          simp only [hio]
          have run : R i = true → o.wp P a1 w1 (wpAny P .any ops Q fuel (listed.setIfInBounds i true)) Q := by
            intro hR
            rw [hR] at hst
            simp only [if_true] at hst
            exact evOp_ok K hΦ hD1.sim hF1 hst fun κ2 w2 q hD2 hq => next κ2 q w2 (hD1.trans hD2) (hF1.mono hD2.le) hq
          have skip : R i = false → wpAny P .any ops Q fuel (listed.setIfInBounds i true) (a1.put o.dst undef) w1 := by
            intro hR
            rw [hR] at hst
            simp only [Bool.false_eq_true, if_false] at hst
            obtain ⟨e1, e2⟩ := hst
            subst e2
            exact next κ1 undef w1 hD1 hF1 (by rw [e1]; exact .tup _ _ .nil)
          have hG := (C i o ho).2.2
          cases hg : o.guard with
          | none =>
            simp only [hg] at hG
            have hw : Region.wanted o (yielded ops a1.tmps) = true := by simp [Region.wanted, hg]
            rw [if_pos hw]
            exact .inl (run hG)
          | some jw =>
            obtain ⟨g, want⟩ := jw
            simp only [hg] at hG
            obtain ⟨d, hd, u, hu, hcase⟩ := hG
            have hu' : (fr1[d]?).join = some u := by rw [hgd g d want hg hd]; exact hu
            obtain ⟨x, hx, hvx⟩ := hF1.at hu'
            have hdo : (ops[g]?).bind (·.dst) = some d := by unfold dstOf at hd; simpa using hd
            have hy : yielded ops a1.tmps g = match x with | .bool b => some b | _ => none := by
              unfold yielded
              rw [hdo]
              simp only [Option.bind_some, hx]
              cases x <;> rfl
            have hwant : Region.wanted o (yielded ops a1.tmps) = (yielded ops a1.tmps g == some want) := by simp [Region.wanted, hg]
            rw [hwant, hy]
            rcases hcase with ⟨b, rfl, hR⟩ | ⟨rfl, hR⟩
            · cases hvx
              cases b <;> cases want <;> first | exact .inl (run hR) | exact skip hR
            · cases hvx
              exact skip hR
      refine loop ops.size _ κ fr h a w 0 (by simp) ?_ ?_ ?_ ?_ hD hF hds
      · unfold openOf
        exact Nat.le_trans List.countP_le_length (by simp)
      · intro j o hj
        simp [Array.getD] at hj
      · rw [hF0]
        exact ⟨fun t j o _ _ => by simp [Array.getD], fun t _ => rfl⟩
      · exact ⟨Nat.zero_le _, .inl rfl, hH0.symm, fun e o _ _ => by simp [Array.getD]⟩
    · cases hK
  · cases he

end
end Go.Ab
