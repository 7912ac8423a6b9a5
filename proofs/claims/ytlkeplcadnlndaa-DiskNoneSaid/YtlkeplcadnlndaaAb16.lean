/- Rows given up, set at rest, laid where another one lies. -/
import Derived.Test.YtlkeplcadnlndaaAb15
set_option autoImplicit false
set_option linter.unusedSimpArgs false
set_option linter.unusedVariables false
namespace Go.Ab
open Go.RowKit (Below)

section
variable {P : Program} {T : Types} {κ κ' κ'' : Gh} {w0 w w' w'' : World} {h h' h'' : Heap} {fr : List (Option AV)} {a : Act}

/-- What a step leaves: memory that goes with the world; names that had their places keep them; what had no place is as it was. -/
structure Done (w0 : World) (κ : Gh) (h : Heap) (κ' : Gh) (h' : Heap) (w' : World) : Prop where
  le : Gh.Le κ κ'
  same : ∀ j, j < h.next → κ'.row j = κ.row j ∧ κ'.mp j = κ.mp j
  sim : Sim κ' w0 h' w'
  rest : ∀ j, j < h.next → κ.row j = none → κ.mp j = none → h'.get j = h.get j
  next : h.next ≤ h'.next

theorem Done.refl (S : Sim κ w0 h w) : Done w0 κ h κ h w := ⟨Gh.Le.refl κ, fun _ _ => ⟨rfl, rfl⟩, S, fun _ _ _ _ => rfl, Nat.le_refl _⟩
theorem Done.trans (d : Done w0 κ h κ' h' w') (e : Done w0 κ' h' κ'' h'' w'') : Done w0 κ h κ'' h'' w'' where
  le := d.le.trans e.le
  same j hj := by
    obtain ⟨a1, a2⟩ := d.same j hj
    obtain ⟨b1, b2⟩ := e.same j (Nat.lt_of_lt_of_le hj d.next)
    exact ⟨b1.trans a1, b2.trans a2⟩
  sim := e.sim
  rest j hj h1 h2 := by
    obtain ⟨a1, a2⟩ := d.same j hj
    rw [e.rest j (Nat.lt_of_lt_of_le hj d.next) (a1.trans h1) (a2.trans h2)]
    exact d.rest j hj h1 h2
  next := Nat.le_trans d.next e.next

theorem lt_next (S : Sim κ w0 h w) {i : Nat} {o : AObj} (ho : h.get i = some o) : i < h.next := by
  rcases Nat.lt_or_ge i h.next with h1 | h1
  · exact h1
  · have := (S.fresh i h1).2.2; rw [ho] at this; cases this

theorem Sim.dead (S : Sim κ w0 h w) {i : Nat} (hi : i < h.next) : Sim κ w0 (h.put i .dead) w := by
  have hget : ∀ j o, (h.put i .dead).get j = some o → o ≠ .dead → j ≠ i ∧ h.get j = some o := by
    intro j o hj hd
    rw [Heap.get_put] at hj
    split at hj
    · simp only [Option.some.injEq] at hj; exact absurd hj.symm hd
    · exact ⟨by assumption, hj⟩
  exact {
    below := S.below
    fresh := fun j hj => by
      obtain ⟨a, b, c⟩ := S.fresh j hj
      have hj' : h.next ≤ j := hj
      exact ⟨a, b, by rw [Heap.get_put_ne _ _ (by omega)]; exact c⟩
    row := fun j c e s a g hj hg => S.row j c e s a g (hget j _ hj (by simp)).2 hg
    base := S.base
    apart := fun j k cj ej sj aj ck ek sk ak gj gk hne hj hk => S.apart j k cj ej sj aj ck ek sk ak gj gk hne (hget j _ hj (by simp)).2 (hget k _ hk (by simp)).2
    anc := fun j c e s a hj k hk => by
      obtain ⟨h1, h2, h3, h4⟩ := S.anc j c e s a (hget j _ hj (by simp)).2 k hk
      exact ⟨h1, h2, fun c e s a hr => h3 c e s a (hget k _ hr (by simp)).2, h4⟩
    im := S.im
    imApart := fun j c e a g hj hg => S.imApart j c e a g (hget j _ hj (by simp)).2 hg
    map := fun j es bs ck b hj hm => S.map j es bs ck b (hget j _ hj (by simp)).2 hm
    miter := fun j m since seen last b hj hm => S.miter j m since seen last b (hget j _ hj (by simp)).2 hm
    mbase := S.mbase
    mapApart := S.mapApart }

theorem Sim.kill (S : Sim κ w0 h w) (l : List Nat) (hl : ∀ i ∈ l, i < h.next) : Sim κ w0 (h.kill l) w := by
  induction l generalizing h with
  | nil => exact S
  | cons i l ih => exact ih (S.dead (hl i (List.mem_cons_self ..))) (fun j hj => hl j (List.mem_cons_of_mem _ hj))

theorem Sim.stale (S : Sim κ w0 h w) {i : Nat} {cells : List AV} {ext : Option Nat} {s0 : Bool} {anc : List Nat} (ho : h.get i = some (.row cells ext s0 anc)) :
    Sim κ w0 (h.put i (.row cells ext true anc)) w := by
  have hi := lt_next S ho
  have hget : ∀ j o, (h.put i (.row cells ext true anc)).get j = some o → (j = i ∧ o = .row cells ext true anc) ∨ (j ≠ i ∧ h.get j = some o) := by
    intro j o hj
    rw [Heap.get_put] at hj
    split at hj
    · simp only [Option.some.injEq] at hj; exact .inl ⟨by assumption, hj.symm⟩
    · exact .inr ⟨by assumption, hj⟩
  have hrow : ∀ j c e s a, (h.put i (.row cells ext true anc)).get j = some (.row c e s a) → ∃ s', h.get j = some (.row c e s' a) ∧ (s' = true → s = true) ∧ (s = false → s' = false) := by
    intro j c e s a hj
    rcases hget j _ hj with ⟨rfl, h1⟩ | ⟨_, h1⟩
    · simp only [AObj.row.injEq] at h1
      obtain ⟨rfl, rfl, rfl, rfl⟩ := h1
      exact ⟨s0, ho, fun _ => rfl, fun e => by cases e⟩
    · exact ⟨s, h1, id, id⟩
  exact {
    below := S.below
    fresh := fun j hj => by
      obtain ⟨a, b, c⟩ := S.fresh j hj
      have hj' : h.next ≤ j := hj
      exact ⟨a, b, by rw [Heap.get_put_ne _ _ (by omega)]; exact c⟩
    row := fun j c e s a g hj hg => by
      obtain ⟨s', h1, _⟩ := hrow j c e s a hj
      exact S.row j c e s' a g h1 hg
    base := S.base
    apart := fun j k cj ej sj aj ck ek sk ak gj gk hne hj hk => by
      obtain ⟨s1, h1, _⟩ := hrow j _ _ _ _ hj
      obtain ⟨s2, h2, _⟩ := hrow k _ _ _ _ hk
      exact S.apart j k cj ej s1 aj ck ek s2 ak gj gk hne h1 h2
    anc := fun j c e s a hj k hk => by
      obtain ⟨s1, h1, _⟩ := hrow j _ _ _ _ hj
      obtain ⟨g1, g2, g3, g4⟩ := S.anc j c e s1 a h1 k hk
      refine ⟨g1, g2, fun c e s a hr => ?_, g4⟩
      obtain ⟨s2, h2, h3, _⟩ := hrow k _ _ _ _ hr
      exact h3 (g3 _ _ _ _ h2)
    im := S.im
    imApart := fun j c e a g hj hg => by
      obtain ⟨s1, h1, _, h3⟩ := hrow j _ _ _ _ hj
      rw [h3 rfl] at h1
      exact S.imApart j c e a g h1 hg
    map := fun j es bs ck b hj hm => by
      rcases hget j _ hj with ⟨_, h1⟩ | ⟨_, h1⟩
      · cases h1
      · exact S.map j es bs ck b h1 hm
    miter := fun j m since seen last b hj hm => by
      rcases hget j _ hj with ⟨_, h1⟩ | ⟨_, h1⟩
      · cases h1
      · exact S.miter j m since seen last b h1 hm
    mbase := S.mbase
    mapApart := S.mapApart }

/-- A row that had no place is laid behind what another one holds, in the same block. -/
theorem Sim.placeIn (S : Sim κ w0 h w) {i : Nat} {cells : List AV} {ext : Option Nat} {anc : List Nat} (ho : h.get i = some (.row cells ext false anc)) (hu : κ.row i = none)
    {b base size esz L : Nat} {C C' : Array Value} {T : TypeId} {lo hi : Nat} (hb : w0.heap.size ≤ b) (hx : w.heap[b]? = some (.cells C T (lo, hi))) (hW : Wrote w w' b (.cells C' T (lo, hi)))
    (hs : C'.size = C.size) (hsz : C.size = size) (hf : lo = hi ∨ C.size ≤ lo) (hpre : C'.toList.take L = C.toList.take L) (him : κ.im b = none)
    (hold : ∀ j c e s a g, j ≠ i → h.get j = some (.row c e s a) → κ.row j = some g → g.b = b → j ∈ anc ∧ g.base + c.length ≤ L) (hL : L ≤ base + cells.length)
    (hv : VRL κ cells ((C'.toList.drop base).take cells.length)) (hall : cells.all AV.leaf = true) (he : ∀ z, ext = some z → esz = z) (hbase : ext = none → base = 0) :
    Sim (κ.setRow i ⟨b, base, size, esz⟩) w0 h w' := by
  have hle : Gh.Le κ (κ.setRow i ⟨b, base, size, esz⟩) := Gh.le_setRow hu
  have hlt := lt_next S ho
  have hrow : ∀ j g, (κ.setRow i ⟨b, base, size, esz⟩).row j = some g → (j = i ∧ g = ⟨b, base, size, esz⟩) ∨ (j ≠ i ∧ κ.row j = some g) := by
    intro j g hg
    by_cases hj : j = i
    · exact .inl ⟨hj, by simpa [Gh.setRow, hj] using hg.symm⟩
    · exact .inr ⟨hj, by simpa [Gh.setRow, hj] using hg⟩
  have hblk : ∀ k, k ≠ b → w'.heap[k]? = w.heap[k]? := hW.other
  exact {
    below := ⟨hW.os.trans S.below.os, hW.tape.trans S.below.tape, hW.output.trans S.below.output, by rw [hW.size]; exact S.below.size,
      fun k hk => by rw [hblk k (by omega)]; exact S.below.block k hk⟩
    fresh := fun j hj => by
      obtain ⟨a, b, c⟩ := S.fresh j hj
      refine ⟨?_, b, c⟩
      show (if j = i then _ else κ.row j) = none
      rw [if_neg (by omega)]; exact a
    row := fun j c e s a g hj hg => by
      rcases hrow j g hg with ⟨rfl, rfl⟩ | ⟨hne, hg'⟩
      · rw [ho] at hj
        simp only [Option.some.injEq, AObj.row.injEq] at hj
        obtain ⟨rfl, rfl, rfl, rfl⟩ := hj
        exact ⟨C', T, lo, hi, hW.here, by rw [hs]; exact hsz, by rw [hs]; exact hf, hv.mono hle, hall, he, hbase⟩
      · by_cases hgb : g.b = b
        · obtain ⟨C0, T0, l0, h0, e1, e2, e3, e4, e5⟩ := S.row j c e s a g hj hg'
          rw [hgb, hx] at e1
          simp only [Option.some.injEq, Obj.cells.injEq, Prod.mk.injEq] at e1
          obtain ⟨rfl, rfl, rfl, rfl⟩ := e1
          obtain ⟨_, h2⟩ := hold j c e s a g hne hj hg' hgb
          refine ⟨C', T, lo, hi, by rw [hgb]; exact hW.here, by rw [hs]; exact e2, by rw [hs]; exact hf, ?_, e5⟩
          have : (C'.toList.drop g.base).take c.length = (C.toList.drop g.base).take c.length := by
            have h3 : ∀ X : List Value, (X.drop g.base).take c.length = ((X.take L).drop g.base).take c.length := by
              intro X
              rw [List.drop_take, List.take_take]
              congr 1
              omega
            rw [h3, hpre, ← h3]
          rw [this]
          exact e4.mono hle
        · exact ((S.row j c e s a g hj hg').of_block (hblk _ hgb)).mono hle
    base := fun j g hg => by
      rcases hrow j g hg with ⟨rfl, rfl⟩ | ⟨_, hg'⟩
      · exact hb
      · exact S.base j g hg'
    apart := fun j k cj ej sj aj ck ek sk ak gj gk hne hj hk hgj hgk hbb => by
      rcases hrow j gj hgj with ⟨rfl, rfl⟩ | ⟨hji, hgj'⟩
      · rcases hrow k gk hgk with ⟨rfl, rfl⟩ | ⟨hki, hgk'⟩
        · exact absurd rfl hne
        · rw [ho] at hj
          simp only [Option.some.injEq, AObj.row.injEq] at hj
          obtain ⟨rfl, rfl, rfl, rfl⟩ := hj
          obtain ⟨h1, h2⟩ := hold k _ _ _ _ gk hki hk hgk' hbb.symm
          exact .inr ⟨h1, Nat.le_trans h2 hL⟩
      · rcases hrow k gk hgk with ⟨rfl, rfl⟩ | ⟨hki, hgk'⟩
        · rw [ho] at hk
          simp only [Option.some.injEq, AObj.row.injEq] at hk
          obtain ⟨rfl, rfl, rfl, rfl⟩ := hk
          obtain ⟨h1, h2⟩ := hold j _ _ _ _ gj hji hj hgj' hbb
          exact .inl ⟨h1, Nat.le_trans h2 hL⟩
        · exact S.apart j k cj ej sj aj ck ek sk ak gj gk hne hj hk hgj' hgk' hbb
    anc := fun j c e s l hj k hk => by
      obtain ⟨h1, h2, h3, h4⟩ := S.anc j c e s l hj k hk
      refine ⟨h1, h2, h3, fun hn => ?_⟩
      cases hx : κ.row k with
      | none => exact h4 hx
      | some x => rw [hle.row _ _ hx] at hn; cases hn
    im := fun k c hc => by
      have hkb : k ≠ b := by rintro rfl; rw [show κ.im k = some c from hc] at him; cases him
      obtain ⟨T1, fz, e1⟩ := S.im k c hc
      exact ⟨T1, fz, by rw [hblk k hkb]; exact e1⟩
    imApart := fun j c e a g hj hg => by
      rcases hrow j g hg with ⟨rfl, rfl⟩ | ⟨_, hg'⟩
      · exact him
      · exact S.imApart j c e a g hj hg'
    map := fun j es bs ck k hj hm => by
      obtain ⟨E, e1, r, q⟩ := S.map j es bs ck k hj hm
      refine ⟨E, ?_, r.mono hle, q⟩
      rw [hblk k (by rintro rfl; rw [hx] at e1; cases e1)]; exact e1
    miter := fun j m since seen last k hj hm => by
      obtain ⟨bs, e1, r⟩ := S.miter j m since seen last k hj hm
      refine ⟨bs, ?_, r.mono hle⟩
      rw [hblk k (by rintro rfl; rw [hx] at e1; cases e1)]; exact e1
    mbase := fun j k hm => by rw [hW.size]; exact S.mbase j k hm
    mapApart := S.mapApart }

/-- Cells are written. -/
theorem putCells_ok (S : Sim κ w0 h w) {id o : Nat} {vs : List AV} (hp : putCells h id o vs = some h') {g : RowG} (hg : κ.row id = some g) {us : List Value} (hv : VRL κ vs us) (hl : vs.all AV.leaf = true) :
    ∃ w', (storeCells ⟨g.b, g.base + o, none⟩ us).run P w = .ok () w' ∧ Done w0 κ h κ h' w' := by
  unfold putCells at hp
  split at hp
  · rename_i cells ext anc ho
    split at hp
    · rename_i hle
      simp only [Option.some.injEq] at hp
      subst hp
      obtain ⟨C, TT, lo, hi, hb, hsz, hf, hvr, hall, hez⟩ := S.row _ _ _ _ _ _ ho hg
      have hlen : cells.length = min cells.length (C.size - g.base) := by
        have := hvr.length
        rwa [List.length_take, List.length_drop, Array.length_toList] at this
      have hus := hv.length
      have hone : ∀ v ∈ us, v.oneCell' = true := by
        clear hle hus
        induction vs generalizing us with
        | nil => cases hv; intro v hv'; cases hv'
        | cons x vs ih =>
          cases hv with
          | cons _ y _ m hx hr =>
            simp only [List.all_cons, Bool.and_eq_true] at hl
            intro v hv'
            cases hv' with
            | head => exact hx.oneCell hl.1
            | tail _ hm => exact ih hr hl.2 v hm
      by_cases hz : us = []
      · subst hz
        have hvn : vs = [] := by cases hv; rfl
        subst hvn
        refine ⟨w, rfl, Gh.Le.refl _, fun _ _ => ⟨rfl, rfl⟩, ?_, ?_, by simp [Heap.next_kill]⟩
        · refine S.wrote (w' := w) ho hg ⟨rfl, fun _ _ => rfl, hb, rfl, rfl, rfl⟩ hsz hf ?_ ?_
          · simpa [setFrom] using hvr
          · simpa [setFrom] using hall
        · intro j hj hr _
          rw [Heap.get_put_ne _ _ (by rintro rfl; rw [hg] at hr; cases hr), Heap.get_kill, if_neg]
          intro hm; exact (S.anc _ _ _ _ _ ho j hm).2.2.2 hr
      · have hpos : 0 < us.length := List.length_pos_iff.2 hz
        obtain ⟨w', C', hrun, hW, hsC, hC⟩ := run_storeCells (P := P) us w C (g.base + o) 0 hb hf hone (by omega)
        refine ⟨w', hrun, Gh.Le.refl _, fun _ _ => ⟨rfl, rfl⟩, ?_, ?_, by simp [Heap.next_kill]⟩
        · have hcl : (setFrom cells o vs).length = cells.length := by simp [setFrom]; omega
          refine S.wrote ho hg hW (by rw [hsC]; exact hsz) (by rw [hsC]; exact hf) ?_ ?_
          · rw [hcl, hC, Nat.add_zero]
            have h1 := ((hvr.take o).append hv).append (hvr.drop (o + vs.length))
            have h2 : (List.take o (List.take cells.length (List.drop g.base C.toList)) ++ us ++ List.drop (o + vs.length) (List.take cells.length (List.drop g.base C.toList))) =
                ((C.toList.take (g.base + o) ++ us ++ C.toList.drop (g.base + o + us.length)).drop g.base).take cells.length := by
              apply List.ext_getElem?
              intro k
              simp only [List.getElem?_append, List.getElem?_take, List.getElem?_drop, List.length_take, List.length_drop, List.length_append, Array.length_toList]
              rw [← hus]
              repeat' split
              all_goals first | rfl | omega | (congr 1; omega) | skip
            rw [← h2]
            exact h1
          · simp only [setFrom, List.all_append, Bool.and_eq_true]
            rw [List.all_eq_true] at hall
            exact ⟨⟨List.all_eq_true.2 fun x hx => hall x (List.mem_of_mem_take hx), hl⟩, List.all_eq_true.2 fun x hx => hall x (List.mem_of_mem_drop hx)⟩
        · intro j hj hr _
          rw [Heap.get_put_ne _ _ (by rintro rfl; rw [hg] at hr; cases hr), Heap.get_kill, if_neg]
          intro hm; exact (S.anc _ _ _ _ _ ho j hm).2.2.2 hr
    · cases hp
  · cases hp
end
end Go.Ab
