/- New memory and stores keep what binds both memories together. -/
import Derived.Test.YtlkeplcadnlndaaAb5
set_option autoImplicit false
set_option linter.unusedSimpArgs false
set_option linter.unusedVariables false
namespace Go.Ab
open Go.RowKit (Below)

theorem Heap.next_kill (h : Heap) (l : List Nat) : (h.kill l).next = h.next := by
  induction l generalizing h with
  | nil => rfl
  | cons i l ih => simp [Heap.kill, ih]
theorem Heap.get_kill (h : Heap) (l : List Nat) (j : Nat) : (h.kill l).get j = if j ∈ l then some .dead else h.get j := by
  induction l generalizing h with
  | nil => simp [Heap.kill]
  | cons i l ih =>
    simp only [Heap.kill, ih, Heap.get_put, List.mem_cons]
    by_cases h1 : j ∈ l <;> by_cases h2 : j = i <;> simp [h1, h2]

def Gh.setRow (κ : Gh) (i : Nat) (g : RowG) : Gh := { κ with row := fun j => if j = i then some g else κ.row j }
def Gh.setMp (κ : Gh) (i b : Nat) : Gh := { κ with mp := fun j => if j = i then some b else κ.mp j }

theorem Gh.le_setRow {κ : Gh} {i : Nat} {g : RowG} (h : κ.row i = none) : Gh.Le κ (κ.setRow i g) :=
  ⟨fun j x hj => by
    show (if j = i then some g else κ.row j) = some x
    rw [if_neg (by rintro rfl; rw [h] at hj; cases hj)]; exact hj, fun _ _ h => h, fun _ _ h => h⟩
theorem Gh.le_setMp {κ : Gh} {i b : Nat} (h : κ.mp i = none) : Gh.Le κ (κ.setMp i b) :=
  ⟨fun _ _ h => h, fun j x hj => by
    show (if j = i then some b else κ.mp j) = some x
    rw [if_neg (by rintro rfl; rw [h] at hj; cases hj)]; exact hj, fun _ _ h => h⟩

section
variable {P : Program} {κ : Gh} {w0 w : World} {h : Heap}

theorem RowOk.lt {g : RowG} {cells : List AV} {ext : Option Nat} (r : RowOk κ w g cells ext) : g.b < w.heap.size := by
  obtain ⟨C, T, lo, hi, hb, _⟩ := r
  exact (Array.getElem?_eq_some_iff.1 hb).1

theorem lt_of_get {α : Type} {a : Array α} {i : Nat} {x : α} (h : a[i]? = some x) : i < a.size := (Array.getElem?_eq_some_iff.1 h).1

theorem alloc_here (w : World) (o : Obj) : (w.alloc o).heap[w.heap.size]? = some o := by
  show (w.heap.push o)[w.heap.size]? = _
  simp

/-- The world grows, or a draw is made: what was there is as it was. -/
theorem Sim.grown {w' : World} (S : Sim κ w0 h w) (hb : Below w.heap.size w w') : Sim κ w0 h w' where
  below := S.below.trans (hb.mono S.below.size)
  fresh := S.fresh
  row i cells ext stale anc g ho hg := (S.row i cells ext stale anc g ho hg).of_block (hb.block _ (S.row i cells ext stale anc g ho hg).lt)
  base := S.base
  apart := S.apart
  anc := S.anc
  im b C hC := by
    obtain ⟨T, fz, hx⟩ := S.im b C hC
    exact ⟨T, fz, (hb.block _ (lt_of_get hx)).trans hx⟩
  imApart := S.imApart
  map i es bs ck b ho hm := by
    obtain ⟨E, hx, r⟩ := S.map i es bs ck b ho hm
    exact ⟨E, (hb.block _ (lt_of_get hx)).trans hx, r⟩
  miter i m since seen last b ho hm := by
    obtain ⟨bs, hx, r⟩ := S.miter i m since seen last b ho hm
    exact ⟨bs, (hb.block _ (lt_of_get hx)).trans hx, r⟩
  mbase i b hm := ⟨(S.mbase i b hm).1, Nat.lt_of_lt_of_le (S.mbase i b hm).2 hb.size⟩
  mapApart := S.mapApart

/-- A new object that has no place in the world yet. -/
theorem Sim.pend (S : Sim κ w0 h w) {o : AObj} (ho : ∀ cells ext stale anc, o = .row cells ext stale anc → ∀ i ∈ anc, i < h.next ∧ (∀ c e s a, h.get i = some (.row c e s a) → s = true) ∧ κ.row i ≠ none) : Sim κ w0 (h.new o) w := by
  have hn : ∀ {i : Nat} {g : RowG}, κ.row i = some g → i ≠ h.next := fun hg e => by
    have := (S.fresh _ (Nat.le_of_eq e.symm)).1
    rw [hg] at this; cases this
  have hm : ∀ {i b : Nat}, κ.mp i = some b → i ≠ h.next := fun hg e => by
    have := (S.fresh _ (Nat.le_of_eq e.symm)).2.1
    rw [hg] at this; cases this
  exact {
    below := S.below
    fresh := fun i hi => by
      have hi' : h.next + 1 ≤ i := hi
      obtain ⟨a, b, c⟩ := S.fresh i (by omega)
      exact ⟨a, b, by rw [Heap.get_new_ne _ _ (by omega)]; exact c⟩
    row := fun i cells ext stale anc g ho hg => by
      rw [Heap.get_new_ne _ _ (hn hg)] at ho
      exact S.row i cells ext stale anc g ho hg
    base := S.base
    apart := fun i j ci ei si ai cj ej sj aj gi gj hne hi hj hgi hgj hb => by
      rw [Heap.get_new_ne _ _ (hn hgi)] at hi
      rw [Heap.get_new_ne _ _ (hn hgj)] at hj
      exact S.apart i j ci ei si ai cj ej sj aj gi gj hne hi hj hgi hgj hb
    anc := fun j cells ext stale anc hj i hi => by
      rw [Heap.get_new] at hj
      split at hj
      · simp only [Option.some.injEq] at hj
        rename_i hjn
        obtain ⟨h1, h2, h3⟩ := ho _ _ _ _ hj i hi
        refine ⟨Nat.lt_succ_of_lt h1, by omega, fun c e s a hr => ?_, h3⟩
        rw [Heap.get_new_ne _ _ (by omega)] at hr
        exact h2 c e s a hr
      · obtain ⟨h1, h2, h3, h4⟩ := S.anc j cells ext stale anc hj i hi
        refine ⟨Nat.lt_succ_of_lt h1, h2, fun c e s a hr => ?_, h4⟩
        rw [Heap.get_new_ne _ _ (by omega)] at hr
        exact h3 c e s a hr
    im := S.im
    imApart := fun i cells ext anc g ho hg => by
      rw [Heap.get_new_ne _ _ (hn hg)] at ho
      exact S.imApart i cells ext anc g ho hg
    map := fun i es bs ck b ho hg => by
      rw [Heap.get_new_ne _ _ (hm hg)] at ho
      exact S.map i es bs ck b ho hg
    miter := fun i m since seen last b ho hg => by
      rw [Heap.get_new_ne _ _ (hm hg)] at ho
      exact S.miter i m since seen last b ho hg
    mbase := S.mbase
    mapApart := S.mapApart }

/-- An object that had no place gets one: a new block. -/
theorem Sim.place (S : Sim κ w0 h w) {i : Nat} {cells : List AV} {ext : Option Nat} {anc : List Nat} (ho : h.get i = some (.row cells ext false anc)) (hu : κ.row i = none)
    {C : Array Value} {T : TypeId} {esz : Nat} (hv : VRL κ cells (C.toList.take cells.length)) (hall : cells.all AV.leaf = true) (he : ∀ z, ext = some z → esz = z) :
    Sim (κ.setRow i ⟨w.heap.size, 0, C.size, esz⟩) w0 h (w.alloc (.cells C T)) := by
  have hle : Gh.Le κ (κ.setRow i ⟨w.heap.size, 0, C.size, esz⟩) := Gh.le_setRow hu
  have hb : Below w.heap.size w (w.alloc (.cells C T)) := (Below.refl _ _).alloc (Nat.le_refl _) _
  have S' := S.grown hb
  have hlt : i < h.next := by
    rcases Nat.lt_or_ge i h.next with h1 | h1
    · exact h1
    · have := (S.fresh i h1).2.2; rw [ho] at this; cases this
  have hrow : ∀ j g, (κ.setRow i ⟨w.heap.size, 0, C.size, esz⟩).row j = some g → (j = i ∧ g = ⟨w.heap.size, 0, C.size, esz⟩) ∨ (j ≠ i ∧ κ.row j = some g) := by
    intro j g hg
    by_cases hj : j = i
    · exact .inl ⟨hj, by simpa [Gh.setRow, hj] using hg.symm⟩
    · exact .inr ⟨hj, by simpa [Gh.setRow, hj] using hg⟩
  exact {
    below := S'.below
    fresh := fun j hj => by
      obtain ⟨a, b, c⟩ := S.fresh j hj
      refine ⟨?_, b, c⟩
      show (if j = i then _ else κ.row j) = none
      rw [if_neg (by omega)]; exact a
    row := fun j cells' ext' stale anc g hj hg => by
      rcases hrow j g hg with ⟨rfl, rfl⟩ | ⟨_, hg'⟩
      · rw [ho] at hj
        simp only [Option.some.injEq, AObj.row.injEq] at hj
        obtain ⟨rfl, rfl, rfl, rfl⟩ := hj
        refine ⟨C, T, 0, 0, alloc_here _ _, rfl, .inl rfl, ?_, hall, he, fun _ => rfl⟩
        simpa using hv.mono hle
      · exact (S'.row j cells' ext' stale anc g hj hg').mono hle
    base := fun j g hg => by
      rcases hrow j g hg with ⟨rfl, rfl⟩ | ⟨_, hg'⟩
      · exact S.below.size
      · exact S.base j g hg'
    apart := fun a b ca ea sa aa cb eb sb ab ga gb hne ha hb' hga hgb hbb => by
      rcases hrow a ga hga with ⟨rfl, rfl⟩ | ⟨hai, hga'⟩
      · rcases hrow b gb hgb with ⟨rfl, rfl⟩ | ⟨_, hgb'⟩
        · exact absurd rfl hne
        · have := (S.row b cb eb sb ab gb hb' hgb').lt
          simp only at hbb; omega
      · rcases hrow b gb hgb with ⟨rfl, rfl⟩ | ⟨_, hgb'⟩
        · have := (S.row a ca ea sa aa ga ha hga').lt
          simp only at hbb; omega
        · exact S.apart a b ca ea sa aa cb eb sb ab ga gb hne ha hb' hga' hgb' hbb
    anc := fun j c e s l hj k hk => by
      obtain ⟨h1, h2, h3, h4⟩ := S.anc j c e s l hj k hk
      refine ⟨h1, h2, h3, fun hn => ?_⟩
      cases hx : κ.row k with
      | none => exact h4 hx
      | some x => rw [hle.row _ _ hx] at hn; cases hn
    im := S'.im
    imApart := fun j cells' ext' anc g hj hg => by
      rcases hrow j g hg with ⟨rfl, rfl⟩ | ⟨_, hg'⟩
      · show κ.im w.heap.size = none
        cases hi : κ.im w.heap.size with
        | none => rfl
        | some c =>
          obtain ⟨T, fz, hx⟩ := S.im _ _ hi
          exact absurd (lt_of_get hx) (Nat.lt_irrefl _)
      · exact S.imApart j cells' ext' anc g hj hg'
    map := fun j es bs ck b hj hm => by
      obtain ⟨E, hx, r, q⟩ := S'.map j es bs ck b hj hm
      exact ⟨E, hx, r.mono hle, q⟩
    miter := fun j m since seen last b hj hm => by
      obtain ⟨bm, hx, r⟩ := S'.miter j m since seen last b hj hm
      exact ⟨bm, hx, r.mono hle⟩
    mbase := S'.mbase
    mapApart := S.mapApart }

/-- The same, for a map. -/
theorem Sim.placeMap (S : Sim κ w0 h w) {i : Nat} (ho : h.get i = some (.map [] [] 0)) (hu : κ.mp i = none) :
    Sim (κ.setMp i w.heap.size) w0 h (w.alloc (.map #[] 0)) := by
  have hle : Gh.Le κ (κ.setMp i w.heap.size) := Gh.le_setMp hu
  have hb : Below w.heap.size w (w.alloc (.map #[] 0)) := (Below.refl _ _).alloc (Nat.le_refl _) _
  have S' := S.grown hb
  have hlt : i < h.next := by
    rcases Nat.lt_or_ge i h.next with h1 | h1
    · exact h1
    · have := (S.fresh i h1).2.2; rw [ho] at this; cases this
  have hmp : ∀ j b, (κ.setMp i w.heap.size).mp j = some b → (j = i ∧ b = w.heap.size) ∨ (j ≠ i ∧ κ.mp j = some b) := by
    intro j b hg
    by_cases hj : j = i
    · exact .inl ⟨hj, by simpa [Gh.setMp, hj] using hg.symm⟩
    · exact .inr ⟨hj, by simpa [Gh.setMp, hj] using hg⟩
  exact {
    below := S'.below
    fresh := fun j hj => by
      obtain ⟨a, b, c⟩ := S.fresh j hj
      refine ⟨a, ?_, c⟩
      show (if j = i then _ else κ.mp j) = none
      rw [if_neg (by omega)]; exact b
    row := fun j cells' ext' stale anc g hj hg => (S'.row j cells' ext' stale anc g hj hg).mono hle
    base := S.base
    apart := S.apart
    anc := S.anc
    im := S'.im
    imApart := S.imApart
    map := fun j es bs ck b hj hm => by
      rcases hmp j b hm with ⟨rfl, rfl⟩ | ⟨_, hm'⟩
      · rw [ho] at hj
        simp only [Option.some.injEq, AObj.map.injEq] at hj
        obtain ⟨rfl, rfl, rfl⟩ := hj
        exact ⟨#[], alloc_here _ _, .nil, rfl, ⟨by simp, by simp⟩⟩
      · obtain ⟨E, hx, r, q⟩ := S'.map j es bs ck b hj hm'
        exact ⟨E, hx, r.mono hle, q⟩
    miter := fun j m since seen last b hj hm => by
      rcases hmp j b hm with ⟨rfl, rfl⟩ | ⟨_, hm'⟩
      · rw [ho] at hj; cases hj
      · obtain ⟨bm, hx, r⟩ := S'.miter j m since seen last b hj hm'
        exact ⟨bm, hx, r.mono hle⟩
    mbase := fun j b hm => by
      rcases hmp j b hm with ⟨rfl, rfl⟩ | ⟨_, hm'⟩
      · exact ⟨S.below.size, by simp⟩
      · exact S'.mbase j b hm'
    mapApart := fun a b x ha hb' => by
      rcases hmp a x ha with ⟨rfl, rfl⟩ | ⟨hai, ha'⟩
      · rcases hmp b _ hb' with ⟨rfl, _⟩ | ⟨_, hb''⟩
        · rfl
        · exact absurd (S.mbase _ _ hb'').2 (Nat.lt_irrefl _)
      · rcases hmp b x hb' with ⟨rfl, rfl⟩ | ⟨_, hb''⟩
        · exact absurd (S.mbase _ _ ha').2 (Nat.lt_irrefl _)
        · exact S.mapApart a b x ha' hb'' }

/-- A row is written. -/
structure Wrote (w w' : World) (b : Nat) (o : Obj) : Prop where
  size : w'.heap.size = w.heap.size
  other : ∀ k, k ≠ b → w'.heap[k]? = w.heap[k]?
  here : w'.heap[b]? = some o
  os : w'.os = w.os
  tape : w'.tape = w.tape
  output : w'.output = w.output

theorem run_storeCells {b : Nat} {T : TypeId} {lo hi : Nat} : ∀ (vs : List Value) (w : World) (C : Array Value) (o i : Nat), w.heap[b]? = some (.cells C T (lo, hi)) →
    (lo = hi ∨ C.size ≤ lo) → (∀ v ∈ vs, v.oneCell' = true) → o + i + vs.length ≤ C.size →
    ∃ w' C', (storeCells ⟨b, o, none⟩ vs i).run P w = .ok () w' ∧ Wrote w w' b (.cells C' T (lo, hi)) ∧ C'.size = C.size ∧
      C'.toList = C.toList.take (o + i) ++ vs ++ C.toList.drop (o + i + vs.length) := by
  intro vs
  induction vs with
  | nil => intro w C o i hb _ _ _; exact ⟨w, C, rfl, ⟨rfl, fun _ _ => rfl, hb, rfl, rfl, rfl⟩, rfl, by simp⟩
  | cons v vs ih =>
    intro w C o i hb hf hone hle
    simp only [List.length_cons] at hle
    have hc : w.cell? ((⟨b, o, none⟩ : Addr).add i) = some C[o + i] := by
      rw [add_none, cell?_block hb]; exact Array.getElem?_eq_getElem (by omega)
    have hfr : w.frozen? ((⟨b, o, none⟩ : Addr).add i) = false := by
      rw [add_none]
      simp only [World.frozen?, hb]
      simp; omega
    have hb2 : (w.setCell ((⟨b, o, none⟩ : Addr).add i) v).heap[b]? = some (.cells (C.setIfInBounds (o + i) v) T (lo, hi)) := by
      rw [add_none]
      simp [World.setCell, Array.getElem?_modify, hb]
    obtain ⟨w', C', hr, hw, hs, hl⟩ := ih (w.setCell ((⟨b, o, none⟩ : Addr).add i) v) (C.setIfInBounds (o + i) v) o (i + 1) hb2 (by simpa using hf)
      (fun x hx => hone x (List.mem_cons_of_mem _ hx)) (by simp; omega)
    refine ⟨w', C', ?_, ⟨?_, ?_, hw.here, hw.os, hw.tape, hw.output⟩, by rw [hs]; simp, ?_⟩
    · rw [storeCells, Sem.run_bind, run_store _ _ _ _ _ (hone v (List.mem_cons_self ..))]
      simp [hc, hfr, hr]
    · rw [hw.size]; simp
    · intro k hk
      rw [hw.other k hk, add_none]
      exact Below.heap_setCell _ _ _ _ hk
    · have hlt : o + i < C.toList.length := by simp; omega
      rw [hl, Array.toList_setIfInBounds]
      rw [show o + (i + 1) = o + i + 1 from by omega, List.take_set, List.drop_set_of_lt (by omega)]
      rw [List.take_succ_eq_append_getElem hlt]
      have hlen : (C.toList.take (o + i)).length = o + i := by rw [List.length_take]; omega
      rw [List.set_append, if_neg (by omega), hlen]
      simp [Nat.add_assoc, Nat.add_comm 1]

theorem Sim.wrote {w' : World} (S : Sim κ w0 h w) {id : Nat} {cells cells' : List AV} {ext : Option Nat} {anc : List Nat} {g : RowG} (ho : h.get id = some (.row cells ext false anc))
    (hg : κ.row id = some g) {C' : Array Value} {T : TypeId} {lo hi : Nat} (hW : Wrote w w' g.b (.cells C' T (lo, hi))) (hs : C'.size = g.size)
    (hf : lo = hi ∨ C'.size ≤ lo) (hv : VRL κ cells' ((C'.toList.drop g.base).take cells'.length)) (hall : cells'.all AV.leaf = true) :
    Sim κ w0 ((h.kill anc).put id (.row cells' ext false [])) w' := by
  have hlt : id < h.next := by
    rcases Nat.lt_or_ge id h.next with h1 | h1
    · exact h1
    · have := (S.fresh id h1).2.2; rw [ho] at this; cases this
  have hanc := S.anc _ _ _ _ _ ho
  obtain ⟨C0, T0, lo0, hi0, hb0, _, _, _, _, hex⟩ := S.row _ _ _ _ _ _ ho hg
  -- what lives on beside it lies elsewhere
  have hget : ∀ j o, ((h.kill anc).put id (.row cells' ext false [])).get j = some o → j ≠ id → o ≠ .dead → j ∉ anc ∧ h.get j = some o := by
    intro j o hj hne hd
    rw [Heap.get_put_ne _ _ hne, Heap.get_kill] at hj
    split at hj
    · simp only [Option.some.injEq] at hj; exact absurd hj.symm hd
    · exact ⟨by assumption, hj⟩
  have hfar : ∀ j c e s a gj, j ≠ id → ((h.kill anc).put id (.row cells' ext false [])).get j = some (.row c e s a) → κ.row j = some gj → gj.b ≠ g.b := by
    intro j c e s a gj hne hj hgj hbb
    obtain ⟨hna, hj'⟩ := hget j _ hj hne (by simp)
    rcases S.apart j id _ _ _ _ _ _ _ _ gj g hne hj' ho hgj hg hbb with ⟨h1, _⟩ | ⟨h1, _⟩
    · exact hna h1
    · have := (S.anc _ _ _ _ _ hj' id h1).2.2.1 _ _ _ _ ho; cases this
  have hblk : ∀ k, k ≠ g.b → w'.heap[k]? = w.heap[k]? := hW.other
  exact {
    below := ⟨hW.os.trans S.below.os, hW.tape.trans S.below.tape, hW.output.trans S.below.output, by rw [hW.size]; exact S.below.size,
      fun k hk => by
        rw [hblk k (by have := S.base id g hg; omega)]
        exact S.below.block k hk⟩
    fresh := fun i hi => by
      rw [Heap.next_put, Heap.next_kill] at hi
      obtain ⟨a, b, c⟩ := S.fresh i hi
      refine ⟨a, b, ?_⟩
      rw [Heap.get_put_ne _ _ (by omega), Heap.get_kill, if_neg]
      · exact c
      · intro hm; have := (hanc i hm).1; omega
    row := fun j c e s a gj hj hgj => by
      by_cases hne : j = id
      · subst hne
        rw [Heap.get_put_self] at hj
        simp only [Option.some.injEq, AObj.row.injEq] at hj
        obtain ⟨rfl, rfl, rfl, rfl⟩ := hj
        rw [hg] at hgj
        simp only [Option.some.injEq] at hgj
        subst hgj
        exact ⟨C', T, lo, hi, hW.here, hs, hf, hv, hall, hex⟩
      · obtain ⟨hna, hj'⟩ := hget j _ hj hne (by simp)
        exact (S.row _ _ _ _ _ _ hj' hgj).of_block (hblk _ (hfar j _ _ _ _ gj hne hj hgj))
    base := S.base
    apart := fun i j ci ei si ai cj ej sj aj gi gj hne hi hj hgi hgj hbb => by
      by_cases h1 : i = id
      · subst h1
        rw [hg] at hgi; simp only [Option.some.injEq] at hgi; subst hgi
        exact absurd hbb.symm (hfar j _ _ _ _ gj (Ne.symm hne) hj hgj)
      · by_cases h2 : j = id
        · subst h2
          rw [hg] at hgj; simp only [Option.some.injEq] at hgj; subst hgj
          exact absurd hbb (hfar i _ _ _ _ gi hne hi hgi)
        · obtain ⟨_, hi'⟩ := hget i _ hi h1 (by simp)
          obtain ⟨_, hj'⟩ := hget j _ hj h2 (by simp)
          exact S.apart i j _ _ _ _ _ _ _ _ gi gj hne hi' hj' hgi hgj hbb
    anc := fun j c e s a hj i hi => by
      rw [Heap.next_put, Heap.next_kill]
      by_cases hne : j = id
      · subst hne
        rw [Heap.get_put_self] at hj
        simp only [Option.some.injEq, AObj.row.injEq] at hj
        obtain ⟨rfl, rfl, rfl, rfl⟩ := hj
        cases hi
      · obtain ⟨_, hj'⟩ := hget j _ hj hne (by simp)
        obtain ⟨h1, h2, h3, h4'⟩ := S.anc _ _ _ _ _ hj' i hi
        refine ⟨h1, h2, fun c e s a hr => ?_, h4'⟩
        by_cases h4 : i = id
        · subst h4; have := h3 _ _ _ _ ho; cases this
        · exact h3 _ _ _ _ (hget i _ hr h4 (by simp)).2
    im := fun b c hc => by
      obtain ⟨T1, fz, hx⟩ := S.im b c hc
      refine ⟨T1, fz, ?_⟩
      rw [hblk b]
      · exact hx
      · rintro rfl
        have := S.imApart _ _ _ _ _ ho hg
        rw [hc] at this; cases this
    imApart := fun j c e a gj hj hgj => by
      by_cases hne : j = id
      · subst hne
        rw [hg] at hgj; simp only [Option.some.injEq] at hgj; subst hgj
        exact S.imApart _ _ _ _ _ ho hg
      · exact S.imApart _ _ _ _ _ (hget j _ hj hne (by simp)).2 hgj
    map := fun j es bs ck b hj hm => by
      have hne : j ≠ id := by rintro rfl; rw [Heap.get_put_self] at hj; cases hj
      obtain ⟨E, hx, r⟩ := S.map j es bs ck b (hget j _ hj hne (by simp)).2 hm
      refine ⟨E, ?_, r⟩
      rw [hblk b]
      · exact hx
      · rintro rfl; rw [hb0] at hx; cases hx
    miter := fun j m since seen last b hj hm => by
      have hne : j ≠ id := by rintro rfl; rw [Heap.get_put_self] at hj; cases hj
      obtain ⟨bs, hx, r⟩ := S.miter j m since seen last b (hget j _ hj hne (by simp)).2 hm
      refine ⟨bs, ?_, r⟩
      rw [hblk b]
      · exact hx
      · rintro rfl; rw [hb0] at hx; cases hx
    mbase := fun i b hm => by rw [hW.size]; exact S.mbase i b hm
    mapApart := S.mapApart }

end
end Go.Ab
