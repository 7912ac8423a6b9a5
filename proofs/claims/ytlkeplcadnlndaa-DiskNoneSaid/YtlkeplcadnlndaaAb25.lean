/- Code in which a map is walked through: the laws of its steps. -/
import Derived.Test.YtlkeplcadnlndaaAb24
set_option autoImplicit false
set_option linter.unusedSimpArgs false
set_option linter.unusedVariables false
namespace Go.Ab
open Go.RowKit (Below)

section
variable {P : Program} {T : Types} {κ κ' κ'' : Gh} {w0 w w' w'' : World} {h h' h'' : Heap} {fr : Fr} {a : Act}

theorem rangeA_ok (K : TOk P T) (S : Sim κ w0 h w) {t : TypeId} {v r : AV} {u : Value} (hv : VR κ v u) (hr : rangeA T h t v = some (r, h')) :
    ∃ q w' κ', (Instr.range t u).run P w = .ok q w' ∧ Done w0 κ h κ' h' w' ∧ VR κ' r q := by
  have main : ∀ (m bm : Option Nat) (ck : Nat), IterR κ m bm → h' = h.new (.miter m ck [] ck) → r = .iter h.next →
      (Instr.range t u).run P w = .ok (.pointer (some ⟨w.heap.size, 0, none⟩)) (w.alloc (.mapIter bm ck #[] ck)) → ∃ q w' κ', (Instr.range t u).run P w = .ok q w' ∧ Done w0 κ h κ' h' w' ∧ VR κ' r q := by
    intro m bm ck hI he hr' hrun
    subst he hr'
    obtain ⟨f1, f2, _⟩ := S.fresh h.next (Nat.le_refl _)
    have S' := S.pend (o := .miter m ck [] ck) (fun cells ext stale anc e => by cases e)
    have S2 := S'.placeIter (Heap.get_new_self _ _) f2 hI
    exact ⟨_, _, _, hrun, ⟨Gh.le_setMp f2, fun j hj => ⟨rfl, by simp [Gh.setMp, Nat.ne_of_lt hj]⟩, S2, fun j hj _ _ => Heap.get_new_ne _ _ (by omega), by simp⟩, .iter _ _ (by simp [Gh.setMp])⟩
  unfold rangeA at hr
  split at hr
  · rename_i kt et s b z q ht
    obtain ⟨d, hd, hk⟩ := K.und t _ ht
    obtain rfl := kindD_map hk
    simp only [Option.some.injEq, Prod.mk.injEq] at hr
    cases hv
    refine main none none 0 ⟨fun id hm => (by cases hm), fun _ => rfl⟩ hr.2.symm hr.1.symm ?_
    simp [Instr.range, run_underlying hd, run_newObj, World.alloc_eq]
  · rename_i kt et s b z q id ht
    obtain ⟨d, hd, hk⟩ := K.und t _ ht
    obtain rfl := kindD_map hk
    split at hr
    · rename_i es bs ck ho
      simp only [Option.some.injEq, Prod.mk.injEq] at hr
      cases hv with
      | map _ b hb =>
        obtain ⟨E, hx, _⟩ := S.map _ _ _ _ _ ho hb
        refine main (some id) (some b) ck ⟨fun id' hm => by cases hm; exact ⟨b, rfl, hb⟩, fun hm => (by cases hm)⟩ hr.2.symm hr.1.symm ?_
        simp [Instr.range, run_underlying hd, run_newObj, World.alloc_eq, run_getObj hx (by simp)]
    · cases hr
  · cases hr

theorem find_born (b : Nat) : ∀ (E : List MapEntry), E.find? (fun e => e.born == b) = ((E.map (·.born)).idxOf? b).bind fun j => E[j]?
  | [] => rfl
  | e :: E => by
    rw [List.find?_cons, List.map_cons, List.idxOf?_cons]
    by_cases h : e.born = b
    · simp [h]
    · have h' : (e.born == b) = false := by simpa using h
      rw [h', find_born b E]
      cases (E.map (·.born)).idxOf? b <;> simp

theorem entryA_ok (S : Sim κ w0 h w) {v r : AV} {u : Value} (hv : VR κ v u) (hr : entryA h v = some r) : ∃ q, (Instr.entry u).run P w = .ok q w ∧ VR κ r q := by
  cases hv <;> simp only [entryA] at hr <;> try (cases hr; done)
  case iter id b hb =>
  split at hr
  · rename_i m since seen last ho
    obtain ⟨bm, hx, hI, _⟩ := S.miter _ _ _ _ _ _ ho hb
    obtain ⟨x, rfl, hm⟩ := hI m rfl
    split at hr
    · rename_i st es bs ck hst hom
      obtain ⟨E, hxe, hE, hbs, _⟩ := S.map _ _ _ _ _ hom hm
      split at hr
      · rename_i hck
        subst hck
        cases hj : bs.idxOf? st with
        | none => simp [hj] at hr
        | some j =>
          cases he : es[j]? with
          | none => simp [hj, he] at hr
          | some e =>
            obtain ⟨k, v⟩ := e
            simp only [hj, he, Option.bind_some, Option.map_some, Option.some.injEq] at hr
            subst hr
            obtain ⟨e', he', hk, hvv⟩ := hE.get he
            have hf : E.toList.find? (fun e => e.born == st) = some e' := by rw [find_born, hbs, hj]; exact he'
            have hf' : E.find? (fun e => e.born == st) = some e' := by rw [← Array.find?_toList]; exact hf
            have hback : seen.toArray.back? = some st := by rw [← Array.getLast?_toList]; exact hst
            refine ⟨.tuple #[e'.key, e'.val], ?_, .tup _ _ (.cons _ _ _ _ hk (.cons _ _ _ _ hvv .nil))⟩
            have hback' : seen.getLast? = some st := hst
            simp [Instr.entry, run_getObj hx (by simp), run_getObj hxe (by simp), hback, hback', hf']
      · cases hr
    · cases hr
  · cases hr

theorem nextP_ok (S : Sim κ w0 h w) {v : AV} {u : Value} (hv : VR κ v u) {k : AV → Heap → Prop} (hr : nextP h v k) (ty : TypeId) :
    ∃ q w' r h', (Instr.next u false ty).run P w = .ok q w' ∧ Done w0 κ h κ h' w' ∧ VR κ r q ∧ k r h' := by
  cases hv <;> simp only [nextP] at hr
  case iter id b hb =>
  have over : VR κ (.tup [.bool false]) (.tuple #[.bool false]) := .tup _ _ (.cons _ _ _ _ (.bool false) .nil)
  split at hr
  · rename_i since seen last ho
    obtain ⟨bm, hx, _, hI⟩ := S.miter _ _ _ _ _ _ ho hb
    obtain rfl := hI rfl
    exact ⟨.tuple #[.bool false], w, _, _, by simp [Instr.next, run_getObj hx (by simp)], doneMap S hb (S.dead (lt_next S ho)), over, hr⟩
  · rename_i m since seen last ho
    obtain ⟨bm, hx, hI, _⟩ := S.miter _ _ _ _ _ _ ho hb
    obtain ⟨x, rfl, hm⟩ := hI m rfl
    split at hr
    · rename_i es bs ck hom
      obtain ⟨c1, c2, c3, c4⟩ := hr
      obtain ⟨E, hxe, hE, hbs, _⟩ := S.map _ _ _ _ _ hom hm
      have hchk : (!seen.toArray.isEmpty && !E.isEmpty && E.all (fun e => e.born ≥ last)) = false := by
        rcases c1 with rfl | rfl | ⟨b', hb', hl⟩
        · simp
        · have : E.toList = [] := (hE.nil_iff).1 rfl
          have : E = #[] := by apply Array.ext'; simpa using this
          simp [this]
        · rw [← hbs, List.mem_map] at hb'
          obtain ⟨e, he, rfl⟩ := hb'
          rw [Bool.and_eq_false_iff]; right
          rw [← Bool.not_eq_true, Array.all_eq_true_iff_forall_mem]
          intro hall
          have := hall e (by simpa using he)
          simp at this; omega
      have hnew : (E.filter fun e => !seen.toArray.contains e.born).filter (fun e => e.born ≥ since) = #[] := by
        apply Array.ext'
        rw [Array.toList_filter, Array.toList_filter, List.filter_filter]
        simp only [List.filter_eq_nil_iff]
        intro e he hh
        have : e.born ∈ bs := by rw [← hbs]; exact List.mem_map_of_mem he
        have := c2 _ this
        simp at hh; omega
      have hold : (E.filter fun e => !seen.toArray.contains e.born).filter (fun e => e.born < since) = E.filter fun e => !seen.toArray.contains e.born := by
        apply Array.ext'
        rw [Array.toList_filter, Array.toList_filter, List.filter_eq_self]
        intro e he
        rw [List.mem_filter] at he
        have : e.born ∈ bs := by rw [← hbs]; exact List.mem_map_of_mem he.1
        simpa using c2 _ this
      by_cases hemp : (E.filter fun e => !seen.toArray.contains e.born) = #[]
      · refine ⟨.tuple #[.bool false], w, _, _, ?_, doneMap S hb (S.dead (lt_next S ho)), over, c3 ?_⟩
        · simp only [Instr.next, Sem.run_bind, run_getObj hx (by simp), Result.andThen_ok, run_getObj hxe (by simp), hchk, hold, hnew, hemp]
          simp [run_choose, Question.forced]
        · intro b' hb'
          rw [← hbs, List.mem_map] at hb'
          obtain ⟨e, he, rfl⟩ := hb'
          have : (E.filter fun e => !seen.toArray.contains e.born).toList = [] := by rw [hemp]
          rw [Array.toList_filter, List.filter_eq_nil_iff] at this
          have := this e he
          simpa using this
      · -- some entry comes
        have hpos : 0 < (E.filter fun e => !seen.toArray.contains e.born).size := by
          rcases Nat.eq_zero_or_pos (E.filter fun e => !seen.toArray.contains e.born).size with h0 | h0
          · exact absurd (Array.eq_empty_of_size_eq_zero h0) hemp
          · exact h0
        have hne : (E.filter fun e => !seen.toArray.contains e.born).isEmpty = false := by simpa using hemp
        -- which
        have run : ∀ (i : Nat) (w1 : World), i < (E.filter fun e => !seen.toArray.contains e.born).size → (∀ h1, Sim κ w0 h1 w → Sim κ w0 h1 w1) → w1.heap = w.heap →
            (choose (.mapNext (E.filter fun e => !seen.toArray.contains e.born).size)).run P w = .ok i w1 →
            ∃ q w' r h', (Instr.next (.pointer (some ⟨b, 0, none⟩)) false ty).run P w = .ok q w' ∧ Done w0 κ h κ h' w' ∧ VR κ r q ∧ k r h' := by
          intro i w1 hi hS1 hh1 hc
          generalize hL : (E.filter fun e => !seen.toArray.contains e.born) = L at *
          have hin : ∀ y ∈ L.toList, y ∈ E.toList ∧ (!seen.toArray.contains y.born) = true := by
            intro y hy
            rw [← hL, Array.toList_filter, List.mem_filter] at hy
            exact hy
          obtain ⟨hmE, hns⟩ := hin L[i] (by simp)
          obtain ⟨j, hj⟩ := List.getElem?_of_mem hmE
          obtain ⟨kk, vv, hes, hk, hvv⟩ := hE.at hj
          have hbj : bs[j]? = some L[i].born := by rw [← hbs, List.getElem?_map, hj]; rfl
          have S1 := hS1 h S
          have hx1 : w1.heap[b]? = some (.mapIter (some x) since seen.toArray last) := by rw [hh1]; exact hx
          have S2 := S1.setIter (since' := since) (last' := ck) (seen' := seen ++ [L[i].born]) ho hb (bm := some x) ⟨fun id' e => by cases e; exact ⟨x, rfl, hm⟩, fun e => (by cases e)⟩
          refine ⟨.tuple #[.bool true, L[i].key, L[i].val], _, _, _, ?_, doneMap S hb S2, .tup _ _ (.cons _ _ _ _ (.bool true) (.cons _ _ _ _ hk (.cons _ _ _ _ hvv .nil))), c4 j kk vv _ hes hbj (by simpa using hns)⟩
          simp only [Instr.next, Sem.run_bind, run_getObj hx (by simp), Result.andThen_ok, run_getObj hxe (by simp), hchk, hL, hold, hnew, hne]
          simp [hc, hi, run_setObj hx1 (by simp)]
        by_cases h1 : (E.filter fun e => !seen.toArray.contains e.born).size ≤ 1
        · exact run 0 w hpos (fun _ S => S) rfl (by rw [run_choose, if_pos (show (Question.mapNext _).forced = true from decide_eq_true h1)])
        · refine run ((w.tape w.drawn (.mapNext (E.filter fun e => !seen.toArray.contains e.born).size)) % (E.filter fun e => !seen.toArray.contains e.born).size) { w with drawn := w.drawn + 1 } (Nat.mod_lt _ hpos) (fun _ S => S.drawn _) rfl ?_
          rw [run_choose, if_neg (show ¬ (Question.mapNext _).forced = true from fun e => h1 (of_decide_eq_true e))]
          rfl
    · exact hr.elim
  · exact hr.elim
end
end Go.Ab
