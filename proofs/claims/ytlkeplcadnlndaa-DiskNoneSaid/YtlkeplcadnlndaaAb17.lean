/- append. -/
import Derived.Test.YtlkeplcadnlndaaAb16
import Derived.Laws.AppendOwn
set_option autoImplicit false
set_option linter.unusedSimpArgs false
set_option linter.unusedVariables false
namespace Go.Ab
open Go.RowKit (Below)

section
variable {P : Program} {T : Types} {κ κ' κ'' : Gh} {w0 w w' w'' : World} {h h' h'' : Heap} {fr : List (Option AV)} {a : Act}

theorem zeroCells_size (Z : Array Value) (n : Nat) : (Builtin.zeroCells Z n).size = n * Z.size := by simp [Builtin.zeroCells]

/-- 'append' where it must make new memory. -/
theorem run_append_grows (K : TOk P T) {t u e : TypeId} {ei : TI} (hd : P.underlying t = some (.slice e)) (he : T.get e = some ei) {du : TypeDesc} (hu : P.underlying u = some du) (hdu : ∀ k, du ≠ .int k)
    {base : Option Addr} {len c n : Nat} {x : Value} (hx : (Builtin.lenOf x).run P w = .ok n w) (hc : ¬ len + n ≤ c) (hb : (len + n) * ei.bytes ≤ 274877906944) (hm : len + n ≤ 4294967296)
    {old new : Array Value} (hold : (Builtin.firstCells ei.size len (.slice base len c)).run P w.drew = .ok old w.drew) (hnew : (Builtin.firstCells ei.size n x).run P w.drew = .ok new w.drew) {z : Value}
    (hz : (zeroValue e).run P w.drew = .ok z w.drew) (ty : TypeId) :
    (Builtin.append_ #[t, u] ty #[.slice base len c, x]).run P w =
      .ok (.slice (some ⟨w.heap.size, 0, none⟩) (len + n) (grownCap w (len + n) c e)) (w.drew.alloc (.cells (old ++ new ++ Builtin.zeroCells z.cells (grownCap w (len + n) c e - (len + n))) e)) := by
  obtain ⟨inf, i1, i2, i3, _⟩ := K.info e _ he
  have h63 : ¬ (9223372036854775807 < ((len : Int) + (n : Int))) := by omega
  have h48 : ¬ (281474976710656 < Builtin.nextslicecap (len + n) c * inf.bytes) := by
    have := growslice_fits (bytes := inf.bytes) (Nat.lt_of_not_le hc) (by rw [i3]; omega)
    omega
  have hzz : (match du with | .int _ => true | _ => false) = false := by cases du <;> first | rfl | exact absurd rfl (hdu _)
  have hs : (sizeOf e).run P w = .ok ei.size w := run_sizeOf K he
  simp only [Builtin.append_, List.getElem?_toArray, List.getElem?_cons_zero, List.getElem?_cons_succ, Sem.run_bind, run_underlying hd, Result.andThen_ok, hs, run_underlying hu, Sem.run_pure]
  cases du <;> try (exact absurd rfl (hdu _))
  all_goals
    simp [hx, hc, h63, typeInfo, i1, h48, Question.forced, hold, hnew, hz, newRow, grownCap]

/-- 'append' within the room that is there. -/
theorem run_append_fits (K : TOk P T) {t u e : TypeId} {ei : TI} (hd : P.underlying t = some (.slice e)) (he : T.get e = some ei) {du : TypeDesc} (hu : P.underlying u = some du) (hdu : ∀ k, du ≠ .int k)
    {ad : Addr} {len c n : Nat} {x : Value} (hx : (Builtin.lenOf x).run P w = .ok n w) (hc : len + n ≤ c)
    {new : Array Value} (hnew : (Builtin.firstCells ei.size n x).run P w = .ok new w) (hst : (storeCells (ad.add (len * ei.size)) new.toList).run P w = .ok () w') (ty : TypeId) :
    (Builtin.append_ #[t, u] ty #[.slice (some ad) len c, x]).run P w = .ok (.slice (some ad) (len + n) c) w' := by
  have hs : (sizeOf e).run P w = .ok ei.size w := run_sizeOf K he
  simp only [Builtin.append_, List.getElem?_toArray, List.getElem?_cons_zero, List.getElem?_cons_succ, Sem.run_bind, run_underlying hd, Result.andThen_ok, hs, run_underlying hu, Sem.run_pure]
  cases du <;> try (exact absurd rfl (hdu _))
  all_goals
    simp [hx, hc, hnew, hst]

theorem run_append_nilnil (K : TOk P T) {t u e : TypeId} {ei : TI} (hd : P.underlying t = some (.slice e)) (he : T.get e = some ei) {du : TypeDesc} (hu : P.underlying u = some du) (hdu : ∀ k, du ≠ .int k)
    {x : Value} (hx : (Builtin.lenOf x).run P w = .ok 0 w) {new : Array Value} (hnew : (Builtin.firstCells ei.size 0 x).run P w = .ok new w) (ty : TypeId) :
    (Builtin.append_ #[t, u] ty #[.slice none 0 0, x]).run P w = .ok (.slice none 0 0) w := by
  have hs : (sizeOf e).run P w = .ok ei.size w := run_sizeOf K he
  simp only [Builtin.append_, List.getElem?_toArray, List.getElem?_cons_zero, List.getElem?_cons_succ, Sem.run_bind, run_underlying hd, Result.andThen_ok, hs, run_underlying hu, Sem.run_pure]
  cases du <;> try (exact absurd rfl (hdu _))
  all_goals
    simp [hx, hnew]

theorem grownCap_ge' (w : World) (n c : Nat) (e : TypeId) : n ≤ grownCap w n c e := by unfold grownCap; simp only [Question.cut]; omega

/-- What 'append' leaves where it made new memory: 'h1' is the memory ahead of the new row. -/
theorem append_new (S : Sim κ w0 h w) {h1 : Heap} (hn : h1.next = h.next) (S1 : Sim κ w0 h1 w.drew) (hrest : ∀ j, j < h.next → κ.row j = none → κ.mp j = none → h1.get j = h.get j) {anc : List Nat}
    (hanc : ∀ i ∈ anc, i < h.next ∧ (∀ c e s a, h1.get i = some (.row c e s a) → s = true) ∧ κ.row i ≠ none)
    {e : TypeId} {len n c esz : Nat} {olds news : List AV} {old new : Array Value} {z : Value} (ho : VRL κ olds old.toList) (hnw : VRL κ news new.toList) (hol : olds.all AV.leaf = true) (hnl : news.all AV.leaf = true)
    (hlo : olds.length = len * esz) (hln : news.length = n * esz) (hz : z.cells.size = esz) :
    ∃ κ', Done w0 κ h κ' (h1.new (.row (olds ++ news) (some esz) false anc)) (w.drew.alloc (.cells (old ++ new ++ Builtin.zeroCells z.cells (grownCap w (len + n) c e - (len + n))) e)) ∧
      VR κ' (.sl h.next 0 (len + n) none) (.slice (some ⟨w.heap.size, 0, none⟩) (len + n) (grownCap w (len + n) c e)) := by
  have hsz : (old ++ new ++ Builtin.zeroCells z.cells (grownCap w (len + n) c e - (len + n))).size = grownCap w (len + n) c e * esz := by
    have h1 : old.size = len * esz := by rw [← hlo, ho.length, Array.length_toList]
    have h2 : new.size = n * esz := by rw [← hln, hnw.length, Array.length_toList]
    rw [Array.size_append, Array.size_append, zeroCells_size, hz, h1, h2, ← Nat.add_mul, ← Nat.add_mul]
    congr 1
    have := grownCap_ge' w (len + n) c e
    omega
  have hu : κ.row h1.next = none := (S1.fresh _ (Nat.le_refl _)).1
  have hpl := (S1.pend (o := .row (olds ++ news) (some esz) false anc) (fun c' e' s' a' hh => by
      simp only [AObj.row.injEq] at hh
      obtain ⟨_, _, _, rfl⟩ := hh
      intro i hi
      obtain ⟨p1, p2, p3⟩ := hanc i hi
      exact ⟨by omega, p2, p3⟩)).place (i := h1.next) (Heap.get_new_self _ _) hu (C := old ++ new ++ Builtin.zeroCells z.cells (grownCap w (len + n) c e - (len + n))) (T := e) (esz := esz) (by
      have := ho.append hnw
      rw [Array.toList_append, Array.toList_append, this.length, List.take_append_of_le_length (Nat.le_refl _), List.take_length]
      exact this) (by rw [List.all_append, hol, hnl]; rfl) (fun z e => by simpa using e)
  refine ⟨_, ⟨Gh.le_setRow hu, fun j hj => ⟨?_, rfl⟩, hpl, ?_, ?_⟩, ?_⟩
  · show (if j = h1.next then _ else κ.row j) = κ.row j
    rw [if_neg (by omega)]
  · intro j hj hr hm
    rw [Heap.get_new_ne _ _ (by omega)]
    exact hrest j hj hr hm
  · simp [hn]
  · refine .sl _ _ _ _ _ ⟨w.drew.heap.size, 0, (old ++ new ++ Builtin.zeroCells z.cells (grownCap w (len + n) c e - (len + n))).size, esz⟩ _ ?_ (grownCap_ge' w _ c e) (fun _ e => by cases e) (fun _ => ?_) (fun _ => rfl)
    · show (if h.next = h1.next then _ else κ.row h.next) = _
      rw [if_pos hn.symm]
    · simp only [hsz]; omega

theorem take_pre {α : Type} (A B D : List α) (n : Nat) (h : A.length = n) : (A ++ B ++ D).take n = A := by
  rw [List.append_assoc, List.take_append_of_le_length (by omega), List.take_of_length_le (by omega)]

/-- What 'append' leaves where it wrote behind a row of which more may be there. -/
theorem append_in (S : Sim κ w0 h w) {id o : Nat} {cells : List AV} {esz : Nat} {anc0 : List Nat} {g : RowG} (ho : h.get id = some (.row cells (some esz) false anc0)) (hg : κ.row id = some g)
    {h1 : Heap} (hn1 : h1.next = h.next) (S1 : Sim κ w0 h1 w) (hrest : ∀ j, j < h.next → κ.row j = none → κ.mp j = none → h1.get j = h.get j) {anc : List Nat}
    (hanc : ∀ i ∈ anc, i < h.next ∧ (∀ c e s a, h1.get i = some (.row c e s a) → s = true) ∧ κ.row i ≠ none)
    {len n c : Nat} (hle : o + len * esz ≤ cells.length) (hop : g.base + o + c * esz = g.size) (hc : len + n ≤ c) (hn : n ≠ 0) (hez : esz ≠ 0)
    (hold : ∀ j c e s a gj, h1.get j = some (.row c e s a) → κ.row j = some gj → gj.b = g.b → j ∈ anc ∧ gj.base + c.length ≤ g.base + o + len * esz)
    {news : List AV} {new : List Value} (hnw : VRL κ news new) (hnl : news.all AV.leaf = true) (hln : news.length = n * esz) :
    ∃ w' κ', (storeCells ((⟨g.b, g.base + o, none⟩ : Addr).add (len * esz)) new).run P w = .ok () w' ∧ Done w0 κ h κ' (h1.new (.row ((cells.drop o).take (len * esz) ++ news) (some esz) false anc)) w' ∧
      VR κ' (.sl h.next 0 (len + n) none) (.slice (some ⟨g.b, g.base + o, none⟩) (len + n) c) := by
  obtain ⟨C, TT, lo, hi, hb, hsz, hf, hvr, hall, hes⟩ := S.row _ _ _ _ _ _ ho hg
  have hesz := hes.1 _ rfl
  have hlen : cells.length = min cells.length (C.size - g.base) := by
    have := hvr.length
    rwa [List.length_take, List.length_drop, Array.length_toList] at this
  have hnl2 : new.length = n * esz := by rw [← hln, hnw.length]
  have hmul : (len + n) * esz ≤ c * esz := Nat.mul_le_mul_right _ hc
  rw [Nat.add_mul] at hmul
  have hpos : 0 < n * esz := Nat.mul_pos (by omega) (by omega)
  have hone : ∀ v ∈ new, v.oneCell' = true := by
    intro v hv
    obtain ⟨k, hk⟩ := List.getElem?_of_mem hv
    have hlt := (List.getElem?_eq_some_iff.1 hk).1
    rw [← hnw.length] at hlt
    obtain ⟨y, hy, hvy⟩ := hnw.get (List.getElem?_eq_getElem hlt)
    rw [hk] at hy
    cases hy
    exact hvy.oneCell ((List.all_eq_true.1 hnl) _ (List.getElem_mem hlt))
  obtain ⟨w', C', hrun, hW, hsC, hC⟩ := run_storeCells (P := P) new w C (g.base + o + len * esz) 0 hb hf hone (by omega)
  rw [Nat.add_zero] at hC
  have hu : κ.row h1.next = none := (S1.fresh _ (Nat.le_refl _)).1
  have S2 := S1.pend (o := .row ((cells.drop o).take (len * esz) ++ news) (some esz) false anc) (fun c' e' s' a' hh => by
      simp only [AObj.row.injEq] at hh
      obtain ⟨_, _, _, rfl⟩ := hh
      intro i hi
      obtain ⟨p1, p2, p3⟩ := hanc i hi
      exact ⟨by omega, p2, p3⟩)
  have hol : ((cells.drop o).take (len * esz)).length = len * esz := by rw [List.length_take, List.length_drop]; omega
  have hseg : VRL κ ((cells.drop o).take (len * esz)) ((C.toList.drop (g.base + o)).take (len * esz)) := by
    rw [← seg_sub _ _ cells.length _ _ hle]
    exact (hvr.drop o).take _
  have S3 := S2.placeIn (i := h1.next) (Heap.get_new_self _ _) hu (b := g.b) (base := g.base + o) (size := g.size) (esz := esz) (L := g.base + o + len * esz) (S.base id g hg) hb hW hsC hsz hf
    (by rw [hC]; exact take_pre _ _ _ _ (by rw [List.length_take, Array.length_toList]; omega)) (S.imApart _ _ _ _ _ ho hg)
    (fun j c e s a gj hne hj hgj hbb => by
      rw [Heap.get_new_ne _ _ hne] at hj
      exact hold j c e s a gj hj hgj hbb)
    (by rw [List.length_append, hol]; omega)
    (by
      rw [List.length_append, hol, hln, hC]
      have : ((C.toList.take (g.base + o + len * esz) ++ new ++ C.toList.drop (g.base + o + len * esz + new.length)).drop (g.base + o)).take (len * esz + n * esz) = (C.toList.drop (g.base + o)).take (len * esz) ++ new := by
        rw [List.append_assoc, List.drop_append_of_le_length (by rw [List.length_take, Array.length_toList]; omega), List.drop_take]
        rw [show g.base + o + len * esz - (g.base + o) = len * esz from by omega]
        rw [← List.append_assoc, List.take_append_of_le_length (by rw [List.length_append, List.length_take, List.length_drop, Array.length_toList]; omega)]
        rw [List.take_of_length_le (by rw [List.length_append, List.length_take, List.length_drop, Array.length_toList]; omega)]
      rw [this]
      exact hseg.append hnw)
    (by rw [List.all_append, all_seg hall, hnl]; rfl) (fun z e => by simpa using e) (fun e => by cases e)
  refine ⟨w', _, by rw [add_none]; exact hrun, ⟨Gh.le_setRow hu, fun j hj => ⟨?_, rfl⟩, S3, ?_, by simp [hn1]⟩, ?_⟩
  · show (if j = h1.next then _ else κ.row j) = κ.row j
    rw [if_neg (by omega)]
  · intro j hj hr hm
    rw [Heap.get_new_ne _ _ (by omega)]
    exact hrest j hj hr hm
  · refine .sl _ _ _ _ _ ⟨g.b, g.base + o, g.size, esz⟩ _ ?_ hc (fun _ e => by cases e) (fun _ => by simp only [Nat.add_zero]; exact hop) (fun _ => rfl)
    show (if h.next = h1.next then _ else κ.row h.next) = _
    rw [if_pos hn1.symm]

theorem appendA_ok (K : TOk P T) (S : Sim κ w0 h w) {t u : TypeId} {s x r : AV} {sv xv : Value} (hsv : VR κ s sv) (hxv : VR κ x xv) {ui : TI} (hui : T.get u = some ui) (huk : ∀ k, ui.kind ≠ .int k)
    (hr : appendA T h t s x = some (r, h')) (ty : TypeId) :
    ∃ q w' κ', (Builtin.append_ #[t, u] ty #[sv, xv]).run P w = .ok q w' ∧ Done w0 κ h κ' h' w' ∧ VR κ' r q := by
  obtain ⟨du, hu, huk'⟩ := K.und u _ hui
  have hdu : ∀ k, du ≠ .int k := by
    rintro k rfl
    simp only [kindD, Option.some.injEq] at huk'
    exact huk k huk'.symm
  unfold appendA at hr
  split at hr
  · rename_i e s' b z q ht
    obtain ⟨d, hd, hk⟩ := K.und t _ ht
    obtain rfl := kindD_slice hk
    cases he : T.get e with
    | none => simp [he] at hr
    | some ei =>
      cases hlx : lenA x with
      | none => simp [he, hlx] at hr
      | some n =>
        cases hex : elemsOf h ei.size x n with
        | none => simp [he, hlx, hex] at hr
        | some new =>
          cases hls : lenA s with
          | none => simp [he, hlx, hex, hls] at hr
          | some len =>
            simp only [he, hlx, hex, hls, Option.bind_some] at hr
            split at hr
            · rename_i hb
              obtain ⟨hb1, hb2, hb3, hb4⟩ := hb
              have S' : Sim κ w0 h w.drew := S.grown (by exact (Below.refl _ _).drew)
              have hxl := lenA_ok (P := P) hxv hlx w
              obtain ⟨newA, hnA, hnV, hnL, hnn⟩ := elemsOf_ok (P := P) S hxv hex
              obtain ⟨newD, hnD, hnVD, _, _⟩ := elemsOf_ok (P := P) S' hxv hex
              obtain ⟨zv, hz, hzc, _⟩ := zero_ok K he κ w.drew
              have hzs : zv.cells.size = ei.size := by rw [← hb3, hzc.length, Array.length_toList]
              have hn0 : n = 0 → newA.toList = [] := by
                intro hn; subst hn
                have := hnV.length; rw [hnn] at this; simp at this
                exact List.length_eq_zero_iff.1 this.symm
              -- nothing is appended
              have zero : ∀ (v0 : AV) (ad : Addr) (c : Nat), n = 0 → len ≤ c → VR κ v0 (.slice (some ad) len c) → ∃ q w' κ', (Builtin.append_ #[t, u] ty #[.slice (some ad) len c, xv]).run P w = .ok q w' ∧ Done w0 κ h κ h w' ∧ VR κ v0 q ∧ κ' = κ := by
                intro v0 ad c hn hlc hv0
                refine ⟨.slice (some ad) len c, w, κ, ?_, Done.refl S, hv0, rfl⟩
                have h1 := run_append_fits (P := P) (w := w) (w' := w) K hd he hu hdu (ad := ad) (len := len) (c := c) (n := n) hxl (by omega) hnA (by rw [hn0 hn]; rfl) ty
                rw [hn, Nat.add_zero] at h1
                exact h1
              -- new memory
              have grows : ∀ (h1 : Heap) (anc : List Nat) (base : Option Addr) (c : Nat) (olds : List AV) (old : Array Value), h1.next = h.next → Sim κ w0 h1 w.drew → (∀ j, j < h.next → κ.row j = none → κ.mp j = none → h1.get j = h.get j) →
                  (∀ i ∈ anc, i < h.next ∧ (∀ c e s a, h1.get i = some (.row c e s a) → s = true) ∧ κ.row i ≠ none) → ¬ len + n ≤ c → (Builtin.firstCells ei.size len (.slice base len c)).run P w.drew = .ok old w.drew →
                  VRL κ olds old.toList → olds.all AV.leaf = true → olds.length = len * ei.size →
                  ∃ q w' κ', (Builtin.append_ #[t, u] ty #[.slice base len c, xv]).run P w = .ok q w' ∧ Done w0 κ h κ' (h1.new (.row (olds ++ new) (some ei.size) false anc)) w' ∧ VR κ' (.sl h.next 0 (len + n) none) q := by
                intro h1 anc base c olds old hn1 S1 hrest hanc hc hold ho hol hlo
                obtain ⟨κ', hD, hV⟩ := append_new (e := e) (c := c) S hn1 S1 hrest hanc ho hnVD hol hnL hlo hnn hzs
                exact ⟨_, _, κ', run_append_grows K hd he hu hdu hxl hc hb1 hb2 hold hnD hz ty, hD, hV⟩
              split at hr
              · -- nil
                cases hsv
                simp only [lenA, Option.some.injEq] at hls
                subst hls
                split at hr
                · rename_i hn
                  simp only [Option.some.injEq, Prod.mk.injEq] at hr
                  obtain ⟨rfl, rfl⟩ := hr
                  subst hn
                  exact ⟨_, w, κ, run_append_nilnil K hd he hu hdu hxl hnA ty, Done.refl S, .snil⟩
                · rename_i hn
                  simp only [Option.some.injEq, Prod.mk.injEq] at hr
                  obtain ⟨rfl, rfl⟩ := hr
                  have := grows h [] none 0 [] #[] rfl S' (fun _ _ _ _ => rfl) (by simp) (by omega) rfl .nil rfl (by simp)
                  simpa using this
              · -- at rest, its capacity known
                rename_i c0 len0 cap
                simp only [lenA, Option.some.injEq] at hls
                subst hls
                split at hr
                · rename_i hlc
                  split at hr
                  · rename_i hn
                    simp only [Option.some.injEq, Prod.mk.injEq] at hr
                    obtain ⟨rfl, rfl⟩ := hr
                    cases hsv with
                    | isl _ _ c b o _ C hC hc hex' hl hv =>
                      obtain ⟨q, w', _, a1, a2, a3, rfl⟩ := zero _ _ _ hn hc (.isl _ _ c b o _ C hC hc hex' hl hv)
                      exact ⟨q, w', _, a1, a2, a3⟩
                    | isl0 c _ ad hex' =>
                      obtain ⟨q, w', _, a1, a2, a3, rfl⟩ := zero _ _ _ hn (Nat.zero_le _) (.isl0 c _ ad hex')
                      exact ⟨q, w', _, a1, a2, a3⟩
                  · cases hr
                · rename_i hlc
                  split at hr
                  · rename_i hle
                    simp only [Option.some.injEq, Prod.mk.injEq] at hr
                    obtain ⟨rfl, rfl⟩ := hr
                    have hel : elemsOf h ei.size (.isl c0 len0 (some cap)) len0 = some (c0.take (len0 * ei.size)) := by simp [elemsOf, hle]
                    obtain ⟨old, o1, o2, o3, o4⟩ := elemsOf_ok (P := P) S' hsv hel
                    cases hsv with
                    | isl _ _ c b o _ C hC hc hex' hl hv =>
                      have hcc := hex' cap rfl
                      exact grows h [] _ c _ old rfl S' (fun _ _ _ _ => rfl) (by simp) (by omega) o1 o2 o3 o4
                    | isl0 c _ ad hex' =>
                      have hcc := hex' cap rfl
                      exact grows h [] _ c _ old rfl S' (fun _ _ _ _ => rfl) (by simp) (by omega) o1 o2 o3 o4
                  · cases hr
              · -- a row, its capacity known
                rename_i id o len0 cap
                simp only [lenA, Option.some.injEq] at hls
                subst hls
                have hsv0 := hsv
                cases hsv with
                | sl _ _ _ c _ g ad hg hc hex' hop had =>
                  have hcc := hex' cap rfl
                  subst hcc
                  split at hr
                  · rename_i hlc
                    split at hr
                    · rename_i hn
                      simp only [Option.some.injEq, Prod.mk.injEq] at hr
                      obtain ⟨rfl, rfl⟩ := hr
                      obtain ⟨q, w', _, a1, a2, a3, rfl⟩ := zero _ _ _ hn hc hsv0
                      exact ⟨q, w', _, a1, a2, a3⟩
                    · rename_i hn
                      cases hp : putCells h id (o + len0 * ei.size) new with
                      | none => simp [hp] at hr
                      | some h2 =>
                        simp only [hp, Option.map_some, Option.some.injEq, Prod.mk.injEq] at hr
                        obtain ⟨rfl, rfl⟩ := hr
                        have hc0 : c ≠ 0 := by omega
                        obtain rfl := had hc0
                        obtain ⟨w', hst, hD⟩ := putCells_ok (P := P) S hp hg hnV hnL
                        refine ⟨_, w', κ, run_append_fits K hd he hu hdu hxl hlc hnA ?_ ty, hD, .sl _ _ _ _ _ g _ hg hlc (fun c' e => by simpa using e) (fun e => by cases e) (fun _ => rfl)⟩
                        rw [add_none, Nat.add_assoc]
                        exact hst
                  · rename_i hlc
                    cases hel : elemsOf h ei.size (.sl id o len0 (some c)) len0 with
                    | none => simp [hel] at hr
                    | some olds =>
                      simp only [hel, Option.map_some, Option.some.injEq, Prod.mk.injEq] at hr
                      obtain ⟨rfl, rfl⟩ := hr
                      obtain ⟨old, o1, o2, o3, o4⟩ := elemsOf_ok (P := P) S' hsv0 hel
                      exact grows h [] _ c _ old rfl S' (fun _ _ _ _ => rfl) (by simp) hlc o1 o2 o3 o4
              · -- a row of which more may be there
                rename_i id o len0
                simp only [lenA, Option.some.injEq] at hls
                subst hls
                have hsv0 := hsv
                cases hsv with
                | sl _ _ _ c _ g ad hg hc hex' hop had =>
                  have hop' := hop rfl
                  split at hr
                  · rename_i hn
                    simp only [Option.some.injEq, Prod.mk.injEq] at hr
                    obtain ⟨rfl, rfl⟩ := hr
                    obtain ⟨q, w', _, a1, a2, a3, rfl⟩ := zero _ _ _ hn hc hsv0
                    exact ⟨q, w', _, a1, a2, a3⟩
                  · rename_i hn
                    split at hr
                    · rename_i cells z' anc hob
                      split at hr
                      · rename_i hzz
                        subst hzz
                        obtain ⟨C, TT, lo, hi, hb, hsz, hf, hvr, hall, hes⟩ := S.row _ _ _ _ _ _ hob hg
                        have hesz := hes.1 _ rfl
                        rw [hesz] at hop'
                        have hlen : cells.length = min cells.length (C.size - g.base) := by
                          have := hvr.length
                          rwa [List.length_take, List.length_drop, Array.length_toList] at this
                        have hid := lt_next S hob
                        have hancS := S.anc _ _ _ _ _ hob
                        -- the old elements, from wherever the row is read
                        have holds : o + len0 * ei.size ≤ cells.length → ∃ old, (Builtin.firstCells ei.size len0 (.slice (some ad) len0 c)).run P w.drew = .ok old w.drew ∧ VRL κ ((cells.drop o).take (len0 * ei.size)) old.toList ∧
                            ((cells.drop o).take (len0 * ei.size)).all AV.leaf = true ∧ ((cells.drop o).take (len0 * ei.size)).length = len0 * ei.size := by
                          intro hle
                          have hel : elemsOf h ei.size (.sl id o len0 none) len0 = some ((cells.drop o).take (len0 * ei.size)) := by
                            simp only [elemsOf, Nat.le_refl, if_true, cellsAt, hob, hle]
                            split
                            · rename_i h0; simp [h0]
                            · rfl
                          exact elemsOf_ok (P := P) S' hsv0 hel
                        split at hr
                        · -- at its end
                          rename_i htip
                          simp only [Option.some.injEq, Prod.mk.injEq] at hr
                          obtain ⟨rfl, rfl⟩ := hr
                          have hrest : ∀ j, j < h.next → κ.row j = none → κ.mp j = none → (h.put id (.row cells (some ei.size) true anc)).get j = h.get j := by
                            intro j _ hr _
                            rw [Heap.get_put_ne _ _ (by rintro rfl; rw [hg] at hr; cases hr)]
                          have hanc' : ∀ i ∈ id :: anc, i < h.next ∧ (∀ c e s a, (h.put id (.row cells (some ei.size) true anc)).get i = some (.row c e s a) → s = true) ∧ κ.row i ≠ none := by
                            intro i hi
                            by_cases hii : i = id
                            · subst hii
                              refine ⟨hid, fun c e s a hh => ?_, by rw [hg]; simp⟩
                              rw [Heap.get_put_self] at hh
                              simp only [Option.some.injEq, AObj.row.injEq] at hh
                              exact hh.2.2.1.symm
                            · have hia : i ∈ anc := by
                                cases hi with
                                | head => exact absurd rfl hii
                                | tail _ hm => exact hm
                              obtain ⟨p1, p2, p3, p4⟩ := hancS i hia
                              refine ⟨p1, fun c e s a hh => ?_, p4⟩
                              rw [Heap.get_put_ne _ _ hii] at hh
                              exact p3 _ _ _ _ hh
                          by_cases hfit : len0 + n ≤ c
                          · have hc0 : c ≠ 0 := by omega
                            obtain rfl := had hc0
                            obtain ⟨w', κ', hst, hD, hV⟩ := append_in (P := P) S hob hg (h1 := h.put id (.row cells (some ei.size) true anc)) rfl (S.stale hob) hrest hanc' (len := len0) (n := n) (c := c) (by omega) hop' hfit hn hb4
                              (fun j c' e' s' a' gj hj hgj hbb => by
                                by_cases hji : j = id
                                · subst hji
                                  rw [Heap.get_put_self] at hj
                                  simp only [Option.some.injEq, AObj.row.injEq] at hj
                                  obtain ⟨rfl, rfl, rfl, rfl⟩ := hj
                                  rw [hg] at hgj; cases hgj
                                  exact ⟨List.mem_cons_self .., by omega⟩
                                · rw [Heap.get_put_ne _ _ hji] at hj
                                  rcases S.apart j id _ _ _ _ _ _ _ _ gj g hji hj hob hgj hg hbb with ⟨q1, q2⟩ | ⟨q1, _⟩
                                  · exact ⟨List.mem_cons_of_mem _ q1, by omega⟩
                                  · have := (S.anc _ _ _ _ _ hj id q1).2.2.1 _ _ _ _ hob; cases this) hnV hnL hnn
                            exact ⟨_, w', κ', run_append_fits K hd he hu hdu hxl hfit hnA hst ty, hD, hV⟩
                          · obtain ⟨old, o1, o2, o3, o4⟩ := holds (by omega)
                            exact grows _ (id :: anc) _ c _ old rfl ((S.stale hob).grown (by exact (Below.refl _ _).drew)) hrest hanc' hfit o1 o2 o3 o4
                        · split at hr
                          · -- within what is known
                            rename_i htip hin
                            cases hp : putCells h id (o + len0 * ei.size) new with
                            | none => simp [hp] at hr
                            | some h2 =>
                              simp only [hp, Option.map_some, Option.some.injEq, Prod.mk.injEq] at hr
                              obtain ⟨rfl, rfl⟩ := hr
                              have hfit : len0 + n ≤ c := by
                                refine Nat.le_of_mul_le_mul_right ?_ (Nat.pos_of_ne_zero hb4)
                                omega
                              have hc0 : c ≠ 0 := by omega
                              obtain rfl := had hc0
                              obtain ⟨w', hst, hD⟩ := putCells_ok (P := P) S hp hg hnV hnL
                              refine ⟨_, w', κ, run_append_fits K hd he hu hdu hxl hfit hnA ?_ ty, hD, .sl _ _ _ _ _ g _ hg hfit (fun _ e => by cases e) (fun _ => hop rfl) (fun _ => rfl)⟩
                              rw [add_none, Nat.add_assoc]
                              exact hst
                          · split at hr
                            · rename_i htip hin hlt
                              simp only [Option.some.injEq, Prod.mk.injEq] at hr
                              obtain ⟨rfl, rfl⟩ := hr
                              have hkl : ∀ i ∈ anc, i < h.next := fun i hi => (hancS i hi).1
                              have Sk := (S.kill anc hkl).dead (i := id) (by rw [Heap.next_kill]; exact hid)
                              have hrest : ∀ j, j < h.next → κ.row j = none → κ.mp j = none → ((h.kill anc).put id .dead).get j = h.get j := by
                                intro j _ hr _
                                rw [Heap.get_put_ne _ _ (by rintro rfl; rw [hg] at hr; cases hr), Heap.get_kill, if_neg]
                                intro hm; exact (hancS j hm).2.2.2 hr
                              by_cases hfit : len0 + n ≤ c
                              · have hc0 : c ≠ 0 := by omega
                                obtain rfl := had hc0
                                obtain ⟨w', κ', hst, hD, hV⟩ := append_in (P := P) S hob hg (h1 := (h.kill anc).put id .dead) (by simp [Heap.next_kill]) Sk hrest (anc := []) (by simp) (len := len0) (n := n) (c := c) (by omega) hop' hfit hn hb4
                                  (fun j c' e' s' a' gj hj hgj hbb => by
                                    have hji : j ≠ id := by rintro rfl; rw [Heap.get_put_self] at hj; cases hj
                                    rw [Heap.get_put_ne _ _ hji, Heap.get_kill] at hj
                                    split at hj
                                    · cases hj
                                    · rename_i hja
                                      rcases S.apart j id _ _ _ _ _ _ _ _ gj g hji hj hob hgj hg hbb with ⟨q1, q2⟩ | ⟨q1, _⟩
                                      · exact absurd q1 hja
                                      · have := (S.anc _ _ _ _ _ hj id q1).2.2.1 _ _ _ _ hob; cases this) hnV hnL hnn
                                exact ⟨_, w', κ', run_append_fits K hd he hu hdu hxl hfit hnA hst ty, hD, hV⟩
                              · obtain ⟨old, o1, o2, o3, o4⟩ := holds (by omega)
                                exact grows _ [] _ c _ old (by simp [Heap.next_kill]) (Sk.grown (by exact (Below.refl _ _).drew)) hrest (by simp) hfit o1 o2 o3 o4
                            · cases hr
                      · cases hr
                    · cases hr
              · cases hr
            · cases hr
  · cases hr

theorem below_drew (w : World) : Below w.heap.size w w.drew := (Below.refl _ _).drew
end
end Go.Ab
