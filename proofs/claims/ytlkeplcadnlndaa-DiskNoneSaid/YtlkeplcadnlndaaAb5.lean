/- Loads, new memory, stores: the abstract operation goes with the model's. -/
import Derived.Test.YtlkeplcadnlndaaAb4
set_option autoImplicit false
set_option linter.unusedSimpArgs false
set_option linter.unusedVariables false
namespace Go.Ab
open Go.RowKit (Below)

def kindD : TypeDesc → Option TK
  | .bool => some .bool
  | .int k => some (.int k)
  | .string => some .str
  | .pointer e => some (.ptr e)
  | .slice e => some (.slice e)
  | .array n e => some (.arr n e)
  | .map k e => some (.map k e)
  | .struct fs => some (.struct (fs.toList.map fun f => (f.offset, f.type)))
  | .func _ _ _ => some .func
  | .interface _ => some .iface
  | .tuple _ => some .tuple
  | _ => none

/-- The table of types tells what the program's says. -/
structure TOk (P : Program) (T : Types) : Prop where
  und : ∀ t i, T.get t = some i → ∃ d, P.underlying t = some d ∧ kindD d = some i.kind
  info : ∀ t i, T.get t = some i → ∃ inf, P.info? t = some inf ∧ inf.size = i.size ∧ inf.bytes = i.bytes ∧ ∃ z a, inf.zero = some z ∧ ofConst 3 z = some a ∧ zeroOf i = some a ∧ a.cells = i.zero
  eqs : ∀ t i fs, T.get t = some i → i.eqOk = true → P.underlying t = some (.struct fs) → P.stoodInHeld t = false ∧ P.eqGuardType P.depth t = false ∧ ∀ f ∈ fs.toList, f.name ≠ "_"
  mixed : P.follows .mixedOrders = true

theorem ofConst_VR (κ : Gh) (n : Nat) : ∀ (v : Value) (a : AV), ofConst n v = some a → VR κ a v := by
  induction n with
  | zero => intro v a h; simp [ofConst] at h
  | succ n ih =>
    have ihl : ∀ (l : List Value) (m : List AV), l.mapM (ofConst n) = some m → VRL κ m l := by
      intro l
      induction l with
      | nil => intro m h; simp at h; subst h; exact .nil
      | cons x l ihx =>
        intro m h
        rw [List.mapM_cons] at h
        cases hx : ofConst n x with
        | none => simp [hx] at h
        | some y =>
          cases hl : l.mapM (ofConst n) with
          | none => simp [hx, hl] at h
          | some k => simp [hx, hl] at h; subst h; exact .cons _ _ _ _ (ih _ _ hx) (ihx _ hl)
    intro v a h
    unfold ofConst at h
    split at h <;> try (simp at h; done)
    all_goals try (simp only [Option.some.injEq] at h; subst h; constructor; done)
    · simp only [Option.some.injEq] at h; subst h; exact .str _ _ rfl
    · cases hm : (Array.toList ‹_›).mapM (ofConst n) with
      | none => simp [hm] at h
      | some l =>
        simp only [hm, Option.bind_some] at h
        split at h
        · rename_i hl
          simp only [Option.some.injEq] at h; subst h
          exact .agg _ _ hl (ihl _ _ hm)
        · cases h
    · cases hm : (Array.toList ‹_›).mapM (ofConst n) with
      | none => simp [hm] at h
      | some l => simp only [hm, Option.map_some, Option.some.injEq] at h; subst h; exact .tup _ _ (ihl _ _ hm)

/-! ### Cells -/
section
variable {P : Program} {w : World}

theorem cell?_block {b : Nat} {C : Array Value} {T : TypeId} {fz : Nat × Nat} (h : w.heap[b]? = some (.cells C T fz)) (o : Nat) : w.cell? ⟨b, o, none⟩ = C[o]? := by
  simp [World.cell?, h]

theorem add_none (b o n : Nat) : (⟨b, o, none⟩ : Addr).add n = ⟨b, o + n, none⟩ := by
  unfold Addr.add
  split
  · subst_vars; rfl
  · rfl

theorem run_loadCellsFrom {b : Nat} {C : Array Value} {T : TypeId} {fz : Nat × Nat} (h : w.heap[b]? = some (.cells C T fz)) (o : Nat) :
    ∀ (n i : Nat) (acc : Array Value), o + i + n ≤ C.size → ∃ r, (loadCellsFrom ⟨b, o, none⟩ i n acc).run P w = .ok r w ∧ r.toList = acc.toList ++ (C.toList.drop (o + i)).take n := by
  intro n
  induction n with
  | zero => intro i acc _; exact ⟨acc, rfl, by simp⟩
  | succ n ih =>
    intro i acc hn
    have hc : w.cell? ((⟨b, o, none⟩ : Addr).add i) = some C[o + i] := by
      rw [add_none, cell?_block h]
      exact Array.getElem?_eq_getElem (by omega)
    obtain ⟨r, hr, hl⟩ := ih (i + 1) (acc.push C[o + i]) (by omega)
    refine ⟨r, ?_, ?_⟩
    · simp [loadCellsFrom, hc, hr]
    · have hlt : o + i < C.toList.length := by simp; omega
      rw [hl, List.drop_eq_getElem_cons hlt]
      simp [Nat.add_assoc]

theorem run_loadCells {b : Nat} {C : Array Value} {T : TypeId} {fz : Nat × Nat} (h : w.heap[b]? = some (.cells C T fz)) (o n : Nat) (hn : o + n ≤ C.size) :
    ∃ r, (loadCells ⟨b, o, none⟩ n).run P w = .ok r w ∧ r.toList = (C.toList.drop o).take n := by
  obtain ⟨r, hr, hl⟩ := run_loadCellsFrom (P := P) h o n 0 #[] (by omega)
  exact ⟨r, hr, by simpa using hl⟩

theorem seg_sub {α : Type} (L : List α) (o m off n : Nat) (h : off + n ≤ m) : (((L.drop o).take m).drop off).take n = (L.drop (o + off)).take n := by
  rw [List.drop_take, List.take_take, List.drop_drop]
  congr 1
  omega

theorem all_seg {l : List AV} (h : l.all AV.leaf = true) (o n : Nat) : ((l.drop o).take n).all AV.leaf = true := by
  rw [List.all_eq_true] at *
  exact fun x hx => h x (List.mem_of_mem_drop (List.mem_of_mem_take hx))

/-- Cells that the abstract machine reads are there. -/
theorem cellsAt_ok {κ : Gh} {w0 : World} {h : Heap} (S : Sim κ w0 h w) {x : AV} {v : Value} (hv : VR κ x v) {n : Nat} {l : List AV} (hl : cellsAt h x n = some l) :
    ∃ a r, v = .pointer (some a) ∧ (loadCells a n).run P w = .ok r w ∧ VRL κ l r.toList ∧ l.all AV.leaf = true ∧ l.length = n ∧
      (0 < n → ∃ y, w.cell? a = some y ∧ r.toList[0]? = some y) := by
  cases hv with
  | ptr id off g hg =>
    simp only [cellsAt] at hl
    split at hl
    · rename_i cells ext stale anc ho
      split at hl
      · rename_i hle
        simp only [Option.some.injEq] at hl
        subst hl
        obtain ⟨C, T, lo, hi, hb, hsz, _, hvr, hall, _⟩ := S.row _ _ _ _ _ _ ho hg
        have hlen := hvr.length
        simp only [List.length_take, List.length_drop, Array.length_toList] at hlen
        have hlen2 : ((cells.drop off).take n).length = n := by simp; omega
        by_cases hn : n = 0
        · subst hn
          exact ⟨_, #[], rfl, rfl, by simp; exact .nil, by simp, by simp, fun h => by omega⟩
        · obtain ⟨r, hr, hrl⟩ := run_loadCells (P := P) hb (g.base + off) n (by omega)
          refine ⟨_, r, rfl, hr, ?_, all_seg hall _ _, hlen2, fun _ => ?_⟩
          · rw [hrl, ← seg_sub _ _ cells.length _ _ hle]
            exact (hvr.drop off).take n
          · refine ⟨C[g.base + off]'(by omega), ?_, ?_⟩
            · rw [cell?_block hb]; exact Array.getElem?_eq_getElem (by omega)
            · rw [hrl]; simp only [List.getElem?_take, List.getElem?_drop, Nat.add_zero, Array.getElem?_toList]; rw [if_pos (by omega)]; exact Array.getElem?_eq_getElem (by omega)
      · cases hl
    · cases hl
  | iptr cells off b o C hC hall hvr =>
    simp only [cellsAt] at hl
    split at hl
    · rename_i hle
      simp only [Option.some.injEq] at hl
      subst hl
      obtain ⟨T, fz, hb⟩ := S.im _ _ hC
      have hlen := hvr.length
      simp only [List.length_take, List.length_drop] at hlen
      have hlen2 : ((cells.drop off).take n).length = n := by simp; omega
      by_cases hn : n = 0
      · subst hn
        exact ⟨_, #[], rfl, rfl, by simp; exact .nil, by simp, by simp, fun h => by omega⟩
      · obtain ⟨r, hr, hrl⟩ := run_loadCells (P := P) hb (o + off) n (by rw [List.size_toArray]; omega)
        refine ⟨_, r, rfl, hr, ?_, all_seg hall _ _, hlen2, fun _ => ?_⟩
        · rw [hrl, List.toList_toArray, ← seg_sub _ _ cells.length _ _ hle]
          exact (hvr.drop off).take n
        · refine ⟨C[o + off]'(by omega), ?_, ?_⟩
          · rw [cell?_block hb, List.getElem?_toArray]; exact List.getElem?_eq_getElem (by omega)
          · rw [hrl]; simp only [List.getElem?_take, List.getElem?_drop, Nat.add_zero]; rw [if_pos (by omega)]; exact List.getElem?_eq_getElem (by omega)
    · cases hl
  | _ => simp [cellsAt] at hl

theorem run_isAgg {T : Types} (K : TOk P T) {t : TypeId} {i : TI} (ht : T.get t = some i) : (Go.isAgg t).run P w = .ok (isAgg i.kind) w := by
  obtain ⟨d, hd, hk⟩ := K.und t i ht
  unfold Go.isAgg underlying
  simp only [Sem.run_bind, run_program, Result.andThen_ok, hd]
  cases d <;> simp [kindD] at hk <;> simp [← hk, isAgg]

theorem run_sizeOf {T : Types} (K : TOk P T) {t : TypeId} {i : TI} (ht : T.get t = some i) : (sizeOf t).run P w = .ok i.size w := by
  obtain ⟨inf, h1, h2, _⟩ := K.info t i ht
  unfold sizeOf typeInfo
  simp [h1, h2]

theorem loadA_ok {T : Types} (K : TOk P T) {κ : Gh} {w0 : World} {h : Heap} (S : Sim κ w0 h w) {t : TypeId} {x a : AV} {v : Value} (hv : VR κ x v) (hl : loadA T h t x = some a) :
    ∃ r, (Instr.loadAt t v).run P w = .ok r w ∧ VR κ a r := by
  unfold loadA at hl
  cases ht : T.get t with
  | none => simp [ht] at hl
  | some i =>
    simp only [ht] at hl
    cases hk : isAgg i.kind with
    | true =>
      simp only [hk, if_true] at hl
      cases hc : cellsAt h x i.size with
      | none => simp [hc] at hl
      | some l =>
        simp only [hc, Option.map_some, Option.some.injEq] at hl
        subst hl
        obtain ⟨ad, r, rfl, hr, hvr, hall, _, _⟩ := cellsAt_ok (P := P) S hv hc
        refine ⟨.agg r, ?_, .agg _ _ hall hvr⟩
        simp [Instr.loadAt, Instr.sureAddr, loadVar, run_isAgg K ht, hk, run_sizeOf K ht, hr]
    | false =>
      simp only [hk, Bool.false_eq_true, if_false] at hl
      cases hc : cellsAt h x 1 with
      | none => simp [hc] at hl
      | some l =>
        obtain ⟨ad, r, rfl, hr, hvr, hall, hlen, hcell⟩ := cellsAt_ok (P := P) S hv hc
        match l, hlen with
        | [y], _ =>
          simp only [hc, Option.some.injEq] at hl
          subst hl
          obtain ⟨z, hz, hz0⟩ := hcell (by omega)
          obtain ⟨z', hz', hvz⟩ := hvr.get (i := 0) (x := y) rfl
          rw [hz0] at hz'
          obtain rfl : z = z' := by simpa using hz'
          refine ⟨z, ?_, hvz⟩
          simp [Instr.loadAt, Instr.sureAddr, loadVar, run_isAgg K ht, hk, hz]
end

end Go.Ab
