/- The operations on numbers, strings, aggregates, addresses: what the abstract machine answers, the model's operation answers. -/
import Derived.Test.YtlkeplcadnlndaaAb7
import Derived.Laws.StructEq
set_option autoImplicit false
set_option linter.unusedSimpArgs false
set_option linter.unusedVariables false
namespace Go.Ab
open Go.RowKit (Below)

section
variable {P : Program} {T : Types} {κ : Gh} {w0 w : World} {h : Heap} {fr : List (Option AV)} {a : Act}

theorem intOp_ok {op : BinOp} {k : IntKind} {x y : Int} {r : AV} (h : intOp op k x y = some r) (hs : op ≠ .shl) (hs2 : op ≠ .shr) (t : TypeId) (w : World) :
    ∃ q, (binOp op t (.int k x) (.int k y)).run P w = .ok q w ∧ VR κ r q := by
  cases op <;> simp only [intOp, bitsOp, Option.some.injEq, Option.map_some] at h
  case shl => exact absurd rfl hs
  case shr => exact absurd rfl hs2
  case quo =>
    split at h
    · cases h
    · rename_i hy
      simp only [Option.some.injEq] at h
      subst h
      exact ⟨.int k (k.wrap (x.tdiv y)), by simp [binOp, Op.intDiv, hy], .int _ _⟩
  case rem =>
    split at h
    · cases h
    · rename_i hy
      simp only [Option.some.injEq] at h
      subst h
      exact ⟨.int k (x.tmod y), by simp [binOp, Op.intDiv, hy], .int _ _⟩
  case add => subst h; exact ⟨.int k (k.wrap (x + y)), by simp [binOp, Op.intArith], .int _ _⟩
  case sub => subst h; exact ⟨.int k (k.wrap (x - y)), by simp [binOp, Op.intArith], .int _ _⟩
  case mul => subst h; exact ⟨.int k (k.wrap (x * y)), by simp [binOp, Op.intArith], .int _ _⟩
  case and => subst h; exact ⟨.int k (k.wrap (BitVec.ofInt k.bits x &&& BitVec.ofInt k.bits y).toNat), by simp [binOp, Op.intBits], .int _ _⟩
  case or => subst h; exact ⟨.int k (k.wrap (BitVec.ofInt k.bits x ||| BitVec.ofInt k.bits y).toNat), by simp [binOp, Op.intBits], .int _ _⟩
  case xor => subst h; exact ⟨.int k (k.wrap (BitVec.ofInt k.bits x ^^^ BitVec.ofInt k.bits y).toNat), by simp [binOp, Op.intBits], .int _ _⟩
  case andNot => subst h; exact ⟨.int k (k.wrap (BitVec.ofInt k.bits x &&& ~~~(BitVec.ofInt k.bits y)).toNat), by simp [binOp, Op.intBits], .int _ _⟩
  case eql => subst h; exact ⟨.bool (x == y), by simp [binOp, Op.intCmp], .bool _⟩
  case neq => subst h; exact ⟨.bool (x != y), by simp [binOp, Op.intCmp], .bool _⟩
  case lss => subst h; exact ⟨.bool (decide (x < y)), by simp [binOp, Op.intCmp], .bool _⟩
  case leq => subst h; exact ⟨.bool (decide (x ≤ y)), by simp [binOp, Op.intCmp], .bool _⟩
  case gtr => subst h; exact ⟨.bool (decide (x > y)), by simp [binOp, Op.intCmp], .bool _⟩
  case geq => subst h; exact ⟨.bool (decide (x ≥ y)), by simp [binOp, Op.intCmp], .bool _⟩

theorem part_ok (K : TOk P T) {t : TypeId} {cs : List AV} {C : Array Value} {o : Nat} {r : AV} (hv : VRL κ cs C.toList) (hl : cs.all AV.leaf = true) (h : partOf T t cs o = some r) :
    ∃ q, (Go.part t C o).run P w = .ok q w ∧ VR κ r q := by
  unfold partOf at h
  cases ht : T.get t with
  | none => simp [ht] at h
  | some i =>
    simp only [ht] at h
    cases hk : isAgg i.kind with
    | true =>
      simp only [hk, if_true, Option.some.injEq] at h
      subst h
      refine ⟨.agg (C.extract o (o + i.size)), ?_, .agg _ _ (all_seg hl _ _) ?_⟩
      · simp [Go.part, run_isAgg K ht, hk, run_sizeOf K ht]
      · have : (C.extract o (o + i.size)).toList = (C.toList.drop o).take i.size := by
          rw [Array.toList_extract, List.extract_eq_take_drop]; simp
        rw [this]
        exact (hv.drop o).take i.size
    | false =>
      simp only [hk, Bool.false_eq_true, if_false] at h
      obtain ⟨y, hy, hvy⟩ := hv.get h
      refine ⟨y, ?_, hvy⟩
      simp only [Array.getElem?_toList] at hy
      simp [Go.part, run_isAgg K ht, hk, hy]

theorem kindD_struct {d : TypeDesc} {fs : List (Nat × TypeId)} (h : kindD d = some (.struct fs)) : ∃ F, d = .struct F ∧ F.toList.map (fun f => (f.offset, f.type)) = fs := by
  cases d <;> simp [kindD] at h
  exact ⟨_, rfl, h⟩
theorem kindD_slice {d : TypeDesc} {e : TypeId} (h : kindD d = some (.slice e)) : d = .slice e := by cases d <;> simp_all [kindD]
theorem kindD_ptr {d : TypeDesc} {e : TypeId} (h : kindD d = some (.ptr e)) : d = .pointer e := by cases d <;> simp_all [kindD]
theorem kindD_map {d : TypeDesc} {k e : TypeId} (h : kindD d = some (.map k e)) : d = .map k e := by cases d <;> simp_all [kindD]
theorem kindD_arr {d : TypeDesc} {n : Nat} {e : TypeId} (h : kindD d = some (.arr n e)) : d = .array n e := by cases d <;> simp_all [kindD]
theorem kindD_str {d : TypeDesc} (h : kindD d = some .str) : d = .string := by cases d <;> simp_all [kindD]
theorem kindD_bool {d : TypeDesc} (h : kindD d = some .bool) : d = .bool := by cases d <;> simp_all [kindD]
theorem kindD_int {d : TypeDesc} {k : IntKind} (h : kindD d = some (.int k)) : d = .int k := by cases d <;> simp_all [kindD]
theorem kindD_func {d : TypeDesc} (h : kindD d = some .func) : ∃ a b c, d = .func a b c := by cases d <;> simp_all [kindD]

theorem beq_bytes (a b : ByteArray) : (a == b) = decide (a.data.toList.map UInt8.toNat = b.data.toList.map UInt8.toNat) := by
  rw [beq_toListBytes, ByteArray.toList_eq, ByteArray.toList_eq, Bool.eq_iff_iff, beq_iff_eq, decide_eq_true_iff]
  exact ⟨fun h => by rw [h], map_toNat_inj⟩

set_option maxHeartbeats 4000000 in
theorem aeq_ok (K : TOk P T) (d : Nat) : ∀ (D : Nat) (t : TypeId) (x y : AV) (u v : Value) (b : Bool), d ≤ D → VR κ x u → VR κ y v → aeq T d t x y = some b →
    (Op.equalIn D t u v).run P w = .ok b w := by
  induction d with
  | zero => intro D t x y u v b _ _ _ h; simp [aeq] at h
  | succ d ih =>
    intro D t x y u v b hD hx hy h
    obtain ⟨D, rfl⟩ : ∃ E, D = E + 1 := ⟨D - 1, by omega⟩
    simp only [aeq] at h
    cases ht : T.get t with
    | none => simp [ht] at h
    | some i =>
      obtain ⟨dd, hd, hk⟩ := K.und t i ht
      have hru := run_underlying (P := P) (w := w) hd
      simp only [ht] at h
      split at h <;> rename_i hkind
      all_goals try (cases h; done)
      all_goals rw [hkind] at hk
      case h_20 =>
        obtain ⟨F, rfl, hF⟩ := kindD_struct hk
        split at h
        · rename_i hok
          obtain ⟨h1, h2, h3⟩ := K.eqs t i F ht hok hd
          cases hx with
          | agg _ cs hl hv =>
            cases hy with
            | agg _ cs' hl' hv' =>
              have hfo : P.fieldsOf t = F := by simp [Program.fieldsOf, hd]
              rw [run_equalIn_struct w D t cs cs' (by rw [hfo]; exact hd) h1, hfo]
              clear hru hd hkind hk
              generalize F.toList = L at *
              subst hF
              clear hfo
              induction L with
              | nil => simp [aeqs] at h; simp [Op.eqFields, h]
              | cons f L ihL =>
                simp only [List.map_cons, aeqs] at h
                cases hp : partOf T f.type _ f.offset with
                | none => rw [hp] at h; simp at h
                | some p =>
                  cases hq : partOf T f.type _ f.offset with
                  | none => rw [hp, hq] at h; simp at h
                  | some q =>
                    rw [hp, hq] at h
                    obtain ⟨p', hp', hvp⟩ := part_ok (w := w) K hv hl hp
                    obtain ⟨q', hq', hvq⟩ := part_ok (w := w) K hv' hl' hq
                    simp only [Op.eqFields, if_pos (h3 f (List.mem_cons_self ..)), Sem.run_bind, hp', hq', Result.andThen_ok]
                    cases he : aeq T d f.type p q with
                    | none => simp [he] at h
                    | some c =>
                      rw [ih D _ _ _ _ _ c (by omega) hvp hvq he]
                      cases c with
                      | false => simp [he] at h; simp [h]
                      | true => simp only [he] at h; simp; exact ihL (fun g hg => h3 g (List.mem_cons_of_mem _ hg)) h
        · cases h
      case h_2 =>
        split at h
        · rename_i hkl
          subst hkl
          cases hx; cases hy
          simp only [Option.some.injEq] at h
          obtain rfl := kindD_int hk
          simp [Op.equalIn, hru, h]
        · cases h
      case h_1 => cases hx; cases hy; obtain rfl := kindD_bool hk; simp at h; simp [Op.equalIn, hru, h]
      case h_3 =>
        obtain rfl := kindD_str hk
        cases hx with
        | str _ s1 e1 =>
          cases hy with
          | str _ s2 e2 =>
            simp only [Option.some.injEq] at h
            simp only [Op.equalIn, Sem.run_bind, hru, Result.andThen_ok, Sem.run_pure]
            rw [beq_bytes, e1, e2, h]
      case h_4 => cases hx; cases hy; obtain rfl := kindD_ptr hk; simp at h; simp [Op.equalIn, hru, h]
      case h_5 => cases hx; cases hy; obtain rfl := kindD_ptr hk; simp at h; simp [Op.equalIn, hru, h]
      case h_6 => cases hx; cases hy; obtain rfl := kindD_ptr hk; simp at h; simp [Op.equalIn, hru, h]
      case h_7 => cases hx; cases hy; obtain rfl := kindD_ptr hk; simp at h; simp [Op.equalIn, hru, h]
      case h_8 => cases hx; cases hy; obtain rfl := kindD_ptr hk; simp at h; simp [Op.equalIn, hru, h]
      case h_9 => cases hx; cases hy; obtain rfl := kindD_slice hk; simp at h; simp [Op.equalIn, hru, h]
      case h_10 => cases hx; cases hy; obtain rfl := kindD_slice hk; simp at h; simp [Op.equalIn, hru, h]
      case h_11 => cases hx; cases hy <;> obtain rfl := kindD_slice hk <;> simp at h <;> simp [Op.equalIn, hru, h]
      case h_12 => cases hx; cases hy; obtain rfl := kindD_slice hk; simp at h; simp [Op.equalIn, hru, h]
      case h_13 => cases hx <;> cases hy <;> obtain rfl := kindD_slice hk <;> simp at h <;> simp [Op.equalIn, hru, h]
      case h_14 => cases hx; cases hy; obtain rfl := kindD_map hk; simp at h; simp [Op.equalIn, hru, h]
      case h_15 => cases hx; cases hy; obtain rfl := kindD_map hk; simp at h; simp [Op.equalIn, hru, h]
      case h_16 => cases hx; cases hy; obtain rfl := kindD_map hk; simp at h; simp [Op.equalIn, hru, h]
      case h_17 => cases hx; cases hy; obtain ⟨_, _, _, rfl⟩ := kindD_func hk; simp at h; simp [Op.equalIn, hru, h]
      case h_18 => cases hx; cases hy; obtain ⟨_, _, _, rfl⟩ := kindD_func hk; simp at h; simp [Op.equalIn, hru, h]
      case h_19 => cases hx; cases hy; obtain ⟨_, _, _, rfl⟩ := kindD_func hk; simp at h; simp [Op.equalIn, hru, h]

end
end Go.Ab
