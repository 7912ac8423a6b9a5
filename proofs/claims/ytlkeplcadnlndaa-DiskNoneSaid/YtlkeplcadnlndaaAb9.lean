/- The operations that write nothing, one by one. -/
import Derived.Test.YtlkeplcadnlndaaAb8
set_option autoImplicit false
set_option linter.unusedSimpArgs false
set_option linter.unusedVariables false
namespace Go.Ab
open Go.RowKit (Below)

section
variable {P : Program} {T : Types} {κ : Gh} {w0 w : World} {h : Heap} {fr : List (Option AV)} {a : Act}

theorem size_data (s : ByteArray) : s.size = s.data.toList.length := by rw [Array.length_toList]; rfl

theorem run_stringOp_eql (a b : ByteArray) : (Op.stringOp .eql a b).run P w = .ok (.bool (decide (a.data.toList.map UInt8.toNat = b.data.toList.map UInt8.toNat))) w := by
  simp only [Op.stringOp, Sem.run_pure]
  rw [← beq_bytes, beq_toListBytes]

theorem run_stringOp_lss (a b : ByteArray) : (Op.stringOp .lss a b).run P w = .ok (.bool (bytesLess (a.data.toList.map UInt8.toNat) (b.data.toList.map UInt8.toNat))) w := by
  simp only [Op.stringOp, Sem.run_pure, bytesLess_ok, ByteArray.toList_eq]

theorem aeq_guard (K : TOk P T) {d : Nat} {t : TypeId} {x y : AV} {u v : Value} {b : Bool} (hx : VR κ x u) (hy : VR κ y v) (he : aeq T d t x y = some b) (op : BinOp) (X Y : Operand) :
    (eqGuard op t X Y u v).run P w = .ok () w := by
  cases d with
  | zero => simp [aeq] at he
  | succ d =>
    simp only [aeq] at he
    cases ht : T.get t with
    | none => simp [ht] at he
    | some i =>
      simp only [ht] at he
      split at he <;> rename_i hkind
      all_goals try (cases he; done)
      case h_20 =>
        split at he
        · rename_i hok
          obtain ⟨dd, hd, hk⟩ := K.und t i ht
          rw [hkind] at hk
          obtain ⟨F, rfl, hF⟩ := kindD_struct hk
          obtain ⟨h1, h2, h3⟩ := K.eqs t i F ht hok hd
          cases hx; cases hy
          exact run_eqGuard_agg w op t X Y _ _ h2
        · cases he
      all_goals cases hx <;> cases hy <;> cases op <;> simp [eqGuard]

theorem binOpA_ok (K : TOk P T) {op : BinOp} {t : TypeId} {x y r : AV} {u v : Value} (hx : VR κ x u) (hy : VR κ y v) (hr : binOpA T op t x y = some r) (X Y : Operand) :
    ∃ q, (do eqGuard op t X Y u v; binOp op t u v : Sem Value).run P w = .ok q w ∧ VR κ r q := by
  have g0 : (∀ k n, u ≠ .int k n) ∨ True := .inr trivial
  clear g0
  unfold binOpA at hr
  split at hr
  · cases hx; cases hy
    split at hr
    · cases hr
    · rename_i hb
      simp only [Option.some.injEq] at hr; subst hr
      exact ⟨_, by simp [eqGuard, binOp, Op.shift, hb], .int _ _⟩
  · cases hx; cases hy
    split at hr
    · cases hr
    · rename_i hb
      simp only [Option.some.injEq] at hr; subst hr
      exact ⟨_, by simp [eqGuard, binOp, Op.shift, hb], .int _ _⟩
  · rename_i h1 h2
    cases hx; cases hy
    split at hr
    · rename_i hk
      subst hk
      obtain ⟨q, hq, hv⟩ := intOp_ok (κ := κ) hr (fun e => h1 e) (fun e => h2 e) t w
      refine ⟨q, ?_, hv⟩
      rw [Sem.run_bind, show (eqGuard op t X Y (.int _ _) (.int _ _)).run P w = .ok () w from by cases op <;> simp [eqGuard]]
      exact hq
    · cases hr
  · cases hx with
    | str _ s1 e1 =>
      cases hy with
      | str _ s2 e2 =>
        split at hr
        · rename_i hle
          simp only [Option.some.injEq] at hr; subst hr
          refine ⟨.string (s1 ++ s2), ?_, .str _ _ ?_⟩
          · rw [← e1, ← e2] at hle
            simp only [List.length_map, ← size_data] at hle
            simp [eqGuard, binOp, Op.stringOp]
            omega
          · rw [← e1, ← e2]
            simp [ByteArray.data_append]
        · cases hr
  · cases hx with
    | str _ s1 e1 => cases hy with
      | str _ s2 e2 => simp only [Option.some.injEq] at hr; subst hr; subst e1; subst e2; exact ⟨_, by simp [eqGuard, binOp, run_stringOp_eql], .bool _⟩
  · cases hx with
    | str _ s1 e1 => cases hy with
      | str _ s2 e2 =>
        simp only [Option.some.injEq] at hr; subst hr; subst e1; subst e2
        refine ⟨_, ?_, .bool _⟩
        simp only [eqGuard, binOp, Op.stringOp, Sem.run_bind, Sem.run_pure, Result.andThen_ok]
        rw [← beq_bytes, beq_toListBytes]
        rfl
  · cases hx with
    | str _ s1 e1 => cases hy with
      | str _ s2 e2 => simp only [Option.some.injEq] at hr; subst hr; subst e1; subst e2; exact ⟨_, by simp [eqGuard, binOp, run_stringOp_lss], .bool _⟩
  · cases hx with
    | str _ s1 e1 => cases hy with
      | str _ s2 e2 =>
        simp only [Option.some.injEq] at hr; subst hr; subst e1; subst e2
        refine ⟨_, ?_, .bool _⟩
        simp only [eqGuard, binOp, Op.stringOp, Sem.run_bind, Sem.run_pure, Result.andThen_ok]
        rw [← beq_bytes, beq_toListBytes, bytesLess_ok, ByteArray.toList_eq, ByteArray.toList_eq]
        rfl
  · cases hx with
    | str _ s1 e1 => cases hy with
      | str _ s2 e2 =>
        simp only [Option.some.injEq] at hr; subst hr; subst e1; subst e2
        refine ⟨_, ?_, .bool _⟩
        simp only [eqGuard, binOp, Op.stringOp, Sem.run_bind, Sem.run_pure, Result.andThen_ok]
        rw [← beq_bytes, beq_toListBytes, bytesLess_ok, ByteArray.toList_eq, ByteArray.toList_eq]
        rfl
  · cases hx with
    | str _ s1 e1 => cases hy with
      | str _ s2 e2 =>
        simp only [Option.some.injEq] at hr; subst hr; subst e1; subst e2
        refine ⟨_, ?_, .bool _⟩
        simp only [eqGuard, binOp, Op.stringOp, Sem.run_bind, Sem.run_pure, Result.andThen_ok]
        rw [bytesLess_ok, ByteArray.toList_eq, ByteArray.toList_eq]
        rfl
  · cases he : aeq T 100 t x y with
    | none => simp [he] at hr
    | some b =>
      simp only [he, Option.map_some, Option.some.injEq] at hr; subst hr
      refine ⟨.bool b, ?_, .bool _⟩
      rw [Sem.run_bind, aeq_guard K hx hy he, Result.andThen_ok]
      have hq := aeq_ok (w := w) K 100 10000 t x y u v b (by omega) hx hy he
      have hb : (binOp .eql t u v) = (do pure (.bool (← Op.equal t u v))) ∨ (∃ k n l m, u = .int k n ∧ v = .int l m) ∨ (∃ s z, u = .string s ∧ v = .string z) := by
        cases hx <;> cases hy <;> first | exact .inl rfl | exact .inr (.inl ⟨_, _, _, _, rfl, rfl⟩) | exact .inr (.inr ⟨_, _, rfl, rfl⟩)
      rcases hb with hb | ⟨k, n, l, m, rfl, rfl⟩ | ⟨s, z, rfl, rfl⟩
      · rw [hb]; simp [Op.equal, Op.maxDepth, hq]
      · cases hx; cases hy
        exact (‹∀ (k_1 : IntKind) (a : Int) (l_1 : IntKind) (b : Int), AV.int k n = AV.int k_1 a → AV.int l m = AV.int l_1 b → False› _ _ _ _ rfl rfl).elim
      · cases hx with
        | str a1 _ _ => cases hy with
          | str a2 _ _ => exact (‹∀ (a b : List Nat), AV.str a1 = AV.str a → AV.str a2 = AV.str b → False› _ _ rfl rfl).elim
  · cases he : aeq T 100 t x y with
    | none => simp [he] at hr
    | some b =>
      simp only [he, Option.map_some, Option.some.injEq] at hr; subst hr
      refine ⟨.bool (!b), ?_, .bool _⟩
      rw [Sem.run_bind, aeq_guard K hx hy he, Result.andThen_ok]
      have hq := aeq_ok (w := w) K 100 10000 t x y u v b (by omega) hx hy he
      have hb : (binOp .neq t u v) = (do pure (.bool (!(← Op.equal t u v)))) ∨ (∃ k n l m, u = .int k n ∧ v = .int l m) ∨ (∃ s z, u = .string s ∧ v = .string z) := by
        cases hx <;> cases hy <;> first | exact .inl rfl | exact .inr (.inl ⟨_, _, _, _, rfl, rfl⟩) | exact .inr (.inr ⟨_, _, rfl, rfl⟩)
      rcases hb with hb | ⟨k, n, l, m, rfl, rfl⟩ | ⟨s, z, rfl, rfl⟩
      · rw [hb]; simp [Op.equal, Op.maxDepth, hq]
      · cases hx; cases hy
        exact (‹∀ (k_1 : IntKind) (a : Int) (l_1 : IntKind) (b : Int), AV.int k n = AV.int k_1 a → AV.int l m = AV.int l_1 b → False› _ _ _ _ rfl rfl).elim
      · cases hx with
        | str a1 _ _ => cases hy with
          | str a2 _ _ => exact (‹∀ (a b : List Nat), AV.str a1 = AV.str a → AV.str a2 = AV.str b → False› _ _ rfl rfl).elim
  · cases hr

end
end Go.Ab
