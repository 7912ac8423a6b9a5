/- (*disk.Disk).Used comes to the sum of the files' lengths, in whatever order the map is walked through. Conditions: none. -/
import Derived.Test.YtlkeplcadnlndaaT1
import Derived.Test.YtlkeplcadnlndaaS1
import Derived.IntWalk
import Derived.KernelRfl
set_option linter.unusedSimpArgs false
set_option linter.unusedVariables false
set_option autoImplicit false
set_option linter.unusedVariables false
namespace Go.Ab
open Go.Proofs
theorem T79 : T.get 79 = some ⟨.map 9 22, 1, 8, [.mnil], false⟩ := by kernel_rfl
theorem T24 : T.get 24 = some ⟨.ptr 82, 1, 8, [.pnil], false⟩ := by kernel_rfl
/-! ### (*disk.Disk).Used: a sum over a map, whatever order -/
def lenI (v : AV) : Option Int :=
  match lenSl v with
  | some (.int .i64 n) => if 0 ≤ n then some n else none
  | _ => none

def sumLens : List (AV × AV) → Option Int
  | [] => some 0
  | (_, v) :: l => (lenI v).bind fun n => (sumLens l).map (n + ·)

/-- The lengths of what was not seen. -/
def unseen (seen : List Nat) : List (AV × AV) → List Nat → Int
  | (_, v) :: es, b :: bs => (if b ∈ seen then 0 else (lenI v).getD 0) + unseen seen es bs
  | _, _ => 0

theorem unseen_same {b : Nat} {seen : List Nat} : ∀ (es : List (AV × AV)) (bs : List Nat), b ∉ bs → unseen (seen ++ [b]) es bs = unseen seen es bs
  | [], bs, _ => by cases bs <;> rfl
  | e :: es, [], _ => rfl
  | (k, v) :: es, c :: bs, h => by
    simp only [List.mem_cons, not_or] at h
    have : c ≠ b := fun e => h.1 e.symm
    simp only [unseen, List.mem_append, List.mem_singleton, this, or_false, unseen_same es bs h.2]

theorem unseen_step {b : Nat} {seen : List Nat} {k v : AV} {n : Int} (hn : lenI v = some n) (hb : b ∉ seen) : ∀ (es : List (AV × AV)) (bs : List Nat) (j : Nat), bs.Nodup → es[j]? = some (k, v) → bs[j]? = some b →
    unseen seen es bs = n + unseen (seen ++ [b]) es bs
  | [], bs, j, _, h, _ => by simp at h
  | e :: es, [], j, _, _, h => by simp at h
  | (k', v') :: es, c :: bs, 0, hd, he, hc => by
    simp only [List.getElem?_cons_zero, Option.some.injEq, Prod.mk.injEq] at he hc
    obtain ⟨rfl, rfl⟩ := he; subst hc
    have := (List.nodup_cons.1 hd).1
    simp [unseen, hb, hn, unseen_same es bs this]
  | (k', v') :: es, c :: bs, j + 1, hd, he, hc => by
    simp only [List.getElem?_cons_succ] at he hc
    obtain ⟨h1, h2⟩ := List.nodup_cons.1 hd
    have ih := unseen_step hn hb es bs j h2 he hc
    have hcb : c ≠ b := by rintro rfl; exact h1 (List.mem_of_getElem? hc)
    simp only [unseen, List.mem_append, List.mem_singleton, hcb, or_false, ih]
    omega

theorem sumLens_unseen : ∀ {es : List (AV × AV)} {bs : List Nat} {s : Int}, sumLens es = some s → bs.length = es.length → unseen [] es bs = s
  | [], bs, s, h, _ => by simp only [sumLens, Option.some.injEq] at h; subst h; cases bs <;> rfl
  | (k, v) :: es, [], s, _, h => by simp at h
  | (k, v) :: es, b :: bs, s, h, hl => by
    simp only [sumLens] at h
    cases hn : lenI v with
    | none => simp [hn] at h
    | some n =>
      cases hs : sumLens es with
      | none => simp [hn, hs] at h
      | some s' =>
        simp only [hn, hs, Option.bind_some, Option.map_some, Option.some.injEq] at h
        simp only [unseen, List.not_mem_nil, if_false, hn, Option.getD_some, sumLens_unseen hs (by simpa using hl)]
        exact h

theorem lenI_of_sum : ∀ {es : List (AV × AV)} {s : Int}, sumLens es = some s → ∀ e ∈ es, ∃ n, lenI e.2 = some n ∧ 0 ≤ n
  | [], s, _, e, he => by cases he
  | (k, v) :: es, s, h, e, he => by
    simp only [sumLens] at h
    cases hn : lenI v with
    | none => simp [hn] at h
    | some n =>
      cases hs : sumLens es with
      | none => simp [hn, hs] at h
      | some s' =>
        rcases List.mem_cons.1 he with rfl | he
        · refine ⟨n, hn, ?_⟩
          unfold lenI at hn; split at hn
          · split at hn
            · cases hn; assumption
            · cases hn
          · cases hn
        · exact lenI_of_sum hs e he

theorem unseen_nonneg {es : List (AV × AV)} {s : Int} (hs : sumLens es = some s) (seen : List Nat) : ∀ (bs : List Nat), 0 ≤ unseen seen es bs := by
  induction es generalizing s with
  | nil => intro bs; cases bs <;> exact Int.le_refl _
  | cons e es ih =>
    obtain ⟨k, v⟩ := e
    intro bs
    cases bs with
    | nil => exact Int.le_refl _
    | cons b bs =>
      obtain ⟨n, hn, h0⟩ := lenI_of_sum hs (k, v) (List.mem_cons_self ..)
      simp only [sumLens] at hs
      cases hs' : sumLens es with
      | none => simp [hs', hn] at hs
      | some s' =>
        have := ih hs' bs
        simp only [unseen]
        split
        · omega
        · simp only at hn; rw [hn]; simp only [Option.getD_some]; omega

theorem unseen_all {seen : List Nat} : ∀ {es : List (AV × AV)} {bs : List Nat}, (∀ b ∈ bs, b ∈ seen) → unseen seen es bs = 0
  | [], bs, _ => by cases bs <;> rfl
  | e :: es, [], _ => rfl
  | (k, v) :: es, b :: bs, h => by
    simp only [unseen, if_pos (h b (List.mem_cons_self ..)), unseen_all (es := es) (fun b hb => h b (List.mem_cons_of_mem _ hb))]; rfl

/-- How many were not seen. -/
def open' (seen bs : List Nat) : Nat := bs.countP fun b => decide (b ∉ seen)
theorem open_step {seen bs : List Nat} {b : Nat} (hb : b ∈ bs) (hs : b ∉ seen) : open' (seen ++ [b]) bs < open' seen bs := by
  unfold open'
  induction bs with
  | nil => cases hb
  | cons c bs ih =>
    have mono : ∀ l : List Nat, (l.countP fun x => decide (x ∉ seen ++ [b])) ≤ l.countP fun x => decide (x ∉ seen) := fun l => List.countP_mono_left fun x _ hx => by
      simp only [List.mem_append, List.mem_singleton, not_or, decide_eq_true_eq] at hx ⊢; exact hx.1
    rw [List.countP_cons, List.countP_cons]
    by_cases hcb : c = b
    · subst hcb
      have h1 : decide (c ∉ seen ++ [c]) = false := by simp
      have h2 : decide (c ∉ seen) = true := by simpa using hs
      rw [h1, h2]; have := mono bs; simp only [Bool.false_eq_true, if_false, if_true]; omega
    · have hb' : b ∈ bs := by rcases List.mem_cons.1 hb with e | e; exact absurd e.symm hcb; exact e
      have := ih hb'
      have e : decide (c ∉ seen ++ [b]) = decide (c ∉ seen) := by simp [hcb]
      rw [e]; omega

/-- (*disk.Disk).Used -/
def G20 : AFn
  | [.pnil], h => some (.int .i64 0, h)
  | [.ptr d o], h =>
    match ldV h (.ptr d (o + 2)) with
    | some (.map m) =>
      match h.get m with
      | some (.map es bs ck) =>
        match sumLens es with
        | some s => if bs.length = es.length ∧ bs.Nodup ∧ (∀ b ∈ bs, b < ck) ∧ s < 9223372036854775808 ∧ bs.length < 1000000 ∧ m < h.next then some (.int .i64 s, h.new .dead) else none
        | none => none
      | _ => none
    | _ => none
  | _, _ => none

theorem idx_nodup {bs : List Nat} (hd : bs.Nodup) : ∀ {j : Nat} {b : Nat}, bs[j]? = some b → bs.idxOf? b = some j := by
  induction bs with
  | nil => intro j b h; simp at h
  | cons c bs ih =>
    intro j b h
    obtain ⟨h1, h2⟩ := List.nodup_cons.1 hd
    rw [List.idxOf?_cons]
    cases j with
    | zero => simp only [List.getElem?_cons_zero, Option.some.injEq] at h; simp [h]
    | succ j =>
      simp only [List.getElem?_cons_succ] at h
      have hcb : (c == b) = false := by
        simp only [beq_eq_false_iff_ne]; rintro rfl; exact h1 (List.mem_of_getElem? h)
      rw [hcb, ih h2 h]; rfl

/-- A step of a walk whose map stands still. -/
theorem nextP_at {h : Heap} {i m ck last : Nat} {seen : List Nat} {es : List (AV × AV)} {bs : List Nat} (hi : h.get i = some (.miter (some m) ck seen last)) (hm : h.get m = some (.map es bs ck))
    (hl : last = ck) (hlt : ∀ b ∈ bs, b < ck) (hlen : bs.length = es.length) {k : AV → Heap → Prop} (h0 : (∀ b ∈ bs, b ∈ seen) → k (.tup [.bool false]) (h.put i .dead))
    (h1 : ∀ (j : Nat) (kk vv : AV) (b : Nat), es[j]? = some (kk, vv) → bs[j]? = some b → b ∉ seen → k (.tup [.bool true, kk, vv]) (h.put i (.miter (some m) ck (seen ++ [b]) ck))) : nextP h (.iter i) k := by
  simp only [nextP, hi, hm]
  refine ⟨?_, hlt, h0, h1⟩
  subst hl
  cases es with
  | nil => exact .inr (.inl rfl)
  | cons e es =>
    cases bs with
    | nil => simp at hlen
    | cons b bs => exact .inr (.inr ⟨b, List.mem_cons_self .., hlt b (List.mem_cons_self ..)⟩)

theorem wrap_id {n : Int} (h0 : 0 ≤ n) (h1 : n < 9223372036854775808) : IntKind.i64.wrap n = n := IntWalk.i64_in _ (by omega)

theorem used_loop {m ck i : Nat} {es : List (AV × AV)} {bs : List Nat} {s : Int} (hs : sumLens es = some s) (hlen : bs.length = es.length) (hnd : bs.Nodup) (hlt : ∀ b ∈ bs, b < ck) (hsm : s < 9223372036854775808) (him : i ≠ m) :
    ∀ (n : Nat) (seen : List Nat) (acc : Int) (h : Heap), h.get i = some (.miter (some m) ck seen ck) → h.get m = some (.map es bs ck) → open' seen bs < n → 0 ≤ acc → acc + unseen seen es bs = s →
      Ev (G20_l0 (.int .i64 s, h.put i .dead) n (.int .i64 acc) (.iter i) h) := by
  intro n
  induction n with
  | zero => intro seen acc h _ _ hn; omega
  | succ n ih =>
    intro seen acc h hi hm hn hacc hsum
    refine ⟨_, rfl, nextP_at hi hm rfl hlt hlen ?_ ?_⟩
    · intro hall
      refine ⟨_, rfl, ?_⟩
      have := unseen_all (es := es) hall
      have : acc = s := by omega
      rw [this]
    · intro j kk vv b hj hb hns
      obtain ⟨nv, hnv, hnv0⟩ := lenI_of_sum hs (kk, vv) (List.mem_of_getElem? hj)
      simp only at hnv
      have hstep := unseen_step hnv hns es bs j hnd hj hb
      have hrest := unseen_nonneg hs (seen ++ [b]) bs
      have hbm := List.mem_of_getElem? hb
      have hop := open_step hbm hns
      have hget : (h.put i (.miter (some m) ck (seen ++ [b]) ck)).get i = some (.miter (some m) ck (seen ++ [b]) ck) := Heap.get_put_self ..
      have hgm : (h.put i (.miter (some m) ck (seen ++ [b]) ck)).get m = some (.map es bs ck) := by rw [Heap.get_put_ne _ _ (Ne.symm him)]; exact hm
      have hent : entryA (h.put i (.miter (some m) ck (seen ++ [b]) ck)) (.iter i) = some (.tup [kk, vv]) := by
        simp only [entryA, hget, hgm, List.getLast?_append, List.getLast?_singleton, Option.some_or, if_true, idx_nodup hnd hb, Option.bind_some, hj, Option.map_some]
      have hlenv : lenSl vv = some (.int .i64 nv) := by
        unfold lenI at hnv; split at hnv
        · split at hnv
          · cases hnv; assumption
          · cases hnv
        · cases hnv
      have hw : IntKind.i64.wrap (acc + nv) = acc + nv := wrap_id (by omega) (by omega)
      have key := ih (seen ++ [b]) (acc + nv) (h.put i (.miter (some m) ck (seen ++ [b]) ck)) hget hgm (by omega) (by omega) (by omega)
      rw [Heap.put_put] at key
      show Ev (pureK (extr (.tup [.bool true, kk, vv]) 0) _ _)
      simp only [extr, List.getElem?_cons_zero, pureK_some, bcase_true, G20_5, R20_5, hent, List.getElem?_cons_succ, G20_6, R20_6, hlenv, binOpA, intOp, if_true, hw]
      exact key

theorem s20 : Sound Try.prog 20 G20 := by
  refine sw20 fun args h res hr => ?_
  unfold G20 at hr
  split at hr
  · simp only [Option.some.injEq] at hr; subst hr
    refine ⟨_, rfl, ?_⟩
    have hne : binOpA T .neq 24 .pnil AV.pnil = some (.bool false) := by simp [binOpA, aeq, T24]
    simp only [GW20, G20_0, R20_0, G20_1, R20_1, G20_2, R20_2, hne, pureK_some]
    exact ⟨_, rfl, rfl⟩
  · rename_i d o
    split at hr
    · rename_i m hld
      split at hr
      · rename_i es bs ck hgm
        split at hr
        · rename_i s hs
          split at hr
          · rename_i hc
            obtain ⟨c1, c2, c3, c4, c5, c6⟩ := hc
            simp only [Option.some.injEq] at hr; subst hr
            refine ⟨_, rfl, ?_⟩
            have him : h.next ≠ m := by omega
            have hr' : rangeA T h 79 (.map m) = some (.iter h.next, h.new (.miter (some m) ck [] ck)) := by
              simp only [rangeA, T79, hgm]
            have hne : binOpA T .neq 24 (.ptr d o) AV.pnil = some (.bool true) := by simp [binOpA, aeq, T24]
            simp only [GW20, G20_0, R20_0, G20_1, R20_1, G20_2, R20_2, hne, pureK_some, bcase_true, G20_3, R20_3, nilck, faddr, hld, hr', efK_some]
            have := used_loop (i := h.next) hs c1 c2 c3 c4 him fuel [] 0 (h.new (.miter (some m) ck [] ck)) (Heap.get_new_self _ _) (by rw [Heap.get_new_ne _ _ (Ne.symm him)]; exact hgm)
              (by have : open' [] bs ≤ bs.length := List.countP_le_length; unfold fuel; omega) (by omega) (by rw [sumLens_unseen hs c1]; omega)
            rwa [Heap.new_put] at this
          · cases hr
        · cases hr
      · cases hr
    · cases hr
  · cases hr
end Go.Ab
