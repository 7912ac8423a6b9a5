/- Conversions, lookups, lengths. -/
import Derived.Test.YtlkeplcadnlndaaAb12
import Derived.Laws.BytesString
set_option autoImplicit false
set_option linter.unusedSimpArgs false
set_option linter.unusedVariables false
namespace Go.Ab
open Go.RowKit (Below)

section
variable {P : Program} {T : Types} {κ : Gh} {w0 w : World} {h : Heap} {fr : List (Option AV)} {a : Act}

theorem VRL.bytes {κ : Gh} : ∀ (l : List UInt8), VRL κ (l.map fun b => AV.int .u8 b.toNat) (l.map fun b => Value.int .u8 b.toNat)
  | [] => .nil
  | _ :: l => .cons _ _ _ _ (.int _ _) (VRL.bytes l)

/-- What is appended or copied is read. -/
theorem elemsOf_ok (S : Sim κ w0 h w) {x : AV} {v : Value} (hv : VR κ x v) {size n : Nat} {l : List AV} (hl : elemsOf h size x n = some l) :
    ∃ r, (Builtin.firstCells size n v).run P w = .ok r w ∧ VRL κ l r.toList ∧ l.all AV.leaf = true ∧ l.length = n * size := by
  cases hv <;> simp only [elemsOf] at hl <;> try (cases hl; done)
  case snil =>
    split at hl
    · simp only [Option.some.injEq] at hl; subst hl; rename_i hn; subst hn
      exact ⟨#[], rfl, .nil, rfl, by simp⟩
    · cases hl
  case sl id o len c cap g ad hg hc hex hop had =>
    split at hl
    · split at hl
      · rename_i hn hz
        simp only [Option.some.injEq] at hl; subst hl
        refine ⟨#[], ?_, .nil, rfl, by simp [hz]⟩
        simp only [Builtin.firstCells, hz]
        rfl
      · rename_i hn hz
        have hc0 : c ≠ 0 := by
          rintro rfl
          have : n = 0 := by omega
          subst this; simp at hz
        obtain ⟨ad', r, he, hr, hvr, hall, hlen, _⟩ := cellsAt_ok (P := P) S (.ptr id o g hg) hl
        simp only [Value.pointer.injEq, Option.some.injEq] at he
        subst he
        refine ⟨r, ?_, hvr, hall, hlen⟩
        simp only [Builtin.firstCells]
        rw [had hc0]
        exact hr
    · cases hl
  case isl cells len c b o cap C hC hc hex hall hvl =>
    split at hl
    · split at hl
      · rename_i hn hz
        simp only [Option.some.injEq] at hl; subst hl
        obtain ⟨ad', r, he, hr, hvr, hall', hlen, _⟩ := cellsAt_ok (P := P) (n := n * size) (l := cells.take (n * size)) S (.iptr cells 0 b o C hC hall hvl) (by simp [cellsAt, hz])
        simp only [Value.pointer.injEq, Option.some.injEq] at he
        subst he
        exact ⟨r, by simpa only [Builtin.firstCells, Nat.add_zero] using hr, hvr, hall', hlen⟩
      · cases hl
    · cases hl
  case isl0 c cap ad hex =>
    split at hl
    · split at hl
      · rename_i hn hz
        simp only [List.length_nil, Nat.le_zero] at hz
        simp only [Option.some.injEq] at hl; subst hl
        refine ⟨#[], ?_, by simp; exact .nil, by simp, by simp [hz]⟩
        simp only [Builtin.firstCells, hz]
        rfl
      · cases hl
    · cases hl
  case str s e =>
    split at hl
    · rename_i hs
      simp only [Option.some.injEq] at hl
      subst hl
      obtain ⟨rfl, hn⟩ := hs
      rename_i l0
      refine ⟨((s.extract 0 n).data.map fun b => .int .u8 b.toNat), rfl, ?_, ?_, ?_⟩
      · rw [Array.toList_map, extract_list, List.drop_zero, ← e, ← List.map_take, List.map_map]
        exact VRL.bytes _
      · rw [List.all_eq_true]
        intro x hx
        obtain ⟨y, _, rfl⟩ := List.mem_map.1 hx
        rfl
      · simp; omega
    · cases hl

theorem lenA_ok {x : AV} {v : Value} (hv : VR κ x v) {n : Nat} (hl : lenA x = some n) (w : World) : (Builtin.lenOf v).run P w = .ok n w := by
  cases hv <;> simp only [lenA, Option.some.injEq] at hl <;> try (cases hl; done)
  all_goals subst hl
  all_goals try rfl
  case str s e => subst e; rw [List.length_map, ← size_data]; rfl

theorem toBytes_ok : ∀ {l : List AV} {ns : List Nat} {vs : List Value}, toBytes l = some ns → VRL κ l vs → vs = ns.map (fun (n : Nat) => Value.int .u8 (n : Int)) ∧ ∀ n ∈ ns, n < 256
  | [], ns, vs, h, hv => by cases hv; simp [toBytes] at h; subst h; simp
  | x :: l, ns, vs, h, hv => by
    unfold toBytes at h
    rw [List.mapM_cons] at h
    cases hv with
    | cons _ v _ m hx hr =>
      cases hx <;> try (simp at h; done)
      rename_i k n
      cases k <;> try (simp at h; done)
      by_cases h0 : 0 ≤ n ∧ n ≤ 255
      · simp only [if_pos h0] at h
        cases hm : toBytes l with
        | none => unfold toBytes at hm; simp [hm] at h
        | some ms =>
          obtain ⟨e, hb⟩ := toBytes_ok hm hr
          unfold toBytes at hm
          simp [hm] at h
          subst h
          refine ⟨?_, ?_⟩
          · rw [e, List.map_cons]
            congr 2
            omega
          · intro y hy
            cases hy with
            | head => omega
            | tail _ hy => exact hb y hy
      · simp only [if_neg h0] at h; simp at h

theorem foldl_push_nat : ∀ (ns : List Nat) (s : ByteArray), (∀ n ∈ ns, n < 256) →
    ((ns.map (fun (n : Nat) => (n : Int))).foldl (fun (r : ByteArray) (n : Int) => r.push (UInt8.ofNat n.toNat)) s).data.toList.map UInt8.toNat = s.data.toList.map UInt8.toNat ++ ns
  | [], s, _ => by simp
  | n :: ns, s, h => by
    rw [List.map_cons, List.foldl_cons, foldl_push_nat ns _ (fun m hm => h m (List.mem_cons_of_mem _ hm))]
    have := h n (List.mem_cons_self ..)
    simp [ByteArray.push]
    omega

theorem bytesToStr_ok (S : Sim κ w0 h w) {x r : AV} {v : Value} (hv : VR κ x v) (hnr : ∀ s, x ≠ .str s) (hr : bytesToStr h x = some r) :
    ∃ q, (Conv.bytesToString v).run P w = .ok q w ∧ VR κ r q := by
  unfold bytesToStr at hr
  cases hl : lenA x with
  | none => simp [hl] at hr
  | some n =>
    cases he : elemsOf h 1 x n with
    | none => simp [hl, he] at hr
    | some l =>
      cases hb : toBytes l with
      | none => simp [hl, he, hb] at hr
      | some ns =>
        simp only [hl, he, hb, Option.bind_some, Option.map_some, Option.some.injEq] at hr; subst hr
        obtain ⟨arr, hrun, hvl, _, _⟩ := elemsOf_ok (P := P) S hv he
        obtain ⟨e, hbnd⟩ := toBytes_ok hb hvl
        have key : ∀ ad n' c, (loadCells ad n').run P w = .ok arr w → ∃ q, (Conv.bytesToString (.slice (some ad) n' c)).run P w = .ok q w ∧ VR κ (.str ns) q := by
          intro ad n' c hld
          have harr : arr = ((ns.map (fun (n : Nat) => (n : Int))).map (Value.int .u8)).toArray := by
            rw [List.map_map]
            apply Array.ext'
            rw [e]
            rfl
          rw [harr] at hld
          refine ⟨_, run_bytesToString w ad n' c _ hld, .str _ _ ?_⟩
          rw [foldl_push_nat ns _ hbnd]
          rfl
        cases hv <;> simp only [lenA, Option.some.injEq] at hl <;> try (cases hl; done)
        case snil =>
          subst hl
          simp only [elemsOf, if_true, Option.some.injEq] at he
          subst he
          simp [toBytes] at hb
          subst hb
          exact ⟨.string .empty, rfl, .str _ _ rfl⟩
        case sl => subst hl; exact key _ _ _ (by simpa only [Builtin.firstCells, Nat.mul_one] using hrun)
        case isl => subst hl; exact key _ _ _ (by simpa only [Builtin.firstCells, Nat.mul_one] using hrun)
        case isl0 => subst hl; exact key _ _ _ (by simpa only [Builtin.firstCells, Nat.mul_one] using hrun)
        case str s e => exact absurd rfl (hnr _)

/-! ### Maps -/
theorem sameKey_ok {kind : TK} {d : TypeDesc} (hk : kindD d = some kind) {x y : AV} {u v : Value} (hx : VR κ x u) (hy : VR κ y v) {b : Bool} (h : sameKey kind x y = some b) : Instr.sameNow d u v = some b := by
  unfold sameKey at h
  split at h
  · obtain rfl := kindD_int hk
    cases hx; cases hy
    split at h
    · rename_i e; subst e
      simp only [Option.some.injEq] at h
      simp only [Instr.sameNow, if_true, Option.some.injEq]
      rw [← h]; exact Bool.beq_eq_decide_eq _ _
    · cases h
  · obtain rfl := kindD_str hk
    cases hx with
    | str _ s e => cases hy with
      | str _ s' e' =>
        simp only [Option.some.injEq] at h
        simp only [Instr.sameNow, Option.some.injEq]
        rw [beq_bytes, e, e', h]
  · obtain rfl := kindD_bool hk
    cases hx; cases hy
    simpa [Instr.sameNow] using h
  · cases h

def FoundR (κ : Gh) : Option (Nat × AV) → Option (Nat × Value) → Prop
  | none, none => True
  | some (i, a), some (j, v) => i = j ∧ VR κ a v
  | _, _ => False

theorem findKeyA_ok {kind : TK} {d : TypeDesc} (hk : kindD d = some kind) {x : AV} {u : Value} (hx : VR κ x u) {es : List (AV × AV)} {E : List MapEntry} (hE : EntR κ es E) :
    ∀ (i : Nat) (r : Option (Nat × AV)), findKeyA kind x es i = some r → ∃ r', Instr.findNow d u E i = some r' ∧ FoundR κ r r' := by
  induction hE with
  | nil => intro i r h; simp only [findKeyA, Option.some.injEq] at h; subst h; exact ⟨none, rfl, trivial⟩
  | cons k v e l m hk' hv' _ ih =>
    intro i r h
    simp only [findKeyA] at h
    cases hs : sameKey kind x k with
    | none => simp [hs] at h
    | some b =>
      have := sameKey_ok hk hx hk' hs
      cases b with
      | true =>
        simp only [hs, Option.some.injEq] at h; subst h
        exact ⟨some (i, e.val), by simp [Instr.findNow, this], rfl, hv'⟩
      | false =>
        simp only [hs] at h
        obtain ⟨r', h1, h2⟩ := ih (i + 1) r h
        exact ⟨r', by simp [Instr.findNow, this, h1], h2⟩

theorem fitsKey_check {kind : TK} {t : TypeId} {d : TypeDesc} (hd : P.underlying t = some d) (hk : kindD d = some kind) {x : AV} {u : Value} (hx : VR κ x u) (hf : fitsKey kind x = true) (e : Bool) (w : World) :
    (Instr.checkKey e 10000 t u).run P w = .ok () w := by
  have key : ∀ n, (Instr.checkKey e (n + 1) t u).run P w = .ok () w := by
    intro n
    unfold fitsKey at hf
    split at hf
    · obtain rfl := kindD_int hk; cases hx; simp [Instr.checkKey, run_underlying hd]
    · obtain rfl := kindD_str hk; cases hx; simp [Instr.checkKey, run_underlying hd]
    · obtain rfl := kindD_bool hk; cases hx; simp [Instr.checkKey, run_underlying hd]
    · cases hf
  exact key 9999

theorem run_findKey {kind : TK} {t : TypeId} {d : TypeDesc} (hd : P.underlying t = some d) (hk : kindD d = some kind) {x : AV} {u : Value} (hx : VR κ x u) {es : List (AV × AV)} {E : List MapEntry} (hE : EntR κ es E)
    {r : Option (Nat × AV)} (h : findKeyA kind x es 0 = some r) (w : World) : ∃ r', (Instr.findKey t u E).run P w = .ok r' w ∧ FoundR κ r r' := by
  obtain ⟨r', h1, h2⟩ := findKeyA_ok hk hx hE 0 r h
  exact ⟨r', by simp [Instr.findKey, run_underlying hd, h1], h2⟩

theorem run_getObj {i : Nat} {o : Obj} (h : w.heap[i]? = some o) (hc : ∀ c e f, o ≠ .cells c e f) : (getObj i).run P w = .ok o w := by
  unfold getObj
  simp only [Sem.run, h]
  try (cases o <;> first | rfl | exact absurd rfl (hc _ _ _))

theorem entriesOf_ok (S : Sim κ w0 h w) {m : AV} {v : Value} (hm : VR κ m v) {es : List (AV × AV)} (he : entriesOf h m = some es) :
    (v = .map none ∧ es = []) ∨ ∃ b E clock, v = .map (some b) ∧ w.heap[b]? = some (.map E clock) ∧ EntR κ es E.toList := by
  cases hm <;> simp only [entriesOf, Option.some.injEq] at he <;> try (cases he; done)
  case mnil => exact .inl ⟨rfl, he.symm⟩
  case map id b hb =>
    split at he
    · rename_i es' ho
      simp only [Option.some.injEq] at he; subst he
      obtain ⟨E, hx, hr, _⟩ := S.map _ _ _ _ _ ho hb
      exact .inr ⟨b, E, _, rfl, hx, hr⟩
    · cases he

theorem lookupA_ok (K : TOk P T) (S : Sim κ w0 h w) {t : TypeId} {m k r : AV} {u v : Value} {ok : Bool} (hm : VR κ m u) (hkv : VR κ k v) (hr : lookupA T h t m k ok = some r) :
    ∃ q, (Instr.lookup t u v ok).run P w = .ok q w ∧ VR κ r q := by
  unfold lookupA at hr
  split at hr
  · rename_i kt et s b z q ht
    obtain ⟨d, hd, hk⟩ := K.und t _ ht
    obtain rfl := kindD_map hk
    cases hki : T.get kt with
    | none => simp [hki] at hr
    | some ki =>
      cases hei : T.get et with
      | none => simp [hki, hei] at hr
      | some ei =>
        simp only [hki, hei, Option.bind_some] at hr
        split at hr
        · rename_i hf
          obtain ⟨kd, hkd, hkk⟩ := K.und kt _ hki
          cases hes : entriesOf h m with
          | none => simp [hes] at hr
          | some es =>
            simp only [hes, Option.bind_some] at hr
            cases hfk : findKeyA ki.kind k es 0 with
            | none => simp [hfk] at hr
            | some fr' =>
              simp only [hfk] at hr
              have hmain : ∀ E : Array MapEntry, EntR κ es E.toList → (u = .map none ∧ E = #[] ∨ ∃ b c, u = .map (some b) ∧ w.heap[b]? = some (.map E c)) →
                  ∃ q, (Instr.lookup t u v ok).run P w = .ok q w ∧ VR κ r q := by
                intro E hE hu
                obtain ⟨r', h1, h2⟩ := run_findKey (P := P) hkd hkk hkv hE hfk w
                cases fr' with
                | none =>
                  cases r' with
                  | some _ => exact h2.elim
                  | none =>
                    cases hzo : zeroOf ei with
                    | none => simp [hzo] at hr
                    | some zv =>
                      simp only [hzo, Option.map_some, Option.some.injEq] at hr; subst hr
                      obtain ⟨z', hz, _, hzv⟩ := zero_ok K hei κ w
                      have hz' := hzv _ hzo
                      refine ⟨if ok then .tuple #[z', .bool false] else z', ?_, ?_⟩
                      · rcases hu with ⟨rfl, rfl⟩ | ⟨b, c, rfl, hx⟩
                        · simp only [List.toList_toArray] at h1
                          simp [Instr.lookup, run_underlying hd, fitsKey_check hkd hkk hkv hf, h1, hz]
                        · simp [Instr.lookup, run_underlying hd, run_getObj hx (by simp), fitsKey_check hkd hkk hkv hf, h1, hz]
                      · cases ok with
                        | true => exact .tup _ _ (.cons _ _ _ _ hz' (.cons _ _ _ _ (.bool _) .nil))
                        | false => exact hz'
                | some p =>
                  obtain ⟨i, av⟩ := p
                  cases r' with
                  | none => exact h2.elim
                  | some p' =>
                    obtain ⟨j, v'⟩ := p'
                    simp only [Option.some.injEq] at hr; subst hr
                    refine ⟨if ok then .tuple #[v', .bool true] else v', ?_, ?_⟩
                    · rcases hu with ⟨rfl, rfl⟩ | ⟨b, c, rfl, hx⟩
                      · simp only [List.toList_toArray] at h1
                        simp [Instr.lookup, run_underlying hd, fitsKey_check hkd hkk hkv hf, h1]
                      · simp [Instr.lookup, run_underlying hd, run_getObj hx (by simp), fitsKey_check hkd hkk hkv hf, h1]
                    · cases ok with
                      | true => exact .tup _ _ (.cons _ _ _ _ h2.2 (.cons _ _ _ _ (.bool _) .nil))
                      | false => exact h2.2
              rcases entriesOf_ok S hm hes with ⟨rfl, rfl⟩ | ⟨b, E, c, rfl, hx, hE⟩
              · exact hmain #[] .nil (.inl ⟨rfl, rfl⟩)
              · exact hmain E hE (.inr ⟨b, c, rfl, hx⟩)
        · cases hr
  · cases hr

theorem EntR.length {κ : Gh} {l : List (AV × AV)} {m : List MapEntry} (h : EntR κ l m) : l.length = m.length := by
  induction h with
  | nil => rfl
  | cons _ _ _ _ _ _ _ _ ih => simp [ih]

theorem lenOfA_ok (K : TOk P T) (S : Sim κ w0 h w) {t : TypeId} {x r : AV} {v : Value} (hx : VR κ x v) (hr : lenOfA T h t x = some r) (ts : Array TypeId) (hts : ts[0]? = some t) (ty : TypeId) :
    ∃ q, (Builtin.len_ ts ty #[v]).run P w = .ok q w ∧ VR κ r q := by
  unfold lenOfA at hr
  split at hr
  · rename_i s b z q ht
    obtain ⟨d, hd, hk⟩ := K.und t _ ht
    obtain rfl := kindD_str hk
    cases hx <;> simp only [Option.some.injEq] at hr <;> try (cases hr; done)
    subst hr
    rename_i l s' e
    refine ⟨goInt s'.size, by simp [Builtin.len_, hts, run_underlying hd], ?_⟩
    rw [← e, List.length_map, ← size_data]
    exact .int _ _
  · rename_i e s b z q ht
    obtain ⟨d, hd, hk⟩ := K.und t _ ht
    obtain rfl := kindD_slice hk
    cases hx <;> simp only [Option.some.injEq] at hr <;> try (cases hr; done)
    all_goals subst hr; exact ⟨_, by simp [Builtin.len_, hts, run_underlying hd]; rfl, .int _ _⟩
  · rename_i n e s b z q ht
    obtain ⟨d, hd, hk⟩ := K.und t _ ht
    obtain rfl := kindD_arr hk
    simp only [Option.some.injEq] at hr; subst hr
    exact ⟨goInt n, by simp [Builtin.len_, hts, run_underlying hd], .int _ _⟩
  · rename_i k e s b z q ht
    obtain ⟨d, hd, hk⟩ := K.und t _ ht
    obtain rfl := kindD_map hk
    cases hes : entriesOf h x with
    | none => simp [hes] at hr
    | some es =>
      simp only [hes, Option.map_some, Option.some.injEq] at hr; subst hr
      rcases entriesOf_ok S hx hes with ⟨rfl, rfl⟩ | ⟨b, E, c, rfl, hx', hE⟩
      · exact ⟨goInt 0, by simp [Builtin.len_, hts, run_underlying hd], .int _ _⟩
      · refine ⟨goInt E.size, by simp [Builtin.len_, hts, run_underlying hd, run_getObj hx' (by simp)], ?_⟩
        rw [hE.length, Array.length_toList]
        exact .int _ _
  · cases hr
end
end Go.Ab
