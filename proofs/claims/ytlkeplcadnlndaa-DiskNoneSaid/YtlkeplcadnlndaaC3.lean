/- slices.Collect of the keys of a map of one entry. Conditions: none. -/
import Derived.Test.YtlkeplcadnlndaaC2
import Derived.Test.YtlkeplcadnlndaaPlain
import Derived.StringKeys
set_option linter.unusedSimpArgs false
set_option linter.unusedVariables false
set_option autoImplicit false
set_option linter.unusedVariables false
namespace Go.Ab
open Go.Proofs
open Go.RowKit (Below)
open Go.Maps Go.Sort Go.Shelf

/-- slices.Collect of maps.Keys' iterator over a map of one entry. -/
def G74 : AFn
  | [.fn 76 [.ptr p 0]], h =>
    match h.get p with
    | some (.row [.map m] none _ _) =>
      match h.get m with
      | some (.map [(.str k, _)] [b] ck) => if k.length ≤ 1000 then some (.sl h.next 0 1 none, h.new (.row [.str k] (some 1) false [])) else none
      | _ => none
    | _ => none
  | _, _ => none

abbrev anyR : Value → Option (DataW Unit × List MemPlace) := fun _ => some (.lit (.bool true), [])

theorem own_one {w : World} {b : Nat} {e : MapEntry} {ck : Nat} {s : ByteArray} (hb : w.heap[b]? = some (.map #[e] ck)) (hk : e.key = .string s) (hs : s.size ≤ maxLen) (hlt : e.born < ck) :
    w.ownsMap Try.prog 9 anyR b 1 (.map [(.string s.data.toList, .lit (.bool true))]) := by
  have hkey : keyOf Try.prog 9 e.key = some (.string s.data.toList) := by rw [hk]; exact WideMaps.keyOf_string_mk Try.underlying9 hs
  have hrd : WideElems.rd Try.prog 9 anyR e = some (.string s.data.toList, .lit (.bool true)) := by simp [WideElems.rd, hkey]
  refine ⟨#[e], ck, hb, ⟨by simp [maxLen], ⟨by simpa using hlt, by simp, by simp⟩, by simpa using ⟨_, _, hrd⟩⟩, by simp, ?_⟩
  simp [WideElems.rg, hrd, DataW.insert]

theorem collect74 {w : World} {Bm b ck : Nat} {e : MapEntry} {s : ByteArray} (hBm : w.cell? ⟨Bm, 0, none⟩ = some (.map (some b))) (hlt : Bm < w.heap.size) (hb : w.heap[b]? = some (.map #[e] ck)) (hk : e.key = .string s) (hs : s.size ≤ 1000) (hlt' : e.born < ck) :
    Calls Try.prog 74 #[.func (.func 76) #[] #[.pointer (some ⟨Bm, 0, none⟩)]] w fun e w' => ∃ g cap cur, e = .returned (.slice (some ⟨g, 0, none⟩) 1 cap) ∧ w.heap.size ≤ g ∧ w'.heap[g]? = some (.cells cur 9 (0, 0)) ∧ 1 ≤ cap ∧ cur.size = cap ∧ cur.toList.take 1 = [.string s] ∧ Below w.heap.size w w' := by
  have hml : (1000 : Nat) ≤ maxLen := by simp [maxLen]
  have hown := own_one hb hk (Nat.le_trans hs hml) hlt'
  have hseq := AnyZ.keys_gives (ρ := Try.keys43_ren) { Try.keys43 with } Fence.wide 3 trivial rfl (by omega) Bm b 1 _ w hlt hBm hown
  have h := AnyZ.collect_in Try.collect74 Fence.wide 5 trivial trivial rfl (by omega) 76 #[.pointer (some ⟨Bm, 0, none⟩)] trivial (enters_of Try.func76 (by kernel_rfl) rfl) _ _ (Nat.le_trans (by simp [Maps.size]) hml) (by simp [Maps.size]) w hseq
  refine (callsIn_wide.1 h).mono ?_
  rintro e' w' ⟨v, ss, rfl, hperm, hrow, hnil, hbel⟩
  have hss : ss = [s.data.toList] := by
    have : strKeys (H := Unit) (.map [(.string s.data.toList, .lit (.bool true))]) = [s.data.toList] := rfl
    rw [this] at hperm
    exact List.perm_singleton.1 hperm
  subst hss
  rcases hrow.2 with ⟨_, hz⟩ | ⟨g, cap, cur, rfl, h1, h2, h3, h4, h5, h6⟩
  · simp at hz
  · refine ⟨g, cap, cur, rfl, h1, h2, h3, by simpa using h5, ?_, hbel⟩
    simpa [encStr] using h6

set_option maxRecDepth 100000 in
theorem s74 : Sound Try.prog 74 G74 := by
  refine ⟨⟨Try.f74, rfl, rfl, rfl⟩, ?_⟩
  intro args h h' r hr κ w0 w vals S hargs
  unfold G74 at hr
  split at hr
  · rename_i p
    split at hr
    · rename_i m st anc hp
      split at hr
      · rename_i k v b0 ck hm
        split at hr
        · rename_i hkl
          simp only [Option.some.injEq, Prod.mk.injEq] at hr
          obtain ⟨rfl, rfl⟩ := hr
          obtain ⟨vals⟩ := vals
          cases hargs with
          | cons _ fv _ l hv hl =>
            cases hl
            cases hv with
            | fn _ _ cs hcs =>
              obtain ⟨cs⟩ := cs
              cases hcs with
              | cons _ pv _ l2 hpv hl2 =>
                cases hl2
                cases hpv with
                | ptr _ _ g hg =>
                  obtain ⟨C, TT, lo, hi, hx, hsz, hf, hvr, hall, hes, hbase⟩ := S.row _ _ _ _ _ _ hp hg
                  have hb0 := hbase rfl
                  rw [hb0] at hvr
                  simp only [List.drop_zero, List.length_singleton] at hvr
                  cases hC : C.toList with
                  | nil => rw [hC] at hvr; cases hvr
                  | cons c0 Cs =>
                    rw [hC] at hvr
                    simp only [List.take_succ_cons, List.take_zero] at hvr
                    cases hvr with
                    | cons _ _ _ _ hmv _ =>
                      cases hmv with
                      | map _ b hb =>
                        obtain ⟨E, hxe, hE, hbs, hB⟩ := S.map _ _ _ _ _ hm hb
                        obtain ⟨E⟩ := E
                        cases hE with
                        | cons _ _ e _ El hke hve rest =>
                          cases rest
                          generalize hek : e.key = ek at hke
                          cases hke with
                          | str _ s hs =>
                            have hssz : s.size ≤ 1000 := by
                              have : s.size = k.length := by rw [← hs, List.length_map]; rfl
                              omega
                            have hcell : w.cell? ⟨g.b, 0, none⟩ = some (.map (some b)) := by
                              have : C[0]? = some (.map (some b)) := by rw [← Array.getElem?_toList, hC]; rfl
                              simp only [World.cell?, hx, this]; rfl
                            have hlt : e.born < ck := hB.2 e (by simp)
                            have hgl : g.b < w.heap.size := (Array.getElem?_eq_some_iff.1 hx).1
                            have hcall := collect74 hcell hgl hxe hek hssz hlt
                            simp only [hb0, Nat.add_zero]
                            refine hcall.mono ?_
                            rintro ee w' ⟨g0, cap, cur, rfl, h1, h2, h3, h4, h5, hbel⟩
                            obtain ⟨f1, f2, _⟩ := S.fresh h.next (Nat.le_refl _)
                            have S1 := S.grown hbel
                            have S2 := S1.pend (o := .row [.str k] (some 1) false []) (fun cells ext stale anc e i hi => by cases e; cases hi)
                            have hcur : VRL κ [.str k] (cur.toList.take 1) := by rw [h5]; exact .cons _ _ _ _ (.str k s hs) .nil
                            have S3 := S2.placeAt (i := h.next) (esz := 1) (Heap.get_new_self _ _) f1 (Nat.le_trans S.below.size h1) h2 (.inl rfl)
                              (fun j c e s a gj hj hgj hbb => by
                                by_cases hjn : j = h.next
                                · subst hjn; rw [hgj] at f1; cases f1
                                · rw [Heap.get_new_ne _ _ hjn] at hj
                                  have := (S.row j c e s a gj hj hgj).lt
                                  omega)
                              (by
                                cases hi : κ.im g0 with
                                | none => rfl
                                | some C' =>
                                  obtain ⟨T', fz, hx'⟩ := S.im _ _ hi
                                  have := (Array.getElem?_eq_some_iff.1 hx').1
                                  omega)
                              (by simpa using hcur) rfl (fun z e => by cases e; rfl)
                            refine ⟨_, _, rfl, ⟨Gh.le_setRow f1, fun j hj => ⟨by simp [Gh.setRow, Nat.ne_of_lt hj], rfl⟩, S3, fun j hj _ _ => Heap.get_new_ne _ _ (by omega), by simp⟩, ?_⟩
                            exact .sl _ _ _ _ _ ⟨g0, 0, cur.size, 1⟩ _ (by simp [Gh.setRow]) h3 (fun _ e => by cases e) (fun _ => by simp [h4]) (fun _ => rfl)
        · cases hr
      · cases hr
    · cases hr
  · cases hr
end Go.Ab
