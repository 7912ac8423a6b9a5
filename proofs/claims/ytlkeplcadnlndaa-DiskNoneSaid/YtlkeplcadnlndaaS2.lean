/- Printed by a program of the session's own: shallow forms of the program's functions, and that the machine answers as they do. Conditions: none. -/
import Derived.Test.YtlkeplcadnlndaaC3
import Derived.Test.YtlkeplcadnlndaaAb26
import Derived.KernelRfl
set_option linter.unusedSimpArgs false
set_option linter.unusedVariables false
set_option autoImplicit false
set_option linter.unusedVariables false
namespace Go.Ab
open Go.Proofs
/- 11: (*delphi/disk.Disk).Append -/
def L11 : PM (List Nat) := .node (.node (.node (.node (.node (.leaf) (some [6]) (.leaf)) (some [0, 1, 2, 10]) (.leaf)) (some [0, 1, 2, 7]) (.node (.leaf) (some [0, 1, 2, 14]) (.leaf))) (some [0, 1, 2]) (.node (.node (.node (.leaf) (some [6]) (.leaf)) (some [6]) (.leaf)) (some [6]) (.node (.leaf) (some [0, 1, 2, 14]) (.leaf)))) (some [0, 1, 2]) (.node (.node (.node (.node (.leaf) (some [0, 1, 2]) (.leaf)) (some []) (.leaf)) (some []) (.node (.leaf) (some [0, 1, 2]) (.leaf))) (some [0, 1, 2]) (.node (.node (.leaf) (some [0, 1, 2]) (.leaf)) (some [0, 1, 2]) (.node (.leaf) (some []) (.leaf))))
noncomputable def PH11 : List (Nat × AFn) := [(20, G20), (36, G36), (37, G37), (38, G38), (39, G39)]
noncomputable def E11 : Code → Kont → Fr → Heap → Rs := ev T PH11 L11 fuel
noncomputable def C11_0 : Code := bodyOf Try.f11
noncomputable def C11_1 : Code := cl C11_0
noncomputable def C11_2 : Code := cr C11_0
noncomputable def K11_0 : Kont := kSeq (E11 C11_2 (kFin T Try.f11.results.toList)) (kFin T Try.f11.results.toList)
noncomputable def R11_0 (t0 t1 t2 : AV) (h : Heap) (k : AV → AV → AV → Heap → Rs) : Rs :=
  k t0 t1 t2 h
noncomputable def C11_3 : Code := cl C11_2
noncomputable def C11_4 : Code := cr C11_2
noncomputable def K11_1 : Kont := kSeq (E11 C11_4 (kFin T Try.f11.results.toList)) (kFin T Try.f11.results.toList)
noncomputable def C11_5 : Code := cl C11_3
noncomputable def K11_2 : Kont := kBlock 0 K11_1
noncomputable def C11_6 : Code := cl C11_5
noncomputable def C11_7 : Code := cr C11_5
noncomputable def K11_3 : Kont := kSeq (E11 C11_7 K11_2) K11_2
noncomputable def R11_1 (t0 t1 t2 : AV) (h : Heap) (k : AV → AV → AV → AV → Heap → Rs) : Rs :=
  pureK (binOpA T .eql 24 t0 AV.pnil) h fun v1 h1 =>
  k t0 t1 t2 v1 h1
noncomputable def C11_8 : Code := cl C11_7
noncomputable def C11_9 : Code := cr C11_7
noncomputable def C11_10 : Code := cl C11_8
noncomputable def C11_11 : Code := cr C11_8
noncomputable def K11_4 : Kont := kSeq (E11 C11_11 K11_2) K11_2
noncomputable def C11_12 : Code := cl C11_9
noncomputable def C11_13 : Code := cr C11_9
noncomputable def K11_5 : Kont := kSeq (E11 C11_13 K11_2) K11_2
noncomputable def R11_2 (h : Heap) (k : AV → Heap → Rs) : Rs :=
  k (AV.int .i64 1) h
noncomputable def G11_2 (h : Heap) : Rs := R11_2 h fun t6 h => some (t6, h)
noncomputable def R11_3 (t0 t1 t2 : AV) (h : Heap) (k : AV → AV → AV → AV → Heap → Rs) : Rs :=
  efK (G36 [t1] h) fun v1 h1 =>
  pureK (unOpA .not v1) h1 fun v2 h2 =>
  k t0 t1 t2 v2 h2
noncomputable def C11_14 : Code := cl C11_13
noncomputable def C11_15 : Code := cr C11_13
noncomputable def C11_16 : Code := cl C11_14
noncomputable def C11_17 : Code := cr C11_14
noncomputable def K11_6 : Kont := kSeq (E11 C11_17 K11_2) K11_2
noncomputable def C11_18 : Code := cl C11_15
noncomputable def C11_19 : Code := cr C11_15
noncomputable def K11_7 : Kont := kSeq (E11 C11_19 K11_2) K11_2
noncomputable def C11_20 : Code := cl C11_18
noncomputable def C11_21 : Code := cr C11_18
noncomputable def K11_8 : Kont := kSeq (E11 C11_21 K11_7) K11_7
noncomputable def R11_4 (h : Heap) (k : AV → Heap → Rs) : Rs :=
  k (AV.int .i64 3) h
noncomputable def G11_4 (h : Heap) : Rs := R11_4 h fun t6 h => some (t6, h)
noncomputable def R11_5 (t0 t1 t2 : AV) (h : Heap) (k : AV → AV → AV → AV → Heap → Rs) : Rs :=
  pureK (lenSl t2) h fun v1 h1 =>
  pureK (nilck t0) h1 fun v3 h3 =>
  pureK (faddr 0 v3) h3 fun v4 h4 =>
  pureK (ldV h4 v4) h4 fun v5 h5 =>
  efK (G20 [t0] h5) fun v7 h7 =>
  pureK (binOpA T .sub 3 v5 v7) h7 fun v8 h8 =>
  pureK (binOpA T .gtr 3 v1 v8) h8 fun v9 h9 =>
  chkK (optBeq (lenSl t2) (lenSl t2) && (optBeq (ldV h7 v4) (ldV h4 v4) && true)) (k t0 t1 t2 v9 h9)
noncomputable def C11_22 : Code := cl C11_21
noncomputable def C11_23 : Code := cr C11_21
noncomputable def C11_24 : Code := cl C11_19
noncomputable def C11_25 : Code := cr C11_19
noncomputable def C11_26 : Code := cl C11_24
noncomputable def C11_27 : Code := cr C11_24
noncomputable def K11_9 : Kont := kSeq (E11 C11_27 K11_2) K11_2
noncomputable def C11_28 : Code := cl C11_4
noncomputable def C11_29 : Code := cr C11_4
noncomputable def K11_10 : Kont := kSeq (E11 C11_29 (kFin T Try.f11.results.toList)) (kFin T Try.f11.results.toList)
noncomputable def R11_7 (h : Heap) (k : AV → Heap → Rs) : Rs :=
  k (AV.int .i64 2) h
noncomputable def G11_7 (h : Heap) : Rs := R11_7 h fun t6 h => some (t6, h)
noncomputable def R11_8 (t0 t1 t2 : AV) (h : Heap) (k : AV → Heap → Rs) : Rs :=
  efK (G39 [t2] h) fun v3 h3 =>
  pureK (bldP [(AV.int .i64 0), (AV.str []), (AV.str []), (AV.snil), (AV.int .i64 0)] [(0, 1, (AV.int .i64 0)), (1, 1, t1), (3, 1, v3)]) h3 fun v4 h4 =>
  efK (G38 [t0, v4] h4) fun v5 h5 =>
  k v5 h5
noncomputable def G11_8 (t0 t1 t2 : AV) (h : Heap) : Rs := R11_8 t0 t1 t2 h fun t6 h => some (t6, h)
noncomputable def R11_6 (t0 t1 t2 : AV) (h : Heap) (k : AV → AV → AV → AV → Heap → Rs) : Rs :=
  efK (G37 [t0, t1] h) fun v2 h2 =>
  pureK (unOpA .not v2) h2 fun v3 h3 =>
  gcase v3
    (
      pureK (nilck t0) h3 fun v6 h6 =>
      pureK (faddr 2 v6) h6 fun v7 h7 =>
      pureK (ldV h7 v7) h7 fun v8 h8 =>
      pureK (lenMap h8 v8) h8 fun v9 h9 =>
      pureK (binOpA T .geq 3 v9 (AV.int .i64 64)) h9 fun v10 h10 =>
      k t0 t1 t2 v10 h10)
    (
      k t0 t1 t2 (AV.bool false) h3)
    (
      none)
noncomputable def G11_6 (t0 t1 t2 : AV) (h : Heap) : Rs := R11_6 t0 t1 t2 h fun t0 t1 t2 t14 h => bcase t14 (G11_7 h) (G11_8 t0 t1 t2 h)
noncomputable def G11_5 (t0 t1 t2 : AV) (h : Heap) : Rs := R11_5 t0 t1 t2 h fun t0 t1 t2 t14 h => bcase t14 (bcase t14 (G11_7 h) (G11_8 t0 t1 t2 h)) (G11_6 t0 t1 t2 h)
noncomputable def G11_3 (t0 t1 t2 : AV) (h : Heap) : Rs := R11_3 t0 t1 t2 h fun t0 t1 t2 t10 h => bcase t10 (G11_4 h) (G11_5 t0 t1 t2 h)
noncomputable def G11_1 (t0 t1 t2 : AV) (h : Heap) : Rs := R11_1 t0 t1 t2 h fun t0 t1 t2 t7 h => bcase t7 (G11_2 h) (G11_3 t0 t1 t2 h)
noncomputable def G11_0 (t0 t1 t2 : AV) (h : Heap) : Rs := R11_0 t0 t1 t2 h fun t0 t1 t2 h => G11_1 t0 t1 t2 h
noncomputable def G11 : AFn
  | [t0, t1, t2], h => G11_0 t0 t1 t2 h
  | _, _ => none
theorem q11_0 (fr : Fr) (h : Heap) : E11 C11_0 (kFin T Try.f11.results.toList) fr h = E11 C11_1 K11_0 fr h := stepSeq (by kernel_rfl) _ _ _
theorem r11_0 (K : Kont) (t0 t1 t2 : AV) (h : Heap) : E11 C11_1 K (frOf 43 [(0,t0),(1,t1),(2,t2)]) h = R11_0 t0 t1 t2 h (fun t0 t1 t2 h => K .normal (frOf 43 [(0,t0),(1,t1),(2,t2)]) h) := by kernel_rfl
theorem n11_1 (fr : Fr) (h : Heap) : K11_0 .normal fr h = E11 C11_2 (kFin T Try.f11.results.toList) fr h := kSeq_n _ _ _ _
theorem q11_2 (fr : Fr) (h : Heap) : E11 C11_2 (kFin T Try.f11.results.toList) fr h = E11 C11_3 K11_1 fr h := stepSeq (by kernel_rfl) _ _ _
theorem q11_3 (fr : Fr) (h : Heap) : E11 C11_3 K11_1 fr h = E11 C11_5 K11_2 fr h := stepBlock (by kernel_rfl) _ _ _
theorem q11_4 (fr : Fr) (h : Heap) : E11 C11_5 K11_2 fr h = E11 C11_6 K11_3 fr h := stepSeq (by kernel_rfl) _ _ _
theorem r11_1 (K : Kont) (t0 t1 t2 : AV) (h : Heap) : E11 C11_6 K (frOf 43 [(0,t0),(1,t1),(2,t2)]) h = R11_1 t0 t1 t2 h (fun t0 t1 t2 t7 h => K .normal (frOf 43 [(0,t0),(1,t1),(2,t2),(7,t7)]) h) := by kernel_rfl
theorem n11_5 (fr : Fr) (h : Heap) : K11_3 .normal fr h = E11 C11_7 K11_2 fr h := kSeq_n _ _ _ _
theorem q11_6 (fr : Fr) (h : Heap) : E11 C11_8 K11_2 fr h = E11 C11_10 K11_4 fr h := stepSeq (by kernel_rfl) _ _ _
theorem q11_7 (fr : Fr) (h : Heap) : E11 C11_9 K11_2 fr h = E11 C11_12 K11_5 fr h := stepSeq (by kernel_rfl) _ _ _
theorem r11_2 (K : Kont) (h : Heap) : E11 C11_10 K (frOf 43 []) h = R11_2 h (fun t6 h => K .normal (frOf 43 [(6,t6)]) h) := by kernel_rfl
theorem n11_8 (fr : Fr) (h : Heap) : K11_4 .normal fr h = E11 C11_11 K11_2 fr h := kSeq_n _ _ _ _
theorem b11_2 (h : Heap) : E11 C11_10 K11_4 (frOf 43 []) h = G11_2 h :=
  (r11_2 K11_4 h).trans (congrArg (R11_2 h) (funext fun t6 => funext fun h => (Eq.trans (n11_8 _ _) (Eq.trans (stepRet (by kernel_rfl) K11_2 _ _) (Eq.trans (kBlock_r _ _ _ _) (Eq.trans (kSeq_r _ _ _ _) (by kernel_rfl)))))))
theorem r11_3 (K : Kont) (t0 t1 t2 : AV) (h : Heap) : E11 C11_12 K (frOf 43 [(0,t0),(1,t1),(2,t2)]) h = R11_3 t0 t1 t2 h (fun t0 t1 t2 t10 h => K .normal (frOf 43 [(0,t0),(1,t1),(2,t2),(10,t10)]) h) := by kernel_rfl
theorem n11_9 (fr : Fr) (h : Heap) : K11_5 .normal fr h = E11 C11_13 K11_2 fr h := kSeq_n _ _ _ _
theorem q11_10 (fr : Fr) (h : Heap) : E11 C11_14 K11_2 fr h = E11 C11_16 K11_6 fr h := stepSeq (by kernel_rfl) _ _ _
theorem q11_11 (fr : Fr) (h : Heap) : E11 C11_15 K11_2 fr h = E11 C11_18 K11_7 fr h := stepSeq (by kernel_rfl) _ _ _
theorem q11_12 (fr : Fr) (h : Heap) : E11 C11_18 K11_7 fr h = E11 C11_20 K11_8 fr h := stepSeq (by kernel_rfl) _ _ _
theorem r11_4 (K : Kont) (h : Heap) : E11 C11_16 K (frOf 43 []) h = R11_4 h (fun t6 h => K .normal (frOf 43 [(6,t6)]) h) := by kernel_rfl
theorem n11_13 (fr : Fr) (h : Heap) : K11_6 .normal fr h = E11 C11_17 K11_2 fr h := kSeq_n _ _ _ _
theorem b11_4 (h : Heap) : E11 C11_16 K11_6 (frOf 43 []) h = G11_4 h :=
  (r11_4 K11_6 h).trans (congrArg (R11_4 h) (funext fun t6 => funext fun h => (Eq.trans (n11_13 _ _) (Eq.trans (stepRet (by kernel_rfl) K11_2 _ _) (Eq.trans (kBlock_r _ _ _ _) (Eq.trans (kSeq_r _ _ _ _) (by kernel_rfl)))))))
theorem r11_5 (K : Kont) (t0 t1 t2 : AV) (h : Heap) : E11 C11_20 K (frOf 43 [(0,t0),(1,t1),(2,t2)]) h = R11_5 t0 t1 t2 h (fun t0 t1 t2 t14 h => K .normal (frOf 43 [(0,t0),(1,t1),(2,t2),(14,t14)]) h) := by kernel_rfl
theorem n11_14 (fr : Fr) (h : Heap) : K11_8 .normal fr h = E11 C11_21 K11_7 fr h := kSeq_n _ _ _ _
theorem n11_15 (fr : Fr) (h : Heap) : K11_7 .normal fr h = E11 C11_19 K11_2 fr h := kSeq_n _ _ _ _
theorem q11_16 (fr : Fr) (h : Heap) : E11 C11_24 K11_2 fr h = E11 C11_26 K11_9 fr h := stepSeq (by kernel_rfl) _ _ _
theorem n11_17 (fr : Fr) (h : Heap) : K11_1 .normal fr h = E11 C11_4 (kFin T Try.f11.results.toList) fr h := kSeq_n _ _ _ _
theorem q11_18 (fr : Fr) (h : Heap) : E11 C11_4 (kFin T Try.f11.results.toList) fr h = E11 C11_28 K11_10 fr h := stepSeq (by kernel_rfl) _ _ _
theorem r11_7 (K : Kont) (h : Heap) : E11 C11_26 K (frOf 43 []) h = R11_7 h (fun t6 h => K .normal (frOf 43 [(6,t6)]) h) := by kernel_rfl
theorem n11_19 (fr : Fr) (h : Heap) : K11_9 .normal fr h = E11 C11_27 K11_2 fr h := kSeq_n _ _ _ _
theorem b11_7 (h : Heap) : E11 C11_26 K11_9 (frOf 43 []) h = G11_7 h :=
  (r11_7 K11_9 h).trans (congrArg (R11_7 h) (funext fun t6 => funext fun h => (Eq.trans (n11_19 _ _) (Eq.trans (stepRet (by kernel_rfl) K11_2 _ _) (Eq.trans (kBlock_r _ _ _ _) (Eq.trans (kSeq_r _ _ _ _) (by kernel_rfl)))))))
theorem r11_8 (K : Kont) (t0 t1 t2 : AV) (h : Heap) : E11 C11_28 K (frOf 43 [(0,t0),(1,t1),(2,t2)]) h = R11_8 t0 t1 t2 h (fun t6 h => K .normal (frOf 43 [(6,t6)]) h) := by kernel_rfl
theorem n11_20 (fr : Fr) (h : Heap) : K11_10 .normal fr h = E11 C11_29 (kFin T Try.f11.results.toList) fr h := kSeq_n _ _ _ _
theorem b11_8 (t0 t1 t2 : AV) (h : Heap) : E11 C11_28 K11_10 (frOf 43 [(0,t0),(1,t1),(2,t2)]) h = G11_8 t0 t1 t2 h :=
  (r11_8 K11_10 t0 t1 t2 h).trans (congrArg (R11_8 t0 t1 t2 h) (funext fun t6 => funext fun h => (Eq.trans (n11_20 _ _) (Eq.trans (stepRet (by kernel_rfl) (kFin T Try.f11.results.toList) _ _) (by kernel_rfl)))))
theorem r11_6 (K : Kont) (t0 t1 t2 : AV) (h : Heap) : E11 C11_23 K (frOf 43 [(0,t0),(1,t1),(2,t2)]) h = R11_6 t0 t1 t2 h (fun t0 t1 t2 t14 h => K .normal (frOf 43 [(0,t0),(1,t1),(2,t2),(14,t14)]) h) := by kernel_rfl
theorem b11_6 (t0 t1 t2 : AV) (h : Heap) : E11 C11_23 K11_7 (frOf 43 [(0,t0),(1,t1),(2,t2)]) h = G11_6 t0 t1 t2 h :=
  (r11_6 K11_7 t0 t1 t2 h).trans (congrArg (R11_6 t0 t1 t2 h) (funext fun t0 => funext fun t1 => funext fun t2 => funext fun t14 => funext fun h => (Eq.trans (n11_15 _ _) (Eq.trans (stepCond (c := C11_19) (by kernel_rfl) K11_2 _ _ (v := t14) (by kernel_rfl)) (bcase_congr t14 (Eq.trans (q11_16 _ _) (Eq.trans (stepClean (c := C11_26) (id := 7) (by kernel_rfl) K11_9 _ _ (by kernel_rfl)) (b11_7 h))) (Eq.trans (stepSkip (by kernel_rfl) K11_2 _ _) (Eq.trans (kBlock_n _ _ _ _) (Eq.trans (n11_17 _ _) (Eq.trans (q11_18 _ _) (Eq.trans (stepClean (c := C11_28) (id := 8) (by kernel_rfl) K11_10 _ _ (by kernel_rfl)) (b11_8 t0 t1 t2 h)))))))))))
theorem b11_5 (t0 t1 t2 : AV) (h : Heap) : E11 C11_20 K11_8 (frOf 43 [(0,t0),(1,t1),(2,t2)]) h = G11_5 t0 t1 t2 h :=
  (r11_5 K11_8 t0 t1 t2 h).trans (congrArg (R11_5 t0 t1 t2 h) (funext fun t0 => funext fun t1 => funext fun t2 => funext fun t14 => funext fun h => (Eq.trans (n11_14 _ _) (Eq.trans (stepCond (c := C11_21) (by kernel_rfl) K11_7 _ _ (v := t14) (by kernel_rfl)) (bcase_congr t14 (Eq.trans (stepSkip (by kernel_rfl) K11_7 _ _) (Eq.trans (n11_15 _ _) (Eq.trans (stepCond (c := C11_19) (by kernel_rfl) K11_2 _ _ (v := t14) (by kernel_rfl)) (bcase_congr t14 (Eq.trans (q11_16 _ _) (Eq.trans (stepClean (c := C11_26) (id := 7) (by kernel_rfl) K11_9 _ _ (by kernel_rfl)) (b11_7 h))) (Eq.trans (stepSkip (by kernel_rfl) K11_2 _ _) (Eq.trans (kBlock_n _ _ _ _) (Eq.trans (n11_17 _ _) (Eq.trans (q11_18 _ _) (Eq.trans (stepClean (c := C11_28) (id := 8) (by kernel_rfl) K11_10 _ _ (by kernel_rfl)) (b11_8 t0 t1 t2 h)))))))))) (Eq.trans (stepClean (c := C11_23) (id := 6) (by kernel_rfl) K11_7 _ _ (by kernel_rfl)) (b11_6 t0 t1 t2 h)))))))
theorem b11_3 (t0 t1 t2 : AV) (h : Heap) : E11 C11_12 K11_5 (frOf 43 [(0,t0),(1,t1),(2,t2)]) h = G11_3 t0 t1 t2 h :=
  (r11_3 K11_5 t0 t1 t2 h).trans (congrArg (R11_3 t0 t1 t2 h) (funext fun t0 => funext fun t1 => funext fun t2 => funext fun t10 => funext fun h => (Eq.trans (n11_9 _ _) (Eq.trans (stepCond (c := C11_13) (by kernel_rfl) K11_2 _ _ (v := t10) (by kernel_rfl)) (bcase_congr t10 (Eq.trans (q11_10 _ _) (Eq.trans (stepClean (c := C11_16) (id := 4) (by kernel_rfl) K11_6 _ _ (by kernel_rfl)) (b11_4 h))) (Eq.trans (q11_11 _ _) (Eq.trans (q11_12 _ _) (Eq.trans (stepClean (c := C11_20) (id := 5) (by kernel_rfl) K11_8 _ _ (by kernel_rfl)) (b11_5 t0 t1 t2 h)))))))))
theorem b11_1 (t0 t1 t2 : AV) (h : Heap) : E11 C11_6 K11_3 (frOf 43 [(0,t0),(1,t1),(2,t2)]) h = G11_1 t0 t1 t2 h :=
  (r11_1 K11_3 t0 t1 t2 h).trans (congrArg (R11_1 t0 t1 t2 h) (funext fun t0 => funext fun t1 => funext fun t2 => funext fun t7 => funext fun h => (Eq.trans (n11_5 _ _) (Eq.trans (stepCond (c := C11_7) (by kernel_rfl) K11_2 _ _ (v := t7) (by kernel_rfl)) (bcase_congr t7 (Eq.trans (q11_6 _ _) (Eq.trans (stepClean (c := C11_10) (id := 2) (by kernel_rfl) K11_4 _ _ (by kernel_rfl)) (b11_2 h))) (Eq.trans (q11_7 _ _) (Eq.trans (stepClean (c := C11_12) (id := 3) (by kernel_rfl) K11_5 _ _ (by kernel_rfl)) (b11_3 t0 t1 t2 h))))))))
theorem b11_0 (t0 t1 t2 : AV) (h : Heap) : E11 C11_1 K11_0 (frOf 43 [(0,t0),(1,t1),(2,t2)]) h = G11_0 t0 t1 t2 h :=
  (r11_0 K11_0 t0 t1 t2 h).trans (congrArg (R11_0 t0 t1 t2 h) (funext fun t0 => funext fun t1 => funext fun t2 => funext fun h => (Eq.trans (n11_1 _ _) (Eq.trans (q11_2 _ _) (Eq.trans (q11_3 _ _) (Eq.trans (q11_4 _ _) (b11_1 t0 t1 t2 h)))))))
theorem entry11 (t0 t1 t2 : AV) (h : Heap) : evFunc T PH11 L11 Try.f11 fuel [t0, t1, t2] h = E11 C11_0 (kFin T Try.f11.results.toList) (frOf 43 [(0,t0),(1,t1),(2,t2)]) h := by kernel_rfl
theorem e11 (t0 t1 t2 : AV) (h : Heap) : evFunc T PH11 L11 Try.f11 fuel [t0, t1, t2] h = G11 [t0, t1, t2] h := Eq.trans (entry11 t0 t1 t2 h) (Eq.trans (q11_0 _ _) (b11_0 t0 t1 t2 h))
set_option maxRecDepth 100000 in
theorem s11 : Sound Try.prog 11 G11 := (soundOf tok 11 Try.f11 rfl rfl (Φ := PH11) (allCons s20 (allCons s36 (allCons s37 (allCons s38 (allCons s39 allNil))))) L11 fuel).le fun args h r hr => by
  unfold G11 at hr; split at hr
  · exact (e11 _ _ _ h).trans (by unfold G11; exact hr)
  · cases hr
/- 14: (*delphi/disk.Disk).Crash -/
def L14 : PM (List Nat) := .node (.node (.node (.node (.node (.leaf) (some [1, 2, 7, 8, 9, 26, 27, 28, 35]) (.leaf)) (some [0, 1, 2, 7]) (.node (.leaf) (some [1, 2, 7, 26, 27, 28]) (.leaf))) (some [0, 1, 2, 11]) (.node (.node (.leaf) (some [1, 2, 7, 9, 26, 27, 28, 56]) (.leaf)) (some [1, 2, 7, 26, 27, 28, 29]) (.node (.leaf) (some [6]) (.leaf)))) (some [0, 1, 2]) (.node (.node (.node (.leaf) (some [1, 2, 7, 26, 27, 28]) (.leaf)) (some [1, 2, 7, 26, 27, 28]) (.node (.leaf) (some [7]) (.leaf))) (some [6]) (.node (.node (.leaf) (some [1, 2, 7, 26, 27, 28]) (.leaf)) (some [1, 2, 7, 8, 9, 26, 27, 28]) (.leaf)))) (some [0, 1, 2]) (.node (.node (.node (.node (.leaf) (some [1, 2, 7, 9, 26, 27, 28]) (.leaf)) (some [0, 1, 2, 7]) (.node (.leaf) (some [7]) (.leaf))) (some []) (.node (.node (.leaf) (some [1, 2, 7, 9, 26, 27, 28]) (.leaf)) (some [1, 2, 7, 26, 27, 28]) (.leaf))) (some [0, 1, 2]) (.node (.node (.node (.leaf) (some [1, 2, 7, 8, 9, 26, 27, 28]) (.leaf)) (some [1, 2, 7, 26, 27, 28]) (.node (.leaf) (some [7]) (.leaf))) (some [0, 1, 2]) (.node (.node (.leaf) (some [1, 2, 7, 26, 27, 28]) (.leaf)) (some [1, 2, 7, 8, 9, 26, 27, 28]) (.leaf))))
noncomputable def PH14 : List (Nat × AFn) := [(40, G40), (41, G41)]
noncomputable def E14 : Code → Kont → Fr → Heap → Rs := ev T PH14 L14 fuel
noncomputable def C14_0 : Code := bodyOf Try.f14
noncomputable def C14_1 : Code := cl C14_0
noncomputable def C14_2 : Code := cr C14_0
noncomputable def K14_0 : Kont := kSeq (E14 C14_2 (kFin T Try.f14.results.toList)) (kFin T Try.f14.results.toList)
noncomputable def R14_0 (t0 t1 t2 : AV) (h : Heap) (k : AV → AV → AV → Heap → Rs) : Rs :=
  k t0 t1 t2 h
noncomputable def C14_3 : Code := cl C14_2
noncomputable def C14_4 : Code := cr C14_2
noncomputable def K14_1 : Kont := kSeq (E14 C14_4 (kFin T Try.f14.results.toList)) (kFin T Try.f14.results.toList)
noncomputable def C14_5 : Code := cl C14_3
noncomputable def C14_6 : Code := cr C14_3
noncomputable def K14_2 : Kont := kSeq (E14 C14_6 K14_1) K14_1
noncomputable def R14_1 (t0 t1 t2 : AV) (h : Heap) (k : AV → AV → AV → AV → Heap → Rs) : Rs :=
  pureK (binOpA T .eql 24 t0 AV.pnil) h fun v1 h1 =>
  k t0 t1 t2 v1 h1
noncomputable def C14_7 : Code := cl C14_6
noncomputable def C14_8 : Code := cr C14_6
noncomputable def C14_9 : Code := cl C14_7
noncomputable def C14_10 : Code := cr C14_7
noncomputable def K14_3 : Kont := kSeq (E14 C14_10 K14_1) K14_1
noncomputable def C14_11 : Code := cl C14_4
noncomputable def C14_12 : Code := cr C14_4
noncomputable def K14_4 : Kont := kSeq (E14 C14_12 (kFin T Try.f14.results.toList)) (kFin T Try.f14.results.toList)
noncomputable def R14_2 (h : Heap) (k : AV → Heap → Rs) : Rs :=
  k AV.pnil h
noncomputable def G14_2 (h : Heap) : Rs := R14_2 h fun t6 h => some (t6, h)
noncomputable def R14_3 (t0 t1 t2 : AV) (h : Heap) (k : AV → AV → AV → AV → Heap → Rs) : Rs :=
  pureK (nilck t0) h fun v1 h1 =>
  pureK (faddr 0 v1) h1 fun v2 h2 =>
  pureK (ldV h2 v2) h2 fun v3 h3 =>
  pureK (nilck t0) h3 fun v5 h5 =>
  pureK (faddr 1 v5) h5 fun v6 h6 =>
  pureK (ldV h6 v6) h6 fun v7 h7 =>
  efK (G40 [v7] h7) fun v8 h8 =>
  pureK (bldP [(AV.int .i64 0), (AV.mnil), (AV.mnil), (AV.snil)] [(0, 1, v3), (1, 1, v8)]) h8 fun v9 h9 =>
  alK (boxV 4 v9) h9 fun v10 h10 =>
  chkK (optBeq (ldV h8 v2) (ldV h2 v2) && true) (k t0 t1 t2 v10 h10)
noncomputable def C14_13 : Code := cl C14_12
noncomputable def C14_14 : Code := cr C14_12
noncomputable def K14_5 : Kont := kSeq (E14 C14_14 (kFin T Try.f14.results.toList)) (kFin T Try.f14.results.toList)
noncomputable def C14_15 : Code := cl C14_13
noncomputable def C14_16 : Code := cr C14_13
noncomputable def K14_6 : Kont := kSeq (E14 C14_16 K14_5) K14_5
noncomputable def R14_4 (t0 t1 t2 t7 : AV) (h : Heap) (k : AV → AV → AV → AV → AV → AV → Heap → Rs) : Rs :=
  pureK (nilck t0) h fun v1 h1 =>
  pureK (faddr 3 v1) h1 fun v2 h2 =>
  pureK (ldV h2 v2) h2 fun v3 h3 =>
  pureK (lenSl v3) h3 fun v4 h4 =>
  k t1 t2 t7 v3 v4 (AV.int .i64 0) h4
noncomputable def C14_17 : Code := cl C14_16
noncomputable def K14_7 : Kont := kBlock 0 K14_5
noncomputable def C14_18 : Code := cl C14_17
noncomputable def K14_8 (m0 : Nat) : Kont := kSeq (fun fr h => evLoop (cleanO L14 (headId C14_18)) (E14 C14_18) K14_7 m0 ((cleanO L14 (headId C14_18)) fr) h) K14_7
noncomputable def C14_19 : Code := cl C14_18
noncomputable def C14_20 : Code := cr C14_18
noncomputable def K14_9 (m0 : Nat) : Kont := kSeq (E14 C14_20 (K14_8 m0)) (K14_8 m0)
noncomputable def R14_5 (t1 t2 t7 t26 t27 t28 : AV) (h : Heap) (k : AV → AV → AV → AV → AV → AV → AV → Heap → Rs) : Rs :=
  pureK (binOpA T .lss 3 t28 t27) h fun v0 h0 =>
  k t1 t2 t7 t26 t27 t28 v0 h0
noncomputable def C14_21 : Code := cl C14_20
noncomputable def C14_22 : Code := cr C14_20
noncomputable def K14_10 (m0 : Nat) : Kont := kSeq (E14 C14_22 (K14_8 m0)) (K14_8 m0)
noncomputable def C14_23 : Code := cl C14_21
noncomputable def C14_24 : Code := cr C14_21
noncomputable def C14_25 : Code := cl C14_22
noncomputable def C14_26 : Code := cr C14_22
noncomputable def K14_11 (m0 : Nat) : Kont := kSeq (E14 C14_26 (K14_8 m0)) (K14_8 m0)
noncomputable def C14_27 : Code := cl C14_25
noncomputable def K14_12 (m0 : Nat) : Kont := kBlock 1 (K14_11 m0)
noncomputable def C14_28 : Code := cl C14_27
noncomputable def C14_29 : Code := cr C14_27
noncomputable def K14_13 (m0 : Nat) : Kont := kSeq (E14 C14_29 (K14_12 m0)) (K14_12 m0)
noncomputable def C14_30 : Code := cl C14_14
noncomputable def C14_31 : Code := cr C14_14
noncomputable def K14_14 : Kont := kSeq (E14 C14_31 (kFin T Try.f14.results.toList)) (kFin T Try.f14.results.toList)
noncomputable def R14_6 (t1 t2 t7 t26 t27 t28 : AV) (h : Heap) (k : AV → AV → AV → AV → AV → AV → AV → AV → Heap → Rs) : Rs :=
  pureK (iaddr 5 t26 t28) h fun v1 h1 =>
  pureK (ldG 5 h1 v1) h1 fun v2 h2 =>
  alK (allc [(AV.int .i64 0), (AV.str []), (AV.str []), (AV.snil), (AV.int .i64 0)]) h2 fun v3 h3 =>
  stK (stV 5 h3 v3 v2) fun _ h5 =>
  k t1 t2 t7 t28 v3 t26 t27 t28 h5
noncomputable def C14_32 : Code := cl C14_29
noncomputable def C14_33 : Code := cr C14_29
noncomputable def K14_15 (m0 : Nat) : Kont := kSeq (E14 C14_33 (K14_12 m0)) (K14_12 m0)
noncomputable def R14_7 (t1 t2 t7 t8 t9 t26 t27 t28 : AV) (h : Heap) (k : AV → AV → AV → AV → AV → AV → AV → AV → AV → Heap → Rs) : Rs :=
  pureK (binOpA T .lss 3 t8 t1) h fun v2 h2 =>
  k t1 t2 t7 t8 t9 t26 t27 t28 v2 h2
noncomputable def C14_34 : Code := cl C14_33
noncomputable def C14_35 : Code := cr C14_33
noncomputable def C14_36 : Code := cl C14_35
noncomputable def C14_37 : Code := cr C14_35
noncomputable def K14_16 (m0 : Nat) : Kont := kSeq (E14 C14_37 (K14_12 m0)) (K14_12 m0)
noncomputable def R14_8 (t1 t2 t7 t9 t26 t27 t28 : AV) (h : Heap) (k : AV → AV → AV → AV → AV → AV → Heap → Rs) : Rs :=
  pureK (nilck t7) h fun v1 h1 =>
  pureK (faddr 1 v1) h1 fun v2 h2 =>
  pureK (ldV h2 v2) h2 fun v3 h3 =>
  pureK (ldG 5 h3 t9) h3 fun v4 h4 =>
  pureK (faddr 3 t9) h4 fun v5 h5 =>
  pureK (ldV h5 v5) h5 fun v6 h6 =>
  pureK (lenSl v6) h6 fun v7 h7 =>
  efK (G41 [v3, v4, v7] h7) fun v8 h8 =>
  k t1 t2 t7 t26 t27 t28 h8
noncomputable def R14_11 (t1 t2 t7 t26 t27 t28 : AV) (h : Heap) (k : AV → AV → AV → AV → AV → AV → Heap → Rs) : Rs :=
  pureK (binOpA T .add 3 t28 (AV.int .i64 1)) h fun v0 h0 =>
  k t1 t2 t7 t26 t27 v0 h0
noncomputable def G14_11 (lc0 : AV → AV → AV → AV → AV → AV → Heap → Rs) (t1 t2 t7 t26 t27 t28 : AV) (h : Heap) : Rs := R14_11 t1 t2 t7 t26 t27 t28 h fun t1 t2 t7 t26 t27 t28 h => lc0 t1 t2 t7 t26 t27 t28 h
noncomputable def G14_8 (lc0 : AV → AV → AV → AV → AV → AV → Heap → Rs) (t1 t2 t7 t9 t26 t27 t28 : AV) (h : Heap) : Rs := R14_8 t1 t2 t7 t9 t26 t27 t28 h fun t1 t2 t7 t26 t27 t28 h => G14_11 lc0 t1 t2 t7 t26 t27 t28 h
noncomputable def R14_9 (t1 t2 t7 t8 t9 t26 t27 t28 : AV) (h : Heap) (k : AV → AV → AV → AV → AV → AV → AV → AV → Heap → Rs) : Rs :=
  pureK (binOpA T .eql 3 t8 t1) h fun v2 h2 =>
  gcase v2
    (
      pureK (binOpA T .geq 3 t2 (AV.int .i64 0)) h2 fun v5 h5 =>
      gcase v5
        (
          pureK (faddr 0 t9) h5 fun v8 h8 =>
          pureK (ldV h8 v8) h8 fun v9 h9 =>
          pureK (binOpA T .eql 3 v9 (AV.int .i64 0)) h9 fun v10 h10 =>
          k t1 t2 t7 t9 t26 t27 t28 v10 h10)
        (
          k t1 t2 t7 t9 t26 t27 t28 (AV.bool false) h5)
        (
          none))
    (
      k t1 t2 t7 t9 t26 t27 t28 (AV.bool false) h2)
    (
      none)
noncomputable def C14_38 : Code := cl C14_37
noncomputable def C14_39 : Code := cr C14_37
noncomputable def R14_10 (t1 t2 t7 t9 t26 t27 t28 : AV) (h : Heap) (k : AV → AV → AV → AV → AV → AV → Heap → Rs) : Rs :=
  pureK (nilck t7) h fun v1 h1 =>
  pureK (faddr 1 v1) h1 fun v2 h2 =>
  pureK (ldV h2 v2) h2 fun v3 h3 =>
  pureK (ldG 5 h3 t9) h3 fun v4 h4 =>
  pureK (faddr 3 t9) h4 fun v6 h6 =>
  pureK (ldV h6 v6) h6 fun v7 h7 =>
  pureK (lenSl v7) h7 fun v8 h8 =>
  pureK (minA t2 v8) h8 fun v9 h9 =>
  efK (G41 [v3, v4, v9] h9) fun v10 h10 =>
  k t1 t2 t7 t26 t27 t28 h10
noncomputable def G14_10 (lc0 : AV → AV → AV → AV → AV → AV → Heap → Rs) (t1 t2 t7 t9 t26 t27 t28 : AV) (h : Heap) : Rs := R14_10 t1 t2 t7 t9 t26 t27 t28 h fun t1 t2 t7 t26 t27 t28 h => G14_11 lc0 t1 t2 t7 t26 t27 t28 h
noncomputable def G14_9 (lc0 : AV → AV → AV → AV → AV → AV → Heap → Rs) (t1 t2 t7 t8 t9 t26 t27 t28 : AV) (h : Heap) : Rs := R14_9 t1 t2 t7 t8 t9 t26 t27 t28 h fun t1 t2 t7 t9 t26 t27 t28 t56 h => bcase t56 (G14_10 lc0 t1 t2 t7 t9 t26 t27 t28 h) (G14_11 lc0 t1 t2 t7 t26 t27 t28 h)
noncomputable def G14_7 (lc0 : AV → AV → AV → AV → AV → AV → Heap → Rs) (t1 t2 t7 t8 t9 t26 t27 t28 : AV) (h : Heap) : Rs := R14_7 t1 t2 t7 t8 t9 t26 t27 t28 h fun t1 t2 t7 t8 t9 t26 t27 t28 t35 h => bcase t35 (G14_8 lc0 t1 t2 t7 t9 t26 t27 t28 h) (G14_9 lc0 t1 t2 t7 t8 t9 t26 t27 t28 h)
noncomputable def G14_6 (lc0 : AV → AV → AV → AV → AV → AV → Heap → Rs) (t1 t2 t7 t26 t27 t28 : AV) (h : Heap) : Rs := R14_6 t1 t2 t7 t26 t27 t28 h fun t1 t2 t7 t8 t9 t26 t27 t28 h => G14_7 lc0 t1 t2 t7 t8 t9 t26 t27 t28 h
noncomputable def R14_12 (t7 : AV) (h : Heap) (k : AV → Heap → Rs) : Rs :=
  pureK (nilck t7) h fun v2 h2 =>
  pureK (faddr 1 v2) h2 fun v3 h3 =>
  pureK (ldV h3 v3) h3 fun v4 h4 =>
  efK (G40 [v4] h4) fun v5 h5 =>
  pureK (nilck t7) h5 fun v6 h6 =>
  pureK (faddr 2 v6) h6 fun v7 h7 =>
  stK (stV 1 h7 v7 v5) fun _ h8 =>
  k t7 h8
noncomputable def C14_40 : Code := cl C14_31
noncomputable def C14_41 : Code := cr C14_31
noncomputable def K14_17 : Kont := kSeq (E14 C14_41 (kFin T Try.f14.results.toList)) (kFin T Try.f14.results.toList)
noncomputable def R14_13 (t7 : AV) (h : Heap) (k : AV → Heap → Rs) : Rs :=
  k t7 h
noncomputable def G14_13 (t7 : AV) (h : Heap) : Rs := R14_13 t7 h fun t6 h => some (t6, h)
noncomputable def G14_12 (t7 : AV) (h : Heap) : Rs := R14_12 t7 h fun t7 h => G14_13 t7 h
noncomputable def G14_5 (lc0 : AV → AV → AV → AV → AV → AV → Heap → Rs) (t1 t2 t7 t26 t27 t28 : AV) (h : Heap) : Rs := R14_5 t1 t2 t7 t26 t27 t28 h fun t1 t2 t7 t26 t27 t28 t29 h => bcase t29 (G14_6 lc0 t1 t2 t7 t26 t27 t28 h) (G14_12 t7 h)
noncomputable def G14_l0 : Nat → AV → AV → AV → AV → AV → AV → Heap → Rs
  | 0, _, _, _, _, _, _, _ => none
  | m + 1, t1, t2, t7, t26, t27, t28, h => G14_5 (G14_l0 m) t1 t2 t7 t26 t27 t28 h
noncomputable def G14_4 (t0 t1 t2 t7 : AV) (h : Heap) : Rs := R14_4 t0 t1 t2 t7 h fun t1 t2 t7 t26 t27 t28 h => G14_l0 fuel t1 t2 t7 t26 t27 t28 h
noncomputable def G14_3 (t0 t1 t2 : AV) (h : Heap) : Rs := R14_3 t0 t1 t2 h fun t0 t1 t2 t7 h => G14_4 t0 t1 t2 t7 h
noncomputable def G14_1 (t0 t1 t2 : AV) (h : Heap) : Rs := R14_1 t0 t1 t2 h fun t0 t1 t2 t11 h => bcase t11 (G14_2 h) (G14_3 t0 t1 t2 h)
noncomputable def G14_0 (t0 t1 t2 : AV) (h : Heap) : Rs := R14_0 t0 t1 t2 h fun t0 t1 t2 h => G14_1 t0 t1 t2 h
noncomputable def G14 : AFn
  | [t0, t1, t2], h => G14_0 t0 t1 t2 h
  | _, _ => none
theorem q14_0 (fr : Fr) (h : Heap) : E14 C14_0 (kFin T Try.f14.results.toList) fr h = E14 C14_1 K14_0 fr h := stepSeq (by kernel_rfl) _ _ _
theorem r14_0 (K : Kont) (t0 t1 t2 : AV) (h : Heap) : E14 C14_1 K (frOf 78 [(0,t0),(1,t1),(2,t2)]) h = R14_0 t0 t1 t2 h (fun t0 t1 t2 h => K .normal (frOf 78 [(0,t0),(1,t1),(2,t2)]) h) := by kernel_rfl
theorem n14_1 (fr : Fr) (h : Heap) : K14_0 .normal fr h = E14 C14_2 (kFin T Try.f14.results.toList) fr h := kSeq_n _ _ _ _
theorem q14_2 (fr : Fr) (h : Heap) : E14 C14_2 (kFin T Try.f14.results.toList) fr h = E14 C14_3 K14_1 fr h := stepSeq (by kernel_rfl) _ _ _
theorem q14_3 (fr : Fr) (h : Heap) : E14 C14_3 K14_1 fr h = E14 C14_5 K14_2 fr h := stepSeq (by kernel_rfl) _ _ _
theorem r14_1 (K : Kont) (t0 t1 t2 : AV) (h : Heap) : E14 C14_5 K (frOf 78 [(0,t0),(1,t1),(2,t2)]) h = R14_1 t0 t1 t2 h (fun t0 t1 t2 t11 h => K .normal (frOf 78 [(0,t0),(1,t1),(2,t2),(11,t11)]) h) := by kernel_rfl
theorem n14_4 (fr : Fr) (h : Heap) : K14_2 .normal fr h = E14 C14_6 K14_1 fr h := kSeq_n _ _ _ _
theorem q14_5 (fr : Fr) (h : Heap) : E14 C14_7 K14_1 fr h = E14 C14_9 K14_3 fr h := stepSeq (by kernel_rfl) _ _ _
theorem n14_6 (fr : Fr) (h : Heap) : K14_1 .normal fr h = E14 C14_4 (kFin T Try.f14.results.toList) fr h := kSeq_n _ _ _ _
theorem q14_7 (fr : Fr) (h : Heap) : E14 C14_4 (kFin T Try.f14.results.toList) fr h = E14 C14_11 K14_4 fr h := stepSeq (by kernel_rfl) _ _ _
theorem r14_2 (K : Kont) (h : Heap) : E14 C14_9 K (frOf 78 []) h = R14_2 h (fun t6 h => K .normal (frOf 78 [(6,t6)]) h) := by kernel_rfl
theorem n14_8 (fr : Fr) (h : Heap) : K14_3 .normal fr h = E14 C14_10 K14_1 fr h := kSeq_n _ _ _ _
theorem b14_2 (h : Heap) : E14 C14_9 K14_3 (frOf 78 []) h = G14_2 h :=
  (r14_2 K14_3 h).trans (congrArg (R14_2 h) (funext fun t6 => funext fun h => (Eq.trans (n14_8 _ _) (Eq.trans (stepRet (by kernel_rfl) K14_1 _ _) (Eq.trans (kSeq_r _ _ _ _) (by kernel_rfl))))))
theorem r14_3 (K : Kont) (t0 t1 t2 : AV) (h : Heap) : E14 C14_11 K (frOf 78 [(0,t0),(1,t1),(2,t2)]) h = R14_3 t0 t1 t2 h (fun t0 t1 t2 t7 h => K .normal (frOf 78 [(0,t0),(1,t1),(2,t2),(7,t7)]) h) := by kernel_rfl
theorem n14_9 (fr : Fr) (h : Heap) : K14_4 .normal fr h = E14 C14_12 (kFin T Try.f14.results.toList) fr h := kSeq_n _ _ _ _
theorem q14_10 (fr : Fr) (h : Heap) : E14 C14_12 (kFin T Try.f14.results.toList) fr h = E14 C14_13 K14_5 fr h := stepSeq (by kernel_rfl) _ _ _
theorem q14_11 (fr : Fr) (h : Heap) : E14 C14_13 K14_5 fr h = E14 C14_15 K14_6 fr h := stepSeq (by kernel_rfl) _ _ _
theorem r14_4 (K : Kont) (t0 t1 t2 t7 : AV) (h : Heap) : E14 C14_15 K (frOf 78 [(0,t0),(1,t1),(2,t2),(7,t7)]) h = R14_4 t0 t1 t2 t7 h (fun t1 t2 t7 t26 t27 t28 h => K .normal (frOf 78 [(1,t1),(2,t2),(7,t7),(26,t26),(27,t27),(28,t28)]) h) := by kernel_rfl
theorem n14_12 (fr : Fr) (h : Heap) : K14_6 .normal fr h = E14 C14_16 K14_5 fr h := kSeq_n _ _ _ _
theorem q14_13 (fr : Fr) (h : Heap) : E14 C14_16 K14_5 fr h = E14 C14_17 K14_7 fr h := stepBlock (by kernel_rfl) _ _ _
theorem q14_14 (m0 : Nat) (fr : Fr) (h : Heap) : E14 C14_18 (K14_8 m0) fr h = E14 C14_19 (K14_9 m0) fr h := stepSeq (by kernel_rfl) _ _ _
theorem r14_5 (K : Kont) (t1 t2 t7 t26 t27 t28 : AV) (h : Heap) : E14 C14_19 K (frOf 78 [(1,t1),(2,t2),(7,t7),(26,t26),(27,t27),(28,t28)]) h = R14_5 t1 t2 t7 t26 t27 t28 h (fun t1 t2 t7 t26 t27 t28 t29 h => K .normal (frOf 78 [(1,t1),(2,t2),(7,t7),(26,t26),(27,t27),(28,t28),(29,t29)]) h) := by kernel_rfl
theorem n14_15 (m0 : Nat) (fr : Fr) (h : Heap) : (K14_9 m0) .normal fr h = E14 C14_20 (K14_8 m0) fr h := kSeq_n _ _ _ _
theorem q14_16 (m0 : Nat) (fr : Fr) (h : Heap) : E14 C14_20 (K14_8 m0) fr h = E14 C14_21 (K14_10 m0) fr h := stepSeq (by kernel_rfl) _ _ _
theorem n14_17 (m0 : Nat) (fr : Fr) (h : Heap) : (K14_10 m0) .normal fr h = E14 C14_22 (K14_8 m0) fr h := kSeq_n _ _ _ _
theorem q14_18 (m0 : Nat) (fr : Fr) (h : Heap) : E14 C14_22 (K14_8 m0) fr h = E14 C14_25 (K14_11 m0) fr h := stepSeq (by kernel_rfl) _ _ _
theorem q14_19 (m0 : Nat) (fr : Fr) (h : Heap) : E14 C14_25 (K14_11 m0) fr h = E14 C14_27 (K14_12 m0) fr h := stepBlock (by kernel_rfl) _ _ _
theorem q14_20 (m0 : Nat) (fr : Fr) (h : Heap) : E14 C14_27 (K14_12 m0) fr h = E14 C14_28 (K14_13 m0) fr h := stepSeq (by kernel_rfl) _ _ _
theorem n14_21 (fr : Fr) (h : Heap) : K14_5 .normal fr h = E14 C14_14 (kFin T Try.f14.results.toList) fr h := kSeq_n _ _ _ _
theorem q14_22 (fr : Fr) (h : Heap) : E14 C14_14 (kFin T Try.f14.results.toList) fr h = E14 C14_30 K14_14 fr h := stepSeq (by kernel_rfl) _ _ _
theorem r14_6 (K : Kont) (t1 t2 t7 t26 t27 t28 : AV) (h : Heap) : E14 C14_28 K (frOf 78 [(1,t1),(2,t2),(7,t7),(26,t26),(27,t27),(28,t28)]) h = R14_6 t1 t2 t7 t26 t27 t28 h (fun t1 t2 t7 t8 t9 t26 t27 t28 h => K .normal (frOf 78 [(1,t1),(2,t2),(7,t7),(8,t8),(9,t9),(26,t26),(27,t27),(28,t28)]) h) := by kernel_rfl
theorem n14_23 (m0 : Nat) (fr : Fr) (h : Heap) : (K14_13 m0) .normal fr h = E14 C14_29 (K14_12 m0) fr h := kSeq_n _ _ _ _
theorem q14_24 (m0 : Nat) (fr : Fr) (h : Heap) : E14 C14_29 (K14_12 m0) fr h = E14 C14_32 (K14_15 m0) fr h := stepSeq (by kernel_rfl) _ _ _
theorem r14_7 (K : Kont) (t1 t2 t7 t8 t9 t26 t27 t28 : AV) (h : Heap) : E14 C14_32 K (frOf 78 [(1,t1),(2,t2),(7,t7),(8,t8),(9,t9),(26,t26),(27,t27),(28,t28)]) h = R14_7 t1 t2 t7 t8 t9 t26 t27 t28 h (fun t1 t2 t7 t8 t9 t26 t27 t28 t35 h => K .normal (frOf 78 [(1,t1),(2,t2),(7,t7),(8,t8),(9,t9),(26,t26),(27,t27),(28,t28),(35,t35)]) h) := by kernel_rfl
theorem n14_25 (m0 : Nat) (fr : Fr) (h : Heap) : (K14_15 m0) .normal fr h = E14 C14_33 (K14_12 m0) fr h := kSeq_n _ _ _ _
theorem q14_26 (m0 : Nat) (fr : Fr) (h : Heap) : E14 C14_35 (K14_12 m0) fr h = E14 C14_36 (K14_16 m0) fr h := stepSeq (by kernel_rfl) _ _ _
theorem r14_8 (K : Kont) (t1 t2 t7 t9 t26 t27 t28 : AV) (h : Heap) : E14 C14_34 K (frOf 78 [(1,t1),(2,t2),(7,t7),(9,t9),(26,t26),(27,t27),(28,t28)]) h = R14_8 t1 t2 t7 t9 t26 t27 t28 h (fun t1 t2 t7 t26 t27 t28 h => K .normal (frOf 78 [(1,t1),(2,t2),(7,t7),(26,t26),(27,t27),(28,t28)]) h) := by kernel_rfl
theorem n14_27 (m0 : Nat) (fr : Fr) (h : Heap) : (K14_11 m0) .normal fr h = E14 C14_26 (K14_8 m0) fr h := kSeq_n _ _ _ _
theorem r14_11 (K : Kont) (t1 t2 t7 t26 t27 t28 : AV) (h : Heap) : E14 C14_26 K (frOf 78 [(1,t1),(2,t2),(7,t7),(26,t26),(27,t27),(28,t28)]) h = R14_11 t1 t2 t7 t26 t27 t28 h (fun t1 t2 t7 t26 t27 t28 h => K .normal (frOf 78 [(1,t1),(2,t2),(7,t7),(26,t26),(27,t27),(28,t28)]) h) := by kernel_rfl
theorem b14_11 (m0 : Nat) (ih0 : ∀ (t1 t2 t7 t26 t27 t28 : AV) (h : Heap), evLoop (cleanO L14 (headId C14_18)) (E14 C14_18) K14_7 m0 (frOf 78 [(1,t1),(2,t2),(7,t7),(26,t26),(27,t27),(28,t28)]) h = G14_l0  m0 t1 t2 t7 t26 t27 t28 h) (t1 t2 t7 t26 t27 t28 : AV) (h : Heap) : E14 C14_26 (K14_8 m0) (frOf 78 [(1,t1),(2,t2),(7,t7),(26,t26),(27,t27),(28,t28)]) h = G14_11 (G14_l0  m0) t1 t2 t7 t26 t27 t28 h :=
  (r14_11 (K14_8 m0) t1 t2 t7 t26 t27 t28 h).trans (congrArg (R14_11 t1 t2 t7 t26 t27 t28 h) (funext fun t1 => funext fun t2 => funext fun t7 => funext fun t26 => funext fun t27 => funext fun t28 => funext fun h => (Eq.trans (stepNext _ (by kernel_rfl)) (ih0 t1 t2 t7 t26 t27 t28 h))))
theorem b14_8 (m0 : Nat) (ih0 : ∀ (t1 t2 t7 t26 t27 t28 : AV) (h : Heap), evLoop (cleanO L14 (headId C14_18)) (E14 C14_18) K14_7 m0 (frOf 78 [(1,t1),(2,t2),(7,t7),(26,t26),(27,t27),(28,t28)]) h = G14_l0  m0 t1 t2 t7 t26 t27 t28 h) (t1 t2 t7 t9 t26 t27 t28 : AV) (h : Heap) : E14 C14_34 (K14_12 m0) (frOf 78 [(1,t1),(2,t2),(7,t7),(9,t9),(26,t26),(27,t27),(28,t28)]) h = G14_8 (G14_l0  m0) t1 t2 t7 t9 t26 t27 t28 h :=
  (r14_8 (K14_12 m0) t1 t2 t7 t9 t26 t27 t28 h).trans (congrArg (R14_8 t1 t2 t7 t9 t26 t27 t28 h) (funext fun t1 => funext fun t2 => funext fun t7 => funext fun t26 => funext fun t27 => funext fun t28 => funext fun h => (Eq.trans (kBlock_n _ _ _ _) (Eq.trans (n14_27 m0 _ _) (b14_11 m0 ih0 t1 t2 t7 t26 t27 t28 h)))))
theorem r14_9 (K : Kont) (t1 t2 t7 t8 t9 t26 t27 t28 : AV) (h : Heap) : E14 C14_36 K (frOf 78 [(1,t1),(2,t2),(7,t7),(8,t8),(9,t9),(26,t26),(27,t27),(28,t28)]) h = R14_9 t1 t2 t7 t8 t9 t26 t27 t28 h (fun t1 t2 t7 t9 t26 t27 t28 t56 h => K .normal (frOf 78 [(1,t1),(2,t2),(7,t7),(9,t9),(26,t26),(27,t27),(28,t28),(56,t56)]) h) := by kernel_rfl
theorem n14_28 (m0 : Nat) (fr : Fr) (h : Heap) : (K14_16 m0) .normal fr h = E14 C14_37 (K14_12 m0) fr h := kSeq_n _ _ _ _
theorem r14_10 (K : Kont) (t1 t2 t7 t9 t26 t27 t28 : AV) (h : Heap) : E14 C14_38 K (frOf 78 [(1,t1),(2,t2),(7,t7),(9,t9),(26,t26),(27,t27),(28,t28)]) h = R14_10 t1 t2 t7 t9 t26 t27 t28 h (fun t1 t2 t7 t26 t27 t28 h => K .normal (frOf 78 [(1,t1),(2,t2),(7,t7),(26,t26),(27,t27),(28,t28)]) h) := by kernel_rfl
theorem b14_10 (m0 : Nat) (ih0 : ∀ (t1 t2 t7 t26 t27 t28 : AV) (h : Heap), evLoop (cleanO L14 (headId C14_18)) (E14 C14_18) K14_7 m0 (frOf 78 [(1,t1),(2,t2),(7,t7),(26,t26),(27,t27),(28,t28)]) h = G14_l0  m0 t1 t2 t7 t26 t27 t28 h) (t1 t2 t7 t9 t26 t27 t28 : AV) (h : Heap) : E14 C14_38 (K14_12 m0) (frOf 78 [(1,t1),(2,t2),(7,t7),(9,t9),(26,t26),(27,t27),(28,t28)]) h = G14_10 (G14_l0  m0) t1 t2 t7 t9 t26 t27 t28 h :=
  (r14_10 (K14_12 m0) t1 t2 t7 t9 t26 t27 t28 h).trans (congrArg (R14_10 t1 t2 t7 t9 t26 t27 t28 h) (funext fun t1 => funext fun t2 => funext fun t7 => funext fun t26 => funext fun t27 => funext fun t28 => funext fun h => (Eq.trans (kBlock_n _ _ _ _) (Eq.trans (n14_27 m0 _ _) (b14_11 m0 ih0 t1 t2 t7 t26 t27 t28 h)))))
theorem b14_9 (m0 : Nat) (ih0 : ∀ (t1 t2 t7 t26 t27 t28 : AV) (h : Heap), evLoop (cleanO L14 (headId C14_18)) (E14 C14_18) K14_7 m0 (frOf 78 [(1,t1),(2,t2),(7,t7),(26,t26),(27,t27),(28,t28)]) h = G14_l0  m0 t1 t2 t7 t26 t27 t28 h) (t1 t2 t7 t8 t9 t26 t27 t28 : AV) (h : Heap) : E14 C14_36 (K14_16 m0) (frOf 78 [(1,t1),(2,t2),(7,t7),(8,t8),(9,t9),(26,t26),(27,t27),(28,t28)]) h = G14_9 (G14_l0  m0) t1 t2 t7 t8 t9 t26 t27 t28 h :=
  (r14_9 (K14_16 m0) t1 t2 t7 t8 t9 t26 t27 t28 h).trans (congrArg (R14_9 t1 t2 t7 t8 t9 t26 t27 t28 h) (funext fun t1 => funext fun t2 => funext fun t7 => funext fun t9 => funext fun t26 => funext fun t27 => funext fun t28 => funext fun t56 => funext fun h => (Eq.trans (n14_28 m0 _ _) (Eq.trans (stepCond (c := C14_37) (by kernel_rfl) (K14_12 m0) _ _ (v := t56) (by kernel_rfl)) (bcase_congr t56 (Eq.trans (stepClean (c := C14_38) (id := 10) (by kernel_rfl) (K14_12 m0) _ _ (by kernel_rfl)) (b14_10 m0 ih0 t1 t2 t7 t9 t26 t27 t28 h)) (Eq.trans (stepSkip (by kernel_rfl) (K14_12 m0) _ _) (Eq.trans (kBlock_n _ _ _ _) (Eq.trans (n14_27 m0 _ _) (Eq.trans (stepClean (c := C14_26) (id := 11) (by kernel_rfl) (K14_8 m0) _ _ (by kernel_rfl)) (b14_11 m0 ih0 t1 t2 t7 t26 t27 t28 h))))))))))
theorem b14_7 (m0 : Nat) (ih0 : ∀ (t1 t2 t7 t26 t27 t28 : AV) (h : Heap), evLoop (cleanO L14 (headId C14_18)) (E14 C14_18) K14_7 m0 (frOf 78 [(1,t1),(2,t2),(7,t7),(26,t26),(27,t27),(28,t28)]) h = G14_l0  m0 t1 t2 t7 t26 t27 t28 h) (t1 t2 t7 t8 t9 t26 t27 t28 : AV) (h : Heap) : E14 C14_32 (K14_15 m0) (frOf 78 [(1,t1),(2,t2),(7,t7),(8,t8),(9,t9),(26,t26),(27,t27),(28,t28)]) h = G14_7 (G14_l0  m0) t1 t2 t7 t8 t9 t26 t27 t28 h :=
  (r14_7 (K14_15 m0) t1 t2 t7 t8 t9 t26 t27 t28 h).trans (congrArg (R14_7 t1 t2 t7 t8 t9 t26 t27 t28 h) (funext fun t1 => funext fun t2 => funext fun t7 => funext fun t8 => funext fun t9 => funext fun t26 => funext fun t27 => funext fun t28 => funext fun t35 => funext fun h => (Eq.trans (n14_25 m0 _ _) (Eq.trans (stepCond (c := C14_33) (by kernel_rfl) (K14_12 m0) _ _ (v := t35) (by kernel_rfl)) (bcase_congr t35 (Eq.trans (stepClean (c := C14_34) (id := 8) (by kernel_rfl) (K14_12 m0) _ _ (by kernel_rfl)) (b14_8 m0 ih0 t1 t2 t7 t9 t26 t27 t28 h)) (Eq.trans (q14_26 m0 _ _) (Eq.trans (stepClean (c := C14_36) (id := 9) (by kernel_rfl) (K14_16 m0) _ _ (by kernel_rfl)) (b14_9 m0 ih0 t1 t2 t7 t8 t9 t26 t27 t28 h))))))))
theorem b14_6 (m0 : Nat) (ih0 : ∀ (t1 t2 t7 t26 t27 t28 : AV) (h : Heap), evLoop (cleanO L14 (headId C14_18)) (E14 C14_18) K14_7 m0 (frOf 78 [(1,t1),(2,t2),(7,t7),(26,t26),(27,t27),(28,t28)]) h = G14_l0  m0 t1 t2 t7 t26 t27 t28 h) (t1 t2 t7 t26 t27 t28 : AV) (h : Heap) : E14 C14_28 (K14_13 m0) (frOf 78 [(1,t1),(2,t2),(7,t7),(26,t26),(27,t27),(28,t28)]) h = G14_6 (G14_l0  m0) t1 t2 t7 t26 t27 t28 h :=
  (r14_6 (K14_13 m0) t1 t2 t7 t26 t27 t28 h).trans (congrArg (R14_6 t1 t2 t7 t26 t27 t28 h) (funext fun t1 => funext fun t2 => funext fun t7 => funext fun t8 => funext fun t9 => funext fun t26 => funext fun t27 => funext fun t28 => funext fun h => (Eq.trans (n14_23 m0 _ _) (Eq.trans (q14_24 m0 _ _) (b14_7 m0 ih0 t1 t2 t7 t8 t9 t26 t27 t28 h)))))
theorem r14_12 (K : Kont) (t7 : AV) (h : Heap) : E14 C14_30 K (frOf 78 [(7,t7)]) h = R14_12 t7 h (fun t7 h => K .normal (frOf 78 [(7,t7)]) h) := by kernel_rfl
theorem n14_29 (fr : Fr) (h : Heap) : K14_14 .normal fr h = E14 C14_31 (kFin T Try.f14.results.toList) fr h := kSeq_n _ _ _ _
theorem q14_30 (fr : Fr) (h : Heap) : E14 C14_31 (kFin T Try.f14.results.toList) fr h = E14 C14_40 K14_17 fr h := stepSeq (by kernel_rfl) _ _ _
theorem r14_13 (K : Kont) (t7 : AV) (h : Heap) : E14 C14_40 K (frOf 78 [(7,t7)]) h = R14_13 t7 h (fun t6 h => K .normal (frOf 78 [(6,t6)]) h) := by kernel_rfl
theorem n14_31 (fr : Fr) (h : Heap) : K14_17 .normal fr h = E14 C14_41 (kFin T Try.f14.results.toList) fr h := kSeq_n _ _ _ _
theorem b14_13 (t7 : AV) (h : Heap) : E14 C14_40 K14_17 (frOf 78 [(7,t7)]) h = G14_13 t7 h :=
  (r14_13 K14_17 t7 h).trans (congrArg (R14_13 t7 h) (funext fun t6 => funext fun h => (Eq.trans (n14_31 _ _) (Eq.trans (stepRet (by kernel_rfl) (kFin T Try.f14.results.toList) _ _) (by kernel_rfl)))))
theorem b14_12 (t7 : AV) (h : Heap) : E14 C14_30 K14_14 (frOf 78 [(7,t7)]) h = G14_12 t7 h :=
  (r14_12 K14_14 t7 h).trans (congrArg (R14_12 t7 h) (funext fun t7 => funext fun h => (Eq.trans (n14_29 _ _) (Eq.trans (q14_30 _ _) (b14_13 t7 h)))))
theorem b14_5 (m0 : Nat) (ih0 : ∀ (t1 t2 t7 t26 t27 t28 : AV) (h : Heap), evLoop (cleanO L14 (headId C14_18)) (E14 C14_18) K14_7 m0 (frOf 78 [(1,t1),(2,t2),(7,t7),(26,t26),(27,t27),(28,t28)]) h = G14_l0  m0 t1 t2 t7 t26 t27 t28 h) (t1 t2 t7 t26 t27 t28 : AV) (h : Heap) : E14 C14_19 (K14_9 m0) (frOf 78 [(1,t1),(2,t2),(7,t7),(26,t26),(27,t27),(28,t28)]) h = G14_5 (G14_l0  m0) t1 t2 t7 t26 t27 t28 h :=
  (r14_5 (K14_9 m0) t1 t2 t7 t26 t27 t28 h).trans (congrArg (R14_5 t1 t2 t7 t26 t27 t28 h) (funext fun t1 => funext fun t2 => funext fun t7 => funext fun t26 => funext fun t27 => funext fun t28 => funext fun t29 => funext fun h => (Eq.trans (n14_15 m0 _ _) (Eq.trans (q14_16 m0 _ _) (Eq.trans (stepCond (c := C14_21) (by kernel_rfl) (K14_10 m0) _ _ (v := t29) (by kernel_rfl)) (bcase_congr t29 (Eq.trans (stepSkip (by kernel_rfl) (K14_10 m0) _ _) (Eq.trans (n14_17 m0 _ _) (Eq.trans (q14_18 m0 _ _) (Eq.trans (q14_19 m0 _ _) (Eq.trans (q14_20 m0 _ _) (Eq.trans (stepClean (c := C14_28) (id := 6) (by kernel_rfl) (K14_13 m0) _ _ (by kernel_rfl)) (b14_6 m0 ih0 t1 t2 t7 t26 t27 t28 h))))))) (Eq.trans (stepExit (i := 0) (by kernel_rfl) (K14_10 m0) _ _) (Eq.trans (kSeq_x _ _ _ _ _) (Eq.trans (kSeq_x _ _ _ _ _) (Eq.trans (kBlock_hit _ _ _ _) (Eq.trans (n14_21 _ _) (Eq.trans (q14_22 _ _) (Eq.trans (stepClean (c := C14_30) (id := 12) (by kernel_rfl) K14_14 _ _ (by kernel_rfl)) (b14_12 t7 h))))))))))))))
theorem b14_l0 : ∀ (m0 : Nat) (t1 t2 t7 t26 t27 t28 : AV) (h : Heap), evLoop (cleanO L14 (headId C14_18)) (E14 C14_18) K14_7 m0 (frOf 78 [(1,t1),(2,t2),(7,t7),(26,t26),(27,t27),(28,t28)]) h = G14_l0 m0 t1 t2 t7 t26 t27 t28 h := by
  intro m0
  induction m0 with
  | zero => intros; rfl
  | succ m0 ih0 => intro t1 t2 t7 t26 t27 t28 h; exact Eq.trans (evLoop_succ _ _ _ _ _ _) (Eq.trans (q14_14 m0 _ _) (b14_5 m0 ih0 t1 t2 t7 t26 t27 t28 h))
theorem b14_4 (t0 t1 t2 t7 : AV) (h : Heap) : E14 C14_15 K14_6 (frOf 78 [(0,t0),(1,t1),(2,t2),(7,t7)]) h = G14_4 t0 t1 t2 t7 h :=
  (r14_4 K14_6 t0 t1 t2 t7 h).trans (congrArg (R14_4 t0 t1 t2 t7 h) (funext fun t1 => funext fun t2 => funext fun t7 => funext fun t26 => funext fun t27 => funext fun t28 => funext fun h => (Eq.trans (n14_12 _ _) (Eq.trans (q14_13 _ _) (Eq.trans (stepLoop (by kernel_rfl) K14_7 _ _ (by kernel_rfl)) (b14_l0 fuel t1 t2 t7 t26 t27 t28 h))))))
theorem b14_3 (t0 t1 t2 : AV) (h : Heap) : E14 C14_11 K14_4 (frOf 78 [(0,t0),(1,t1),(2,t2)]) h = G14_3 t0 t1 t2 h :=
  (r14_3 K14_4 t0 t1 t2 h).trans (congrArg (R14_3 t0 t1 t2 h) (funext fun t0 => funext fun t1 => funext fun t2 => funext fun t7 => funext fun h => (Eq.trans (n14_9 _ _) (Eq.trans (q14_10 _ _) (Eq.trans (q14_11 _ _) (b14_4 t0 t1 t2 t7 h))))))
theorem b14_1 (t0 t1 t2 : AV) (h : Heap) : E14 C14_5 K14_2 (frOf 78 [(0,t0),(1,t1),(2,t2)]) h = G14_1 t0 t1 t2 h :=
  (r14_1 K14_2 t0 t1 t2 h).trans (congrArg (R14_1 t0 t1 t2 h) (funext fun t0 => funext fun t1 => funext fun t2 => funext fun t11 => funext fun h => (Eq.trans (n14_4 _ _) (Eq.trans (stepCond (c := C14_6) (by kernel_rfl) K14_1 _ _ (v := t11) (by kernel_rfl)) (bcase_congr t11 (Eq.trans (q14_5 _ _) (Eq.trans (stepClean (c := C14_9) (id := 2) (by kernel_rfl) K14_3 _ _ (by kernel_rfl)) (b14_2 h))) (Eq.trans (stepSkip (by kernel_rfl) K14_1 _ _) (Eq.trans (n14_6 _ _) (Eq.trans (q14_7 _ _) (Eq.trans (stepClean (c := C14_11) (id := 3) (by kernel_rfl) K14_4 _ _ (by kernel_rfl)) (b14_3 t0 t1 t2 h))))))))))
theorem b14_0 (t0 t1 t2 : AV) (h : Heap) : E14 C14_1 K14_0 (frOf 78 [(0,t0),(1,t1),(2,t2)]) h = G14_0 t0 t1 t2 h :=
  (r14_0 K14_0 t0 t1 t2 h).trans (congrArg (R14_0 t0 t1 t2 h) (funext fun t0 => funext fun t1 => funext fun t2 => funext fun h => (Eq.trans (n14_1 _ _) (Eq.trans (q14_2 _ _) (Eq.trans (q14_3 _ _) (b14_1 t0 t1 t2 h))))))
theorem entry14 (t0 t1 t2 : AV) (h : Heap) : evFunc T PH14 L14 Try.f14 fuel [t0, t1, t2] h = E14 C14_0 (kFin T Try.f14.results.toList) (frOf 78 [(0,t0),(1,t1),(2,t2)]) h := by kernel_rfl
theorem e14 (t0 t1 t2 : AV) (h : Heap) : evFunc T PH14 L14 Try.f14 fuel [t0, t1, t2] h = G14 [t0, t1, t2] h := Eq.trans (entry14 t0 t1 t2 h) (Eq.trans (q14_0 _ _) (b14_0 t0 t1 t2 h))
set_option maxRecDepth 100000 in
theorem s14 : Sound Try.prog 14 G14 := (soundOf tok 14 Try.f14 rfl rfl (Φ := PH14) (allCons s40 (allCons s41 allNil)) L14 fuel).le fun args h r hr => by
  unfold G14 at hr; split at hr
  · exact (e14 _ _ _ h).trans (by unfold G14; exact hr)
  · cases hr
/- 15: (*delphi/disk.Disk).Read -/
def L15 : PM (List Nat) := .node (.node (.node (.node (.leaf) (some [6, 7]) (.leaf)) (some [0, 1, 9]) (.leaf)) (some [0, 1]) (.node (.node (.leaf) (some [4, 5]) (.leaf)) (some [4, 5]) (.leaf))) (some [0, 1]) (.node (.node (.node (.leaf) (some [6, 7]) (.leaf)) (some []) (.leaf)) (some [0, 1]) (.node (.leaf) (some [0, 1]) (.leaf)))
noncomputable def PH15 : List (Nat × AFn) := [(39, G39)]
noncomputable def E15 : Code → Kont → Fr → Heap → Rs := ev T PH15 L15 fuel
noncomputable def C15_0 : Code := bodyOf Try.f15
noncomputable def C15_1 : Code := cl C15_0
noncomputable def C15_2 : Code := cr C15_0
noncomputable def K15_0 : Kont := kSeq (E15 C15_2 (kFin T Try.f15.results.toList)) (kFin T Try.f15.results.toList)
noncomputable def R15_0 (t0 t1 : AV) (h : Heap) (k : AV → AV → Heap → Rs) : Rs :=
  k t0 t1 h
noncomputable def C15_3 : Code := cl C15_2
noncomputable def C15_4 : Code := cr C15_2
noncomputable def K15_1 : Kont := kSeq (E15 C15_4 (kFin T Try.f15.results.toList)) (kFin T Try.f15.results.toList)
noncomputable def C15_5 : Code := cl C15_3
noncomputable def C15_6 : Code := cr C15_3
noncomputable def K15_2 : Kont := kSeq (E15 C15_6 K15_1) K15_1
noncomputable def R15_1 (t0 t1 : AV) (h : Heap) (k : AV → AV → AV → Heap → Rs) : Rs :=
  pureK (binOpA T .eql 24 t0 AV.pnil) h fun v1 h1 =>
  k t0 t1 v1 h1
noncomputable def C15_7 : Code := cl C15_6
noncomputable def C15_8 : Code := cr C15_6
noncomputable def C15_9 : Code := cl C15_7
noncomputable def C15_10 : Code := cr C15_7
noncomputable def K15_3 : Kont := kSeq (E15 C15_10 K15_1) K15_1
noncomputable def C15_11 : Code := cl C15_4
noncomputable def C15_12 : Code := cr C15_4
noncomputable def K15_4 : Kont := kSeq (E15 C15_12 (kFin T Try.f15.results.toList)) (kFin T Try.f15.results.toList)
noncomputable def R15_2 (h : Heap) (k : AV → AV → Heap → Rs) : Rs :=
  k AV.snil (AV.bool false) h
noncomputable def G15_2 (h : Heap) : Rs := R15_2 h fun t4 t5 h => some ((AV.tup [t4, t5]), h)
noncomputable def R15_3 (t0 t1 : AV) (h : Heap) (k : AV → AV → Heap → Rs) : Rs :=
  pureK (nilck t0) h fun v1 h1 =>
  pureK (faddr 2 v1) h1 fun v2 h2 =>
  pureK (ldV h2 v2) h2 fun v3 h3 =>
  pureK (lkp .str ((AV.snil)) h3 v3 t1 true) h3 fun v5 h5 =>
  pureK (extr v5 0) h5 fun v7 h7 =>
  pureK (extr v5 1) h7 fun v8 h8 =>
  k v7 v8 h8
noncomputable def C15_13 : Code := cl C15_12
noncomputable def C15_14 : Code := cr C15_12
noncomputable def K15_5 : Kont := kSeq (E15 C15_14 (kFin T Try.f15.results.toList)) (kFin T Try.f15.results.toList)
noncomputable def R15_4 (t6 t7 : AV) (h : Heap) (k : AV → AV → Heap → Rs) : Rs :=
  efK (G39 [t6] h) fun v1 h1 =>
  k v1 t7 h1
noncomputable def G15_4 (t6 t7 : AV) (h : Heap) : Rs := R15_4 t6 t7 h fun t4 t5 h => some ((AV.tup [t4, t5]), h)
noncomputable def G15_3 (t0 t1 : AV) (h : Heap) : Rs := R15_3 t0 t1 h fun t6 t7 h => G15_4 t6 t7 h
noncomputable def G15_1 (t0 t1 : AV) (h : Heap) : Rs := R15_1 t0 t1 h fun t0 t1 t9 h => bcase t9 (G15_2 h) (G15_3 t0 t1 h)
noncomputable def G15_0 (t0 t1 : AV) (h : Heap) : Rs := R15_0 t0 t1 h fun t0 t1 h => G15_1 t0 t1 h
noncomputable def G15 : AFn
  | [t0, t1], h => G15_0 t0 t1 h
  | _, _ => none
theorem q15_0 (fr : Fr) (h : Heap) : E15 C15_0 (kFin T Try.f15.results.toList) fr h = E15 C15_1 K15_0 fr h := stepSeq (by kernel_rfl) _ _ _
theorem r15_0 (K : Kont) (t0 t1 : AV) (h : Heap) : E15 C15_1 K (frOf 22 [(0,t0),(1,t1)]) h = R15_0 t0 t1 h (fun t0 t1 h => K .normal (frOf 22 [(0,t0),(1,t1)]) h) := by kernel_rfl
theorem n15_1 (fr : Fr) (h : Heap) : K15_0 .normal fr h = E15 C15_2 (kFin T Try.f15.results.toList) fr h := kSeq_n _ _ _ _
theorem q15_2 (fr : Fr) (h : Heap) : E15 C15_2 (kFin T Try.f15.results.toList) fr h = E15 C15_3 K15_1 fr h := stepSeq (by kernel_rfl) _ _ _
theorem q15_3 (fr : Fr) (h : Heap) : E15 C15_3 K15_1 fr h = E15 C15_5 K15_2 fr h := stepSeq (by kernel_rfl) _ _ _
theorem r15_1 (K : Kont) (t0 t1 : AV) (h : Heap) : E15 C15_5 K (frOf 22 [(0,t0),(1,t1)]) h = R15_1 t0 t1 h (fun t0 t1 t9 h => K .normal (frOf 22 [(0,t0),(1,t1),(9,t9)]) h) := by kernel_rfl
theorem n15_4 (fr : Fr) (h : Heap) : K15_2 .normal fr h = E15 C15_6 K15_1 fr h := kSeq_n _ _ _ _
theorem q15_5 (fr : Fr) (h : Heap) : E15 C15_7 K15_1 fr h = E15 C15_9 K15_3 fr h := stepSeq (by kernel_rfl) _ _ _
theorem n15_6 (fr : Fr) (h : Heap) : K15_1 .normal fr h = E15 C15_4 (kFin T Try.f15.results.toList) fr h := kSeq_n _ _ _ _
theorem q15_7 (fr : Fr) (h : Heap) : E15 C15_4 (kFin T Try.f15.results.toList) fr h = E15 C15_11 K15_4 fr h := stepSeq (by kernel_rfl) _ _ _
theorem r15_2 (K : Kont) (h : Heap) : E15 C15_9 K (frOf 22 []) h = R15_2 h (fun t4 t5 h => K .normal (frOf 22 [(4,t4),(5,t5)]) h) := by kernel_rfl
theorem n15_8 (fr : Fr) (h : Heap) : K15_3 .normal fr h = E15 C15_10 K15_1 fr h := kSeq_n _ _ _ _
theorem b15_2 (h : Heap) : E15 C15_9 K15_3 (frOf 22 []) h = G15_2 h :=
  (r15_2 K15_3 h).trans (congrArg (R15_2 h) (funext fun t4 => funext fun t5 => funext fun h => (Eq.trans (n15_8 _ _) (Eq.trans (stepRet (by kernel_rfl) K15_1 _ _) (Eq.trans (kSeq_r _ _ _ _) (by kernel_rfl))))))
theorem r15_3 (K : Kont) (t0 t1 : AV) (h : Heap) : E15 C15_11 K (frOf 22 [(0,t0),(1,t1)]) h = R15_3 t0 t1 h (fun t6 t7 h => K .normal (frOf 22 [(6,t6),(7,t7)]) h) := by kernel_rfl
theorem n15_9 (fr : Fr) (h : Heap) : K15_4 .normal fr h = E15 C15_12 (kFin T Try.f15.results.toList) fr h := kSeq_n _ _ _ _
theorem q15_10 (fr : Fr) (h : Heap) : E15 C15_12 (kFin T Try.f15.results.toList) fr h = E15 C15_13 K15_5 fr h := stepSeq (by kernel_rfl) _ _ _
theorem r15_4 (K : Kont) (t6 t7 : AV) (h : Heap) : E15 C15_13 K (frOf 22 [(6,t6),(7,t7)]) h = R15_4 t6 t7 h (fun t4 t5 h => K .normal (frOf 22 [(4,t4),(5,t5)]) h) := by kernel_rfl
theorem n15_11 (fr : Fr) (h : Heap) : K15_5 .normal fr h = E15 C15_14 (kFin T Try.f15.results.toList) fr h := kSeq_n _ _ _ _
theorem b15_4 (t6 t7 : AV) (h : Heap) : E15 C15_13 K15_5 (frOf 22 [(6,t6),(7,t7)]) h = G15_4 t6 t7 h :=
  (r15_4 K15_5 t6 t7 h).trans (congrArg (R15_4 t6 t7 h) (funext fun t4 => funext fun t5 => funext fun h => (Eq.trans (n15_11 _ _) (Eq.trans (stepRet (by kernel_rfl) (kFin T Try.f15.results.toList) _ _) (by kernel_rfl)))))
theorem b15_3 (t0 t1 : AV) (h : Heap) : E15 C15_11 K15_4 (frOf 22 [(0,t0),(1,t1)]) h = G15_3 t0 t1 h :=
  (r15_3 K15_4 t0 t1 h).trans (congrArg (R15_3 t0 t1 h) (funext fun t6 => funext fun t7 => funext fun h => (Eq.trans (n15_9 _ _) (Eq.trans (q15_10 _ _) (b15_4 t6 t7 h)))))
theorem b15_1 (t0 t1 : AV) (h : Heap) : E15 C15_5 K15_2 (frOf 22 [(0,t0),(1,t1)]) h = G15_1 t0 t1 h :=
  (r15_1 K15_2 t0 t1 h).trans (congrArg (R15_1 t0 t1 h) (funext fun t0 => funext fun t1 => funext fun t9 => funext fun h => (Eq.trans (n15_4 _ _) (Eq.trans (stepCond (c := C15_6) (by kernel_rfl) K15_1 _ _ (v := t9) (by kernel_rfl)) (bcase_congr t9 (Eq.trans (q15_5 _ _) (Eq.trans (stepClean (c := C15_9) (id := 2) (by kernel_rfl) K15_3 _ _ (by kernel_rfl)) (b15_2 h))) (Eq.trans (stepSkip (by kernel_rfl) K15_1 _ _) (Eq.trans (n15_6 _ _) (Eq.trans (q15_7 _ _) (Eq.trans (stepClean (c := C15_11) (id := 3) (by kernel_rfl) K15_4 _ _ (by kernel_rfl)) (b15_3 t0 t1 h))))))))))
theorem b15_0 (t0 t1 : AV) (h : Heap) : E15 C15_1 K15_0 (frOf 22 [(0,t0),(1,t1)]) h = G15_0 t0 t1 h :=
  (r15_0 K15_0 t0 t1 h).trans (congrArg (R15_0 t0 t1 h) (funext fun t0 => funext fun t1 => funext fun h => (Eq.trans (n15_1 _ _) (Eq.trans (q15_2 _ _) (Eq.trans (q15_3 _ _) (b15_1 t0 t1 h))))))
theorem entry15 (t0 t1 : AV) (h : Heap) : evFunc T PH15 L15 Try.f15 fuel [t0, t1] h = E15 C15_0 (kFin T Try.f15.results.toList) (frOf 22 [(0,t0),(1,t1)]) h := by kernel_rfl
theorem e15 (t0 t1 : AV) (h : Heap) : evFunc T PH15 L15 Try.f15 fuel [t0, t1] h = G15 [t0, t1] h := Eq.trans (entry15 t0 t1 h) (Eq.trans (q15_0 _ _) (b15_0 t0 t1 h))
set_option maxRecDepth 100000 in
theorem s15 : Sound Try.prog 15 G15 := (soundOf tok 15 Try.f15 rfl rfl (Φ := PH15) (allCons s39 allNil) L15 fuel).le fun args h r hr => by
  unfold G15 at hr; split at hr
  · exact (e15 _ _ h).trans (by unfold G15; exact hr)
  · cases hr
/- 18: (*delphi/disk.Disk).Remove -/
def L18 : PM (List Nat) := .node (.node (.node (.node (.leaf) (some [0, 1, 8]) (.leaf)) (some [0, 1, 5]) (.node (.leaf) (some [4]) (.leaf))) (some [0, 1]) (.node (.node (.leaf) (some [4]) (.leaf)) (some [4]) (.leaf))) (some [0, 1]) (.node (.node (.node (.leaf) (some []) (.leaf)) (some []) (.leaf)) (some [0, 1]) (.node (.node (.leaf) (some [0, 1]) (.leaf)) (some [0, 1]) (.leaf)))
noncomputable def PH18 : List (Nat × AFn) := [(37, G37), (38, G38)]
noncomputable def E18 : Code → Kont → Fr → Heap → Rs := ev T PH18 L18 fuel
noncomputable def C18_0 : Code := bodyOf Try.f18
noncomputable def C18_1 : Code := cl C18_0
noncomputable def C18_2 : Code := cr C18_0
noncomputable def K18_0 : Kont := kSeq (E18 C18_2 (kFin T Try.f18.results.toList)) (kFin T Try.f18.results.toList)
noncomputable def R18_0 (t0 t1 : AV) (h : Heap) (k : AV → AV → Heap → Rs) : Rs :=
  k t0 t1 h
noncomputable def C18_3 : Code := cl C18_2
noncomputable def C18_4 : Code := cr C18_2
noncomputable def K18_1 : Kont := kSeq (E18 C18_4 (kFin T Try.f18.results.toList)) (kFin T Try.f18.results.toList)
noncomputable def C18_5 : Code := cl C18_3
noncomputable def K18_2 : Kont := kBlock 0 K18_1
noncomputable def C18_6 : Code := cl C18_5
noncomputable def C18_7 : Code := cr C18_5
noncomputable def K18_3 : Kont := kSeq (E18 C18_7 K18_2) K18_2
noncomputable def R18_1 (t0 t1 : AV) (h : Heap) (k : AV → AV → AV → Heap → Rs) : Rs :=
  pureK (binOpA T .eql 24 t0 AV.pnil) h fun v1 h1 =>
  k t0 t1 v1 h1
noncomputable def C18_8 : Code := cl C18_7
noncomputable def C18_9 : Code := cr C18_7
noncomputable def C18_10 : Code := cl C18_8
noncomputable def C18_11 : Code := cr C18_8
noncomputable def K18_4 : Kont := kSeq (E18 C18_11 K18_2) K18_2
noncomputable def C18_12 : Code := cl C18_9
noncomputable def C18_13 : Code := cr C18_9
noncomputable def K18_5 : Kont := kSeq (E18 C18_13 K18_2) K18_2
noncomputable def R18_2 (h : Heap) (k : AV → Heap → Rs) : Rs :=
  k (AV.int .i64 1) h
noncomputable def G18_2 (h : Heap) : Rs := R18_2 h fun t4 h => some (t4, h)
noncomputable def R18_3 (t0 t1 : AV) (h : Heap) (k : AV → AV → AV → Heap → Rs) : Rs :=
  efK (G37 [t0, t1] h) fun v2 h2 =>
  pureK (unOpA .not v2) h2 fun v3 h3 =>
  k t0 t1 v3 h3
noncomputable def C18_14 : Code := cl C18_13
noncomputable def C18_15 : Code := cr C18_13
noncomputable def C18_16 : Code := cl C18_14
noncomputable def C18_17 : Code := cr C18_14
noncomputable def K18_6 : Kont := kSeq (E18 C18_17 K18_2) K18_2
noncomputable def C18_18 : Code := cl C18_4
noncomputable def C18_19 : Code := cr C18_4
noncomputable def K18_7 : Kont := kSeq (E18 C18_19 (kFin T Try.f18.results.toList)) (kFin T Try.f18.results.toList)
noncomputable def R18_4 (h : Heap) (k : AV → Heap → Rs) : Rs :=
  k (AV.int .i64 14) h
noncomputable def G18_4 (h : Heap) : Rs := R18_4 h fun t4 h => some (t4, h)
noncomputable def R18_5 (t0 t1 : AV) (h : Heap) (k : AV → Heap → Rs) : Rs :=
  pureK (bldP [(AV.int .i64 0), (AV.str []), (AV.str []), (AV.snil), (AV.int .i64 0)] [(0, 1, (AV.int .i64 2)), (1, 1, t1)]) h fun v2 h2 =>
  efK (G38 [t0, v2] h2) fun v3 h3 =>
  k v3 h3
noncomputable def G18_5 (t0 t1 : AV) (h : Heap) : Rs := R18_5 t0 t1 h fun t4 h => some (t4, h)
noncomputable def G18_3 (t0 t1 : AV) (h : Heap) : Rs := R18_3 t0 t1 h fun t0 t1 t8 h => bcase t8 (G18_4 h) (G18_5 t0 t1 h)
noncomputable def G18_1 (t0 t1 : AV) (h : Heap) : Rs := R18_1 t0 t1 h fun t0 t1 t5 h => bcase t5 (G18_2 h) (G18_3 t0 t1 h)
noncomputable def G18_0 (t0 t1 : AV) (h : Heap) : Rs := R18_0 t0 t1 h fun t0 t1 h => G18_1 t0 t1 h
noncomputable def G18 : AFn
  | [t0, t1], h => G18_0 t0 t1 h
  | _, _ => none
theorem q18_0 (fr : Fr) (h : Heap) : E18 C18_0 (kFin T Try.f18.results.toList) fr h = E18 C18_1 K18_0 fr h := stepSeq (by kernel_rfl) _ _ _
theorem r18_0 (K : Kont) (t0 t1 : AV) (h : Heap) : E18 C18_1 K (frOf 17 [(0,t0),(1,t1)]) h = R18_0 t0 t1 h (fun t0 t1 h => K .normal (frOf 17 [(0,t0),(1,t1)]) h) := by kernel_rfl
theorem n18_1 (fr : Fr) (h : Heap) : K18_0 .normal fr h = E18 C18_2 (kFin T Try.f18.results.toList) fr h := kSeq_n _ _ _ _
theorem q18_2 (fr : Fr) (h : Heap) : E18 C18_2 (kFin T Try.f18.results.toList) fr h = E18 C18_3 K18_1 fr h := stepSeq (by kernel_rfl) _ _ _
theorem q18_3 (fr : Fr) (h : Heap) : E18 C18_3 K18_1 fr h = E18 C18_5 K18_2 fr h := stepBlock (by kernel_rfl) _ _ _
theorem q18_4 (fr : Fr) (h : Heap) : E18 C18_5 K18_2 fr h = E18 C18_6 K18_3 fr h := stepSeq (by kernel_rfl) _ _ _
theorem r18_1 (K : Kont) (t0 t1 : AV) (h : Heap) : E18 C18_6 K (frOf 17 [(0,t0),(1,t1)]) h = R18_1 t0 t1 h (fun t0 t1 t5 h => K .normal (frOf 17 [(0,t0),(1,t1),(5,t5)]) h) := by kernel_rfl
theorem n18_5 (fr : Fr) (h : Heap) : K18_3 .normal fr h = E18 C18_7 K18_2 fr h := kSeq_n _ _ _ _
theorem q18_6 (fr : Fr) (h : Heap) : E18 C18_8 K18_2 fr h = E18 C18_10 K18_4 fr h := stepSeq (by kernel_rfl) _ _ _
theorem q18_7 (fr : Fr) (h : Heap) : E18 C18_9 K18_2 fr h = E18 C18_12 K18_5 fr h := stepSeq (by kernel_rfl) _ _ _
theorem r18_2 (K : Kont) (h : Heap) : E18 C18_10 K (frOf 17 []) h = R18_2 h (fun t4 h => K .normal (frOf 17 [(4,t4)]) h) := by kernel_rfl
theorem n18_8 (fr : Fr) (h : Heap) : K18_4 .normal fr h = E18 C18_11 K18_2 fr h := kSeq_n _ _ _ _
theorem b18_2 (h : Heap) : E18 C18_10 K18_4 (frOf 17 []) h = G18_2 h :=
  (r18_2 K18_4 h).trans (congrArg (R18_2 h) (funext fun t4 => funext fun h => (Eq.trans (n18_8 _ _) (Eq.trans (stepRet (by kernel_rfl) K18_2 _ _) (Eq.trans (kBlock_r _ _ _ _) (Eq.trans (kSeq_r _ _ _ _) (by kernel_rfl)))))))
theorem r18_3 (K : Kont) (t0 t1 : AV) (h : Heap) : E18 C18_12 K (frOf 17 [(0,t0),(1,t1)]) h = R18_3 t0 t1 h (fun t0 t1 t8 h => K .normal (frOf 17 [(0,t0),(1,t1),(8,t8)]) h) := by kernel_rfl
theorem n18_9 (fr : Fr) (h : Heap) : K18_5 .normal fr h = E18 C18_13 K18_2 fr h := kSeq_n _ _ _ _
theorem q18_10 (fr : Fr) (h : Heap) : E18 C18_14 K18_2 fr h = E18 C18_16 K18_6 fr h := stepSeq (by kernel_rfl) _ _ _
theorem n18_11 (fr : Fr) (h : Heap) : K18_1 .normal fr h = E18 C18_4 (kFin T Try.f18.results.toList) fr h := kSeq_n _ _ _ _
theorem q18_12 (fr : Fr) (h : Heap) : E18 C18_4 (kFin T Try.f18.results.toList) fr h = E18 C18_18 K18_7 fr h := stepSeq (by kernel_rfl) _ _ _
theorem r18_4 (K : Kont) (h : Heap) : E18 C18_16 K (frOf 17 []) h = R18_4 h (fun t4 h => K .normal (frOf 17 [(4,t4)]) h) := by kernel_rfl
theorem n18_13 (fr : Fr) (h : Heap) : K18_6 .normal fr h = E18 C18_17 K18_2 fr h := kSeq_n _ _ _ _
theorem b18_4 (h : Heap) : E18 C18_16 K18_6 (frOf 17 []) h = G18_4 h :=
  (r18_4 K18_6 h).trans (congrArg (R18_4 h) (funext fun t4 => funext fun h => (Eq.trans (n18_13 _ _) (Eq.trans (stepRet (by kernel_rfl) K18_2 _ _) (Eq.trans (kBlock_r _ _ _ _) (Eq.trans (kSeq_r _ _ _ _) (by kernel_rfl)))))))
theorem r18_5 (K : Kont) (t0 t1 : AV) (h : Heap) : E18 C18_18 K (frOf 17 [(0,t0),(1,t1)]) h = R18_5 t0 t1 h (fun t4 h => K .normal (frOf 17 [(4,t4)]) h) := by kernel_rfl
theorem n18_14 (fr : Fr) (h : Heap) : K18_7 .normal fr h = E18 C18_19 (kFin T Try.f18.results.toList) fr h := kSeq_n _ _ _ _
theorem b18_5 (t0 t1 : AV) (h : Heap) : E18 C18_18 K18_7 (frOf 17 [(0,t0),(1,t1)]) h = G18_5 t0 t1 h :=
  (r18_5 K18_7 t0 t1 h).trans (congrArg (R18_5 t0 t1 h) (funext fun t4 => funext fun h => (Eq.trans (n18_14 _ _) (Eq.trans (stepRet (by kernel_rfl) (kFin T Try.f18.results.toList) _ _) (by kernel_rfl)))))
theorem b18_3 (t0 t1 : AV) (h : Heap) : E18 C18_12 K18_5 (frOf 17 [(0,t0),(1,t1)]) h = G18_3 t0 t1 h :=
  (r18_3 K18_5 t0 t1 h).trans (congrArg (R18_3 t0 t1 h) (funext fun t0 => funext fun t1 => funext fun t8 => funext fun h => (Eq.trans (n18_9 _ _) (Eq.trans (stepCond (c := C18_13) (by kernel_rfl) K18_2 _ _ (v := t8) (by kernel_rfl)) (bcase_congr t8 (Eq.trans (q18_10 _ _) (Eq.trans (stepClean (c := C18_16) (id := 4) (by kernel_rfl) K18_6 _ _ (by kernel_rfl)) (b18_4 h))) (Eq.trans (stepSkip (by kernel_rfl) K18_2 _ _) (Eq.trans (kBlock_n _ _ _ _) (Eq.trans (n18_11 _ _) (Eq.trans (q18_12 _ _) (Eq.trans (stepClean (c := C18_18) (id := 5) (by kernel_rfl) K18_7 _ _ (by kernel_rfl)) (b18_5 t0 t1 h)))))))))))
theorem b18_1 (t0 t1 : AV) (h : Heap) : E18 C18_6 K18_3 (frOf 17 [(0,t0),(1,t1)]) h = G18_1 t0 t1 h :=
  (r18_1 K18_3 t0 t1 h).trans (congrArg (R18_1 t0 t1 h) (funext fun t0 => funext fun t1 => funext fun t5 => funext fun h => (Eq.trans (n18_5 _ _) (Eq.trans (stepCond (c := C18_7) (by kernel_rfl) K18_2 _ _ (v := t5) (by kernel_rfl)) (bcase_congr t5 (Eq.trans (q18_6 _ _) (Eq.trans (stepClean (c := C18_10) (id := 2) (by kernel_rfl) K18_4 _ _ (by kernel_rfl)) (b18_2 h))) (Eq.trans (q18_7 _ _) (Eq.trans (stepClean (c := C18_12) (id := 3) (by kernel_rfl) K18_5 _ _ (by kernel_rfl)) (b18_3 t0 t1 h))))))))
theorem b18_0 (t0 t1 : AV) (h : Heap) : E18 C18_1 K18_0 (frOf 17 [(0,t0),(1,t1)]) h = G18_0 t0 t1 h :=
  (r18_0 K18_0 t0 t1 h).trans (congrArg (R18_0 t0 t1 h) (funext fun t0 => funext fun t1 => funext fun h => (Eq.trans (n18_1 _ _) (Eq.trans (q18_2 _ _) (Eq.trans (q18_3 _ _) (Eq.trans (q18_4 _ _) (b18_1 t0 t1 h)))))))
theorem entry18 (t0 t1 : AV) (h : Heap) : evFunc T PH18 L18 Try.f18 fuel [t0, t1] h = E18 C18_0 (kFin T Try.f18.results.toList) (frOf 17 [(0,t0),(1,t1)]) h := by kernel_rfl
theorem e18 (t0 t1 : AV) (h : Heap) : evFunc T PH18 L18 Try.f18 fuel [t0, t1] h = G18 [t0, t1] h := Eq.trans (entry18 t0 t1 h) (Eq.trans (q18_0 _ _) (b18_0 t0 t1 h))
set_option maxRecDepth 100000 in
theorem s18 : Sound Try.prog 18 G18 := (soundOf tok 18 Try.f18 rfl rfl (Φ := PH18) (allCons s37 (allCons s38 allNil)) L18 fuel).le fun args h r hr => by
  unfold G18 at hr; split at hr
  · exact (e18 _ _ h).trans (by unfold G18; exact hr)
  · cases hr
/- 128: cmp.isNaN[string] -/
def L128 : PM (List Nat) := .node (.node (.node (.leaf) (some [2]) (.leaf)) (some [0]) (.leaf)) (some [0]) (.node (.leaf) (some [0]) (.leaf))
noncomputable def PH128 : List (Nat × AFn) := []
noncomputable def E128 : Code → Kont → Fr → Heap → Rs := ev T PH128 L128 fuel
noncomputable def C128_0 : Code := bodyOf Try.f128
noncomputable def C128_1 : Code := cl C128_0
noncomputable def C128_2 : Code := cr C128_0
noncomputable def K128_0 : Kont := kSeq (E128 C128_2 (kFin T Try.f128.results.toList)) (kFin T Try.f128.results.toList)
noncomputable def R128_0 (t0 : AV) (h : Heap) (k : AV → Heap → Rs) : Rs :=
  k t0 h
noncomputable def C128_3 : Code := cl C128_2
noncomputable def C128_4 : Code := cr C128_2
noncomputable def K128_1 : Kont := kSeq (E128 C128_4 (kFin T Try.f128.results.toList)) (kFin T Try.f128.results.toList)
noncomputable def R128_1 (t0 : AV) (h : Heap) (k : AV → Heap → Rs) : Rs :=
  pureK (binOpA T .neq 9 t0 t0) h fun v2 h2 =>
  k v2 h2
noncomputable def G128_1 (t0 : AV) (h : Heap) : Rs := R128_1 t0 h fun t2 h => some (t2, h)
noncomputable def G128_0 (t0 : AV) (h : Heap) : Rs := R128_0 t0 h fun t0 h => G128_1 t0 h
noncomputable def G128 : AFn
  | [t0], h => G128_0 t0 h
  | _, _ => none
theorem q128_0 (fr : Fr) (h : Heap) : E128 C128_0 (kFin T Try.f128.results.toList) fr h = E128 C128_1 K128_0 fr h := stepSeq (by kernel_rfl) _ _ _
theorem r128_0 (K : Kont) (t0 : AV) (h : Heap) : E128 C128_1 K (frOf 6 [(0,t0)]) h = R128_0 t0 h (fun t0 h => K .normal (frOf 6 [(0,t0)]) h) := by kernel_rfl
theorem n128_1 (fr : Fr) (h : Heap) : K128_0 .normal fr h = E128 C128_2 (kFin T Try.f128.results.toList) fr h := kSeq_n _ _ _ _
theorem q128_2 (fr : Fr) (h : Heap) : E128 C128_2 (kFin T Try.f128.results.toList) fr h = E128 C128_3 K128_1 fr h := stepSeq (by kernel_rfl) _ _ _
theorem r128_1 (K : Kont) (t0 : AV) (h : Heap) : E128 C128_3 K (frOf 6 [(0,t0)]) h = R128_1 t0 h (fun t2 h => K .normal (frOf 6 [(2,t2)]) h) := by kernel_rfl
theorem n128_3 (fr : Fr) (h : Heap) : K128_1 .normal fr h = E128 C128_4 (kFin T Try.f128.results.toList) fr h := kSeq_n _ _ _ _
theorem b128_1 (t0 : AV) (h : Heap) : E128 C128_3 K128_1 (frOf 6 [(0,t0)]) h = G128_1 t0 h :=
  (r128_1 K128_1 t0 h).trans (congrArg (R128_1 t0 h) (funext fun t2 => funext fun h => (Eq.trans (n128_3 _ _) (Eq.trans (stepRet (by kernel_rfl) (kFin T Try.f128.results.toList) _ _) (by kernel_rfl)))))
theorem b128_0 (t0 : AV) (h : Heap) : E128 C128_1 K128_0 (frOf 6 [(0,t0)]) h = G128_0 t0 h :=
  (r128_0 K128_0 t0 h).trans (congrArg (R128_0 t0 h) (funext fun t0 => funext fun h => (Eq.trans (n128_1 _ _) (Eq.trans (q128_2 _ _) (b128_1 t0 h)))))
theorem entry128 (t0 : AV) (h : Heap) : evFunc T PH128 L128 Try.f128 fuel [t0] h = E128 C128_0 (kFin T Try.f128.results.toList) (frOf 6 [(0,t0)]) h := by kernel_rfl
theorem e128 (t0 : AV) (h : Heap) : evFunc T PH128 L128 Try.f128 fuel [t0] h = G128 [t0] h := Eq.trans (entry128 t0 h) (Eq.trans (q128_0 _ _) (b128_0 t0 h))
set_option maxRecDepth 100000 in
theorem s128 : Sound Try.prog 128 G128 := (soundOf tok 128 Try.f128 rfl rfl (Φ := PH128) allNil L128 fuel).le fun args h r hr => by
  unfold G128 at hr; split at hr
  · exact (e128 _ h).trans (by unfold G128; exact hr)
  · cases hr
/- 116: cmp.Less[string] -/
def L116 : PM (List Nat) := .node (.node (.node (.leaf) (some [4]) (.leaf)) (some [0, 1]) (.leaf)) (some [0, 1]) (.node (.leaf) (some [0, 1]) (.leaf))
noncomputable def PH116 : List (Nat × AFn) := [(128, G128)]
noncomputable def E116 : Code → Kont → Fr → Heap → Rs := ev T PH116 L116 fuel
noncomputable def C116_0 : Code := bodyOf Try.f116
noncomputable def C116_1 : Code := cl C116_0
noncomputable def C116_2 : Code := cr C116_0
noncomputable def K116_0 : Kont := kSeq (E116 C116_2 (kFin T Try.f116.results.toList)) (kFin T Try.f116.results.toList)
noncomputable def R116_0 (t0 t1 : AV) (h : Heap) (k : AV → AV → Heap → Rs) : Rs :=
  k t0 t1 h
noncomputable def C116_3 : Code := cl C116_2
noncomputable def C116_4 : Code := cr C116_2
noncomputable def K116_1 : Kont := kSeq (E116 C116_4 (kFin T Try.f116.results.toList)) (kFin T Try.f116.results.toList)
noncomputable def R116_1 (t0 t1 : AV) (h : Heap) (k : AV → Heap → Rs) : Rs :=
  efK (G128 [t0] h) fun v1 h1 =>
  gcase v1
    (
      efK (G128 [t1] h1) fun v4 h4 =>
      pureK (unOpA .not v4) h4 fun v5 h5 =>
      gcase v5
        (
          k (AV.bool true) h5)
        (
          pureK (binOpA T .lss 9 t0 t1) h5 fun v10 h10 =>
          k v10 h10)
        (
          none))
    (
      pureK (binOpA T .lss 9 t0 t1) h1 fun v10 h10 =>
      k v10 h10)
    (
      none)
noncomputable def G116_1 (t0 t1 : AV) (h : Heap) : Rs := R116_1 t0 t1 h fun t4 h => some (t4, h)
noncomputable def G116_0 (t0 t1 : AV) (h : Heap) : Rs := R116_0 t0 t1 h fun t0 t1 h => G116_1 t0 t1 h
noncomputable def G116 : AFn
  | [t0, t1], h => G116_0 t0 t1 h
  | _, _ => none
theorem q116_0 (fr : Fr) (h : Heap) : E116 C116_0 (kFin T Try.f116.results.toList) fr h = E116 C116_1 K116_0 fr h := stepSeq (by kernel_rfl) _ _ _
theorem r116_0 (K : Kont) (t0 t1 : AV) (h : Heap) : E116 C116_1 K (frOf 17 [(0,t0),(1,t1)]) h = R116_0 t0 t1 h (fun t0 t1 h => K .normal (frOf 17 [(0,t0),(1,t1)]) h) := by kernel_rfl
theorem n116_1 (fr : Fr) (h : Heap) : K116_0 .normal fr h = E116 C116_2 (kFin T Try.f116.results.toList) fr h := kSeq_n _ _ _ _
theorem q116_2 (fr : Fr) (h : Heap) : E116 C116_2 (kFin T Try.f116.results.toList) fr h = E116 C116_3 K116_1 fr h := stepSeq (by kernel_rfl) _ _ _
theorem r116_1 (K : Kont) (t0 t1 : AV) (h : Heap) : E116 C116_3 K (frOf 17 [(0,t0),(1,t1)]) h = R116_1 t0 t1 h (fun t4 h => K .normal (frOf 17 [(4,t4)]) h) := by kernel_rfl
theorem n116_3 (fr : Fr) (h : Heap) : K116_1 .normal fr h = E116 C116_4 (kFin T Try.f116.results.toList) fr h := kSeq_n _ _ _ _
theorem b116_1 (t0 t1 : AV) (h : Heap) : E116 C116_3 K116_1 (frOf 17 [(0,t0),(1,t1)]) h = G116_1 t0 t1 h :=
  (r116_1 K116_1 t0 t1 h).trans (congrArg (R116_1 t0 t1 h) (funext fun t4 => funext fun h => (Eq.trans (n116_3 _ _) (Eq.trans (stepRet (by kernel_rfl) (kFin T Try.f116.results.toList) _ _) (by kernel_rfl)))))
theorem b116_0 (t0 t1 : AV) (h : Heap) : E116 C116_1 K116_0 (frOf 17 [(0,t0),(1,t1)]) h = G116_0 t0 t1 h :=
  (r116_0 K116_0 t0 t1 h).trans (congrArg (R116_0 t0 t1 h) (funext fun t0 => funext fun t1 => funext fun h => (Eq.trans (n116_1 _ _) (Eq.trans (q116_2 _ _) (b116_1 t0 t1 h)))))
theorem entry116 (t0 t1 : AV) (h : Heap) : evFunc T PH116 L116 Try.f116 fuel [t0, t1] h = E116 C116_0 (kFin T Try.f116.results.toList) (frOf 17 [(0,t0),(1,t1)]) h := by kernel_rfl
theorem e116 (t0 t1 : AV) (h : Heap) : evFunc T PH116 L116 Try.f116 fuel [t0, t1] h = G116 [t0, t1] h := Eq.trans (entry116 t0 t1 h) (Eq.trans (q116_0 _ _) (b116_0 t0 t1 h))
set_option maxRecDepth 100000 in
theorem s116 : Sound Try.prog 116 G116 := (soundOf tok 116 Try.f116 rfl rfl (Φ := PH116) (allCons s128 allNil) L116 fuel).le fun args h r hr => by
  unfold G116 at hr; split at hr
  · exact (e116 _ _ h).trans (by unfold G116; exact hr)
  · cases hr
/- 110: slices.insertionSortOrdered[string] -/
def L110 : PM (List Nat) := .node (.node (.node (.node (.leaf) (some [0, 1, 2, 6, 7]) (.leaf)) (some [0, 1, 2, 6, 12]) (.node (.leaf) (some [0, 1, 2, 6, 7]) (.leaf))) (some [0, 1, 2, 6]) (.node (.node (.leaf) (some [0, 1, 2, 6, 7, 30]) (.leaf)) (some [0, 1, 2, 6]) (.node (.leaf) (some [0, 1, 2, 6, 7]) (.leaf)))) (some [0, 1, 2]) (.node (.node (.node (.leaf) (some [0, 1, 2, 6, 7]) (.leaf)) (some [0, 1, 2, 6]) (.node (.leaf) (some [0, 1, 2, 6, 7]) (.leaf))) (some [0, 1, 2, 6]) (.node (.node (.leaf) (some [0, 1, 2, 6, 7]) (.leaf)) (some [0, 1, 2, 6]) (.leaf)))
noncomputable def PH110 : List (Nat × AFn) := [(116, G116)]
noncomputable def E110 : Code → Kont → Fr → Heap → Rs := ev T PH110 L110 fuel
noncomputable def C110_0 : Code := bodyOf Try.f110
noncomputable def C110_1 : Code := cl C110_0
noncomputable def C110_2 : Code := cr C110_0
noncomputable def K110_0 : Kont := kSeq (E110 C110_2 (kFin T Try.f110.results.toList)) (kFin T Try.f110.results.toList)
noncomputable def R110_0 (t0 t1 t2 : AV) (h : Heap) (k : AV → AV → AV → AV → Heap → Rs) : Rs :=
  pureK (binOpA T .add 3 t1 (AV.int .i64 1)) h fun v1 h1 =>
  k t0 t1 t2 v1 h1
noncomputable def C110_3 : Code := cl C110_2
noncomputable def K110_1 : Kont := kBlock 0 (kFin T Try.f110.results.toList)
noncomputable def C110_4 : Code := cl C110_3
noncomputable def K110_2 (m0 : Nat) : Kont := kSeq (fun fr h => evLoop (cleanO L110 (headId C110_4)) (E110 C110_4) K110_1 m0 ((cleanO L110 (headId C110_4)) fr) h) K110_1
noncomputable def C110_5 : Code := cl C110_4
noncomputable def C110_6 : Code := cr C110_4
noncomputable def K110_3 (m0 : Nat) : Kont := kSeq (E110 C110_6 (K110_2 m0)) (K110_2 m0)
noncomputable def C110_7 : Code := cl C110_5
noncomputable def C110_8 : Code := cr C110_5
noncomputable def K110_4 (m0 : Nat) : Kont := kSeq (E110 C110_8 (K110_3 m0)) (K110_3 m0)
noncomputable def R110_1 (t0 t1 t2 t6 : AV) (h : Heap) (k : AV → AV → AV → AV → AV → Heap → Rs) : Rs :=
  pureK (binOpA T .lss 3 t6 t2) h fun v2 h2 =>
  k t0 t1 t2 t6 v2 h2
noncomputable def C110_9 : Code := cl C110_8
noncomputable def C110_10 : Code := cr C110_8
noncomputable def C110_11 : Code := cl C110_6
noncomputable def C110_12 : Code := cr C110_6
noncomputable def K110_5 (m0 : Nat) : Kont := kSeq (E110 C110_12 (K110_2 m0)) (K110_2 m0)
noncomputable def C110_13 : Code := cl C110_11
noncomputable def K110_6 (m0 : Nat) : Kont := kBlock 1 (K110_5 m0)
noncomputable def C110_14 : Code := cl C110_13
noncomputable def C110_15 : Code := cr C110_13
noncomputable def K110_7 (m0 : Nat) : Kont := kSeq (E110 C110_15 (K110_6 m0)) (K110_6 m0)
noncomputable def R110_3 (t0 t1 t2 t6 : AV) (h : Heap) (k : AV → AV → AV → AV → AV → Heap → Rs) : Rs :=
  k t0 t1 t2 t6 t6 h
noncomputable def C110_16 : Code := cl C110_15
noncomputable def K110_8 (m0 : Nat) : Kont := kBlock 2 (K110_6 m0)
noncomputable def C110_17 : Code := cl C110_16
noncomputable def K110_9 (m0 : Nat) (m1 : Nat) : Kont := kSeq (fun fr h => evLoop (cleanO L110 (headId C110_17)) (E110 C110_17) (K110_8 m0) m1 ((cleanO L110 (headId C110_17)) fr) h) (K110_8 m0)
noncomputable def C110_18 : Code := cl C110_17
noncomputable def C110_19 : Code := cr C110_17
noncomputable def K110_10 (m0 : Nat) (m1 : Nat) : Kont := kSeq (E110 C110_19 (K110_9 m0 m1)) (K110_9 m0 m1)
noncomputable def C110_20 : Code := cl C110_18
noncomputable def C110_21 : Code := cr C110_18
noncomputable def K110_11 (m0 : Nat) (m1 : Nat) : Kont := kSeq (E110 C110_21 (K110_10 m0 m1)) (K110_10 m0 m1)
noncomputable def R110_4 (t0 t1 t2 t6 t7 : AV) (h : Heap) (k : AV → AV → AV → AV → AV → AV → Heap → Rs) : Rs :=
  pureK (binOpA T .gtr 3 t7 t1) h fun v2 h2 =>
  gcase v2
    (
      pureK (iaddr 1 t0 t7) h2 fun v6 h6 =>
      pureK (ldV h6 v6) h6 fun v7 h7 =>
      pureK (binOpA T .sub 3 t7 (AV.int .i64 1)) h7 fun v10 h10 =>
      pureK (iaddr 1 t0 v10) h10 fun v11 h11 =>
      pureK (ldV h11 v11) h11 fun v12 h12 =>
      efK (G116 [v7, v12] h12) fun v13 h13 =>
      k t0 t1 t2 t6 t7 v13 h13)
    (
      k t0 t1 t2 t6 t7 (AV.bool false) h2)
    (
      none)
noncomputable def C110_22 : Code := cl C110_21
noncomputable def C110_23 : Code := cr C110_21
noncomputable def C110_24 : Code := cl C110_19
noncomputable def C110_25 : Code := cr C110_19
noncomputable def K110_12 (m0 : Nat) (m1 : Nat) : Kont := kSeq (E110 C110_25 (K110_9 m0 m1)) (K110_9 m0 m1)
noncomputable def C110_26 : Code := cl C110_24
noncomputable def K110_13 (m0 : Nat) (m1 : Nat) : Kont := kBlock 3 (K110_12 m0 m1)
noncomputable def R110_6 (t0 t1 t2 t6 t7 : AV) (h : Heap) (k : AV → AV → AV → AV → AV → Heap → Rs) : Rs :=
  pureK (binOpA T .sub 3 t7 (AV.int .i64 1)) h fun v4 h4 =>
  pureK (binOpA T .sub 3 t7 (AV.int .i64 1)) h4 fun v7 h7 =>
  pureK (iaddr 1 t0 v7) h7 fun v8 h8 =>
  pureK (ldV h8 v8) h8 fun v9 h9 =>
  pureK (iaddr 1 t0 t7) h9 fun v12 h12 =>
  pureK (ldV h12 v12) h12 fun v13 h13 =>
  pureK (iaddr 1 t0 t7) h13 fun v14 h14 =>
  stK (stV 1 h14 v14 v9) fun _ h15 =>
  pureK (iaddr 1 t0 v4) h15 fun v16 h16 =>
  stK (stV 1 h16 v16 v13) fun _ h17 =>
  k t0 t1 t2 t6 t7 h17
noncomputable def R110_5 (t0 t1 t2 t6 t7 : AV) (h : Heap) (k : AV → AV → AV → AV → AV → Heap → Rs) : Rs :=
  pureK (binOpA T .sub 3 t7 (AV.int .i64 1)) h fun v1 h1 =>
  k t0 t1 t2 t6 v1 h1
noncomputable def G110_5 (lc0 : AV → AV → AV → AV → Heap → Rs) (lc1 : AV → AV → AV → AV → AV → Heap → Rs) (t0 t1 t2 t6 t7 : AV) (h : Heap) : Rs := R110_5 t0 t1 t2 t6 t7 h fun t0 t1 t2 t6 t7 h => lc1 t0 t1 t2 t6 t7 h
noncomputable def G110_6 (lc0 : AV → AV → AV → AV → Heap → Rs) (lc1 : AV → AV → AV → AV → AV → Heap → Rs) (t0 t1 t2 t6 t7 : AV) (h : Heap) : Rs := R110_6 t0 t1 t2 t6 t7 h fun t0 t1 t2 t6 t7 h => G110_5 lc0 lc1 t0 t1 t2 t6 t7 h
noncomputable def R110_2 (t0 t1 t2 t6 : AV) (h : Heap) (k : AV → AV → AV → AV → Heap → Rs) : Rs :=
  pureK (binOpA T .add 3 t6 (AV.int .i64 1)) h fun v1 h1 =>
  k t0 t1 t2 v1 h1
noncomputable def G110_2 (lc0 : AV → AV → AV → AV → Heap → Rs) (t0 t1 t2 t6 : AV) (h : Heap) : Rs := R110_2 t0 t1 t2 t6 h fun t0 t1 t2 t6 h => lc0 t0 t1 t2 t6 h
noncomputable def G110_4 (lc0 : AV → AV → AV → AV → Heap → Rs) (lc1 : AV → AV → AV → AV → AV → Heap → Rs) (t0 t1 t2 t6 t7 : AV) (h : Heap) : Rs := R110_4 t0 t1 t2 t6 t7 h fun t0 t1 t2 t6 t7 t30 h => bcase t30 (G110_6 lc0 lc1 t0 t1 t2 t6 t7 h) (G110_2 lc0 t0 t1 t2 t6 h)
noncomputable def G110_l1 (lc0 : AV → AV → AV → AV → Heap → Rs) : Nat → AV → AV → AV → AV → AV → Heap → Rs
  | 0, _, _, _, _, _, _ => none
  | m + 1, t0, t1, t2, t6, t7, h => G110_4 lc0 (G110_l1 lc0 m) t0 t1 t2 t6 t7 h
noncomputable def G110_3 (lc0 : AV → AV → AV → AV → Heap → Rs) (t0 t1 t2 t6 : AV) (h : Heap) : Rs := R110_3 t0 t1 t2 t6 h fun t0 t1 t2 t6 t7 h => G110_l1 lc0 fuel t0 t1 t2 t6 t7 h
noncomputable def G110_1 (lc0 : AV → AV → AV → AV → Heap → Rs) (t0 t1 t2 t6 : AV) (h : Heap) : Rs := R110_1 t0 t1 t2 t6 h fun t0 t1 t2 t6 t12 h => bcase t12 (G110_3 lc0 t0 t1 t2 t6 h) (some ((AV.tup []), h))
noncomputable def G110_l0 : Nat → AV → AV → AV → AV → Heap → Rs
  | 0, _, _, _, _, _ => none
  | m + 1, t0, t1, t2, t6, h => G110_1 (G110_l0 m) t0 t1 t2 t6 h
noncomputable def G110_0 (t0 t1 t2 : AV) (h : Heap) : Rs := R110_0 t0 t1 t2 h fun t0 t1 t2 t6 h => G110_l0 fuel t0 t1 t2 t6 h
noncomputable def G110 : AFn
  | [t0, t1, t2], h => G110_0 t0 t1 t2 h
  | _, _ => none
theorem q110_0 (fr : Fr) (h : Heap) : E110 C110_0 (kFin T Try.f110.results.toList) fr h = E110 C110_1 K110_0 fr h := stepSeq (by kernel_rfl) _ _ _
theorem r110_0 (K : Kont) (t0 t1 t2 : AV) (h : Heap) : E110 C110_1 K (frOf 49 [(0,t0),(1,t1),(2,t2)]) h = R110_0 t0 t1 t2 h (fun t0 t1 t2 t6 h => K .normal (frOf 49 [(0,t0),(1,t1),(2,t2),(6,t6)]) h) := by kernel_rfl
theorem n110_1 (fr : Fr) (h : Heap) : K110_0 .normal fr h = E110 C110_2 (kFin T Try.f110.results.toList) fr h := kSeq_n _ _ _ _
theorem q110_2 (fr : Fr) (h : Heap) : E110 C110_2 (kFin T Try.f110.results.toList) fr h = E110 C110_3 K110_1 fr h := stepBlock (by kernel_rfl) _ _ _
theorem q110_3 (m0 : Nat) (fr : Fr) (h : Heap) : E110 C110_4 (K110_2 m0) fr h = E110 C110_5 (K110_3 m0) fr h := stepSeq (by kernel_rfl) _ _ _
theorem q110_4 (m0 : Nat) (fr : Fr) (h : Heap) : E110 C110_5 (K110_3 m0) fr h = E110 C110_7 (K110_4 m0) fr h := stepSeq (by kernel_rfl) _ _ _
theorem r110_1 (K : Kont) (t0 t1 t2 t6 : AV) (h : Heap) : E110 C110_7 K (frOf 49 [(0,t0),(1,t1),(2,t2),(6,t6)]) h = R110_1 t0 t1 t2 t6 h (fun t0 t1 t2 t6 t12 h => K .normal (frOf 49 [(0,t0),(1,t1),(2,t2),(6,t6),(12,t12)]) h) := by kernel_rfl
theorem n110_5 (m0 : Nat) (fr : Fr) (h : Heap) : (K110_4 m0) .normal fr h = E110 C110_8 (K110_3 m0) fr h := kSeq_n _ _ _ _
theorem n110_6 (m0 : Nat) (fr : Fr) (h : Heap) : (K110_3 m0) .normal fr h = E110 C110_6 (K110_2 m0) fr h := kSeq_n _ _ _ _
theorem q110_7 (m0 : Nat) (fr : Fr) (h : Heap) : E110 C110_6 (K110_2 m0) fr h = E110 C110_11 (K110_5 m0) fr h := stepSeq (by kernel_rfl) _ _ _
theorem q110_8 (m0 : Nat) (fr : Fr) (h : Heap) : E110 C110_11 (K110_5 m0) fr h = E110 C110_13 (K110_6 m0) fr h := stepBlock (by kernel_rfl) _ _ _
theorem q110_9 (m0 : Nat) (fr : Fr) (h : Heap) : E110 C110_13 (K110_6 m0) fr h = E110 C110_14 (K110_7 m0) fr h := stepSeq (by kernel_rfl) _ _ _
theorem r110_3 (K : Kont) (t0 t1 t2 t6 : AV) (h : Heap) : E110 C110_14 K (frOf 49 [(0,t0),(1,t1),(2,t2),(6,t6)]) h = R110_3 t0 t1 t2 t6 h (fun t0 t1 t2 t6 t7 h => K .normal (frOf 49 [(0,t0),(1,t1),(2,t2),(6,t6),(7,t7)]) h) := by kernel_rfl
theorem n110_10 (m0 : Nat) (fr : Fr) (h : Heap) : (K110_7 m0) .normal fr h = E110 C110_15 (K110_6 m0) fr h := kSeq_n _ _ _ _
theorem q110_11 (m0 : Nat) (fr : Fr) (h : Heap) : E110 C110_15 (K110_6 m0) fr h = E110 C110_16 (K110_8 m0) fr h := stepBlock (by kernel_rfl) _ _ _
theorem q110_12 (m0 : Nat) (m1 : Nat) (fr : Fr) (h : Heap) : E110 C110_17 (K110_9 m0 m1) fr h = E110 C110_18 (K110_10 m0 m1) fr h := stepSeq (by kernel_rfl) _ _ _
theorem q110_13 (m0 : Nat) (m1 : Nat) (fr : Fr) (h : Heap) : E110 C110_18 (K110_10 m0 m1) fr h = E110 C110_20 (K110_11 m0 m1) fr h := stepSeq (by kernel_rfl) _ _ _
theorem r110_4 (K : Kont) (t0 t1 t2 t6 t7 : AV) (h : Heap) : E110 C110_20 K (frOf 49 [(0,t0),(1,t1),(2,t2),(6,t6),(7,t7)]) h = R110_4 t0 t1 t2 t6 t7 h (fun t0 t1 t2 t6 t7 t30 h => K .normal (frOf 49 [(0,t0),(1,t1),(2,t2),(6,t6),(7,t7),(30,t30)]) h) := by kernel_rfl
theorem n110_14 (m0 : Nat) (m1 : Nat) (fr : Fr) (h : Heap) : (K110_11 m0 m1) .normal fr h = E110 C110_21 (K110_10 m0 m1) fr h := kSeq_n _ _ _ _
theorem n110_15 (m0 : Nat) (m1 : Nat) (fr : Fr) (h : Heap) : (K110_10 m0 m1) .normal fr h = E110 C110_19 (K110_9 m0 m1) fr h := kSeq_n _ _ _ _
theorem q110_16 (m0 : Nat) (m1 : Nat) (fr : Fr) (h : Heap) : E110 C110_19 (K110_9 m0 m1) fr h = E110 C110_24 (K110_12 m0 m1) fr h := stepSeq (by kernel_rfl) _ _ _
theorem q110_17 (m0 : Nat) (m1 : Nat) (fr : Fr) (h : Heap) : E110 C110_24 (K110_12 m0 m1) fr h = E110 C110_26 (K110_13 m0 m1) fr h := stepBlock (by kernel_rfl) _ _ _
theorem n110_18 (m0 : Nat) (fr : Fr) (h : Heap) : (K110_5 m0) .normal fr h = E110 C110_12 (K110_2 m0) fr h := kSeq_n _ _ _ _
theorem r110_6 (K : Kont) (t0 t1 t2 t6 t7 : AV) (h : Heap) : E110 C110_26 K (frOf 49 [(0,t0),(1,t1),(2,t2),(6,t6),(7,t7)]) h = R110_6 t0 t1 t2 t6 t7 h (fun t0 t1 t2 t6 t7 h => K .normal (frOf 49 [(0,t0),(1,t1),(2,t2),(6,t6),(7,t7)]) h) := by kernel_rfl
theorem n110_19 (m0 : Nat) (m1 : Nat) (fr : Fr) (h : Heap) : (K110_12 m0 m1) .normal fr h = E110 C110_25 (K110_9 m0 m1) fr h := kSeq_n _ _ _ _
theorem r110_5 (K : Kont) (t0 t1 t2 t6 t7 : AV) (h : Heap) : E110 C110_25 K (frOf 49 [(0,t0),(1,t1),(2,t2),(6,t6),(7,t7)]) h = R110_5 t0 t1 t2 t6 t7 h (fun t0 t1 t2 t6 t7 h => K .normal (frOf 49 [(0,t0),(1,t1),(2,t2),(6,t6),(7,t7)]) h) := by kernel_rfl
theorem b110_5 (m0 : Nat) (m1 : Nat) (ih0 : ∀ (t0 t1 t2 t6 : AV) (h : Heap), evLoop (cleanO L110 (headId C110_4)) (E110 C110_4) K110_1 m0 (frOf 49 [(0,t0),(1,t1),(2,t2),(6,t6)]) h = G110_l0  m0 t0 t1 t2 t6 h) (ih1 : ∀ (t0 t1 t2 t6 t7 : AV) (h : Heap), evLoop (cleanO L110 (headId C110_17)) (E110 C110_17) (K110_8 m0) m1 (frOf 49 [(0,t0),(1,t1),(2,t2),(6,t6),(7,t7)]) h = G110_l1 (G110_l0  m0) m1 t0 t1 t2 t6 t7 h) (t0 t1 t2 t6 t7 : AV) (h : Heap) : E110 C110_25 (K110_9 m0 m1) (frOf 49 [(0,t0),(1,t1),(2,t2),(6,t6),(7,t7)]) h = G110_5 (G110_l0  m0) (G110_l1 (G110_l0  m0) m1) t0 t1 t2 t6 t7 h :=
  (r110_5 (K110_9 m0 m1) t0 t1 t2 t6 t7 h).trans (congrArg (R110_5 t0 t1 t2 t6 t7 h) (funext fun t0 => funext fun t1 => funext fun t2 => funext fun t6 => funext fun t7 => funext fun h => (Eq.trans (stepNext _ (by kernel_rfl)) (ih1 t0 t1 t2 t6 t7 h))))
theorem b110_6 (m0 : Nat) (m1 : Nat) (ih0 : ∀ (t0 t1 t2 t6 : AV) (h : Heap), evLoop (cleanO L110 (headId C110_4)) (E110 C110_4) K110_1 m0 (frOf 49 [(0,t0),(1,t1),(2,t2),(6,t6)]) h = G110_l0  m0 t0 t1 t2 t6 h) (ih1 : ∀ (t0 t1 t2 t6 t7 : AV) (h : Heap), evLoop (cleanO L110 (headId C110_17)) (E110 C110_17) (K110_8 m0) m1 (frOf 49 [(0,t0),(1,t1),(2,t2),(6,t6),(7,t7)]) h = G110_l1 (G110_l0  m0) m1 t0 t1 t2 t6 t7 h) (t0 t1 t2 t6 t7 : AV) (h : Heap) : E110 C110_26 (K110_13 m0 m1) (frOf 49 [(0,t0),(1,t1),(2,t2),(6,t6),(7,t7)]) h = G110_6 (G110_l0  m0) (G110_l1 (G110_l0  m0) m1) t0 t1 t2 t6 t7 h :=
  (r110_6 (K110_13 m0 m1) t0 t1 t2 t6 t7 h).trans (congrArg (R110_6 t0 t1 t2 t6 t7 h) (funext fun t0 => funext fun t1 => funext fun t2 => funext fun t6 => funext fun t7 => funext fun h => (Eq.trans (kBlock_n _ _ _ _) (Eq.trans (n110_19 m0 m1 _ _) (b110_5 m0 m1 ih0 ih1 t0 t1 t2 t6 t7 h)))))
theorem r110_2 (K : Kont) (t0 t1 t2 t6 : AV) (h : Heap) : E110 C110_12 K (frOf 49 [(0,t0),(1,t1),(2,t2),(6,t6)]) h = R110_2 t0 t1 t2 t6 h (fun t0 t1 t2 t6 h => K .normal (frOf 49 [(0,t0),(1,t1),(2,t2),(6,t6)]) h) := by kernel_rfl
theorem b110_2 (m0 : Nat) (ih0 : ∀ (t0 t1 t2 t6 : AV) (h : Heap), evLoop (cleanO L110 (headId C110_4)) (E110 C110_4) K110_1 m0 (frOf 49 [(0,t0),(1,t1),(2,t2),(6,t6)]) h = G110_l0  m0 t0 t1 t2 t6 h) (t0 t1 t2 t6 : AV) (h : Heap) : E110 C110_12 (K110_2 m0) (frOf 49 [(0,t0),(1,t1),(2,t2),(6,t6)]) h = G110_2 (G110_l0  m0) t0 t1 t2 t6 h :=
  (r110_2 (K110_2 m0) t0 t1 t2 t6 h).trans (congrArg (R110_2 t0 t1 t2 t6 h) (funext fun t0 => funext fun t1 => funext fun t2 => funext fun t6 => funext fun h => (Eq.trans (stepNext _ (by kernel_rfl)) (ih0 t0 t1 t2 t6 h))))
theorem b110_4 (m0 : Nat) (m1 : Nat) (ih0 : ∀ (t0 t1 t2 t6 : AV) (h : Heap), evLoop (cleanO L110 (headId C110_4)) (E110 C110_4) K110_1 m0 (frOf 49 [(0,t0),(1,t1),(2,t2),(6,t6)]) h = G110_l0  m0 t0 t1 t2 t6 h) (ih1 : ∀ (t0 t1 t2 t6 t7 : AV) (h : Heap), evLoop (cleanO L110 (headId C110_17)) (E110 C110_17) (K110_8 m0) m1 (frOf 49 [(0,t0),(1,t1),(2,t2),(6,t6),(7,t7)]) h = G110_l1 (G110_l0  m0) m1 t0 t1 t2 t6 t7 h) (t0 t1 t2 t6 t7 : AV) (h : Heap) : E110 C110_20 (K110_11 m0 m1) (frOf 49 [(0,t0),(1,t1),(2,t2),(6,t6),(7,t7)]) h = G110_4 (G110_l0  m0) (G110_l1 (G110_l0  m0) m1) t0 t1 t2 t6 t7 h :=
  (r110_4 (K110_11 m0 m1) t0 t1 t2 t6 t7 h).trans (congrArg (R110_4 t0 t1 t2 t6 t7 h) (funext fun t0 => funext fun t1 => funext fun t2 => funext fun t6 => funext fun t7 => funext fun t30 => funext fun h => (Eq.trans (n110_14 m0 m1 _ _) (Eq.trans (stepCond (c := C110_21) (by kernel_rfl) (K110_10 m0 m1) _ _ (v := t30) (by kernel_rfl)) (bcase_congr t30 (Eq.trans (stepSkip (by kernel_rfl) (K110_10 m0 m1) _ _) (Eq.trans (n110_15 m0 m1 _ _) (Eq.trans (q110_16 m0 m1 _ _) (Eq.trans (q110_17 m0 m1 _ _) (Eq.trans (stepClean (c := C110_26) (id := 6) (by kernel_rfl) (K110_13 m0 m1) _ _ (by kernel_rfl)) (b110_6 m0 m1 ih0 ih1 t0 t1 t2 t6 t7 h)))))) (Eq.trans (stepExit (i := 2) (by kernel_rfl) (K110_10 m0 m1) _ _) (Eq.trans (kSeq_x _ _ _ _ _) (Eq.trans (kSeq_x _ _ _ _ _) (Eq.trans (kBlock_hit _ _ _ _) (Eq.trans (kBlock_n _ _ _ _) (Eq.trans (n110_18 m0 _ _) (Eq.trans (stepClean (c := C110_12) (id := 2) (by kernel_rfl) (K110_2 m0) _ _ (by kernel_rfl)) (b110_2 m0 ih0 t0 t1 t2 t6 h)))))))))))))
theorem b110_l1 (m0 : Nat) (ih0 : ∀ (t0 t1 t2 t6 : AV) (h : Heap), evLoop (cleanO L110 (headId C110_4)) (E110 C110_4) K110_1 m0 (frOf 49 [(0,t0),(1,t1),(2,t2),(6,t6)]) h = G110_l0  m0 t0 t1 t2 t6 h) : ∀ (m1 : Nat) (t0 t1 t2 t6 t7 : AV) (h : Heap), evLoop (cleanO L110 (headId C110_17)) (E110 C110_17) (K110_8 m0) m1 (frOf 49 [(0,t0),(1,t1),(2,t2),(6,t6),(7,t7)]) h = G110_l1 (G110_l0  m0) m1 t0 t1 t2 t6 t7 h := by
  intro m1
  induction m1 with
  | zero => intros; rfl
  | succ m1 ih1 => intro t0 t1 t2 t6 t7 h; exact Eq.trans (evLoop_succ _ _ _ _ _ _) (Eq.trans (q110_12 m0 m1 _ _) (Eq.trans (q110_13 m0 m1 _ _) (b110_4 m0 m1 ih0 ih1 t0 t1 t2 t6 t7 h)))
theorem b110_3 (m0 : Nat) (ih0 : ∀ (t0 t1 t2 t6 : AV) (h : Heap), evLoop (cleanO L110 (headId C110_4)) (E110 C110_4) K110_1 m0 (frOf 49 [(0,t0),(1,t1),(2,t2),(6,t6)]) h = G110_l0  m0 t0 t1 t2 t6 h) (t0 t1 t2 t6 : AV) (h : Heap) : E110 C110_14 (K110_7 m0) (frOf 49 [(0,t0),(1,t1),(2,t2),(6,t6)]) h = G110_3 (G110_l0  m0) t0 t1 t2 t6 h :=
  (r110_3 (K110_7 m0) t0 t1 t2 t6 h).trans (congrArg (R110_3 t0 t1 t2 t6 h) (funext fun t0 => funext fun t1 => funext fun t2 => funext fun t6 => funext fun t7 => funext fun h => (Eq.trans (n110_10 m0 _ _) (Eq.trans (q110_11 m0 _ _) (Eq.trans (stepLoop (by kernel_rfl) (K110_8 m0) _ _ (by kernel_rfl)) (b110_l1 m0 ih0 fuel t0 t1 t2 t6 t7 h))))))
theorem b110_1 (m0 : Nat) (ih0 : ∀ (t0 t1 t2 t6 : AV) (h : Heap), evLoop (cleanO L110 (headId C110_4)) (E110 C110_4) K110_1 m0 (frOf 49 [(0,t0),(1,t1),(2,t2),(6,t6)]) h = G110_l0  m0 t0 t1 t2 t6 h) (t0 t1 t2 t6 : AV) (h : Heap) : E110 C110_7 (K110_4 m0) (frOf 49 [(0,t0),(1,t1),(2,t2),(6,t6)]) h = G110_1 (G110_l0  m0) t0 t1 t2 t6 h :=
  (r110_1 (K110_4 m0) t0 t1 t2 t6 h).trans (congrArg (R110_1 t0 t1 t2 t6 h) (funext fun t0 => funext fun t1 => funext fun t2 => funext fun t6 => funext fun t12 => funext fun h => (Eq.trans (n110_5 m0 _ _) (Eq.trans (stepCond (c := C110_8) (by kernel_rfl) (K110_3 m0) _ _ (v := t12) (by kernel_rfl)) (bcase_congr t12 (Eq.trans (stepSkip (by kernel_rfl) (K110_3 m0) _ _) (Eq.trans (n110_6 m0 _ _) (Eq.trans (q110_7 m0 _ _) (Eq.trans (q110_8 m0 _ _) (Eq.trans (q110_9 m0 _ _) (Eq.trans (stepClean (c := C110_14) (id := 3) (by kernel_rfl) (K110_7 m0) _ _ (by kernel_rfl)) (b110_3 m0 ih0 t0 t1 t2 t6 h))))))) (Eq.trans (stepExit (i := 0) (by kernel_rfl) (K110_3 m0) _ _) (Eq.trans (kSeq_x _ _ _ _ _) (Eq.trans (kSeq_x _ _ _ _ _) (Eq.trans (kBlock_hit _ _ _ _) (by kernel_rfl))))))))))
theorem b110_l0 : ∀ (m0 : Nat) (t0 t1 t2 t6 : AV) (h : Heap), evLoop (cleanO L110 (headId C110_4)) (E110 C110_4) K110_1 m0 (frOf 49 [(0,t0),(1,t1),(2,t2),(6,t6)]) h = G110_l0 m0 t0 t1 t2 t6 h := by
  intro m0
  induction m0 with
  | zero => intros; rfl
  | succ m0 ih0 => intro t0 t1 t2 t6 h; exact Eq.trans (evLoop_succ _ _ _ _ _ _) (Eq.trans (q110_3 m0 _ _) (Eq.trans (q110_4 m0 _ _) (b110_1 m0 ih0 t0 t1 t2 t6 h)))
theorem b110_0 (t0 t1 t2 : AV) (h : Heap) : E110 C110_1 K110_0 (frOf 49 [(0,t0),(1,t1),(2,t2)]) h = G110_0 t0 t1 t2 h :=
  (r110_0 K110_0 t0 t1 t2 h).trans (congrArg (R110_0 t0 t1 t2 h) (funext fun t0 => funext fun t1 => funext fun t2 => funext fun t6 => funext fun h => (Eq.trans (n110_1 _ _) (Eq.trans (q110_2 _ _) (Eq.trans (stepLoop (by kernel_rfl) K110_1 _ _ (by kernel_rfl)) (b110_l0 fuel t0 t1 t2 t6 h))))))
theorem entry110 (t0 t1 t2 : AV) (h : Heap) : evFunc T PH110 L110 Try.f110 fuel [t0, t1, t2] h = E110 C110_0 (kFin T Try.f110.results.toList) (frOf 49 [(0,t0),(1,t1),(2,t2)]) h := by kernel_rfl
theorem e110 (t0 t1 t2 : AV) (h : Heap) : evFunc T PH110 L110 Try.f110 fuel [t0, t1, t2] h = G110 [t0, t1, t2] h := Eq.trans (entry110 t0 t1 t2 h) (Eq.trans (q110_0 _ _) (b110_0 t0 t1 t2 h))
set_option maxRecDepth 100000 in
theorem s110 : Sound Try.prog 110 G110 := (soundOf tok 110 Try.f110 rfl rfl (Φ := PH110) (allCons s116 allNil) L110 fuel).le fun args h r hr => by
  unfold G110 at hr; split at hr
  · exact (e110 _ _ _ h).trans (by unfold G110; exact hr)
  · cases hr
/- 101: slices.pdqsortOrdered[string] -/
def L101 : PM (List Nat) := .node (.node (.node (.node (.node (.node (.leaf) (some [0, 1, 2, 3, 8, 9, 10, 11, 68]) (.leaf)) (some [0, 1, 2, 3, 8, 9, 10, 35]) (.node (.leaf) (some [0, 1, 2, 3, 9, 14, 16, 17, 18]) (.leaf))) (some [0, 1, 2, 3, 8, 9, 10, 23]) (.node (.node (.leaf) (some [0, 1, 2, 3, 8, 9]) (.leaf)) (some [0, 1, 2, 3, 8, 9, 10, 11, 12, 50]) (.node (.leaf) (some [0, 1, 2, 3, 8, 9]) (.leaf)))) (some [0, 1, 2, 3, 8, 9]) (.node (.node (.node (.leaf) (some [0, 1, 2, 3, 8, 9, 10, 11, 87]) (.leaf)) (some [0, 1, 2, 3, 8, 9, 10]) (.node (.leaf) (some [0, 1, 2, 3, 8, 9, 14]) (.leaf))) (some [0, 1, 2, 3, 8, 9, 10, 29]) (.node (.node (.leaf) (some [0, 1, 2, 3, 9, 10, 14]) (.leaf)) (some [0, 1, 2, 3, 8, 9, 10, 11]) (.node (.leaf) (some [0, 1, 3, 8, 9, 14]) (.leaf))))) (some [0, 1, 2, 3, 8]) (.node (.node (.node (.node (.leaf) (some [0, 1, 2, 3, 8, 9, 10, 11, 72]) (.leaf)) (some [0, 1, 2, 3, 8, 9, 10]) (.node (.leaf) (some [0, 1, 2, 3, 9, 14, 16, 17, 18, 113]) (.leaf))) (some []) (.node (.node (.leaf) (some [0, 1, 2, 3, 10, 14, 15]) (.leaf)) (some [0, 1, 2, 3, 8, 9, 10, 11]) (.node (.leaf) (some [0, 1, 2, 3, 8, 9, 14]) (.leaf)))) (some [0, 1, 2, 3, 8, 9, 10]) (.node (.node (.node (.leaf) (some [0, 2, 3, 8, 9, 13]) (.leaf)) (some [0, 1, 2, 3, 8, 9, 10, 11, 12]) (.node (.leaf) (some [0, 2, 3, 8, 9, 14]) (.leaf))) (some []) (.node (.node (.leaf) (some [0, 1, 2, 3, 9, 10, 14, 16, 17]) (.leaf)) (some [0, 1, 2, 3, 8, 9, 10, 11, 12]) (.node (.leaf) (some [0, 1, 2, 3, 8, 9]) (.leaf)))))) (some [0, 1, 2, 3]) (.node (.node (.node (.node (.node (.leaf) (some [0, 1, 2, 3, 8, 9, 10, 11]) (.leaf)) (some [0, 1, 2, 3, 8, 9, 10]) (.node (.leaf) (some [0, 1, 2, 3, 9, 14, 16, 17, 18]) (.leaf))) (some [0, 1, 2]) (.node (.node (.leaf) (some [0, 1, 2, 3, 10, 11]) (.leaf)) (some [0, 1, 2, 3, 8, 9, 10, 11]) (.node (.leaf) (some [0, 1, 2, 3, 9, 14, 17, 18]) (.leaf)))) (some [0, 1, 2, 3, 8, 9]) (.node (.node (.node (.leaf) (some [0, 1, 2, 3, 8, 9, 11]) (.leaf)) (some [0, 1, 2, 3, 8, 9, 10]) (.node (.leaf) (some [0, 1, 2, 3, 8, 9, 14]) (.leaf))) (some [0, 1, 2]) (.node (.node (.leaf) (some [0, 1, 2, 3, 9, 10, 14]) (.leaf)) (some [0, 1, 2, 3, 8, 9, 10, 11]) (.node (.leaf) (some [0, 1, 3, 8, 9, 14]) (.leaf))))) (some [0, 1, 2, 3, 8]) (.node (.node (.node (.node (.leaf) (some [0, 1, 2, 3, 8, 9, 10, 11]) (.leaf)) (some [0, 1, 2, 3, 8, 9, 10]) (.node (.leaf) (some [0, 1, 2, 3, 9, 14, 16, 18]) (.leaf))) (some [0, 1, 2, 3, 8, 9, 10]) (.node (.node (.leaf) (some [0, 1, 2, 3, 10, 14, 15]) (.leaf)) (some [0, 1, 2, 3, 8, 9, 10, 11]) (.node (.leaf) (some [0, 1, 2, 3, 8, 9, 14]) (.leaf)))) (some [0, 1, 2, 3, 8, 9, 10]) (.node (.node (.node (.leaf) (some [0, 2, 3, 8, 9, 13]) (.leaf)) (some [0, 1, 2, 3, 8, 9, 10, 11, 12]) (.node (.leaf) (some [0, 2, 3, 8, 9, 14]) (.leaf))) (some [0, 1, 2, 3, 8, 9, 10]) (.node (.node (.leaf) (some [0, 1, 2, 3, 9, 10, 14, 16, 17]) (.leaf)) (some [0, 1, 2, 3, 8, 9, 10, 11, 12]) (.leaf)))))
noncomputable def PH101 : List (Nat × AFn) := [(101, stub), (110, G110), (111, stub), (112, stub), (113, stub), (114, stub), (115, stub), (116, G116), (117, stub), (118, stub)]
noncomputable def E101 : Code → Kont → Fr → Heap → Rs := ev T PH101 L101 fuel
noncomputable def C101_0 : Code := bodyOf Try.f101
noncomputable def C101_1 : Code := cl C101_0
noncomputable def C101_2 : Code := cr C101_0
noncomputable def K101_0 : Kont := kSeq (E101 C101_2 (kFin T Try.f101.results.toList)) (kFin T Try.f101.results.toList)
noncomputable def R101_0 (t0 t1 t2 t3 : AV) (h : Heap) (k : AV → AV → AV → AV → AV → Heap → Rs) : Rs :=
  k t0 t1 t2 t3 (AV.bool true) h
noncomputable def C101_3 : Code := cl C101_2
noncomputable def C101_4 : Code := cr C101_2
noncomputable def K101_1 : Kont := kSeq (E101 C101_4 (kFin T Try.f101.results.toList)) (kFin T Try.f101.results.toList)
noncomputable def R101_1 (t0 t1 t2 t3 t8 : AV) (h : Heap) (k : AV → AV → AV → AV → AV → AV → Heap → Rs) : Rs :=
  k t0 t1 t2 t3 t8 (AV.bool true) h
noncomputable def C101_5 : Code := cl C101_4
noncomputable def K101_2 : Kont := kBlock 0 (kFin T Try.f101.results.toList)
noncomputable def C101_6 : Code := cl C101_5
noncomputable def K101_3 (m0 : Nat) : Kont := kSeq (fun fr h => evLoop (cleanO L101 (headId C101_6)) (E101 C101_6) K101_2 m0 ((cleanO L101 (headId C101_6)) fr) h) K101_2
noncomputable def C101_7 : Code := cl C101_6
noncomputable def K101_4 (m0 : Nat) : Kont := kBlock 1 (K101_3 m0)
noncomputable def C101_8 : Code := cl C101_7
noncomputable def C101_9 : Code := cr C101_7
noncomputable def K101_5 (m0 : Nat) : Kont := kSeq (E101 C101_9 (K101_4 m0)) (K101_4 m0)
noncomputable def R101_2 (t0 t1 t2 t3 t8 t9 : AV) (h : Heap) (k : AV → AV → AV → AV → AV → AV → AV → Heap → Rs) : Rs :=
  pureK (binOpA T .sub 3 t2 t1) h fun v2 h2 =>
  k t0 t1 t2 t3 t8 t9 v2 h2
noncomputable def C101_10 : Code := cl C101_9
noncomputable def C101_11 : Code := cr C101_9
noncomputable def K101_6 (m0 : Nat) : Kont := kSeq (E101 C101_11 (K101_4 m0)) (K101_4 m0)
noncomputable def C101_12 : Code := cl C101_10
noncomputable def C101_13 : Code := cr C101_10
noncomputable def K101_7 (m0 : Nat) : Kont := kSeq (E101 C101_13 (K101_6 m0)) (K101_6 m0)
noncomputable def R101_3 (t0 t1 t2 t3 t8 t9 t10 : AV) (h : Heap) (k : AV → AV → AV → AV → AV → AV → AV → AV → Heap → Rs) : Rs :=
  pureK (binOpA T .leq 3 t10 (AV.int .i64 12)) h fun v1 h1 =>
  k t0 t1 t2 t3 t8 t9 t10 v1 h1
noncomputable def C101_14 : Code := cl C101_13
noncomputable def C101_15 : Code := cr C101_13
noncomputable def C101_16 : Code := cl C101_14
noncomputable def C101_17 : Code := cr C101_14
noncomputable def K101_8 (m0 : Nat) : Kont := kSeq (E101 C101_17 (K101_6 m0)) (K101_6 m0)
noncomputable def C101_18 : Code := cl C101_11
noncomputable def C101_19 : Code := cr C101_11
noncomputable def K101_9 (m0 : Nat) : Kont := kSeq (E101 C101_19 (K101_4 m0)) (K101_4 m0)
noncomputable def C101_20 : Code := cl C101_18
noncomputable def C101_21 : Code := cr C101_18
noncomputable def K101_10 (m0 : Nat) : Kont := kSeq (E101 C101_21 (K101_9 m0)) (K101_9 m0)
noncomputable def R101_4 (t0 t1 t2 : AV) (h : Heap) (k : Heap → Rs) : Rs :=
  efK (G110 [t0, t1, t2] h) fun v3 h3 =>
  k h3
noncomputable def G101_4 (lc0 : AV → AV → AV → AV → AV → AV → Heap → Rs) (t0 t1 t2 : AV) (h : Heap) : Rs := R101_4 t0 t1 t2 h fun h => some ((AV.tup []), h)
noncomputable def R101_5 (t0 t1 t2 t3 t8 t9 t10 : AV) (h : Heap) (k : AV → AV → AV → AV → AV → AV → AV → AV → Heap → Rs) : Rs :=
  pureK (binOpA T .eql 3 t3 (AV.int .i64 0)) h fun v1 h1 =>
  k t0 t1 t2 t3 t8 t9 t10 v1 h1
noncomputable def C101_22 : Code := cl C101_21
noncomputable def C101_23 : Code := cr C101_21
noncomputable def C101_24 : Code := cl C101_22
noncomputable def C101_25 : Code := cr C101_22
noncomputable def K101_11 (m0 : Nat) : Kont := kSeq (E101 C101_25 (K101_9 m0)) (K101_9 m0)
noncomputable def C101_26 : Code := cl C101_19
noncomputable def C101_27 : Code := cr C101_19
noncomputable def K101_12 (m0 : Nat) : Kont := kSeq (E101 C101_27 (K101_4 m0)) (K101_4 m0)
noncomputable def C101_28 : Code := cl C101_26
noncomputable def C101_29 : Code := cr C101_26
noncomputable def K101_13 (m0 : Nat) : Kont := kSeq (E101 C101_29 (K101_12 m0)) (K101_12 m0)
noncomputable def R101_6 (t0 t1 t2 : AV) (h : Heap) (k : Heap → Rs) : Rs :=
  efK (stub [t0, t1, t2] h) fun v3 h3 =>
  k h3
noncomputable def G101_6 (lc0 : AV → AV → AV → AV → AV → AV → Heap → Rs) (t0 t1 t2 : AV) (h : Heap) : Rs := R101_6 t0 t1 t2 h fun h => some ((AV.tup []), h)
noncomputable def R101_7 (t0 t1 t2 t3 t8 t9 t10 : AV) (h : Heap) (k : AV → AV → AV → AV → AV → AV → AV → AV → Heap → Rs) : Rs :=
  pureK (unOpA .not t8) h fun v1 h1 =>
  k t0 t1 t2 t3 t8 t9 t10 v1 h1
noncomputable def C101_30 : Code := cl C101_29
noncomputable def C101_31 : Code := cr C101_29
noncomputable def C101_32 : Code := cl C101_30
noncomputable def C101_33 : Code := cr C101_30
noncomputable def K101_14 (m0 : Nat) : Kont := kSeq (E101 C101_33 (K101_12 m0)) (K101_12 m0)
noncomputable def C101_34 : Code := cl C101_27
noncomputable def C101_35 : Code := cr C101_27
noncomputable def K101_15 (m0 : Nat) : Kont := kSeq (E101 C101_35 (K101_4 m0)) (K101_4 m0)
noncomputable def R101_8 (t0 t1 t2 t3 t8 t9 t10 : AV) (h : Heap) (k : AV → AV → AV → AV → AV → AV → AV → Heap → Rs) : Rs :=
  efK (stub [t0, t1, t2] h) fun v3 h3 =>
  k t0 t1 t2 t3 t8 t9 t10 h3
noncomputable def R101_9 (t0 t1 t2 t3 t8 t9 t10 : AV) (h : Heap) (k : AV → AV → AV → AV → AV → AV → AV → Heap → Rs) : Rs :=
  pureK (binOpA T .sub 3 t3 (AV.int .i64 1)) h fun v1 h1 =>
  k t0 t1 t2 v1 t8 t9 t10 h1
noncomputable def R101_10 (t0 t1 t2 t3 t8 t9 t10 : AV) (h : Heap) (k : AV → AV → AV → AV → AV → AV → AV → AV → AV → Heap → Rs) : Rs :=
  efK (stub [t0, t1, t2] h) fun v3 h3 =>
  pureK (extr v3 0) h3 fun v5 h5 =>
  pureK (extr v3 1) h5 fun v6 h6 =>
  k t0 t1 t2 t3 t8 t9 t10 v5 v6 h6
noncomputable def C101_36 : Code := cl C101_35
noncomputable def C101_37 : Code := cr C101_35
noncomputable def K101_16 (m0 : Nat) : Kont := kSeq (E101 C101_37 (K101_4 m0)) (K101_4 m0)
noncomputable def C101_38 : Code := cl C101_36
noncomputable def C101_39 : Code := cr C101_36
noncomputable def K101_17 (m0 : Nat) : Kont := kSeq (E101 C101_39 (K101_16 m0)) (K101_16 m0)
noncomputable def R101_11 (t0 t1 t2 t3 t8 t9 t10 t11 t12 : AV) (h : Heap) (k : AV → AV → AV → AV → AV → AV → AV → AV → AV → AV → Heap → Rs) : Rs :=
  pureK (binOpA T .eql 159 t12 (AV.int .i64 2)) h fun v1 h1 =>
  k t0 t1 t2 t3 t8 t9 t10 t11 t12 v1 h1
noncomputable def C101_40 : Code := cl C101_39
noncomputable def C101_41 : Code := cr C101_39
noncomputable def C101_42 : Code := cl C101_40
noncomputable def C101_43 : Code := cr C101_40
noncomputable def K101_18 (m0 : Nat) : Kont := kSeq (E101 C101_43 (K101_16 m0)) (K101_16 m0)
noncomputable def C101_44 : Code := cl C101_37
noncomputable def C101_45 : Code := cr C101_37
noncomputable def K101_19 (m0 : Nat) : Kont := kSeq (E101 C101_45 (K101_4 m0)) (K101_4 m0)
noncomputable def C101_46 : Code := cl C101_44
noncomputable def C101_47 : Code := cr C101_44
noncomputable def K101_20 (m0 : Nat) : Kont := kSeq (E101 C101_47 (K101_19 m0)) (K101_19 m0)
noncomputable def R101_12 (t0 t1 t2 t3 t8 t9 t10 t11 : AV) (h : Heap) (k : AV → AV → AV → AV → AV → AV → AV → AV → Heap → Rs) : Rs :=
  efK (stub [t0, t1, t2] h) fun v3 h3 =>
  k t0 t1 t2 t3 t8 t9 t10 t11 h3
noncomputable def C101_48 : Code := cl C101_43
noncomputable def C101_49 : Code := cr C101_43
noncomputable def K101_21 (m0 : Nat) : Kont := kSeq (E101 C101_49 (K101_16 m0)) (K101_16 m0)
noncomputable def R101_13 (t0 t1 t2 t3 t8 t9 t10 t11 : AV) (h : Heap) (k : AV → AV → AV → AV → AV → AV → AV → AV → Heap → Rs) : Rs :=
  pureK (binOpA T .sub 3 t2 (AV.int .i64 1)) h fun v1 h1 =>
  pureK (binOpA T .sub 3 t11 t1) h1 fun v4 h4 =>
  pureK (binOpA T .sub 3 v1 v4) h4 fun v5 h5 =>
  k t0 t1 t2 t3 t8 t9 t10 v5 h5
noncomputable def R101_14 (t0 t1 t2 t3 t8 t9 t10 t11 : AV) (h : Heap) (k : AV → AV → AV → AV → AV → AV → AV → AV → AV → Heap → Rs) : Rs :=
  k t0 t1 t2 t3 t8 t9 t10 t11 (AV.int .i64 1) h
noncomputable def R101_15 (t0 t1 t2 t3 t8 t9 t10 t11 t12 : AV) (h : Heap) (k : AV → AV → AV → AV → AV → AV → AV → AV → AV → Heap → Rs) : Rs :=
  gcase t8
    (
      gcase t9
        (
          pureK (binOpA T .eql 159 t12 (AV.int .i64 1)) h fun v6 h6 =>
          k t0 t1 t2 t3 t8 t9 t10 t11 v6 h6)
        (
          k t0 t1 t2 t3 t8 t9 t10 t11 (AV.bool false) h)
        (
          none))
    (
      k t0 t1 t2 t3 t8 t9 t10 t11 (AV.bool false) h)
    (
      none)
noncomputable def C101_50 : Code := cl C101_47
noncomputable def C101_51 : Code := cr C101_47
noncomputable def C101_52 : Code := cl C101_50
noncomputable def C101_53 : Code := cr C101_50
noncomputable def K101_22 (m0 : Nat) : Kont := kSeq (E101 C101_53 (K101_19 m0)) (K101_19 m0)
noncomputable def C101_54 : Code := cl C101_45
noncomputable def C101_55 : Code := cr C101_45
noncomputable def K101_23 (m0 : Nat) : Kont := kSeq (E101 C101_55 (K101_4 m0)) (K101_4 m0)
noncomputable def C101_56 : Code := cl C101_54
noncomputable def C101_57 : Code := cr C101_54
noncomputable def K101_24 (m0 : Nat) : Kont := kSeq (E101 C101_57 (K101_23 m0)) (K101_23 m0)
noncomputable def R101_16 (t0 t1 t2 t3 t8 t9 t10 t11 : AV) (h : Heap) (k : AV → AV → AV → AV → AV → AV → AV → AV → AV → Heap → Rs) : Rs :=
  efK (stub [t0, t1, t2] h) fun v3 h3 =>
  k t0 t1 t2 t3 t8 t9 t10 t11 v3 h3
noncomputable def C101_58 : Code := cl C101_53
noncomputable def C101_59 : Code := cr C101_53
noncomputable def R101_17 (t0 t1 t2 t3 t8 t9 t10 t11 : AV) (h : Heap) (k : AV → AV → AV → AV → AV → AV → AV → AV → AV → Heap → Rs) : Rs :=
  pureK (binOpA T .gtr 3 t1 (AV.int .i64 0)) h fun v1 h1 =>
  gcase v1
    (
      pureK (binOpA T .sub 3 t1 (AV.int .i64 1)) h1 fun v5 h5 =>
      pureK (iaddr 1 t0 v5) h5 fun v6 h6 =>
      pureK (ldV h6 v6) h6 fun v7 h7 =>
      pureK (iaddr 1 t0 t11) h7 fun v10 h10 =>
      pureK (ldV h10 v10) h10 fun v11 h11 =>
      efK (G116 [v7, v11] h11) fun v12 h12 =>
      pureK (unOpA .not v12) h12 fun v13 h13 =>
      k t0 t1 t2 t3 t8 t9 t10 t11 v13 h13)
    (
      k t0 t1 t2 t3 t8 t9 t10 t11 (AV.bool false) h1)
    (
      none)
noncomputable def C101_60 : Code := cl C101_57
noncomputable def C101_61 : Code := cr C101_57
noncomputable def C101_62 : Code := cl C101_60
noncomputable def C101_63 : Code := cr C101_60
noncomputable def K101_25 (m0 : Nat) : Kont := kSeq (E101 C101_63 (K101_23 m0)) (K101_23 m0)
noncomputable def C101_64 : Code := cl C101_55
noncomputable def C101_65 : Code := cr C101_55
noncomputable def K101_26 (m0 : Nat) : Kont := kSeq (E101 C101_65 (K101_4 m0)) (K101_4 m0)
noncomputable def R101_18 (t0 t1 t2 t3 t8 t9 t11 : AV) (h : Heap) (k : AV → AV → AV → AV → AV → AV → Heap → Rs) : Rs :=
  efK (stub [t0, t1, t2, t11] h) fun v4 h4 =>
  k t0 t2 t3 t8 t9 v4 h4
noncomputable def C101_66 : Code := cl C101_63
noncomputable def C101_67 : Code := cr C101_63
noncomputable def K101_27 (m0 : Nat) : Kont := kSeq (E101 C101_67 (K101_23 m0)) (K101_23 m0)
noncomputable def R101_19 (t0 t2 t3 t8 t9 t13 : AV) (h : Heap) (k : AV → AV → AV → AV → AV → AV → Heap → Rs) : Rs :=
  k t0 t13 t2 t3 t8 t9 h
noncomputable def G101_19 (lc0 : AV → AV → AV → AV → AV → AV → Heap → Rs) (t0 t2 t3 t8 t9 t13 : AV) (h : Heap) : Rs := R101_19 t0 t2 t3 t8 t9 t13 h fun t0 t1 t2 t3 t8 t9 h => lc0 t0 t1 t2 t3 t8 t9 h
noncomputable def G101_18 (lc0 : AV → AV → AV → AV → AV → AV → Heap → Rs) (t0 t1 t2 t3 t8 t9 t11 : AV) (h : Heap) : Rs := R101_18 t0 t1 t2 t3 t8 t9 t11 h fun t0 t2 t3 t8 t9 t13 h => G101_19 lc0 t0 t2 t3 t8 t9 t13 h
noncomputable def R101_20 (t0 t1 t2 t3 t10 t11 : AV) (h : Heap) (k : AV → AV → AV → AV → AV → AV → AV → Heap → Rs) : Rs :=
  efK (stub [t0, t1, t2, t11] h) fun v4 h4 =>
  pureK (extr v4 0) h4 fun v6 h6 =>
  pureK (extr v4 1) h6 fun v7 h7 =>
  k t0 t1 t2 t3 t10 v6 v7 h7
noncomputable def C101_68 : Code := cl C101_65
noncomputable def C101_69 : Code := cr C101_65
noncomputable def K101_28 (m0 : Nat) : Kont := kSeq (E101 C101_69 (K101_4 m0)) (K101_4 m0)
noncomputable def R101_21 (t0 t1 t2 t3 t10 t14 t15 : AV) (h : Heap) (k : AV → AV → AV → AV → AV → AV → AV → Heap → Rs) : Rs :=
  k t0 t1 t2 t3 t15 t10 t14 h
noncomputable def C101_70 : Code := cl C101_69
noncomputable def C101_71 : Code := cr C101_69
noncomputable def K101_29 (m0 : Nat) : Kont := kSeq (E101 C101_71 (K101_4 m0)) (K101_4 m0)
noncomputable def R101_22 (t0 t1 t2 t3 t9 t10 t14 : AV) (h : Heap) (k : AV → AV → AV → AV → AV → AV → AV → AV → AV → Heap → Rs) : Rs :=
  pureK (binOpA T .sub 3 t14 t1) h fun v2 h2 =>
  pureK (binOpA T .sub 3 t2 t14) h2 fun v5 h5 =>
  k t0 t1 t2 t3 t9 t10 t14 v2 v5 h5
noncomputable def C101_72 : Code := cl C101_71
noncomputable def C101_73 : Code := cr C101_71
noncomputable def K101_30 (m0 : Nat) : Kont := kSeq (E101 C101_73 (K101_4 m0)) (K101_4 m0)
noncomputable def R101_23 (t0 t1 t2 t3 t9 t10 t14 t16 t17 : AV) (h : Heap) (k : AV → AV → AV → AV → AV → AV → AV → AV → AV → Heap → Rs) : Rs :=
  pureK (binOpA T .quo 3 t10 (AV.int .i64 8)) h fun v1 h1 =>
  k t0 t1 t2 t3 t9 t14 t16 t17 v1 h1
noncomputable def C101_74 : Code := cl C101_73
noncomputable def C101_75 : Code := cr C101_73
noncomputable def K101_31 (m0 : Nat) : Kont := kSeq (E101 C101_75 (K101_4 m0)) (K101_4 m0)
noncomputable def R101_24 (t0 t1 t2 t3 t9 t14 t16 t17 t18 : AV) (h : Heap) (k : AV → AV → AV → AV → AV → AV → AV → AV → AV → AV → Heap → Rs) : Rs :=
  pureK (binOpA T .lss 3 t16 t17) h fun v2 h2 =>
  k t0 t1 t2 t3 t9 t14 t16 t17 t18 v2 h2
noncomputable def C101_76 : Code := cl C101_75
noncomputable def C101_77 : Code := cr C101_75
noncomputable def C101_78 : Code := cl C101_76
noncomputable def C101_79 : Code := cr C101_76
noncomputable def K101_32 (m0 : Nat) : Kont := kSeq (E101 C101_79 (K101_4 m0)) (K101_4 m0)
noncomputable def C101_80 : Code := cl C101_77
noncomputable def C101_81 : Code := cr C101_77
noncomputable def K101_33 (m0 : Nat) : Kont := kSeq (E101 C101_81 (K101_4 m0)) (K101_4 m0)
noncomputable def R101_25 (t0 t1 t2 t3 t9 t14 t16 t18 : AV) (h : Heap) (k : AV → AV → AV → AV → AV → AV → AV → Heap → Rs) : Rs :=
  pureK (binOpA T .geq 3 t16 t18) h fun v2 h2 =>
  k t0 t1 t2 t3 v2 t9 t14 h2
noncomputable def C101_82 : Code := cl C101_79
noncomputable def C101_83 : Code := cr C101_79
noncomputable def K101_34 (m0 : Nat) : Kont := kSeq (E101 C101_83 (K101_4 m0)) (K101_4 m0)
noncomputable def R101_26 (t0 t1 t2 t3 t8 t9 t14 : AV) (h : Heap) (k : AV → AV → AV → AV → AV → AV → Heap → Rs) : Rs :=
  efK (stub [t0, t1, t14, t3] h) fun v4 h4 =>
  k t0 t2 t3 t8 t9 t14 h4
noncomputable def R101_27 (t0 t2 t3 t8 t9 t14 : AV) (h : Heap) (k : AV → AV → AV → AV → AV → AV → Heap → Rs) : Rs :=
  pureK (binOpA T .add 3 t14 (AV.int .i64 1)) h fun v1 h1 =>
  k t0 v1 t2 t3 t8 t9 h1
noncomputable def G101_27 (lc0 : AV → AV → AV → AV → AV → AV → Heap → Rs) (t0 t2 t3 t8 t9 t14 : AV) (h : Heap) : Rs := R101_27 t0 t2 t3 t8 t9 t14 h fun t0 t1 t2 t3 t8 t9 h => lc0 t0 t1 t2 t3 t8 t9 h
noncomputable def G101_26 (lc0 : AV → AV → AV → AV → AV → AV → Heap → Rs) (t0 t1 t2 t3 t8 t9 t14 : AV) (h : Heap) : Rs := R101_26 t0 t1 t2 t3 t8 t9 t14 h fun t0 t2 t3 t8 t9 t14 h => G101_27 lc0 t0 t2 t3 t8 t9 t14 h
noncomputable def G101_25 (lc0 : AV → AV → AV → AV → AV → AV → Heap → Rs) (t0 t1 t2 t3 t9 t14 t16 t18 : AV) (h : Heap) : Rs := R101_25 t0 t1 t2 t3 t9 t14 t16 t18 h fun t0 t1 t2 t3 t8 t9 t14 h => G101_26 lc0 t0 t1 t2 t3 t8 t9 t14 h
noncomputable def R101_28 (t0 t1 t2 t3 t9 t14 t17 t18 : AV) (h : Heap) (k : AV → AV → AV → AV → AV → AV → AV → Heap → Rs) : Rs :=
  pureK (binOpA T .geq 3 t17 t18) h fun v2 h2 =>
  k t0 t1 t2 t3 v2 t9 t14 h2
noncomputable def C101_84 : Code := cl C101_81
noncomputable def C101_85 : Code := cr C101_81
noncomputable def K101_35 (m0 : Nat) : Kont := kSeq (E101 C101_85 (K101_4 m0)) (K101_4 m0)
noncomputable def R101_29 (t0 t1 t2 t3 t8 t9 t14 : AV) (h : Heap) (k : AV → AV → AV → AV → AV → AV → Heap → Rs) : Rs :=
  pureK (binOpA T .add 3 t14 (AV.int .i64 1)) h fun v2 h2 =>
  efK (stub [t0, v2, t2, t3] h2) fun v5 h5 =>
  k t0 t1 t3 t8 t9 t14 h5
noncomputable def R101_30 (t0 t1 t3 t8 t9 t14 : AV) (h : Heap) (k : AV → AV → AV → AV → AV → AV → Heap → Rs) : Rs :=
  k t0 t1 t14 t3 t8 t9 h
noncomputable def G101_30 (lc0 : AV → AV → AV → AV → AV → AV → Heap → Rs) (t0 t1 t3 t8 t9 t14 : AV) (h : Heap) : Rs := R101_30 t0 t1 t3 t8 t9 t14 h fun t0 t1 t2 t3 t8 t9 h => lc0 t0 t1 t2 t3 t8 t9 h
noncomputable def G101_29 (lc0 : AV → AV → AV → AV → AV → AV → Heap → Rs) (t0 t1 t2 t3 t8 t9 t14 : AV) (h : Heap) : Rs := R101_29 t0 t1 t2 t3 t8 t9 t14 h fun t0 t1 t3 t8 t9 t14 h => G101_30 lc0 t0 t1 t3 t8 t9 t14 h
noncomputable def G101_28 (lc0 : AV → AV → AV → AV → AV → AV → Heap → Rs) (t0 t1 t2 t3 t9 t14 t17 t18 : AV) (h : Heap) : Rs := R101_28 t0 t1 t2 t3 t9 t14 t17 t18 h fun t0 t1 t2 t3 t8 t9 t14 h => G101_29 lc0 t0 t1 t2 t3 t8 t9 t14 h
noncomputable def G101_24 (lc0 : AV → AV → AV → AV → AV → AV → Heap → Rs) (t0 t1 t2 t3 t9 t14 t16 t17 t18 : AV) (h : Heap) : Rs := R101_24 t0 t1 t2 t3 t9 t14 t16 t17 t18 h fun t0 t1 t2 t3 t9 t14 t16 t17 t18 t113 h => bcase t113 (G101_25 lc0 t0 t1 t2 t3 t9 t14 t16 t18 h) (G101_28 lc0 t0 t1 t2 t3 t9 t14 t17 t18 h)
noncomputable def G101_23 (lc0 : AV → AV → AV → AV → AV → AV → Heap → Rs) (t0 t1 t2 t3 t9 t10 t14 t16 t17 : AV) (h : Heap) : Rs := R101_23 t0 t1 t2 t3 t9 t10 t14 t16 t17 h fun t0 t1 t2 t3 t9 t14 t16 t17 t18 h => G101_24 lc0 t0 t1 t2 t3 t9 t14 t16 t17 t18 h
noncomputable def G101_22 (lc0 : AV → AV → AV → AV → AV → AV → Heap → Rs) (t0 t1 t2 t3 t9 t10 t14 : AV) (h : Heap) : Rs := R101_22 t0 t1 t2 t3 t9 t10 t14 h fun t0 t1 t2 t3 t9 t10 t14 t16 t17 h => G101_23 lc0 t0 t1 t2 t3 t9 t10 t14 t16 t17 h
noncomputable def G101_21 (lc0 : AV → AV → AV → AV → AV → AV → Heap → Rs) (t0 t1 t2 t3 t10 t14 t15 : AV) (h : Heap) : Rs := R101_21 t0 t1 t2 t3 t10 t14 t15 h fun t0 t1 t2 t3 t9 t10 t14 h => G101_22 lc0 t0 t1 t2 t3 t9 t10 t14 h
noncomputable def G101_20 (lc0 : AV → AV → AV → AV → AV → AV → Heap → Rs) (t0 t1 t2 t3 t10 t11 : AV) (h : Heap) : Rs := R101_20 t0 t1 t2 t3 t10 t11 h fun t0 t1 t2 t3 t10 t14 t15 h => G101_21 lc0 t0 t1 t2 t3 t10 t14 t15 h
noncomputable def G101_17 (lc0 : AV → AV → AV → AV → AV → AV → Heap → Rs) (t0 t1 t2 t3 t8 t9 t10 t11 : AV) (h : Heap) : Rs := R101_17 t0 t1 t2 t3 t8 t9 t10 t11 h fun t0 t1 t2 t3 t8 t9 t10 t11 t87 h => bcase t87 (G101_18 lc0 t0 t1 t2 t3 t8 t9 t11 h) (G101_20 lc0 t0 t1 t2 t3 t10 t11 h)
noncomputable def G101_16 (lc0 : AV → AV → AV → AV → AV → AV → Heap → Rs) (t0 t1 t2 t3 t8 t9 t10 t11 : AV) (h : Heap) : Rs := R101_16 t0 t1 t2 t3 t8 t9 t10 t11 h fun t0 t1 t2 t3 t8 t9 t10 t11 t72 h => bcase t72 (some ((AV.tup []), h)) (G101_17 lc0 t0 t1 t2 t3 t8 t9 t10 t11 h)
noncomputable def G101_15 (lc0 : AV → AV → AV → AV → AV → AV → Heap → Rs) (t0 t1 t2 t3 t8 t9 t10 t11 t12 : AV) (h : Heap) : Rs := R101_15 t0 t1 t2 t3 t8 t9 t10 t11 t12 h fun t0 t1 t2 t3 t8 t9 t10 t11 t68 h => bcase t68 (G101_16 lc0 t0 t1 t2 t3 t8 t9 t10 t11 h) (G101_17 lc0 t0 t1 t2 t3 t8 t9 t10 t11 h)
noncomputable def G101_14 (lc0 : AV → AV → AV → AV → AV → AV → Heap → Rs) (t0 t1 t2 t3 t8 t9 t10 t11 : AV) (h : Heap) : Rs := R101_14 t0 t1 t2 t3 t8 t9 t10 t11 h fun t0 t1 t2 t3 t8 t9 t10 t11 t12 h => G101_15 lc0 t0 t1 t2 t3 t8 t9 t10 t11 t12 h
noncomputable def G101_13 (lc0 : AV → AV → AV → AV → AV → AV → Heap → Rs) (t0 t1 t2 t3 t8 t9 t10 t11 : AV) (h : Heap) : Rs := R101_13 t0 t1 t2 t3 t8 t9 t10 t11 h fun t0 t1 t2 t3 t8 t9 t10 t11 h => G101_14 lc0 t0 t1 t2 t3 t8 t9 t10 t11 h
noncomputable def G101_12 (lc0 : AV → AV → AV → AV → AV → AV → Heap → Rs) (t0 t1 t2 t3 t8 t9 t10 t11 : AV) (h : Heap) : Rs := R101_12 t0 t1 t2 t3 t8 t9 t10 t11 h fun t0 t1 t2 t3 t8 t9 t10 t11 h => G101_13 lc0 t0 t1 t2 t3 t8 t9 t10 t11 h
noncomputable def G101_11 (lc0 : AV → AV → AV → AV → AV → AV → Heap → Rs) (t0 t1 t2 t3 t8 t9 t10 t11 t12 : AV) (h : Heap) : Rs := R101_11 t0 t1 t2 t3 t8 t9 t10 t11 t12 h fun t0 t1 t2 t3 t8 t9 t10 t11 t12 t50 h => bcase t50 (G101_12 lc0 t0 t1 t2 t3 t8 t9 t10 t11 h) (G101_15 lc0 t0 t1 t2 t3 t8 t9 t10 t11 t12 h)
noncomputable def G101_10 (lc0 : AV → AV → AV → AV → AV → AV → Heap → Rs) (t0 t1 t2 t3 t8 t9 t10 : AV) (h : Heap) : Rs := R101_10 t0 t1 t2 t3 t8 t9 t10 h fun t0 t1 t2 t3 t8 t9 t10 t11 t12 h => G101_11 lc0 t0 t1 t2 t3 t8 t9 t10 t11 t12 h
noncomputable def G101_9 (lc0 : AV → AV → AV → AV → AV → AV → Heap → Rs) (t0 t1 t2 t3 t8 t9 t10 : AV) (h : Heap) : Rs := R101_9 t0 t1 t2 t3 t8 t9 t10 h fun t0 t1 t2 t3 t8 t9 t10 h => G101_10 lc0 t0 t1 t2 t3 t8 t9 t10 h
noncomputable def G101_8 (lc0 : AV → AV → AV → AV → AV → AV → Heap → Rs) (t0 t1 t2 t3 t8 t9 t10 : AV) (h : Heap) : Rs := R101_8 t0 t1 t2 t3 t8 t9 t10 h fun t0 t1 t2 t3 t8 t9 t10 h => G101_9 lc0 t0 t1 t2 t3 t8 t9 t10 h
noncomputable def G101_7 (lc0 : AV → AV → AV → AV → AV → AV → Heap → Rs) (t0 t1 t2 t3 t8 t9 t10 : AV) (h : Heap) : Rs := R101_7 t0 t1 t2 t3 t8 t9 t10 h fun t0 t1 t2 t3 t8 t9 t10 t35 h => bcase t35 (G101_8 lc0 t0 t1 t2 t3 t8 t9 t10 h) (G101_10 lc0 t0 t1 t2 t3 t8 t9 t10 h)
noncomputable def G101_5 (lc0 : AV → AV → AV → AV → AV → AV → Heap → Rs) (t0 t1 t2 t3 t8 t9 t10 : AV) (h : Heap) : Rs := R101_5 t0 t1 t2 t3 t8 t9 t10 h fun t0 t1 t2 t3 t8 t9 t10 t29 h => bcase t29 (G101_6 lc0 t0 t1 t2 h) (G101_7 lc0 t0 t1 t2 t3 t8 t9 t10 h)
noncomputable def G101_3 (lc0 : AV → AV → AV → AV → AV → AV → Heap → Rs) (t0 t1 t2 t3 t8 t9 t10 : AV) (h : Heap) : Rs := R101_3 t0 t1 t2 t3 t8 t9 t10 h fun t0 t1 t2 t3 t8 t9 t10 t23 h => bcase t23 (G101_4 lc0 t0 t1 t2 h) (G101_5 lc0 t0 t1 t2 t3 t8 t9 t10 h)
noncomputable def G101_2 (lc0 : AV → AV → AV → AV → AV → AV → Heap → Rs) (t0 t1 t2 t3 t8 t9 : AV) (h : Heap) : Rs := R101_2 t0 t1 t2 t3 t8 t9 h fun t0 t1 t2 t3 t8 t9 t10 h => G101_3 lc0 t0 t1 t2 t3 t8 t9 t10 h
noncomputable def G101_l0 : Nat → AV → AV → AV → AV → AV → AV → Heap → Rs
  | 0, _, _, _, _, _, _, _ => none
  | m + 1, t0, t1, t2, t3, t8, t9, h => G101_2 (G101_l0 m) t0 t1 t2 t3 t8 t9 h
noncomputable def G101_1 (t0 t1 t2 t3 t8 : AV) (h : Heap) : Rs := R101_1 t0 t1 t2 t3 t8 h fun t0 t1 t2 t3 t8 t9 h => G101_l0 fuel t0 t1 t2 t3 t8 t9 h
noncomputable def G101_0 (t0 t1 t2 t3 : AV) (h : Heap) : Rs := R101_0 t0 t1 t2 t3 h fun t0 t1 t2 t3 t8 h => G101_1 t0 t1 t2 t3 t8 h
noncomputable def G101 : AFn
  | [t0, t1, t2, t3], h => G101_0 t0 t1 t2 t3 h
  | _, _ => none
theorem q101_0 (fr : Fr) (h : Heap) : E101 C101_0 (kFin T Try.f101.results.toList) fr h = E101 C101_1 K101_0 fr h := stepSeq (by kernel_rfl) _ _ _
theorem r101_0 (K : Kont) (t0 t1 t2 t3 : AV) (h : Heap) : E101 C101_1 K (frOf 134 [(0,t0),(1,t1),(2,t2),(3,t3)]) h = R101_0 t0 t1 t2 t3 h (fun t0 t1 t2 t3 t8 h => K .normal (frOf 134 [(0,t0),(1,t1),(2,t2),(3,t3),(8,t8)]) h) := by kernel_rfl
theorem n101_1 (fr : Fr) (h : Heap) : K101_0 .normal fr h = E101 C101_2 (kFin T Try.f101.results.toList) fr h := kSeq_n _ _ _ _
theorem q101_2 (fr : Fr) (h : Heap) : E101 C101_2 (kFin T Try.f101.results.toList) fr h = E101 C101_3 K101_1 fr h := stepSeq (by kernel_rfl) _ _ _
theorem r101_1 (K : Kont) (t0 t1 t2 t3 t8 : AV) (h : Heap) : E101 C101_3 K (frOf 134 [(0,t0),(1,t1),(2,t2),(3,t3),(8,t8)]) h = R101_1 t0 t1 t2 t3 t8 h (fun t0 t1 t2 t3 t8 t9 h => K .normal (frOf 134 [(0,t0),(1,t1),(2,t2),(3,t3),(8,t8),(9,t9)]) h) := by kernel_rfl
theorem n101_3 (fr : Fr) (h : Heap) : K101_1 .normal fr h = E101 C101_4 (kFin T Try.f101.results.toList) fr h := kSeq_n _ _ _ _
theorem q101_4 (fr : Fr) (h : Heap) : E101 C101_4 (kFin T Try.f101.results.toList) fr h = E101 C101_5 K101_2 fr h := stepBlock (by kernel_rfl) _ _ _
theorem q101_5 (m0 : Nat) (fr : Fr) (h : Heap) : E101 C101_6 (K101_3 m0) fr h = E101 C101_7 (K101_4 m0) fr h := stepBlock (by kernel_rfl) _ _ _
theorem q101_6 (m0 : Nat) (fr : Fr) (h : Heap) : E101 C101_7 (K101_4 m0) fr h = E101 C101_8 (K101_5 m0) fr h := stepSeq (by kernel_rfl) _ _ _
theorem r101_2 (K : Kont) (t0 t1 t2 t3 t8 t9 : AV) (h : Heap) : E101 C101_8 K (frOf 134 [(0,t0),(1,t1),(2,t2),(3,t3),(8,t8),(9,t9)]) h = R101_2 t0 t1 t2 t3 t8 t9 h (fun t0 t1 t2 t3 t8 t9 t10 h => K .normal (frOf 134 [(0,t0),(1,t1),(2,t2),(3,t3),(8,t8),(9,t9),(10,t10)]) h) := by kernel_rfl
theorem n101_7 (m0 : Nat) (fr : Fr) (h : Heap) : (K101_5 m0) .normal fr h = E101 C101_9 (K101_4 m0) fr h := kSeq_n _ _ _ _
theorem q101_8 (m0 : Nat) (fr : Fr) (h : Heap) : E101 C101_9 (K101_4 m0) fr h = E101 C101_10 (K101_6 m0) fr h := stepSeq (by kernel_rfl) _ _ _
theorem q101_9 (m0 : Nat) (fr : Fr) (h : Heap) : E101 C101_10 (K101_6 m0) fr h = E101 C101_12 (K101_7 m0) fr h := stepSeq (by kernel_rfl) _ _ _
theorem r101_3 (K : Kont) (t0 t1 t2 t3 t8 t9 t10 : AV) (h : Heap) : E101 C101_12 K (frOf 134 [(0,t0),(1,t1),(2,t2),(3,t3),(8,t8),(9,t9),(10,t10)]) h = R101_3 t0 t1 t2 t3 t8 t9 t10 h (fun t0 t1 t2 t3 t8 t9 t10 t23 h => K .normal (frOf 134 [(0,t0),(1,t1),(2,t2),(3,t3),(8,t8),(9,t9),(10,t10),(23,t23)]) h) := by kernel_rfl
theorem n101_10 (m0 : Nat) (fr : Fr) (h : Heap) : (K101_7 m0) .normal fr h = E101 C101_13 (K101_6 m0) fr h := kSeq_n _ _ _ _
theorem q101_11 (m0 : Nat) (fr : Fr) (h : Heap) : E101 C101_14 (K101_6 m0) fr h = E101 C101_16 (K101_8 m0) fr h := stepSeq (by kernel_rfl) _ _ _
theorem n101_12 (m0 : Nat) (fr : Fr) (h : Heap) : (K101_6 m0) .normal fr h = E101 C101_11 (K101_4 m0) fr h := kSeq_n _ _ _ _
theorem q101_13 (m0 : Nat) (fr : Fr) (h : Heap) : E101 C101_11 (K101_4 m0) fr h = E101 C101_18 (K101_9 m0) fr h := stepSeq (by kernel_rfl) _ _ _
theorem q101_14 (m0 : Nat) (fr : Fr) (h : Heap) : E101 C101_18 (K101_9 m0) fr h = E101 C101_20 (K101_10 m0) fr h := stepSeq (by kernel_rfl) _ _ _
theorem r101_4 (K : Kont) (t0 t1 t2 : AV) (h : Heap) : E101 C101_16 K (frOf 134 [(0,t0),(1,t1),(2,t2)]) h = R101_4 t0 t1 t2 h (fun h => K .normal (frOf 134 []) h) := by kernel_rfl
theorem n101_15 (m0 : Nat) (fr : Fr) (h : Heap) : (K101_8 m0) .normal fr h = E101 C101_17 (K101_6 m0) fr h := kSeq_n _ _ _ _
theorem b101_4 (m0 : Nat) (ih0 : ∀ (t0 t1 t2 t3 t8 t9 : AV) (h : Heap), evLoop (cleanO L101 (headId C101_6)) (E101 C101_6) K101_2 m0 (frOf 134 [(0,t0),(1,t1),(2,t2),(3,t3),(8,t8),(9,t9)]) h = G101_l0  m0 t0 t1 t2 t3 t8 t9 h) (t0 t1 t2 : AV) (h : Heap) : E101 C101_16 (K101_8 m0) (frOf 134 [(0,t0),(1,t1),(2,t2)]) h = G101_4 (G101_l0  m0) t0 t1 t2 h :=
  (r101_4 (K101_8 m0) t0 t1 t2 h).trans (congrArg (R101_4 t0 t1 t2 h) (funext fun h => (Eq.trans (n101_15 m0 _ _) (Eq.trans (stepRet (by kernel_rfl) (K101_6 m0) _ _) (Eq.trans (kSeq_r _ _ _ _) (Eq.trans (kBlock_r _ _ _ _) (Eq.trans (kSeq_r _ _ _ _) (Eq.trans (kBlock_r _ _ _ _) (by kernel_rfl)))))))))
theorem r101_5 (K : Kont) (t0 t1 t2 t3 t8 t9 t10 : AV) (h : Heap) : E101 C101_20 K (frOf 134 [(0,t0),(1,t1),(2,t2),(3,t3),(8,t8),(9,t9),(10,t10)]) h = R101_5 t0 t1 t2 t3 t8 t9 t10 h (fun t0 t1 t2 t3 t8 t9 t10 t29 h => K .normal (frOf 134 [(0,t0),(1,t1),(2,t2),(3,t3),(8,t8),(9,t9),(10,t10),(29,t29)]) h) := by kernel_rfl
theorem n101_16 (m0 : Nat) (fr : Fr) (h : Heap) : (K101_10 m0) .normal fr h = E101 C101_21 (K101_9 m0) fr h := kSeq_n _ _ _ _
theorem q101_17 (m0 : Nat) (fr : Fr) (h : Heap) : E101 C101_22 (K101_9 m0) fr h = E101 C101_24 (K101_11 m0) fr h := stepSeq (by kernel_rfl) _ _ _
theorem n101_18 (m0 : Nat) (fr : Fr) (h : Heap) : (K101_9 m0) .normal fr h = E101 C101_19 (K101_4 m0) fr h := kSeq_n _ _ _ _
theorem q101_19 (m0 : Nat) (fr : Fr) (h : Heap) : E101 C101_19 (K101_4 m0) fr h = E101 C101_26 (K101_12 m0) fr h := stepSeq (by kernel_rfl) _ _ _
theorem q101_20 (m0 : Nat) (fr : Fr) (h : Heap) : E101 C101_26 (K101_12 m0) fr h = E101 C101_28 (K101_13 m0) fr h := stepSeq (by kernel_rfl) _ _ _
theorem r101_6 (K : Kont) (t0 t1 t2 : AV) (h : Heap) : E101 C101_24 K (frOf 134 [(0,t0),(1,t1),(2,t2)]) h = R101_6 t0 t1 t2 h (fun h => K .normal (frOf 134 []) h) := by kernel_rfl
theorem n101_21 (m0 : Nat) (fr : Fr) (h : Heap) : (K101_11 m0) .normal fr h = E101 C101_25 (K101_9 m0) fr h := kSeq_n _ _ _ _
theorem b101_6 (m0 : Nat) (ih0 : ∀ (t0 t1 t2 t3 t8 t9 : AV) (h : Heap), evLoop (cleanO L101 (headId C101_6)) (E101 C101_6) K101_2 m0 (frOf 134 [(0,t0),(1,t1),(2,t2),(3,t3),(8,t8),(9,t9)]) h = G101_l0  m0 t0 t1 t2 t3 t8 t9 h) (t0 t1 t2 : AV) (h : Heap) : E101 C101_24 (K101_11 m0) (frOf 134 [(0,t0),(1,t1),(2,t2)]) h = G101_6 (G101_l0  m0) t0 t1 t2 h :=
  (r101_6 (K101_11 m0) t0 t1 t2 h).trans (congrArg (R101_6 t0 t1 t2 h) (funext fun h => (Eq.trans (n101_21 m0 _ _) (Eq.trans (stepRet (by kernel_rfl) (K101_9 m0) _ _) (Eq.trans (kSeq_r _ _ _ _) (Eq.trans (kBlock_r _ _ _ _) (Eq.trans (kSeq_r _ _ _ _) (Eq.trans (kBlock_r _ _ _ _) (by kernel_rfl)))))))))
theorem r101_7 (K : Kont) (t0 t1 t2 t3 t8 t9 t10 : AV) (h : Heap) : E101 C101_28 K (frOf 134 [(0,t0),(1,t1),(2,t2),(3,t3),(8,t8),(9,t9),(10,t10)]) h = R101_7 t0 t1 t2 t3 t8 t9 t10 h (fun t0 t1 t2 t3 t8 t9 t10 t35 h => K .normal (frOf 134 [(0,t0),(1,t1),(2,t2),(3,t3),(8,t8),(9,t9),(10,t10),(35,t35)]) h) := by kernel_rfl
theorem n101_22 (m0 : Nat) (fr : Fr) (h : Heap) : (K101_13 m0) .normal fr h = E101 C101_29 (K101_12 m0) fr h := kSeq_n _ _ _ _
theorem q101_23 (m0 : Nat) (fr : Fr) (h : Heap) : E101 C101_30 (K101_12 m0) fr h = E101 C101_32 (K101_14 m0) fr h := stepSeq (by kernel_rfl) _ _ _
theorem n101_24 (m0 : Nat) (fr : Fr) (h : Heap) : (K101_12 m0) .normal fr h = E101 C101_27 (K101_4 m0) fr h := kSeq_n _ _ _ _
theorem q101_25 (m0 : Nat) (fr : Fr) (h : Heap) : E101 C101_27 (K101_4 m0) fr h = E101 C101_34 (K101_15 m0) fr h := stepSeq (by kernel_rfl) _ _ _
theorem r101_8 (K : Kont) (t0 t1 t2 t3 t8 t9 t10 : AV) (h : Heap) : E101 C101_32 K (frOf 134 [(0,t0),(1,t1),(2,t2),(3,t3),(8,t8),(9,t9),(10,t10)]) h = R101_8 t0 t1 t2 t3 t8 t9 t10 h (fun t0 t1 t2 t3 t8 t9 t10 h => K .normal (frOf 134 [(0,t0),(1,t1),(2,t2),(3,t3),(8,t8),(9,t9),(10,t10)]) h) := by kernel_rfl
theorem n101_26 (m0 : Nat) (fr : Fr) (h : Heap) : (K101_14 m0) .normal fr h = E101 C101_33 (K101_12 m0) fr h := kSeq_n _ _ _ _
theorem r101_9 (K : Kont) (t0 t1 t2 t3 t8 t9 t10 : AV) (h : Heap) : E101 C101_33 K (frOf 134 [(0,t0),(1,t1),(2,t2),(3,t3),(8,t8),(9,t9),(10,t10)]) h = R101_9 t0 t1 t2 t3 t8 t9 t10 h (fun t0 t1 t2 t3 t8 t9 t10 h => K .normal (frOf 134 [(0,t0),(1,t1),(2,t2),(3,t3),(8,t8),(9,t9),(10,t10)]) h) := by kernel_rfl
theorem r101_10 (K : Kont) (t0 t1 t2 t3 t8 t9 t10 : AV) (h : Heap) : E101 C101_34 K (frOf 134 [(0,t0),(1,t1),(2,t2),(3,t3),(8,t8),(9,t9),(10,t10)]) h = R101_10 t0 t1 t2 t3 t8 t9 t10 h (fun t0 t1 t2 t3 t8 t9 t10 t11 t12 h => K .normal (frOf 134 [(0,t0),(1,t1),(2,t2),(3,t3),(8,t8),(9,t9),(10,t10),(11,t11),(12,t12)]) h) := by kernel_rfl
theorem n101_27 (m0 : Nat) (fr : Fr) (h : Heap) : (K101_15 m0) .normal fr h = E101 C101_35 (K101_4 m0) fr h := kSeq_n _ _ _ _
theorem q101_28 (m0 : Nat) (fr : Fr) (h : Heap) : E101 C101_35 (K101_4 m0) fr h = E101 C101_36 (K101_16 m0) fr h := stepSeq (by kernel_rfl) _ _ _
theorem q101_29 (m0 : Nat) (fr : Fr) (h : Heap) : E101 C101_36 (K101_16 m0) fr h = E101 C101_38 (K101_17 m0) fr h := stepSeq (by kernel_rfl) _ _ _
theorem r101_11 (K : Kont) (t0 t1 t2 t3 t8 t9 t10 t11 t12 : AV) (h : Heap) : E101 C101_38 K (frOf 134 [(0,t0),(1,t1),(2,t2),(3,t3),(8,t8),(9,t9),(10,t10),(11,t11),(12,t12)]) h = R101_11 t0 t1 t2 t3 t8 t9 t10 t11 t12 h (fun t0 t1 t2 t3 t8 t9 t10 t11 t12 t50 h => K .normal (frOf 134 [(0,t0),(1,t1),(2,t2),(3,t3),(8,t8),(9,t9),(10,t10),(11,t11),(12,t12),(50,t50)]) h) := by kernel_rfl
theorem n101_30 (m0 : Nat) (fr : Fr) (h : Heap) : (K101_17 m0) .normal fr h = E101 C101_39 (K101_16 m0) fr h := kSeq_n _ _ _ _
theorem q101_31 (m0 : Nat) (fr : Fr) (h : Heap) : E101 C101_40 (K101_16 m0) fr h = E101 C101_42 (K101_18 m0) fr h := stepSeq (by kernel_rfl) _ _ _
theorem n101_32 (m0 : Nat) (fr : Fr) (h : Heap) : (K101_16 m0) .normal fr h = E101 C101_37 (K101_4 m0) fr h := kSeq_n _ _ _ _
theorem q101_33 (m0 : Nat) (fr : Fr) (h : Heap) : E101 C101_37 (K101_4 m0) fr h = E101 C101_44 (K101_19 m0) fr h := stepSeq (by kernel_rfl) _ _ _
theorem q101_34 (m0 : Nat) (fr : Fr) (h : Heap) : E101 C101_44 (K101_19 m0) fr h = E101 C101_46 (K101_20 m0) fr h := stepSeq (by kernel_rfl) _ _ _
theorem r101_12 (K : Kont) (t0 t1 t2 t3 t8 t9 t10 t11 : AV) (h : Heap) : E101 C101_42 K (frOf 134 [(0,t0),(1,t1),(2,t2),(3,t3),(8,t8),(9,t9),(10,t10),(11,t11)]) h = R101_12 t0 t1 t2 t3 t8 t9 t10 t11 h (fun t0 t1 t2 t3 t8 t9 t10 t11 h => K .normal (frOf 134 [(0,t0),(1,t1),(2,t2),(3,t3),(8,t8),(9,t9),(10,t10),(11,t11)]) h) := by kernel_rfl
theorem n101_35 (m0 : Nat) (fr : Fr) (h : Heap) : (K101_18 m0) .normal fr h = E101 C101_43 (K101_16 m0) fr h := kSeq_n _ _ _ _
theorem q101_36 (m0 : Nat) (fr : Fr) (h : Heap) : E101 C101_43 (K101_16 m0) fr h = E101 C101_48 (K101_21 m0) fr h := stepSeq (by kernel_rfl) _ _ _
theorem r101_13 (K : Kont) (t0 t1 t2 t3 t8 t9 t10 t11 : AV) (h : Heap) : E101 C101_48 K (frOf 134 [(0,t0),(1,t1),(2,t2),(3,t3),(8,t8),(9,t9),(10,t10),(11,t11)]) h = R101_13 t0 t1 t2 t3 t8 t9 t10 t11 h (fun t0 t1 t2 t3 t8 t9 t10 t11 h => K .normal (frOf 134 [(0,t0),(1,t1),(2,t2),(3,t3),(8,t8),(9,t9),(10,t10),(11,t11)]) h) := by kernel_rfl
theorem n101_37 (m0 : Nat) (fr : Fr) (h : Heap) : (K101_21 m0) .normal fr h = E101 C101_49 (K101_16 m0) fr h := kSeq_n _ _ _ _
theorem r101_14 (K : Kont) (t0 t1 t2 t3 t8 t9 t10 t11 : AV) (h : Heap) : E101 C101_49 K (frOf 134 [(0,t0),(1,t1),(2,t2),(3,t3),(8,t8),(9,t9),(10,t10),(11,t11)]) h = R101_14 t0 t1 t2 t3 t8 t9 t10 t11 h (fun t0 t1 t2 t3 t8 t9 t10 t11 t12 h => K .normal (frOf 134 [(0,t0),(1,t1),(2,t2),(3,t3),(8,t8),(9,t9),(10,t10),(11,t11),(12,t12)]) h) := by kernel_rfl
theorem r101_15 (K : Kont) (t0 t1 t2 t3 t8 t9 t10 t11 t12 : AV) (h : Heap) : E101 C101_46 K (frOf 134 [(0,t0),(1,t1),(2,t2),(3,t3),(8,t8),(9,t9),(10,t10),(11,t11),(12,t12)]) h = R101_15 t0 t1 t2 t3 t8 t9 t10 t11 t12 h (fun t0 t1 t2 t3 t8 t9 t10 t11 t68 h => K .normal (frOf 134 [(0,t0),(1,t1),(2,t2),(3,t3),(8,t8),(9,t9),(10,t10),(11,t11),(68,t68)]) h) := by kernel_rfl
theorem n101_38 (m0 : Nat) (fr : Fr) (h : Heap) : (K101_20 m0) .normal fr h = E101 C101_47 (K101_19 m0) fr h := kSeq_n _ _ _ _
theorem q101_39 (m0 : Nat) (fr : Fr) (h : Heap) : E101 C101_50 (K101_19 m0) fr h = E101 C101_52 (K101_22 m0) fr h := stepSeq (by kernel_rfl) _ _ _
theorem n101_40 (m0 : Nat) (fr : Fr) (h : Heap) : (K101_19 m0) .normal fr h = E101 C101_45 (K101_4 m0) fr h := kSeq_n _ _ _ _
theorem q101_41 (m0 : Nat) (fr : Fr) (h : Heap) : E101 C101_45 (K101_4 m0) fr h = E101 C101_54 (K101_23 m0) fr h := stepSeq (by kernel_rfl) _ _ _
theorem q101_42 (m0 : Nat) (fr : Fr) (h : Heap) : E101 C101_54 (K101_23 m0) fr h = E101 C101_56 (K101_24 m0) fr h := stepSeq (by kernel_rfl) _ _ _
theorem r101_16 (K : Kont) (t0 t1 t2 t3 t8 t9 t10 t11 : AV) (h : Heap) : E101 C101_52 K (frOf 134 [(0,t0),(1,t1),(2,t2),(3,t3),(8,t8),(9,t9),(10,t10),(11,t11)]) h = R101_16 t0 t1 t2 t3 t8 t9 t10 t11 h (fun t0 t1 t2 t3 t8 t9 t10 t11 t72 h => K .normal (frOf 134 [(0,t0),(1,t1),(2,t2),(3,t3),(8,t8),(9,t9),(10,t10),(11,t11),(72,t72)]) h) := by kernel_rfl
theorem n101_43 (m0 : Nat) (fr : Fr) (h : Heap) : (K101_22 m0) .normal fr h = E101 C101_53 (K101_19 m0) fr h := kSeq_n _ _ _ _
theorem r101_17 (K : Kont) (t0 t1 t2 t3 t8 t9 t10 t11 : AV) (h : Heap) : E101 C101_56 K (frOf 134 [(0,t0),(1,t1),(2,t2),(3,t3),(8,t8),(9,t9),(10,t10),(11,t11)]) h = R101_17 t0 t1 t2 t3 t8 t9 t10 t11 h (fun t0 t1 t2 t3 t8 t9 t10 t11 t87 h => K .normal (frOf 134 [(0,t0),(1,t1),(2,t2),(3,t3),(8,t8),(9,t9),(10,t10),(11,t11),(87,t87)]) h) := by kernel_rfl
theorem n101_44 (m0 : Nat) (fr : Fr) (h : Heap) : (K101_24 m0) .normal fr h = E101 C101_57 (K101_23 m0) fr h := kSeq_n _ _ _ _
theorem q101_45 (m0 : Nat) (fr : Fr) (h : Heap) : E101 C101_60 (K101_23 m0) fr h = E101 C101_62 (K101_25 m0) fr h := stepSeq (by kernel_rfl) _ _ _
theorem n101_46 (m0 : Nat) (fr : Fr) (h : Heap) : (K101_23 m0) .normal fr h = E101 C101_55 (K101_4 m0) fr h := kSeq_n _ _ _ _
theorem q101_47 (m0 : Nat) (fr : Fr) (h : Heap) : E101 C101_55 (K101_4 m0) fr h = E101 C101_64 (K101_26 m0) fr h := stepSeq (by kernel_rfl) _ _ _
theorem r101_18 (K : Kont) (t0 t1 t2 t3 t8 t9 t11 : AV) (h : Heap) : E101 C101_62 K (frOf 134 [(0,t0),(1,t1),(2,t2),(3,t3),(8,t8),(9,t9),(11,t11)]) h = R101_18 t0 t1 t2 t3 t8 t9 t11 h (fun t0 t2 t3 t8 t9 t13 h => K .normal (frOf 134 [(0,t0),(2,t2),(3,t3),(8,t8),(9,t9),(13,t13)]) h) := by kernel_rfl
theorem n101_48 (m0 : Nat) (fr : Fr) (h : Heap) : (K101_25 m0) .normal fr h = E101 C101_63 (K101_23 m0) fr h := kSeq_n _ _ _ _
theorem q101_49 (m0 : Nat) (fr : Fr) (h : Heap) : E101 C101_63 (K101_23 m0) fr h = E101 C101_66 (K101_27 m0) fr h := stepSeq (by kernel_rfl) _ _ _
theorem r101_19 (K : Kont) (t0 t2 t3 t8 t9 t13 : AV) (h : Heap) : E101 C101_66 K (frOf 134 [(0,t0),(2,t2),(3,t3),(8,t8),(9,t9),(13,t13)]) h = R101_19 t0 t2 t3 t8 t9 t13 h (fun t0 t1 t2 t3 t8 t9 h => K .normal (frOf 134 [(0,t0),(1,t1),(2,t2),(3,t3),(8,t8),(9,t9)]) h) := by kernel_rfl
theorem n101_50 (m0 : Nat) (fr : Fr) (h : Heap) : (K101_27 m0) .normal fr h = E101 C101_67 (K101_23 m0) fr h := kSeq_n _ _ _ _
theorem b101_19 (m0 : Nat) (ih0 : ∀ (t0 t1 t2 t3 t8 t9 : AV) (h : Heap), evLoop (cleanO L101 (headId C101_6)) (E101 C101_6) K101_2 m0 (frOf 134 [(0,t0),(1,t1),(2,t2),(3,t3),(8,t8),(9,t9)]) h = G101_l0  m0 t0 t1 t2 t3 t8 t9 h) (t0 t2 t3 t8 t9 t13 : AV) (h : Heap) : E101 C101_66 (K101_27 m0) (frOf 134 [(0,t0),(2,t2),(3,t3),(8,t8),(9,t9),(13,t13)]) h = G101_19 (G101_l0  m0) t0 t2 t3 t8 t9 t13 h :=
  (r101_19 (K101_27 m0) t0 t2 t3 t8 t9 t13 h).trans (congrArg (R101_19 t0 t2 t3 t8 t9 t13 h) (funext fun t0 => funext fun t1 => funext fun t2 => funext fun t3 => funext fun t8 => funext fun t9 => funext fun h => (Eq.trans (n101_50 m0 _ _) (Eq.trans (stepExit (i := 1) (by kernel_rfl) (K101_23 m0) _ _) (Eq.trans (kSeq_x _ _ _ _ _) (Eq.trans (kBlock_hit _ _ _ _) (Eq.trans (stepNext _ (by kernel_rfl)) (ih0 t0 t1 t2 t3 t8 t9 h))))))))
theorem b101_18 (m0 : Nat) (ih0 : ∀ (t0 t1 t2 t3 t8 t9 : AV) (h : Heap), evLoop (cleanO L101 (headId C101_6)) (E101 C101_6) K101_2 m0 (frOf 134 [(0,t0),(1,t1),(2,t2),(3,t3),(8,t8),(9,t9)]) h = G101_l0  m0 t0 t1 t2 t3 t8 t9 h) (t0 t1 t2 t3 t8 t9 t11 : AV) (h : Heap) : E101 C101_62 (K101_25 m0) (frOf 134 [(0,t0),(1,t1),(2,t2),(3,t3),(8,t8),(9,t9),(11,t11)]) h = G101_18 (G101_l0  m0) t0 t1 t2 t3 t8 t9 t11 h :=
  (r101_18 (K101_25 m0) t0 t1 t2 t3 t8 t9 t11 h).trans (congrArg (R101_18 t0 t1 t2 t3 t8 t9 t11 h) (funext fun t0 => funext fun t2 => funext fun t3 => funext fun t8 => funext fun t9 => funext fun t13 => funext fun h => (Eq.trans (n101_48 m0 _ _) (Eq.trans (q101_49 m0 _ _) (b101_19 m0 ih0 t0 t2 t3 t8 t9 t13 h)))))
theorem r101_20 (K : Kont) (t0 t1 t2 t3 t10 t11 : AV) (h : Heap) : E101 C101_64 K (frOf 134 [(0,t0),(1,t1),(2,t2),(3,t3),(10,t10),(11,t11)]) h = R101_20 t0 t1 t2 t3 t10 t11 h (fun t0 t1 t2 t3 t10 t14 t15 h => K .normal (frOf 134 [(0,t0),(1,t1),(2,t2),(3,t3),(10,t10),(14,t14),(15,t15)]) h) := by kernel_rfl
theorem n101_51 (m0 : Nat) (fr : Fr) (h : Heap) : (K101_26 m0) .normal fr h = E101 C101_65 (K101_4 m0) fr h := kSeq_n _ _ _ _
theorem q101_52 (m0 : Nat) (fr : Fr) (h : Heap) : E101 C101_65 (K101_4 m0) fr h = E101 C101_68 (K101_28 m0) fr h := stepSeq (by kernel_rfl) _ _ _
theorem r101_21 (K : Kont) (t0 t1 t2 t3 t10 t14 t15 : AV) (h : Heap) : E101 C101_68 K (frOf 134 [(0,t0),(1,t1),(2,t2),(3,t3),(10,t10),(14,t14),(15,t15)]) h = R101_21 t0 t1 t2 t3 t10 t14 t15 h (fun t0 t1 t2 t3 t9 t10 t14 h => K .normal (frOf 134 [(0,t0),(1,t1),(2,t2),(3,t3),(9,t9),(10,t10),(14,t14)]) h) := by kernel_rfl
theorem n101_53 (m0 : Nat) (fr : Fr) (h : Heap) : (K101_28 m0) .normal fr h = E101 C101_69 (K101_4 m0) fr h := kSeq_n _ _ _ _
theorem q101_54 (m0 : Nat) (fr : Fr) (h : Heap) : E101 C101_69 (K101_4 m0) fr h = E101 C101_70 (K101_29 m0) fr h := stepSeq (by kernel_rfl) _ _ _
theorem r101_22 (K : Kont) (t0 t1 t2 t3 t9 t10 t14 : AV) (h : Heap) : E101 C101_70 K (frOf 134 [(0,t0),(1,t1),(2,t2),(3,t3),(9,t9),(10,t10),(14,t14)]) h = R101_22 t0 t1 t2 t3 t9 t10 t14 h (fun t0 t1 t2 t3 t9 t10 t14 t16 t17 h => K .normal (frOf 134 [(0,t0),(1,t1),(2,t2),(3,t3),(9,t9),(10,t10),(14,t14),(16,t16),(17,t17)]) h) := by kernel_rfl
theorem n101_55 (m0 : Nat) (fr : Fr) (h : Heap) : (K101_29 m0) .normal fr h = E101 C101_71 (K101_4 m0) fr h := kSeq_n _ _ _ _
theorem q101_56 (m0 : Nat) (fr : Fr) (h : Heap) : E101 C101_71 (K101_4 m0) fr h = E101 C101_72 (K101_30 m0) fr h := stepSeq (by kernel_rfl) _ _ _
theorem r101_23 (K : Kont) (t0 t1 t2 t3 t9 t10 t14 t16 t17 : AV) (h : Heap) : E101 C101_72 K (frOf 134 [(0,t0),(1,t1),(2,t2),(3,t3),(9,t9),(10,t10),(14,t14),(16,t16),(17,t17)]) h = R101_23 t0 t1 t2 t3 t9 t10 t14 t16 t17 h (fun t0 t1 t2 t3 t9 t14 t16 t17 t18 h => K .normal (frOf 134 [(0,t0),(1,t1),(2,t2),(3,t3),(9,t9),(14,t14),(16,t16),(17,t17),(18,t18)]) h) := by kernel_rfl
theorem n101_57 (m0 : Nat) (fr : Fr) (h : Heap) : (K101_30 m0) .normal fr h = E101 C101_73 (K101_4 m0) fr h := kSeq_n _ _ _ _
theorem q101_58 (m0 : Nat) (fr : Fr) (h : Heap) : E101 C101_73 (K101_4 m0) fr h = E101 C101_74 (K101_31 m0) fr h := stepSeq (by kernel_rfl) _ _ _
theorem r101_24 (K : Kont) (t0 t1 t2 t3 t9 t14 t16 t17 t18 : AV) (h : Heap) : E101 C101_74 K (frOf 134 [(0,t0),(1,t1),(2,t2),(3,t3),(9,t9),(14,t14),(16,t16),(17,t17),(18,t18)]) h = R101_24 t0 t1 t2 t3 t9 t14 t16 t17 t18 h (fun t0 t1 t2 t3 t9 t14 t16 t17 t18 t113 h => K .normal (frOf 134 [(0,t0),(1,t1),(2,t2),(3,t3),(9,t9),(14,t14),(16,t16),(17,t17),(18,t18),(113,t113)]) h) := by kernel_rfl
theorem n101_59 (m0 : Nat) (fr : Fr) (h : Heap) : (K101_31 m0) .normal fr h = E101 C101_75 (K101_4 m0) fr h := kSeq_n _ _ _ _
theorem q101_60 (m0 : Nat) (fr : Fr) (h : Heap) : E101 C101_76 (K101_4 m0) fr h = E101 C101_78 (K101_32 m0) fr h := stepSeq (by kernel_rfl) _ _ _
theorem q101_61 (m0 : Nat) (fr : Fr) (h : Heap) : E101 C101_77 (K101_4 m0) fr h = E101 C101_80 (K101_33 m0) fr h := stepSeq (by kernel_rfl) _ _ _
theorem r101_25 (K : Kont) (t0 t1 t2 t3 t9 t14 t16 t18 : AV) (h : Heap) : E101 C101_78 K (frOf 134 [(0,t0),(1,t1),(2,t2),(3,t3),(9,t9),(14,t14),(16,t16),(18,t18)]) h = R101_25 t0 t1 t2 t3 t9 t14 t16 t18 h (fun t0 t1 t2 t3 t8 t9 t14 h => K .normal (frOf 134 [(0,t0),(1,t1),(2,t2),(3,t3),(8,t8),(9,t9),(14,t14)]) h) := by kernel_rfl
theorem n101_62 (m0 : Nat) (fr : Fr) (h : Heap) : (K101_32 m0) .normal fr h = E101 C101_79 (K101_4 m0) fr h := kSeq_n _ _ _ _
theorem q101_63 (m0 : Nat) (fr : Fr) (h : Heap) : E101 C101_79 (K101_4 m0) fr h = E101 C101_82 (K101_34 m0) fr h := stepSeq (by kernel_rfl) _ _ _
theorem r101_26 (K : Kont) (t0 t1 t2 t3 t8 t9 t14 : AV) (h : Heap) : E101 C101_82 K (frOf 134 [(0,t0),(1,t1),(2,t2),(3,t3),(8,t8),(9,t9),(14,t14)]) h = R101_26 t0 t1 t2 t3 t8 t9 t14 h (fun t0 t2 t3 t8 t9 t14 h => K .normal (frOf 134 [(0,t0),(2,t2),(3,t3),(8,t8),(9,t9),(14,t14)]) h) := by kernel_rfl
theorem n101_64 (m0 : Nat) (fr : Fr) (h : Heap) : (K101_34 m0) .normal fr h = E101 C101_83 (K101_4 m0) fr h := kSeq_n _ _ _ _
theorem r101_27 (K : Kont) (t0 t2 t3 t8 t9 t14 : AV) (h : Heap) : E101 C101_83 K (frOf 134 [(0,t0),(2,t2),(3,t3),(8,t8),(9,t9),(14,t14)]) h = R101_27 t0 t2 t3 t8 t9 t14 h (fun t0 t1 t2 t3 t8 t9 h => K .normal (frOf 134 [(0,t0),(1,t1),(2,t2),(3,t3),(8,t8),(9,t9)]) h) := by kernel_rfl
theorem b101_27 (m0 : Nat) (ih0 : ∀ (t0 t1 t2 t3 t8 t9 : AV) (h : Heap), evLoop (cleanO L101 (headId C101_6)) (E101 C101_6) K101_2 m0 (frOf 134 [(0,t0),(1,t1),(2,t2),(3,t3),(8,t8),(9,t9)]) h = G101_l0  m0 t0 t1 t2 t3 t8 t9 h) (t0 t2 t3 t8 t9 t14 : AV) (h : Heap) : E101 C101_83 (K101_4 m0) (frOf 134 [(0,t0),(2,t2),(3,t3),(8,t8),(9,t9),(14,t14)]) h = G101_27 (G101_l0  m0) t0 t2 t3 t8 t9 t14 h :=
  (r101_27 (K101_4 m0) t0 t2 t3 t8 t9 t14 h).trans (congrArg (R101_27 t0 t2 t3 t8 t9 t14 h) (funext fun t0 => funext fun t1 => funext fun t2 => funext fun t3 => funext fun t8 => funext fun t9 => funext fun h => (Eq.trans (kBlock_n _ _ _ _) (Eq.trans (stepNext _ (by kernel_rfl)) (ih0 t0 t1 t2 t3 t8 t9 h)))))
theorem b101_26 (m0 : Nat) (ih0 : ∀ (t0 t1 t2 t3 t8 t9 : AV) (h : Heap), evLoop (cleanO L101 (headId C101_6)) (E101 C101_6) K101_2 m0 (frOf 134 [(0,t0),(1,t1),(2,t2),(3,t3),(8,t8),(9,t9)]) h = G101_l0  m0 t0 t1 t2 t3 t8 t9 h) (t0 t1 t2 t3 t8 t9 t14 : AV) (h : Heap) : E101 C101_82 (K101_34 m0) (frOf 134 [(0,t0),(1,t1),(2,t2),(3,t3),(8,t8),(9,t9),(14,t14)]) h = G101_26 (G101_l0  m0) t0 t1 t2 t3 t8 t9 t14 h :=
  (r101_26 (K101_34 m0) t0 t1 t2 t3 t8 t9 t14 h).trans (congrArg (R101_26 t0 t1 t2 t3 t8 t9 t14 h) (funext fun t0 => funext fun t2 => funext fun t3 => funext fun t8 => funext fun t9 => funext fun t14 => funext fun h => (Eq.trans (n101_64 m0 _ _) (b101_27 m0 ih0 t0 t2 t3 t8 t9 t14 h))))
theorem b101_25 (m0 : Nat) (ih0 : ∀ (t0 t1 t2 t3 t8 t9 : AV) (h : Heap), evLoop (cleanO L101 (headId C101_6)) (E101 C101_6) K101_2 m0 (frOf 134 [(0,t0),(1,t1),(2,t2),(3,t3),(8,t8),(9,t9)]) h = G101_l0  m0 t0 t1 t2 t3 t8 t9 h) (t0 t1 t2 t3 t9 t14 t16 t18 : AV) (h : Heap) : E101 C101_78 (K101_32 m0) (frOf 134 [(0,t0),(1,t1),(2,t2),(3,t3),(9,t9),(14,t14),(16,t16),(18,t18)]) h = G101_25 (G101_l0  m0) t0 t1 t2 t3 t9 t14 t16 t18 h :=
  (r101_25 (K101_32 m0) t0 t1 t2 t3 t9 t14 t16 t18 h).trans (congrArg (R101_25 t0 t1 t2 t3 t9 t14 t16 t18 h) (funext fun t0 => funext fun t1 => funext fun t2 => funext fun t3 => funext fun t8 => funext fun t9 => funext fun t14 => funext fun h => (Eq.trans (n101_62 m0 _ _) (Eq.trans (q101_63 m0 _ _) (b101_26 m0 ih0 t0 t1 t2 t3 t8 t9 t14 h)))))
theorem r101_28 (K : Kont) (t0 t1 t2 t3 t9 t14 t17 t18 : AV) (h : Heap) : E101 C101_80 K (frOf 134 [(0,t0),(1,t1),(2,t2),(3,t3),(9,t9),(14,t14),(17,t17),(18,t18)]) h = R101_28 t0 t1 t2 t3 t9 t14 t17 t18 h (fun t0 t1 t2 t3 t8 t9 t14 h => K .normal (frOf 134 [(0,t0),(1,t1),(2,t2),(3,t3),(8,t8),(9,t9),(14,t14)]) h) := by kernel_rfl
theorem n101_65 (m0 : Nat) (fr : Fr) (h : Heap) : (K101_33 m0) .normal fr h = E101 C101_81 (K101_4 m0) fr h := kSeq_n _ _ _ _
theorem q101_66 (m0 : Nat) (fr : Fr) (h : Heap) : E101 C101_81 (K101_4 m0) fr h = E101 C101_84 (K101_35 m0) fr h := stepSeq (by kernel_rfl) _ _ _
theorem r101_29 (K : Kont) (t0 t1 t2 t3 t8 t9 t14 : AV) (h : Heap) : E101 C101_84 K (frOf 134 [(0,t0),(1,t1),(2,t2),(3,t3),(8,t8),(9,t9),(14,t14)]) h = R101_29 t0 t1 t2 t3 t8 t9 t14 h (fun t0 t1 t3 t8 t9 t14 h => K .normal (frOf 134 [(0,t0),(1,t1),(3,t3),(8,t8),(9,t9),(14,t14)]) h) := by kernel_rfl
theorem n101_67 (m0 : Nat) (fr : Fr) (h : Heap) : (K101_35 m0) .normal fr h = E101 C101_85 (K101_4 m0) fr h := kSeq_n _ _ _ _
theorem r101_30 (K : Kont) (t0 t1 t3 t8 t9 t14 : AV) (h : Heap) : E101 C101_85 K (frOf 134 [(0,t0),(1,t1),(3,t3),(8,t8),(9,t9),(14,t14)]) h = R101_30 t0 t1 t3 t8 t9 t14 h (fun t0 t1 t2 t3 t8 t9 h => K .normal (frOf 134 [(0,t0),(1,t1),(2,t2),(3,t3),(8,t8),(9,t9)]) h) := by kernel_rfl
theorem b101_30 (m0 : Nat) (ih0 : ∀ (t0 t1 t2 t3 t8 t9 : AV) (h : Heap), evLoop (cleanO L101 (headId C101_6)) (E101 C101_6) K101_2 m0 (frOf 134 [(0,t0),(1,t1),(2,t2),(3,t3),(8,t8),(9,t9)]) h = G101_l0  m0 t0 t1 t2 t3 t8 t9 h) (t0 t1 t3 t8 t9 t14 : AV) (h : Heap) : E101 C101_85 (K101_4 m0) (frOf 134 [(0,t0),(1,t1),(3,t3),(8,t8),(9,t9),(14,t14)]) h = G101_30 (G101_l0  m0) t0 t1 t3 t8 t9 t14 h :=
  (r101_30 (K101_4 m0) t0 t1 t3 t8 t9 t14 h).trans (congrArg (R101_30 t0 t1 t3 t8 t9 t14 h) (funext fun t0 => funext fun t1 => funext fun t2 => funext fun t3 => funext fun t8 => funext fun t9 => funext fun h => (Eq.trans (kBlock_n _ _ _ _) (Eq.trans (stepNext _ (by kernel_rfl)) (ih0 t0 t1 t2 t3 t8 t9 h)))))
theorem b101_29 (m0 : Nat) (ih0 : ∀ (t0 t1 t2 t3 t8 t9 : AV) (h : Heap), evLoop (cleanO L101 (headId C101_6)) (E101 C101_6) K101_2 m0 (frOf 134 [(0,t0),(1,t1),(2,t2),(3,t3),(8,t8),(9,t9)]) h = G101_l0  m0 t0 t1 t2 t3 t8 t9 h) (t0 t1 t2 t3 t8 t9 t14 : AV) (h : Heap) : E101 C101_84 (K101_35 m0) (frOf 134 [(0,t0),(1,t1),(2,t2),(3,t3),(8,t8),(9,t9),(14,t14)]) h = G101_29 (G101_l0  m0) t0 t1 t2 t3 t8 t9 t14 h :=
  (r101_29 (K101_35 m0) t0 t1 t2 t3 t8 t9 t14 h).trans (congrArg (R101_29 t0 t1 t2 t3 t8 t9 t14 h) (funext fun t0 => funext fun t1 => funext fun t3 => funext fun t8 => funext fun t9 => funext fun t14 => funext fun h => (Eq.trans (n101_67 m0 _ _) (b101_30 m0 ih0 t0 t1 t3 t8 t9 t14 h))))
theorem b101_28 (m0 : Nat) (ih0 : ∀ (t0 t1 t2 t3 t8 t9 : AV) (h : Heap), evLoop (cleanO L101 (headId C101_6)) (E101 C101_6) K101_2 m0 (frOf 134 [(0,t0),(1,t1),(2,t2),(3,t3),(8,t8),(9,t9)]) h = G101_l0  m0 t0 t1 t2 t3 t8 t9 h) (t0 t1 t2 t3 t9 t14 t17 t18 : AV) (h : Heap) : E101 C101_80 (K101_33 m0) (frOf 134 [(0,t0),(1,t1),(2,t2),(3,t3),(9,t9),(14,t14),(17,t17),(18,t18)]) h = G101_28 (G101_l0  m0) t0 t1 t2 t3 t9 t14 t17 t18 h :=
  (r101_28 (K101_33 m0) t0 t1 t2 t3 t9 t14 t17 t18 h).trans (congrArg (R101_28 t0 t1 t2 t3 t9 t14 t17 t18 h) (funext fun t0 => funext fun t1 => funext fun t2 => funext fun t3 => funext fun t8 => funext fun t9 => funext fun t14 => funext fun h => (Eq.trans (n101_65 m0 _ _) (Eq.trans (q101_66 m0 _ _) (b101_29 m0 ih0 t0 t1 t2 t3 t8 t9 t14 h)))))
theorem b101_24 (m0 : Nat) (ih0 : ∀ (t0 t1 t2 t3 t8 t9 : AV) (h : Heap), evLoop (cleanO L101 (headId C101_6)) (E101 C101_6) K101_2 m0 (frOf 134 [(0,t0),(1,t1),(2,t2),(3,t3),(8,t8),(9,t9)]) h = G101_l0  m0 t0 t1 t2 t3 t8 t9 h) (t0 t1 t2 t3 t9 t14 t16 t17 t18 : AV) (h : Heap) : E101 C101_74 (K101_31 m0) (frOf 134 [(0,t0),(1,t1),(2,t2),(3,t3),(9,t9),(14,t14),(16,t16),(17,t17),(18,t18)]) h = G101_24 (G101_l0  m0) t0 t1 t2 t3 t9 t14 t16 t17 t18 h :=
  (r101_24 (K101_31 m0) t0 t1 t2 t3 t9 t14 t16 t17 t18 h).trans (congrArg (R101_24 t0 t1 t2 t3 t9 t14 t16 t17 t18 h) (funext fun t0 => funext fun t1 => funext fun t2 => funext fun t3 => funext fun t9 => funext fun t14 => funext fun t16 => funext fun t17 => funext fun t18 => funext fun t113 => funext fun h => (Eq.trans (n101_59 m0 _ _) (Eq.trans (stepCond (c := C101_75) (by kernel_rfl) (K101_4 m0) _ _ (v := t113) (by kernel_rfl)) (bcase_congr t113 (Eq.trans (q101_60 m0 _ _) (Eq.trans (stepClean (c := C101_78) (id := 25) (by kernel_rfl) (K101_32 m0) _ _ (by kernel_rfl)) (b101_25 m0 ih0 t0 t1 t2 t3 t9 t14 t16 t18 h))) (Eq.trans (q101_61 m0 _ _) (Eq.trans (stepClean (c := C101_80) (id := 28) (by kernel_rfl) (K101_33 m0) _ _ (by kernel_rfl)) (b101_28 m0 ih0 t0 t1 t2 t3 t9 t14 t17 t18 h))))))))
theorem b101_23 (m0 : Nat) (ih0 : ∀ (t0 t1 t2 t3 t8 t9 : AV) (h : Heap), evLoop (cleanO L101 (headId C101_6)) (E101 C101_6) K101_2 m0 (frOf 134 [(0,t0),(1,t1),(2,t2),(3,t3),(8,t8),(9,t9)]) h = G101_l0  m0 t0 t1 t2 t3 t8 t9 h) (t0 t1 t2 t3 t9 t10 t14 t16 t17 : AV) (h : Heap) : E101 C101_72 (K101_30 m0) (frOf 134 [(0,t0),(1,t1),(2,t2),(3,t3),(9,t9),(10,t10),(14,t14),(16,t16),(17,t17)]) h = G101_23 (G101_l0  m0) t0 t1 t2 t3 t9 t10 t14 t16 t17 h :=
  (r101_23 (K101_30 m0) t0 t1 t2 t3 t9 t10 t14 t16 t17 h).trans (congrArg (R101_23 t0 t1 t2 t3 t9 t10 t14 t16 t17 h) (funext fun t0 => funext fun t1 => funext fun t2 => funext fun t3 => funext fun t9 => funext fun t14 => funext fun t16 => funext fun t17 => funext fun t18 => funext fun h => (Eq.trans (n101_57 m0 _ _) (Eq.trans (q101_58 m0 _ _) (b101_24 m0 ih0 t0 t1 t2 t3 t9 t14 t16 t17 t18 h)))))
theorem b101_22 (m0 : Nat) (ih0 : ∀ (t0 t1 t2 t3 t8 t9 : AV) (h : Heap), evLoop (cleanO L101 (headId C101_6)) (E101 C101_6) K101_2 m0 (frOf 134 [(0,t0),(1,t1),(2,t2),(3,t3),(8,t8),(9,t9)]) h = G101_l0  m0 t0 t1 t2 t3 t8 t9 h) (t0 t1 t2 t3 t9 t10 t14 : AV) (h : Heap) : E101 C101_70 (K101_29 m0) (frOf 134 [(0,t0),(1,t1),(2,t2),(3,t3),(9,t9),(10,t10),(14,t14)]) h = G101_22 (G101_l0  m0) t0 t1 t2 t3 t9 t10 t14 h :=
  (r101_22 (K101_29 m0) t0 t1 t2 t3 t9 t10 t14 h).trans (congrArg (R101_22 t0 t1 t2 t3 t9 t10 t14 h) (funext fun t0 => funext fun t1 => funext fun t2 => funext fun t3 => funext fun t9 => funext fun t10 => funext fun t14 => funext fun t16 => funext fun t17 => funext fun h => (Eq.trans (n101_55 m0 _ _) (Eq.trans (q101_56 m0 _ _) (b101_23 m0 ih0 t0 t1 t2 t3 t9 t10 t14 t16 t17 h)))))
theorem b101_21 (m0 : Nat) (ih0 : ∀ (t0 t1 t2 t3 t8 t9 : AV) (h : Heap), evLoop (cleanO L101 (headId C101_6)) (E101 C101_6) K101_2 m0 (frOf 134 [(0,t0),(1,t1),(2,t2),(3,t3),(8,t8),(9,t9)]) h = G101_l0  m0 t0 t1 t2 t3 t8 t9 h) (t0 t1 t2 t3 t10 t14 t15 : AV) (h : Heap) : E101 C101_68 (K101_28 m0) (frOf 134 [(0,t0),(1,t1),(2,t2),(3,t3),(10,t10),(14,t14),(15,t15)]) h = G101_21 (G101_l0  m0) t0 t1 t2 t3 t10 t14 t15 h :=
  (r101_21 (K101_28 m0) t0 t1 t2 t3 t10 t14 t15 h).trans (congrArg (R101_21 t0 t1 t2 t3 t10 t14 t15 h) (funext fun t0 => funext fun t1 => funext fun t2 => funext fun t3 => funext fun t9 => funext fun t10 => funext fun t14 => funext fun h => (Eq.trans (n101_53 m0 _ _) (Eq.trans (q101_54 m0 _ _) (b101_22 m0 ih0 t0 t1 t2 t3 t9 t10 t14 h)))))
theorem b101_20 (m0 : Nat) (ih0 : ∀ (t0 t1 t2 t3 t8 t9 : AV) (h : Heap), evLoop (cleanO L101 (headId C101_6)) (E101 C101_6) K101_2 m0 (frOf 134 [(0,t0),(1,t1),(2,t2),(3,t3),(8,t8),(9,t9)]) h = G101_l0  m0 t0 t1 t2 t3 t8 t9 h) (t0 t1 t2 t3 t10 t11 : AV) (h : Heap) : E101 C101_64 (K101_26 m0) (frOf 134 [(0,t0),(1,t1),(2,t2),(3,t3),(10,t10),(11,t11)]) h = G101_20 (G101_l0  m0) t0 t1 t2 t3 t10 t11 h :=
  (r101_20 (K101_26 m0) t0 t1 t2 t3 t10 t11 h).trans (congrArg (R101_20 t0 t1 t2 t3 t10 t11 h) (funext fun t0 => funext fun t1 => funext fun t2 => funext fun t3 => funext fun t10 => funext fun t14 => funext fun t15 => funext fun h => (Eq.trans (n101_51 m0 _ _) (Eq.trans (q101_52 m0 _ _) (b101_21 m0 ih0 t0 t1 t2 t3 t10 t14 t15 h)))))
theorem b101_17 (m0 : Nat) (ih0 : ∀ (t0 t1 t2 t3 t8 t9 : AV) (h : Heap), evLoop (cleanO L101 (headId C101_6)) (E101 C101_6) K101_2 m0 (frOf 134 [(0,t0),(1,t1),(2,t2),(3,t3),(8,t8),(9,t9)]) h = G101_l0  m0 t0 t1 t2 t3 t8 t9 h) (t0 t1 t2 t3 t8 t9 t10 t11 : AV) (h : Heap) : E101 C101_56 (K101_24 m0) (frOf 134 [(0,t0),(1,t1),(2,t2),(3,t3),(8,t8),(9,t9),(10,t10),(11,t11)]) h = G101_17 (G101_l0  m0) t0 t1 t2 t3 t8 t9 t10 t11 h :=
  (r101_17 (K101_24 m0) t0 t1 t2 t3 t8 t9 t10 t11 h).trans (congrArg (R101_17 t0 t1 t2 t3 t8 t9 t10 t11 h) (funext fun t0 => funext fun t1 => funext fun t2 => funext fun t3 => funext fun t8 => funext fun t9 => funext fun t10 => funext fun t11 => funext fun t87 => funext fun h => (Eq.trans (n101_44 m0 _ _) (Eq.trans (stepCond (c := C101_57) (by kernel_rfl) (K101_23 m0) _ _ (v := t87) (by kernel_rfl)) (bcase_congr t87 (Eq.trans (q101_45 m0 _ _) (Eq.trans (stepClean (c := C101_62) (id := 18) (by kernel_rfl) (K101_25 m0) _ _ (by kernel_rfl)) (b101_18 m0 ih0 t0 t1 t2 t3 t8 t9 t11 h))) (Eq.trans (stepSkip (by kernel_rfl) (K101_23 m0) _ _) (Eq.trans (n101_46 m0 _ _) (Eq.trans (q101_47 m0 _ _) (Eq.trans (stepClean (c := C101_64) (id := 20) (by kernel_rfl) (K101_26 m0) _ _ (by kernel_rfl)) (b101_20 m0 ih0 t0 t1 t2 t3 t10 t11 h))))))))))
theorem b101_16 (m0 : Nat) (ih0 : ∀ (t0 t1 t2 t3 t8 t9 : AV) (h : Heap), evLoop (cleanO L101 (headId C101_6)) (E101 C101_6) K101_2 m0 (frOf 134 [(0,t0),(1,t1),(2,t2),(3,t3),(8,t8),(9,t9)]) h = G101_l0  m0 t0 t1 t2 t3 t8 t9 h) (t0 t1 t2 t3 t8 t9 t10 t11 : AV) (h : Heap) : E101 C101_52 (K101_22 m0) (frOf 134 [(0,t0),(1,t1),(2,t2),(3,t3),(8,t8),(9,t9),(10,t10),(11,t11)]) h = G101_16 (G101_l0  m0) t0 t1 t2 t3 t8 t9 t10 t11 h :=
  (r101_16 (K101_22 m0) t0 t1 t2 t3 t8 t9 t10 t11 h).trans (congrArg (R101_16 t0 t1 t2 t3 t8 t9 t10 t11 h) (funext fun t0 => funext fun t1 => funext fun t2 => funext fun t3 => funext fun t8 => funext fun t9 => funext fun t10 => funext fun t11 => funext fun t72 => funext fun h => (Eq.trans (n101_43 m0 _ _) (Eq.trans (stepCond (c := C101_53) (by kernel_rfl) (K101_19 m0) _ _ (v := t72) (by kernel_rfl)) (bcase_congr t72 (Eq.trans (stepRet (by kernel_rfl) (K101_19 m0) _ _) (Eq.trans (kSeq_r _ _ _ _) (Eq.trans (kBlock_r _ _ _ _) (Eq.trans (kSeq_r _ _ _ _) (Eq.trans (kBlock_r _ _ _ _) (by kernel_rfl)))))) (Eq.trans (stepSkip (by kernel_rfl) (K101_19 m0) _ _) (Eq.trans (n101_40 m0 _ _) (Eq.trans (q101_41 m0 _ _) (Eq.trans (q101_42 m0 _ _) (Eq.trans (stepClean (c := C101_56) (id := 17) (by kernel_rfl) (K101_24 m0) _ _ (by kernel_rfl)) (b101_17 m0 ih0 t0 t1 t2 t3 t8 t9 t10 t11 h)))))))))))
theorem b101_15 (m0 : Nat) (ih0 : ∀ (t0 t1 t2 t3 t8 t9 : AV) (h : Heap), evLoop (cleanO L101 (headId C101_6)) (E101 C101_6) K101_2 m0 (frOf 134 [(0,t0),(1,t1),(2,t2),(3,t3),(8,t8),(9,t9)]) h = G101_l0  m0 t0 t1 t2 t3 t8 t9 h) (t0 t1 t2 t3 t8 t9 t10 t11 t12 : AV) (h : Heap) : E101 C101_46 (K101_20 m0) (frOf 134 [(0,t0),(1,t1),(2,t2),(3,t3),(8,t8),(9,t9),(10,t10),(11,t11),(12,t12)]) h = G101_15 (G101_l0  m0) t0 t1 t2 t3 t8 t9 t10 t11 t12 h :=
  (r101_15 (K101_20 m0) t0 t1 t2 t3 t8 t9 t10 t11 t12 h).trans (congrArg (R101_15 t0 t1 t2 t3 t8 t9 t10 t11 t12 h) (funext fun t0 => funext fun t1 => funext fun t2 => funext fun t3 => funext fun t8 => funext fun t9 => funext fun t10 => funext fun t11 => funext fun t68 => funext fun h => (Eq.trans (n101_38 m0 _ _) (Eq.trans (stepCond (c := C101_47) (by kernel_rfl) (K101_19 m0) _ _ (v := t68) (by kernel_rfl)) (bcase_congr t68 (Eq.trans (q101_39 m0 _ _) (Eq.trans (stepClean (c := C101_52) (id := 16) (by kernel_rfl) (K101_22 m0) _ _ (by kernel_rfl)) (b101_16 m0 ih0 t0 t1 t2 t3 t8 t9 t10 t11 h))) (Eq.trans (stepSkip (by kernel_rfl) (K101_19 m0) _ _) (Eq.trans (n101_40 m0 _ _) (Eq.trans (q101_41 m0 _ _) (Eq.trans (q101_42 m0 _ _) (Eq.trans (stepClean (c := C101_56) (id := 17) (by kernel_rfl) (K101_24 m0) _ _ (by kernel_rfl)) (b101_17 m0 ih0 t0 t1 t2 t3 t8 t9 t10 t11 h)))))))))))
theorem b101_14 (m0 : Nat) (ih0 : ∀ (t0 t1 t2 t3 t8 t9 : AV) (h : Heap), evLoop (cleanO L101 (headId C101_6)) (E101 C101_6) K101_2 m0 (frOf 134 [(0,t0),(1,t1),(2,t2),(3,t3),(8,t8),(9,t9)]) h = G101_l0  m0 t0 t1 t2 t3 t8 t9 h) (t0 t1 t2 t3 t8 t9 t10 t11 : AV) (h : Heap) : E101 C101_49 (K101_16 m0) (frOf 134 [(0,t0),(1,t1),(2,t2),(3,t3),(8,t8),(9,t9),(10,t10),(11,t11)]) h = G101_14 (G101_l0  m0) t0 t1 t2 t3 t8 t9 t10 t11 h :=
  (r101_14 (K101_16 m0) t0 t1 t2 t3 t8 t9 t10 t11 h).trans (congrArg (R101_14 t0 t1 t2 t3 t8 t9 t10 t11 h) (funext fun t0 => funext fun t1 => funext fun t2 => funext fun t3 => funext fun t8 => funext fun t9 => funext fun t10 => funext fun t11 => funext fun t12 => funext fun h => (Eq.trans (n101_32 m0 _ _) (Eq.trans (q101_33 m0 _ _) (Eq.trans (q101_34 m0 _ _) (b101_15 m0 ih0 t0 t1 t2 t3 t8 t9 t10 t11 t12 h))))))
theorem b101_13 (m0 : Nat) (ih0 : ∀ (t0 t1 t2 t3 t8 t9 : AV) (h : Heap), evLoop (cleanO L101 (headId C101_6)) (E101 C101_6) K101_2 m0 (frOf 134 [(0,t0),(1,t1),(2,t2),(3,t3),(8,t8),(9,t9)]) h = G101_l0  m0 t0 t1 t2 t3 t8 t9 h) (t0 t1 t2 t3 t8 t9 t10 t11 : AV) (h : Heap) : E101 C101_48 (K101_21 m0) (frOf 134 [(0,t0),(1,t1),(2,t2),(3,t3),(8,t8),(9,t9),(10,t10),(11,t11)]) h = G101_13 (G101_l0  m0) t0 t1 t2 t3 t8 t9 t10 t11 h :=
  (r101_13 (K101_21 m0) t0 t1 t2 t3 t8 t9 t10 t11 h).trans (congrArg (R101_13 t0 t1 t2 t3 t8 t9 t10 t11 h) (funext fun t0 => funext fun t1 => funext fun t2 => funext fun t3 => funext fun t8 => funext fun t9 => funext fun t10 => funext fun t11 => funext fun h => (Eq.trans (n101_37 m0 _ _) (b101_14 m0 ih0 t0 t1 t2 t3 t8 t9 t10 t11 h))))
theorem b101_12 (m0 : Nat) (ih0 : ∀ (t0 t1 t2 t3 t8 t9 : AV) (h : Heap), evLoop (cleanO L101 (headId C101_6)) (E101 C101_6) K101_2 m0 (frOf 134 [(0,t0),(1,t1),(2,t2),(3,t3),(8,t8),(9,t9)]) h = G101_l0  m0 t0 t1 t2 t3 t8 t9 h) (t0 t1 t2 t3 t8 t9 t10 t11 : AV) (h : Heap) : E101 C101_42 (K101_18 m0) (frOf 134 [(0,t0),(1,t1),(2,t2),(3,t3),(8,t8),(9,t9),(10,t10),(11,t11)]) h = G101_12 (G101_l0  m0) t0 t1 t2 t3 t8 t9 t10 t11 h :=
  (r101_12 (K101_18 m0) t0 t1 t2 t3 t8 t9 t10 t11 h).trans (congrArg (R101_12 t0 t1 t2 t3 t8 t9 t10 t11 h) (funext fun t0 => funext fun t1 => funext fun t2 => funext fun t3 => funext fun t8 => funext fun t9 => funext fun t10 => funext fun t11 => funext fun h => (Eq.trans (n101_35 m0 _ _) (Eq.trans (q101_36 m0 _ _) (b101_13 m0 ih0 t0 t1 t2 t3 t8 t9 t10 t11 h)))))
theorem b101_11 (m0 : Nat) (ih0 : ∀ (t0 t1 t2 t3 t8 t9 : AV) (h : Heap), evLoop (cleanO L101 (headId C101_6)) (E101 C101_6) K101_2 m0 (frOf 134 [(0,t0),(1,t1),(2,t2),(3,t3),(8,t8),(9,t9)]) h = G101_l0  m0 t0 t1 t2 t3 t8 t9 h) (t0 t1 t2 t3 t8 t9 t10 t11 t12 : AV) (h : Heap) : E101 C101_38 (K101_17 m0) (frOf 134 [(0,t0),(1,t1),(2,t2),(3,t3),(8,t8),(9,t9),(10,t10),(11,t11),(12,t12)]) h = G101_11 (G101_l0  m0) t0 t1 t2 t3 t8 t9 t10 t11 t12 h :=
  (r101_11 (K101_17 m0) t0 t1 t2 t3 t8 t9 t10 t11 t12 h).trans (congrArg (R101_11 t0 t1 t2 t3 t8 t9 t10 t11 t12 h) (funext fun t0 => funext fun t1 => funext fun t2 => funext fun t3 => funext fun t8 => funext fun t9 => funext fun t10 => funext fun t11 => funext fun t12 => funext fun t50 => funext fun h => (Eq.trans (n101_30 m0 _ _) (Eq.trans (stepCond (c := C101_39) (by kernel_rfl) (K101_16 m0) _ _ (v := t50) (by kernel_rfl)) (bcase_congr t50 (Eq.trans (q101_31 m0 _ _) (Eq.trans (stepClean (c := C101_42) (id := 12) (by kernel_rfl) (K101_18 m0) _ _ (by kernel_rfl)) (b101_12 m0 ih0 t0 t1 t2 t3 t8 t9 t10 t11 h))) (Eq.trans (stepSkip (by kernel_rfl) (K101_16 m0) _ _) (Eq.trans (n101_32 m0 _ _) (Eq.trans (q101_33 m0 _ _) (Eq.trans (q101_34 m0 _ _) (Eq.trans (stepClean (c := C101_46) (id := 15) (by kernel_rfl) (K101_20 m0) _ _ (by kernel_rfl)) (b101_15 m0 ih0 t0 t1 t2 t3 t8 t9 t10 t11 t12 h)))))))))))
theorem b101_10 (m0 : Nat) (ih0 : ∀ (t0 t1 t2 t3 t8 t9 : AV) (h : Heap), evLoop (cleanO L101 (headId C101_6)) (E101 C101_6) K101_2 m0 (frOf 134 [(0,t0),(1,t1),(2,t2),(3,t3),(8,t8),(9,t9)]) h = G101_l0  m0 t0 t1 t2 t3 t8 t9 h) (t0 t1 t2 t3 t8 t9 t10 : AV) (h : Heap) : E101 C101_34 (K101_15 m0) (frOf 134 [(0,t0),(1,t1),(2,t2),(3,t3),(8,t8),(9,t9),(10,t10)]) h = G101_10 (G101_l0  m0) t0 t1 t2 t3 t8 t9 t10 h :=
  (r101_10 (K101_15 m0) t0 t1 t2 t3 t8 t9 t10 h).trans (congrArg (R101_10 t0 t1 t2 t3 t8 t9 t10 h) (funext fun t0 => funext fun t1 => funext fun t2 => funext fun t3 => funext fun t8 => funext fun t9 => funext fun t10 => funext fun t11 => funext fun t12 => funext fun h => (Eq.trans (n101_27 m0 _ _) (Eq.trans (q101_28 m0 _ _) (Eq.trans (q101_29 m0 _ _) (b101_11 m0 ih0 t0 t1 t2 t3 t8 t9 t10 t11 t12 h))))))
theorem b101_9 (m0 : Nat) (ih0 : ∀ (t0 t1 t2 t3 t8 t9 : AV) (h : Heap), evLoop (cleanO L101 (headId C101_6)) (E101 C101_6) K101_2 m0 (frOf 134 [(0,t0),(1,t1),(2,t2),(3,t3),(8,t8),(9,t9)]) h = G101_l0  m0 t0 t1 t2 t3 t8 t9 h) (t0 t1 t2 t3 t8 t9 t10 : AV) (h : Heap) : E101 C101_33 (K101_12 m0) (frOf 134 [(0,t0),(1,t1),(2,t2),(3,t3),(8,t8),(9,t9),(10,t10)]) h = G101_9 (G101_l0  m0) t0 t1 t2 t3 t8 t9 t10 h :=
  (r101_9 (K101_12 m0) t0 t1 t2 t3 t8 t9 t10 h).trans (congrArg (R101_9 t0 t1 t2 t3 t8 t9 t10 h) (funext fun t0 => funext fun t1 => funext fun t2 => funext fun t3 => funext fun t8 => funext fun t9 => funext fun t10 => funext fun h => (Eq.trans (n101_24 m0 _ _) (Eq.trans (q101_25 m0 _ _) (b101_10 m0 ih0 t0 t1 t2 t3 t8 t9 t10 h)))))
theorem b101_8 (m0 : Nat) (ih0 : ∀ (t0 t1 t2 t3 t8 t9 : AV) (h : Heap), evLoop (cleanO L101 (headId C101_6)) (E101 C101_6) K101_2 m0 (frOf 134 [(0,t0),(1,t1),(2,t2),(3,t3),(8,t8),(9,t9)]) h = G101_l0  m0 t0 t1 t2 t3 t8 t9 h) (t0 t1 t2 t3 t8 t9 t10 : AV) (h : Heap) : E101 C101_32 (K101_14 m0) (frOf 134 [(0,t0),(1,t1),(2,t2),(3,t3),(8,t8),(9,t9),(10,t10)]) h = G101_8 (G101_l0  m0) t0 t1 t2 t3 t8 t9 t10 h :=
  (r101_8 (K101_14 m0) t0 t1 t2 t3 t8 t9 t10 h).trans (congrArg (R101_8 t0 t1 t2 t3 t8 t9 t10 h) (funext fun t0 => funext fun t1 => funext fun t2 => funext fun t3 => funext fun t8 => funext fun t9 => funext fun t10 => funext fun h => (Eq.trans (n101_26 m0 _ _) (b101_9 m0 ih0 t0 t1 t2 t3 t8 t9 t10 h))))
theorem b101_7 (m0 : Nat) (ih0 : ∀ (t0 t1 t2 t3 t8 t9 : AV) (h : Heap), evLoop (cleanO L101 (headId C101_6)) (E101 C101_6) K101_2 m0 (frOf 134 [(0,t0),(1,t1),(2,t2),(3,t3),(8,t8),(9,t9)]) h = G101_l0  m0 t0 t1 t2 t3 t8 t9 h) (t0 t1 t2 t3 t8 t9 t10 : AV) (h : Heap) : E101 C101_28 (K101_13 m0) (frOf 134 [(0,t0),(1,t1),(2,t2),(3,t3),(8,t8),(9,t9),(10,t10)]) h = G101_7 (G101_l0  m0) t0 t1 t2 t3 t8 t9 t10 h :=
  (r101_7 (K101_13 m0) t0 t1 t2 t3 t8 t9 t10 h).trans (congrArg (R101_7 t0 t1 t2 t3 t8 t9 t10 h) (funext fun t0 => funext fun t1 => funext fun t2 => funext fun t3 => funext fun t8 => funext fun t9 => funext fun t10 => funext fun t35 => funext fun h => (Eq.trans (n101_22 m0 _ _) (Eq.trans (stepCond (c := C101_29) (by kernel_rfl) (K101_12 m0) _ _ (v := t35) (by kernel_rfl)) (bcase_congr t35 (Eq.trans (q101_23 m0 _ _) (Eq.trans (stepClean (c := C101_32) (id := 8) (by kernel_rfl) (K101_14 m0) _ _ (by kernel_rfl)) (b101_8 m0 ih0 t0 t1 t2 t3 t8 t9 t10 h))) (Eq.trans (stepSkip (by kernel_rfl) (K101_12 m0) _ _) (Eq.trans (n101_24 m0 _ _) (Eq.trans (q101_25 m0 _ _) (Eq.trans (stepClean (c := C101_34) (id := 10) (by kernel_rfl) (K101_15 m0) _ _ (by kernel_rfl)) (b101_10 m0 ih0 t0 t1 t2 t3 t8 t9 t10 h))))))))))
theorem b101_5 (m0 : Nat) (ih0 : ∀ (t0 t1 t2 t3 t8 t9 : AV) (h : Heap), evLoop (cleanO L101 (headId C101_6)) (E101 C101_6) K101_2 m0 (frOf 134 [(0,t0),(1,t1),(2,t2),(3,t3),(8,t8),(9,t9)]) h = G101_l0  m0 t0 t1 t2 t3 t8 t9 h) (t0 t1 t2 t3 t8 t9 t10 : AV) (h : Heap) : E101 C101_20 (K101_10 m0) (frOf 134 [(0,t0),(1,t1),(2,t2),(3,t3),(8,t8),(9,t9),(10,t10)]) h = G101_5 (G101_l0  m0) t0 t1 t2 t3 t8 t9 t10 h :=
  (r101_5 (K101_10 m0) t0 t1 t2 t3 t8 t9 t10 h).trans (congrArg (R101_5 t0 t1 t2 t3 t8 t9 t10 h) (funext fun t0 => funext fun t1 => funext fun t2 => funext fun t3 => funext fun t8 => funext fun t9 => funext fun t10 => funext fun t29 => funext fun h => (Eq.trans (n101_16 m0 _ _) (Eq.trans (stepCond (c := C101_21) (by kernel_rfl) (K101_9 m0) _ _ (v := t29) (by kernel_rfl)) (bcase_congr t29 (Eq.trans (q101_17 m0 _ _) (Eq.trans (stepClean (c := C101_24) (id := 6) (by kernel_rfl) (K101_11 m0) _ _ (by kernel_rfl)) (b101_6 m0 ih0 t0 t1 t2 h))) (Eq.trans (stepSkip (by kernel_rfl) (K101_9 m0) _ _) (Eq.trans (n101_18 m0 _ _) (Eq.trans (q101_19 m0 _ _) (Eq.trans (q101_20 m0 _ _) (Eq.trans (stepClean (c := C101_28) (id := 7) (by kernel_rfl) (K101_13 m0) _ _ (by kernel_rfl)) (b101_7 m0 ih0 t0 t1 t2 t3 t8 t9 t10 h)))))))))))
theorem b101_3 (m0 : Nat) (ih0 : ∀ (t0 t1 t2 t3 t8 t9 : AV) (h : Heap), evLoop (cleanO L101 (headId C101_6)) (E101 C101_6) K101_2 m0 (frOf 134 [(0,t0),(1,t1),(2,t2),(3,t3),(8,t8),(9,t9)]) h = G101_l0  m0 t0 t1 t2 t3 t8 t9 h) (t0 t1 t2 t3 t8 t9 t10 : AV) (h : Heap) : E101 C101_12 (K101_7 m0) (frOf 134 [(0,t0),(1,t1),(2,t2),(3,t3),(8,t8),(9,t9),(10,t10)]) h = G101_3 (G101_l0  m0) t0 t1 t2 t3 t8 t9 t10 h :=
  (r101_3 (K101_7 m0) t0 t1 t2 t3 t8 t9 t10 h).trans (congrArg (R101_3 t0 t1 t2 t3 t8 t9 t10 h) (funext fun t0 => funext fun t1 => funext fun t2 => funext fun t3 => funext fun t8 => funext fun t9 => funext fun t10 => funext fun t23 => funext fun h => (Eq.trans (n101_10 m0 _ _) (Eq.trans (stepCond (c := C101_13) (by kernel_rfl) (K101_6 m0) _ _ (v := t23) (by kernel_rfl)) (bcase_congr t23 (Eq.trans (q101_11 m0 _ _) (Eq.trans (stepClean (c := C101_16) (id := 4) (by kernel_rfl) (K101_8 m0) _ _ (by kernel_rfl)) (b101_4 m0 ih0 t0 t1 t2 h))) (Eq.trans (stepSkip (by kernel_rfl) (K101_6 m0) _ _) (Eq.trans (n101_12 m0 _ _) (Eq.trans (q101_13 m0 _ _) (Eq.trans (q101_14 m0 _ _) (Eq.trans (stepClean (c := C101_20) (id := 5) (by kernel_rfl) (K101_10 m0) _ _ (by kernel_rfl)) (b101_5 m0 ih0 t0 t1 t2 t3 t8 t9 t10 h)))))))))))
theorem b101_2 (m0 : Nat) (ih0 : ∀ (t0 t1 t2 t3 t8 t9 : AV) (h : Heap), evLoop (cleanO L101 (headId C101_6)) (E101 C101_6) K101_2 m0 (frOf 134 [(0,t0),(1,t1),(2,t2),(3,t3),(8,t8),(9,t9)]) h = G101_l0  m0 t0 t1 t2 t3 t8 t9 h) (t0 t1 t2 t3 t8 t9 : AV) (h : Heap) : E101 C101_8 (K101_5 m0) (frOf 134 [(0,t0),(1,t1),(2,t2),(3,t3),(8,t8),(9,t9)]) h = G101_2 (G101_l0  m0) t0 t1 t2 t3 t8 t9 h :=
  (r101_2 (K101_5 m0) t0 t1 t2 t3 t8 t9 h).trans (congrArg (R101_2 t0 t1 t2 t3 t8 t9 h) (funext fun t0 => funext fun t1 => funext fun t2 => funext fun t3 => funext fun t8 => funext fun t9 => funext fun t10 => funext fun h => (Eq.trans (n101_7 m0 _ _) (Eq.trans (q101_8 m0 _ _) (Eq.trans (q101_9 m0 _ _) (b101_3 m0 ih0 t0 t1 t2 t3 t8 t9 t10 h))))))
theorem b101_l0 : ∀ (m0 : Nat) (t0 t1 t2 t3 t8 t9 : AV) (h : Heap), evLoop (cleanO L101 (headId C101_6)) (E101 C101_6) K101_2 m0 (frOf 134 [(0,t0),(1,t1),(2,t2),(3,t3),(8,t8),(9,t9)]) h = G101_l0 m0 t0 t1 t2 t3 t8 t9 h := by
  intro m0
  induction m0 with
  | zero => intros; rfl
  | succ m0 ih0 => intro t0 t1 t2 t3 t8 t9 h; exact Eq.trans (evLoop_succ _ _ _ _ _ _) (Eq.trans (q101_5 m0 _ _) (Eq.trans (q101_6 m0 _ _) (b101_2 m0 ih0 t0 t1 t2 t3 t8 t9 h)))
theorem b101_1 (t0 t1 t2 t3 t8 : AV) (h : Heap) : E101 C101_3 K101_1 (frOf 134 [(0,t0),(1,t1),(2,t2),(3,t3),(8,t8)]) h = G101_1 t0 t1 t2 t3 t8 h :=
  (r101_1 K101_1 t0 t1 t2 t3 t8 h).trans (congrArg (R101_1 t0 t1 t2 t3 t8 h) (funext fun t0 => funext fun t1 => funext fun t2 => funext fun t3 => funext fun t8 => funext fun t9 => funext fun h => (Eq.trans (n101_3 _ _) (Eq.trans (q101_4 _ _) (Eq.trans (stepLoop (by kernel_rfl) K101_2 _ _ (by kernel_rfl)) (b101_l0 fuel t0 t1 t2 t3 t8 t9 h))))))
theorem b101_0 (t0 t1 t2 t3 : AV) (h : Heap) : E101 C101_1 K101_0 (frOf 134 [(0,t0),(1,t1),(2,t2),(3,t3)]) h = G101_0 t0 t1 t2 t3 h :=
  (r101_0 K101_0 t0 t1 t2 t3 h).trans (congrArg (R101_0 t0 t1 t2 t3 h) (funext fun t0 => funext fun t1 => funext fun t2 => funext fun t3 => funext fun t8 => funext fun h => (Eq.trans (n101_1 _ _) (Eq.trans (q101_2 _ _) (b101_1 t0 t1 t2 t3 t8 h)))))
theorem entry101 (t0 t1 t2 t3 : AV) (h : Heap) : evFunc T PH101 L101 Try.f101 fuel [t0, t1, t2, t3] h = E101 C101_0 (kFin T Try.f101.results.toList) (frOf 134 [(0,t0),(1,t1),(2,t2),(3,t3)]) h := by kernel_rfl
theorem e101 (t0 t1 t2 t3 : AV) (h : Heap) : evFunc T PH101 L101 Try.f101 fuel [t0, t1, t2, t3] h = G101 [t0, t1, t2, t3] h := Eq.trans (entry101 t0 t1 t2 t3 h) (Eq.trans (q101_0 _ _) (b101_0 t0 t1 t2 t3 h))
set_option maxRecDepth 100000 in
theorem s101 : Sound Try.prog 101 G101 := (soundOf tok 101 Try.f101 rfl rfl (Φ := PH101) (allCons (stubOk 101 Try.f101 rfl rfl) (allCons s110 (allCons (stubOk 111 Try.f111 rfl rfl) (allCons (stubOk 112 Try.f112 rfl rfl) (allCons (stubOk 113 Try.f113 rfl rfl) (allCons (stubOk 114 Try.f114 rfl rfl) (allCons (stubOk 115 Try.f115 rfl rfl) (allCons s116 (allCons (stubOk 117 Try.f117 rfl rfl) (allCons (stubOk 118 Try.f118 rfl rfl) allNil)))))))))) L101 fuel).le fun args h r hr => by
  unfold G101 at hr; split at hr
  · exact (e101 _ _ _ _ h).trans (by unfold G101; exact hr)
  · cases hr
/- 119: math/bits.Len32 -/
def L119 : PM (List Nat) := .node (.node (.node (.node (.node (.leaf) (some [2]) (.leaf)) (some [0, 2]) (.leaf)) (some [0, 2, 4]) (.node (.leaf) (some [0, 2]) (.leaf))) (some [0, 2]) (.node (.node (.leaf) (some [0, 2, 8]) (.leaf)) (some [0]) (.node (.leaf) (some [0, 2]) (.leaf)))) (some [0]) (.node (.node (.node (.leaf) (some [0, 2]) (.leaf)) (some [0]) (.node (.leaf) (some [0, 2]) (.leaf))) (some [0, 2]) (.node (.node (.leaf) (some [0, 2]) (.leaf)) (some [0]) (.node (.leaf) (some [0, 2]) (.leaf))))
noncomputable def PH119 : List (Nat × AFn) := []
noncomputable def E119 : Code → Kont → Fr → Heap → Rs := ev T PH119 L119 fuel
noncomputable def C119_0 : Code := bodyOf Try.f119
noncomputable def C119_1 : Code := cl C119_0
noncomputable def C119_2 : Code := cr C119_0
noncomputable def K119_0 : Kont := kSeq (E119 C119_2 (kFin T Try.f119.results.toList)) (kFin T Try.f119.results.toList)
noncomputable def R119_0 (t0 : AV) (h : Heap) (k : AV → AV → Heap → Rs) : Rs :=
  k t0 (AV.int .i64 0) h
noncomputable def C119_3 : Code := cl C119_2
noncomputable def C119_4 : Code := cr C119_2
noncomputable def K119_1 : Kont := kSeq (E119 C119_4 (kFin T Try.f119.results.toList)) (kFin T Try.f119.results.toList)
noncomputable def C119_5 : Code := cl C119_3
noncomputable def C119_6 : Code := cr C119_3
noncomputable def K119_2 : Kont := kSeq (E119 C119_6 K119_1) K119_1
noncomputable def R119_1 (t0 t2 : AV) (h : Heap) (k : AV → AV → AV → Heap → Rs) : Rs :=
  pureK (binOpA T .geq 155 t0 (AV.int .u32 65536)) h fun v1 h1 =>
  k t0 t2 v1 h1
noncomputable def C119_7 : Code := cl C119_6
noncomputable def C119_8 : Code := cr C119_6
noncomputable def C119_9 : Code := cl C119_7
noncomputable def C119_10 : Code := cr C119_7
noncomputable def K119_3 : Kont := kSeq (E119 C119_10 K119_1) K119_1
noncomputable def C119_11 : Code := cl C119_4
noncomputable def C119_12 : Code := cr C119_4
noncomputable def K119_4 : Kont := kSeq (E119 C119_12 (kFin T Try.f119.results.toList)) (kFin T Try.f119.results.toList)
noncomputable def C119_13 : Code := cl C119_11
noncomputable def C119_14 : Code := cr C119_11
noncomputable def K119_5 : Kont := kSeq (E119 C119_14 K119_4) K119_4
noncomputable def R119_2 (t0 : AV) (h : Heap) (k : AV → Heap → Rs) : Rs :=
  pureK (binOpA T .shr 155 t0 (AV.int .u64 16)) h fun v1 h1 =>
  k v1 h1
noncomputable def R119_3 (t0 : AV) (h : Heap) (k : AV → AV → Heap → Rs) : Rs :=
  k t0 (AV.int .i64 16) h
noncomputable def R119_4 (t0 t2 : AV) (h : Heap) (k : AV → AV → AV → Heap → Rs) : Rs :=
  pureK (binOpA T .geq 155 t0 (AV.int .u32 256)) h fun v1 h1 =>
  k t0 t2 v1 h1
noncomputable def C119_15 : Code := cl C119_14
noncomputable def C119_16 : Code := cr C119_14
noncomputable def C119_17 : Code := cl C119_15
noncomputable def C119_18 : Code := cr C119_15
noncomputable def K119_6 : Kont := kSeq (E119 C119_18 K119_4) K119_4
noncomputable def C119_19 : Code := cl C119_12
noncomputable def C119_20 : Code := cr C119_12
noncomputable def K119_7 : Kont := kSeq (E119 C119_20 (kFin T Try.f119.results.toList)) (kFin T Try.f119.results.toList)
noncomputable def R119_5 (t0 t2 : AV) (h : Heap) (k : AV → AV → Heap → Rs) : Rs :=
  pureK (binOpA T .shr 155 t0 (AV.int .u64 8)) h fun v1 h1 =>
  k v1 t2 h1
noncomputable def R119_6 (t0 t2 : AV) (h : Heap) (k : AV → AV → Heap → Rs) : Rs :=
  pureK (binOpA T .add 3 t2 (AV.int .i64 8)) h fun v1 h1 =>
  k t0 v1 h1
noncomputable def R119_7 (t0 t2 : AV) (h : Heap) (k : AV → Heap → Rs) : Rs :=
  pureK (cvtI .u8 t0) h fun v2 h2 =>
  pureK (idxS (AV.str [0, 1, 2, 2, 3, 3, 3, 3, 4, 4, 4, 4, 4, 4, 4, 4, 5, 5, 5, 5, 5, 5, 5, 5, 5, 5, 5, 5, 5, 5, 5, 5, 6, 6, 6, 6, 6, 6, 6, 6, 6, 6, 6, 6, 6, 6, 6, 6, 6, 6, 6, 6, 6, 6, 6, 6, 6, 6, 6, 6, 6, 6, 6, 6, 7, 7, 7, 7, 7, 7, 7, 7, 7, 7, 7, 7, 7, 7, 7, 7, 7, 7, 7, 7, 7, 7, 7, 7, 7, 7, 7, 7, 7, 7, 7, 7, 7, 7, 7, 7, 7, 7, 7, 7, 7, 7, 7, 7, 7, 7, 7, 7, 7, 7, 7, 7, 7, 7, 7, 7, 7, 7, 7, 7, 7, 7, 7, 7, 8, 8, 8, 8, 8, 8, 8, 8, 8, 8, 8, 8, 8, 8, 8, 8, 8, 8, 8, 8, 8, 8, 8, 8, 8, 8, 8, 8, 8, 8, 8, 8, 8, 8, 8, 8, 8, 8, 8, 8, 8, 8, 8, 8, 8, 8, 8, 8, 8, 8, 8, 8, 8, 8, 8, 8, 8, 8, 8, 8, 8, 8, 8, 8, 8, 8, 8, 8, 8, 8, 8, 8, 8, 8, 8, 8, 8, 8, 8, 8, 8, 8, 8, 8, 8, 8, 8, 8, 8, 8, 8, 8, 8, 8, 8, 8, 8, 8, 8, 8, 8, 8, 8, 8, 8, 8, 8, 8, 8, 8, 8, 8, 8, 8, 8, 8, 8, 8, 8, 8, 8, 8, 8, 8, 8, 8, 8, 8]) v2) h2 fun v3 h3 =>
  pureK (cvtI .i64 v3) h3 fun v4 h4 =>
  pureK (binOpA T .add 3 t2 v4) h4 fun v5 h5 =>
  k v5 h5
noncomputable def G119_7 (t0 t2 : AV) (h : Heap) : Rs := R119_7 t0 t2 h fun t2 h => some (t2, h)
noncomputable def G119_6 (t0 t2 : AV) (h : Heap) : Rs := R119_6 t0 t2 h fun t0 t2 h => G119_7 t0 t2 h
noncomputable def G119_5 (t0 t2 : AV) (h : Heap) : Rs := R119_5 t0 t2 h fun t0 t2 h => G119_6 t0 t2 h
noncomputable def G119_4 (t0 t2 : AV) (h : Heap) : Rs := R119_4 t0 t2 h fun t0 t2 t8 h => bcase t8 (G119_5 t0 t2 h) (G119_7 t0 t2 h)
noncomputable def G119_3 (t0 : AV) (h : Heap) : Rs := R119_3 t0 h fun t0 t2 h => G119_4 t0 t2 h
noncomputable def G119_2 (t0 : AV) (h : Heap) : Rs := R119_2 t0 h fun t0 h => G119_3 t0 h
noncomputable def G119_1 (t0 t2 : AV) (h : Heap) : Rs := R119_1 t0 t2 h fun t0 t2 t4 h => bcase t4 (G119_2 t0 h) (G119_4 t0 t2 h)
noncomputable def G119_0 (t0 : AV) (h : Heap) : Rs := R119_0 t0 h fun t0 t2 h => G119_1 t0 t2 h
noncomputable def G119 : AFn
  | [t0], h => G119_0 t0 h
  | _, _ => none
theorem q119_0 (fr : Fr) (h : Heap) : E119 C119_0 (kFin T Try.f119.results.toList) fr h = E119 C119_1 K119_0 fr h := stepSeq (by kernel_rfl) _ _ _
theorem r119_0 (K : Kont) (t0 : AV) (h : Heap) : E119 C119_1 K (frOf 19 [(0,t0)]) h = R119_0 t0 h (fun t0 t2 h => K .normal (frOf 19 [(0,t0),(2,t2)]) h) := by kernel_rfl
theorem n119_1 (fr : Fr) (h : Heap) : K119_0 .normal fr h = E119 C119_2 (kFin T Try.f119.results.toList) fr h := kSeq_n _ _ _ _
theorem q119_2 (fr : Fr) (h : Heap) : E119 C119_2 (kFin T Try.f119.results.toList) fr h = E119 C119_3 K119_1 fr h := stepSeq (by kernel_rfl) _ _ _
theorem q119_3 (fr : Fr) (h : Heap) : E119 C119_3 K119_1 fr h = E119 C119_5 K119_2 fr h := stepSeq (by kernel_rfl) _ _ _
theorem r119_1 (K : Kont) (t0 t2 : AV) (h : Heap) : E119 C119_5 K (frOf 19 [(0,t0),(2,t2)]) h = R119_1 t0 t2 h (fun t0 t2 t4 h => K .normal (frOf 19 [(0,t0),(2,t2),(4,t4)]) h) := by kernel_rfl
theorem n119_4 (fr : Fr) (h : Heap) : K119_2 .normal fr h = E119 C119_6 K119_1 fr h := kSeq_n _ _ _ _
theorem q119_5 (fr : Fr) (h : Heap) : E119 C119_7 K119_1 fr h = E119 C119_9 K119_3 fr h := stepSeq (by kernel_rfl) _ _ _
theorem n119_6 (fr : Fr) (h : Heap) : K119_1 .normal fr h = E119 C119_4 (kFin T Try.f119.results.toList) fr h := kSeq_n _ _ _ _
theorem q119_7 (fr : Fr) (h : Heap) : E119 C119_4 (kFin T Try.f119.results.toList) fr h = E119 C119_11 K119_4 fr h := stepSeq (by kernel_rfl) _ _ _
theorem q119_8 (fr : Fr) (h : Heap) : E119 C119_11 K119_4 fr h = E119 C119_13 K119_5 fr h := stepSeq (by kernel_rfl) _ _ _
theorem r119_2 (K : Kont) (t0 : AV) (h : Heap) : E119 C119_9 K (frOf 19 [(0,t0)]) h = R119_2 t0 h (fun t0 h => K .normal (frOf 19 [(0,t0)]) h) := by kernel_rfl
theorem n119_9 (fr : Fr) (h : Heap) : K119_3 .normal fr h = E119 C119_10 K119_1 fr h := kSeq_n _ _ _ _
theorem r119_3 (K : Kont) (t0 : AV) (h : Heap) : E119 C119_10 K (frOf 19 [(0,t0)]) h = R119_3 t0 h (fun t0 t2 h => K .normal (frOf 19 [(0,t0),(2,t2)]) h) := by kernel_rfl
theorem r119_4 (K : Kont) (t0 t2 : AV) (h : Heap) : E119 C119_13 K (frOf 19 [(0,t0),(2,t2)]) h = R119_4 t0 t2 h (fun t0 t2 t8 h => K .normal (frOf 19 [(0,t0),(2,t2),(8,t8)]) h) := by kernel_rfl
theorem n119_10 (fr : Fr) (h : Heap) : K119_5 .normal fr h = E119 C119_14 K119_4 fr h := kSeq_n _ _ _ _
theorem q119_11 (fr : Fr) (h : Heap) : E119 C119_15 K119_4 fr h = E119 C119_17 K119_6 fr h := stepSeq (by kernel_rfl) _ _ _
theorem n119_12 (fr : Fr) (h : Heap) : K119_4 .normal fr h = E119 C119_12 (kFin T Try.f119.results.toList) fr h := kSeq_n _ _ _ _
theorem q119_13 (fr : Fr) (h : Heap) : E119 C119_12 (kFin T Try.f119.results.toList) fr h = E119 C119_19 K119_7 fr h := stepSeq (by kernel_rfl) _ _ _
theorem r119_5 (K : Kont) (t0 t2 : AV) (h : Heap) : E119 C119_17 K (frOf 19 [(0,t0),(2,t2)]) h = R119_5 t0 t2 h (fun t0 t2 h => K .normal (frOf 19 [(0,t0),(2,t2)]) h) := by kernel_rfl
theorem n119_14 (fr : Fr) (h : Heap) : K119_6 .normal fr h = E119 C119_18 K119_4 fr h := kSeq_n _ _ _ _
theorem r119_6 (K : Kont) (t0 t2 : AV) (h : Heap) : E119 C119_18 K (frOf 19 [(0,t0),(2,t2)]) h = R119_6 t0 t2 h (fun t0 t2 h => K .normal (frOf 19 [(0,t0),(2,t2)]) h) := by kernel_rfl
theorem r119_7 (K : Kont) (t0 t2 : AV) (h : Heap) : E119 C119_19 K (frOf 19 [(0,t0),(2,t2)]) h = R119_7 t0 t2 h (fun t2 h => K .normal (frOf 19 [(2,t2)]) h) := by kernel_rfl
theorem n119_15 (fr : Fr) (h : Heap) : K119_7 .normal fr h = E119 C119_20 (kFin T Try.f119.results.toList) fr h := kSeq_n _ _ _ _
theorem b119_7 (t0 t2 : AV) (h : Heap) : E119 C119_19 K119_7 (frOf 19 [(0,t0),(2,t2)]) h = G119_7 t0 t2 h :=
  (r119_7 K119_7 t0 t2 h).trans (congrArg (R119_7 t0 t2 h) (funext fun t2 => funext fun h => (Eq.trans (n119_15 _ _) (Eq.trans (stepRet (by kernel_rfl) (kFin T Try.f119.results.toList) _ _) (by kernel_rfl)))))
theorem b119_6 (t0 t2 : AV) (h : Heap) : E119 C119_18 K119_4 (frOf 19 [(0,t0),(2,t2)]) h = G119_6 t0 t2 h :=
  (r119_6 K119_4 t0 t2 h).trans (congrArg (R119_6 t0 t2 h) (funext fun t0 => funext fun t2 => funext fun h => (Eq.trans (n119_12 _ _) (Eq.trans (q119_13 _ _) (b119_7 t0 t2 h)))))
theorem b119_5 (t0 t2 : AV) (h : Heap) : E119 C119_17 K119_6 (frOf 19 [(0,t0),(2,t2)]) h = G119_5 t0 t2 h :=
  (r119_5 K119_6 t0 t2 h).trans (congrArg (R119_5 t0 t2 h) (funext fun t0 => funext fun t2 => funext fun h => (Eq.trans (n119_14 _ _) (b119_6 t0 t2 h))))
theorem b119_4 (t0 t2 : AV) (h : Heap) : E119 C119_13 K119_5 (frOf 19 [(0,t0),(2,t2)]) h = G119_4 t0 t2 h :=
  (r119_4 K119_5 t0 t2 h).trans (congrArg (R119_4 t0 t2 h) (funext fun t0 => funext fun t2 => funext fun t8 => funext fun h => (Eq.trans (n119_10 _ _) (Eq.trans (stepCond (c := C119_14) (by kernel_rfl) K119_4 _ _ (v := t8) (by kernel_rfl)) (bcase_congr t8 (Eq.trans (q119_11 _ _) (Eq.trans (stepClean (c := C119_17) (id := 5) (by kernel_rfl) K119_6 _ _ (by kernel_rfl)) (b119_5 t0 t2 h))) (Eq.trans (stepSkip (by kernel_rfl) K119_4 _ _) (Eq.trans (n119_12 _ _) (Eq.trans (q119_13 _ _) (Eq.trans (stepClean (c := C119_19) (id := 7) (by kernel_rfl) K119_7 _ _ (by kernel_rfl)) (b119_7 t0 t2 h))))))))))
theorem b119_3 (t0 : AV) (h : Heap) : E119 C119_10 K119_1 (frOf 19 [(0,t0)]) h = G119_3 t0 h :=
  (r119_3 K119_1 t0 h).trans (congrArg (R119_3 t0 h) (funext fun t0 => funext fun t2 => funext fun h => (Eq.trans (n119_6 _ _) (Eq.trans (q119_7 _ _) (Eq.trans (q119_8 _ _) (b119_4 t0 t2 h))))))
theorem b119_2 (t0 : AV) (h : Heap) : E119 C119_9 K119_3 (frOf 19 [(0,t0)]) h = G119_2 t0 h :=
  (r119_2 K119_3 t0 h).trans (congrArg (R119_2 t0 h) (funext fun t0 => funext fun h => (Eq.trans (n119_9 _ _) (b119_3 t0 h))))
theorem b119_1 (t0 t2 : AV) (h : Heap) : E119 C119_5 K119_2 (frOf 19 [(0,t0),(2,t2)]) h = G119_1 t0 t2 h :=
  (r119_1 K119_2 t0 t2 h).trans (congrArg (R119_1 t0 t2 h) (funext fun t0 => funext fun t2 => funext fun t4 => funext fun h => (Eq.trans (n119_4 _ _) (Eq.trans (stepCond (c := C119_6) (by kernel_rfl) K119_1 _ _ (v := t4) (by kernel_rfl)) (bcase_congr t4 (Eq.trans (q119_5 _ _) (Eq.trans (stepClean (c := C119_9) (id := 2) (by kernel_rfl) K119_3 _ _ (by kernel_rfl)) (b119_2 t0 h))) (Eq.trans (stepSkip (by kernel_rfl) K119_1 _ _) (Eq.trans (n119_6 _ _) (Eq.trans (q119_7 _ _) (Eq.trans (q119_8 _ _) (Eq.trans (stepClean (c := C119_13) (id := 4) (by kernel_rfl) K119_5 _ _ (by kernel_rfl)) (b119_4 t0 t2 h)))))))))))
theorem b119_0 (t0 : AV) (h : Heap) : E119 C119_1 K119_0 (frOf 19 [(0,t0)]) h = G119_0 t0 h :=
  (r119_0 K119_0 t0 h).trans (congrArg (R119_0 t0 h) (funext fun t0 => funext fun t2 => funext fun h => (Eq.trans (n119_1 _ _) (Eq.trans (q119_2 _ _) (Eq.trans (q119_3 _ _) (b119_1 t0 t2 h))))))
theorem entry119 (t0 : AV) (h : Heap) : evFunc T PH119 L119 Try.f119 fuel [t0] h = E119 C119_0 (kFin T Try.f119.results.toList) (frOf 19 [(0,t0)]) h := by kernel_rfl
theorem e119 (t0 : AV) (h : Heap) : evFunc T PH119 L119 Try.f119 fuel [t0] h = G119 [t0] h := Eq.trans (entry119 t0 h) (Eq.trans (q119_0 _ _) (b119_0 t0 h))
set_option maxRecDepth 100000 in
theorem s119 : Sound Try.prog 119 G119 := (soundOf tok 119 Try.f119 rfl rfl (Φ := PH119) allNil L119 fuel).le fun args h r hr => by
  unfold G119 at hr; split at hr
  · exact (e119 _ h).trans (by unfold G119; exact hr)
  · cases hr
/- 120: math/bits.Len64 -/
def L120 : PM (List Nat) := .node (.node (.node (.node (.node (.leaf) (some [0, 2, 14]) (.leaf)) (some [0, 2]) (.leaf)) (some [0, 2, 4]) (.node (.node (.leaf) (some [0, 2]) (.leaf)) (some [0, 2]) (.leaf))) (some [0, 2]) (.node (.node (.node (.leaf) (some [0, 2]) (.leaf)) (some [0, 2, 8]) (.leaf)) (some [0]) (.node (.node (.leaf) (some [2]) (.leaf)) (some [0, 2]) (.leaf)))) (some [0]) (.node (.node (.node (.node (.leaf) (some [0, 2]) (.leaf)) (some [0, 2]) (.leaf)) (some [0]) (.node (.node (.leaf) (some [0, 2]) (.leaf)) (some [0, 2]) (.leaf))) (some [0, 2]) (.node (.node (.node (.leaf) (some [0, 2]) (.leaf)) (some [0, 2]) (.leaf)) (some [0]) (.node (.leaf) (some [0, 2]) (.leaf))))
noncomputable def PH120 : List (Nat × AFn) := []
noncomputable def E120 : Code → Kont → Fr → Heap → Rs := ev T PH120 L120 fuel
noncomputable def C120_0 : Code := bodyOf Try.f120
noncomputable def C120_1 : Code := cl C120_0
noncomputable def C120_2 : Code := cr C120_0
noncomputable def K120_0 : Kont := kSeq (E120 C120_2 (kFin T Try.f120.results.toList)) (kFin T Try.f120.results.toList)
noncomputable def R120_0 (t0 : AV) (h : Heap) (k : AV → AV → Heap → Rs) : Rs :=
  k t0 (AV.int .i64 0) h
noncomputable def C120_3 : Code := cl C120_2
noncomputable def C120_4 : Code := cr C120_2
noncomputable def K120_1 : Kont := kSeq (E120 C120_4 (kFin T Try.f120.results.toList)) (kFin T Try.f120.results.toList)
noncomputable def C120_5 : Code := cl C120_3
noncomputable def C120_6 : Code := cr C120_3
noncomputable def K120_2 : Kont := kSeq (E120 C120_6 K120_1) K120_1
noncomputable def R120_1 (t0 t2 : AV) (h : Heap) (k : AV → AV → AV → Heap → Rs) : Rs :=
  pureK (binOpA T .geq 153 t0 (AV.int .u64 4294967296)) h fun v1 h1 =>
  k t0 t2 v1 h1
noncomputable def C120_7 : Code := cl C120_6
noncomputable def C120_8 : Code := cr C120_6
noncomputable def C120_9 : Code := cl C120_7
noncomputable def C120_10 : Code := cr C120_7
noncomputable def K120_3 : Kont := kSeq (E120 C120_10 K120_1) K120_1
noncomputable def C120_11 : Code := cl C120_4
noncomputable def C120_12 : Code := cr C120_4
noncomputable def K120_4 : Kont := kSeq (E120 C120_12 (kFin T Try.f120.results.toList)) (kFin T Try.f120.results.toList)
noncomputable def C120_13 : Code := cl C120_11
noncomputable def C120_14 : Code := cr C120_11
noncomputable def K120_5 : Kont := kSeq (E120 C120_14 K120_4) K120_4
noncomputable def R120_2 (t0 : AV) (h : Heap) (k : AV → Heap → Rs) : Rs :=
  pureK (binOpA T .shr 153 t0 (AV.int .u64 32)) h fun v1 h1 =>
  k v1 h1
noncomputable def R120_3 (t0 : AV) (h : Heap) (k : AV → AV → Heap → Rs) : Rs :=
  k t0 (AV.int .i64 32) h
noncomputable def R120_4 (t0 t2 : AV) (h : Heap) (k : AV → AV → AV → Heap → Rs) : Rs :=
  pureK (binOpA T .geq 153 t0 (AV.int .u64 65536)) h fun v1 h1 =>
  k t0 t2 v1 h1
noncomputable def C120_15 : Code := cl C120_14
noncomputable def C120_16 : Code := cr C120_14
noncomputable def C120_17 : Code := cl C120_15
noncomputable def C120_18 : Code := cr C120_15
noncomputable def K120_6 : Kont := kSeq (E120 C120_18 K120_4) K120_4
noncomputable def C120_19 : Code := cl C120_12
noncomputable def C120_20 : Code := cr C120_12
noncomputable def K120_7 : Kont := kSeq (E120 C120_20 (kFin T Try.f120.results.toList)) (kFin T Try.f120.results.toList)
noncomputable def C120_21 : Code := cl C120_19
noncomputable def C120_22 : Code := cr C120_19
noncomputable def K120_8 : Kont := kSeq (E120 C120_22 K120_7) K120_7
noncomputable def R120_5 (t0 t2 : AV) (h : Heap) (k : AV → AV → Heap → Rs) : Rs :=
  pureK (binOpA T .shr 153 t0 (AV.int .u64 16)) h fun v1 h1 =>
  k v1 t2 h1
noncomputable def R120_6 (t0 t2 : AV) (h : Heap) (k : AV → AV → Heap → Rs) : Rs :=
  pureK (binOpA T .add 3 t2 (AV.int .i64 16)) h fun v1 h1 =>
  k t0 v1 h1
noncomputable def R120_7 (t0 t2 : AV) (h : Heap) (k : AV → AV → AV → Heap → Rs) : Rs :=
  pureK (binOpA T .geq 153 t0 (AV.int .u64 256)) h fun v1 h1 =>
  k t0 t2 v1 h1
noncomputable def C120_23 : Code := cl C120_22
noncomputable def C120_24 : Code := cr C120_22
noncomputable def C120_25 : Code := cl C120_23
noncomputable def C120_26 : Code := cr C120_23
noncomputable def K120_9 : Kont := kSeq (E120 C120_26 K120_7) K120_7
noncomputable def C120_27 : Code := cl C120_20
noncomputable def C120_28 : Code := cr C120_20
noncomputable def K120_10 : Kont := kSeq (E120 C120_28 (kFin T Try.f120.results.toList)) (kFin T Try.f120.results.toList)
noncomputable def R120_8 (t0 t2 : AV) (h : Heap) (k : AV → AV → Heap → Rs) : Rs :=
  pureK (binOpA T .shr 153 t0 (AV.int .u64 8)) h fun v1 h1 =>
  k v1 t2 h1
noncomputable def R120_9 (t0 t2 : AV) (h : Heap) (k : AV → AV → Heap → Rs) : Rs :=
  pureK (binOpA T .add 3 t2 (AV.int .i64 8)) h fun v1 h1 =>
  k t0 v1 h1
noncomputable def R120_10 (t0 t2 : AV) (h : Heap) (k : AV → Heap → Rs) : Rs :=
  pureK (cvtI .u8 t0) h fun v2 h2 =>
  pureK (idxS (AV.str [0, 1, 2, 2, 3, 3, 3, 3, 4, 4, 4, 4, 4, 4, 4, 4, 5, 5, 5, 5, 5, 5, 5, 5, 5, 5, 5, 5, 5, 5, 5, 5, 6, 6, 6, 6, 6, 6, 6, 6, 6, 6, 6, 6, 6, 6, 6, 6, 6, 6, 6, 6, 6, 6, 6, 6, 6, 6, 6, 6, 6, 6, 6, 6, 7, 7, 7, 7, 7, 7, 7, 7, 7, 7, 7, 7, 7, 7, 7, 7, 7, 7, 7, 7, 7, 7, 7, 7, 7, 7, 7, 7, 7, 7, 7, 7, 7, 7, 7, 7, 7, 7, 7, 7, 7, 7, 7, 7, 7, 7, 7, 7, 7, 7, 7, 7, 7, 7, 7, 7, 7, 7, 7, 7, 7, 7, 7, 7, 8, 8, 8, 8, 8, 8, 8, 8, 8, 8, 8, 8, 8, 8, 8, 8, 8, 8, 8, 8, 8, 8, 8, 8, 8, 8, 8, 8, 8, 8, 8, 8, 8, 8, 8, 8, 8, 8, 8, 8, 8, 8, 8, 8, 8, 8, 8, 8, 8, 8, 8, 8, 8, 8, 8, 8, 8, 8, 8, 8, 8, 8, 8, 8, 8, 8, 8, 8, 8, 8, 8, 8, 8, 8, 8, 8, 8, 8, 8, 8, 8, 8, 8, 8, 8, 8, 8, 8, 8, 8, 8, 8, 8, 8, 8, 8, 8, 8, 8, 8, 8, 8, 8, 8, 8, 8, 8, 8, 8, 8, 8, 8, 8, 8, 8, 8, 8, 8, 8, 8, 8, 8, 8, 8, 8, 8, 8, 8]) v2) h2 fun v3 h3 =>
  pureK (cvtI .i64 v3) h3 fun v4 h4 =>
  pureK (binOpA T .add 3 t2 v4) h4 fun v5 h5 =>
  k v5 h5
noncomputable def G120_10 (t0 t2 : AV) (h : Heap) : Rs := R120_10 t0 t2 h fun t2 h => some (t2, h)
noncomputable def G120_9 (t0 t2 : AV) (h : Heap) : Rs := R120_9 t0 t2 h fun t0 t2 h => G120_10 t0 t2 h
noncomputable def G120_8 (t0 t2 : AV) (h : Heap) : Rs := R120_8 t0 t2 h fun t0 t2 h => G120_9 t0 t2 h
noncomputable def G120_7 (t0 t2 : AV) (h : Heap) : Rs := R120_7 t0 t2 h fun t0 t2 t14 h => bcase t14 (G120_8 t0 t2 h) (G120_10 t0 t2 h)
noncomputable def G120_6 (t0 t2 : AV) (h : Heap) : Rs := R120_6 t0 t2 h fun t0 t2 h => G120_7 t0 t2 h
noncomputable def G120_5 (t0 t2 : AV) (h : Heap) : Rs := R120_5 t0 t2 h fun t0 t2 h => G120_6 t0 t2 h
noncomputable def G120_4 (t0 t2 : AV) (h : Heap) : Rs := R120_4 t0 t2 h fun t0 t2 t8 h => bcase t8 (G120_5 t0 t2 h) (G120_7 t0 t2 h)
noncomputable def G120_3 (t0 : AV) (h : Heap) : Rs := R120_3 t0 h fun t0 t2 h => G120_4 t0 t2 h
noncomputable def G120_2 (t0 : AV) (h : Heap) : Rs := R120_2 t0 h fun t0 h => G120_3 t0 h
noncomputable def G120_1 (t0 t2 : AV) (h : Heap) : Rs := R120_1 t0 t2 h fun t0 t2 t4 h => bcase t4 (G120_2 t0 h) (G120_4 t0 t2 h)
noncomputable def G120_0 (t0 : AV) (h : Heap) : Rs := R120_0 t0 h fun t0 t2 h => G120_1 t0 t2 h
noncomputable def G120 : AFn
  | [t0], h => G120_0 t0 h
  | _, _ => none
theorem q120_0 (fr : Fr) (h : Heap) : E120 C120_0 (kFin T Try.f120.results.toList) fr h = E120 C120_1 K120_0 fr h := stepSeq (by kernel_rfl) _ _ _
theorem r120_0 (K : Kont) (t0 : AV) (h : Heap) : E120 C120_1 K (frOf 25 [(0,t0)]) h = R120_0 t0 h (fun t0 t2 h => K .normal (frOf 25 [(0,t0),(2,t2)]) h) := by kernel_rfl
theorem n120_1 (fr : Fr) (h : Heap) : K120_0 .normal fr h = E120 C120_2 (kFin T Try.f120.results.toList) fr h := kSeq_n _ _ _ _
theorem q120_2 (fr : Fr) (h : Heap) : E120 C120_2 (kFin T Try.f120.results.toList) fr h = E120 C120_3 K120_1 fr h := stepSeq (by kernel_rfl) _ _ _
theorem q120_3 (fr : Fr) (h : Heap) : E120 C120_3 K120_1 fr h = E120 C120_5 K120_2 fr h := stepSeq (by kernel_rfl) _ _ _
theorem r120_1 (K : Kont) (t0 t2 : AV) (h : Heap) : E120 C120_5 K (frOf 25 [(0,t0),(2,t2)]) h = R120_1 t0 t2 h (fun t0 t2 t4 h => K .normal (frOf 25 [(0,t0),(2,t2),(4,t4)]) h) := by kernel_rfl
theorem n120_4 (fr : Fr) (h : Heap) : K120_2 .normal fr h = E120 C120_6 K120_1 fr h := kSeq_n _ _ _ _
theorem q120_5 (fr : Fr) (h : Heap) : E120 C120_7 K120_1 fr h = E120 C120_9 K120_3 fr h := stepSeq (by kernel_rfl) _ _ _
theorem n120_6 (fr : Fr) (h : Heap) : K120_1 .normal fr h = E120 C120_4 (kFin T Try.f120.results.toList) fr h := kSeq_n _ _ _ _
theorem q120_7 (fr : Fr) (h : Heap) : E120 C120_4 (kFin T Try.f120.results.toList) fr h = E120 C120_11 K120_4 fr h := stepSeq (by kernel_rfl) _ _ _
theorem q120_8 (fr : Fr) (h : Heap) : E120 C120_11 K120_4 fr h = E120 C120_13 K120_5 fr h := stepSeq (by kernel_rfl) _ _ _
theorem r120_2 (K : Kont) (t0 : AV) (h : Heap) : E120 C120_9 K (frOf 25 [(0,t0)]) h = R120_2 t0 h (fun t0 h => K .normal (frOf 25 [(0,t0)]) h) := by kernel_rfl
theorem n120_9 (fr : Fr) (h : Heap) : K120_3 .normal fr h = E120 C120_10 K120_1 fr h := kSeq_n _ _ _ _
theorem r120_3 (K : Kont) (t0 : AV) (h : Heap) : E120 C120_10 K (frOf 25 [(0,t0)]) h = R120_3 t0 h (fun t0 t2 h => K .normal (frOf 25 [(0,t0),(2,t2)]) h) := by kernel_rfl
theorem r120_4 (K : Kont) (t0 t2 : AV) (h : Heap) : E120 C120_13 K (frOf 25 [(0,t0),(2,t2)]) h = R120_4 t0 t2 h (fun t0 t2 t8 h => K .normal (frOf 25 [(0,t0),(2,t2),(8,t8)]) h) := by kernel_rfl
theorem n120_10 (fr : Fr) (h : Heap) : K120_5 .normal fr h = E120 C120_14 K120_4 fr h := kSeq_n _ _ _ _
theorem q120_11 (fr : Fr) (h : Heap) : E120 C120_15 K120_4 fr h = E120 C120_17 K120_6 fr h := stepSeq (by kernel_rfl) _ _ _
theorem n120_12 (fr : Fr) (h : Heap) : K120_4 .normal fr h = E120 C120_12 (kFin T Try.f120.results.toList) fr h := kSeq_n _ _ _ _
theorem q120_13 (fr : Fr) (h : Heap) : E120 C120_12 (kFin T Try.f120.results.toList) fr h = E120 C120_19 K120_7 fr h := stepSeq (by kernel_rfl) _ _ _
theorem q120_14 (fr : Fr) (h : Heap) : E120 C120_19 K120_7 fr h = E120 C120_21 K120_8 fr h := stepSeq (by kernel_rfl) _ _ _
theorem r120_5 (K : Kont) (t0 t2 : AV) (h : Heap) : E120 C120_17 K (frOf 25 [(0,t0),(2,t2)]) h = R120_5 t0 t2 h (fun t0 t2 h => K .normal (frOf 25 [(0,t0),(2,t2)]) h) := by kernel_rfl
theorem n120_15 (fr : Fr) (h : Heap) : K120_6 .normal fr h = E120 C120_18 K120_4 fr h := kSeq_n _ _ _ _
theorem r120_6 (K : Kont) (t0 t2 : AV) (h : Heap) : E120 C120_18 K (frOf 25 [(0,t0),(2,t2)]) h = R120_6 t0 t2 h (fun t0 t2 h => K .normal (frOf 25 [(0,t0),(2,t2)]) h) := by kernel_rfl
theorem r120_7 (K : Kont) (t0 t2 : AV) (h : Heap) : E120 C120_21 K (frOf 25 [(0,t0),(2,t2)]) h = R120_7 t0 t2 h (fun t0 t2 t14 h => K .normal (frOf 25 [(0,t0),(2,t2),(14,t14)]) h) := by kernel_rfl
theorem n120_16 (fr : Fr) (h : Heap) : K120_8 .normal fr h = E120 C120_22 K120_7 fr h := kSeq_n _ _ _ _
theorem q120_17 (fr : Fr) (h : Heap) : E120 C120_23 K120_7 fr h = E120 C120_25 K120_9 fr h := stepSeq (by kernel_rfl) _ _ _
theorem n120_18 (fr : Fr) (h : Heap) : K120_7 .normal fr h = E120 C120_20 (kFin T Try.f120.results.toList) fr h := kSeq_n _ _ _ _
theorem q120_19 (fr : Fr) (h : Heap) : E120 C120_20 (kFin T Try.f120.results.toList) fr h = E120 C120_27 K120_10 fr h := stepSeq (by kernel_rfl) _ _ _
theorem r120_8 (K : Kont) (t0 t2 : AV) (h : Heap) : E120 C120_25 K (frOf 25 [(0,t0),(2,t2)]) h = R120_8 t0 t2 h (fun t0 t2 h => K .normal (frOf 25 [(0,t0),(2,t2)]) h) := by kernel_rfl
theorem n120_20 (fr : Fr) (h : Heap) : K120_9 .normal fr h = E120 C120_26 K120_7 fr h := kSeq_n _ _ _ _
theorem r120_9 (K : Kont) (t0 t2 : AV) (h : Heap) : E120 C120_26 K (frOf 25 [(0,t0),(2,t2)]) h = R120_9 t0 t2 h (fun t0 t2 h => K .normal (frOf 25 [(0,t0),(2,t2)]) h) := by kernel_rfl
theorem r120_10 (K : Kont) (t0 t2 : AV) (h : Heap) : E120 C120_27 K (frOf 25 [(0,t0),(2,t2)]) h = R120_10 t0 t2 h (fun t2 h => K .normal (frOf 25 [(2,t2)]) h) := by kernel_rfl
theorem n120_21 (fr : Fr) (h : Heap) : K120_10 .normal fr h = E120 C120_28 (kFin T Try.f120.results.toList) fr h := kSeq_n _ _ _ _
theorem b120_10 (t0 t2 : AV) (h : Heap) : E120 C120_27 K120_10 (frOf 25 [(0,t0),(2,t2)]) h = G120_10 t0 t2 h :=
  (r120_10 K120_10 t0 t2 h).trans (congrArg (R120_10 t0 t2 h) (funext fun t2 => funext fun h => (Eq.trans (n120_21 _ _) (Eq.trans (stepRet (by kernel_rfl) (kFin T Try.f120.results.toList) _ _) (by kernel_rfl)))))
theorem b120_9 (t0 t2 : AV) (h : Heap) : E120 C120_26 K120_7 (frOf 25 [(0,t0),(2,t2)]) h = G120_9 t0 t2 h :=
  (r120_9 K120_7 t0 t2 h).trans (congrArg (R120_9 t0 t2 h) (funext fun t0 => funext fun t2 => funext fun h => (Eq.trans (n120_18 _ _) (Eq.trans (q120_19 _ _) (b120_10 t0 t2 h)))))
theorem b120_8 (t0 t2 : AV) (h : Heap) : E120 C120_25 K120_9 (frOf 25 [(0,t0),(2,t2)]) h = G120_8 t0 t2 h :=
  (r120_8 K120_9 t0 t2 h).trans (congrArg (R120_8 t0 t2 h) (funext fun t0 => funext fun t2 => funext fun h => (Eq.trans (n120_20 _ _) (b120_9 t0 t2 h))))
theorem b120_7 (t0 t2 : AV) (h : Heap) : E120 C120_21 K120_8 (frOf 25 [(0,t0),(2,t2)]) h = G120_7 t0 t2 h :=
  (r120_7 K120_8 t0 t2 h).trans (congrArg (R120_7 t0 t2 h) (funext fun t0 => funext fun t2 => funext fun t14 => funext fun h => (Eq.trans (n120_16 _ _) (Eq.trans (stepCond (c := C120_22) (by kernel_rfl) K120_7 _ _ (v := t14) (by kernel_rfl)) (bcase_congr t14 (Eq.trans (q120_17 _ _) (Eq.trans (stepClean (c := C120_25) (id := 8) (by kernel_rfl) K120_9 _ _ (by kernel_rfl)) (b120_8 t0 t2 h))) (Eq.trans (stepSkip (by kernel_rfl) K120_7 _ _) (Eq.trans (n120_18 _ _) (Eq.trans (q120_19 _ _) (Eq.trans (stepClean (c := C120_27) (id := 10) (by kernel_rfl) K120_10 _ _ (by kernel_rfl)) (b120_10 t0 t2 h))))))))))
theorem b120_6 (t0 t2 : AV) (h : Heap) : E120 C120_18 K120_4 (frOf 25 [(0,t0),(2,t2)]) h = G120_6 t0 t2 h :=
  (r120_6 K120_4 t0 t2 h).trans (congrArg (R120_6 t0 t2 h) (funext fun t0 => funext fun t2 => funext fun h => (Eq.trans (n120_12 _ _) (Eq.trans (q120_13 _ _) (Eq.trans (q120_14 _ _) (b120_7 t0 t2 h))))))
theorem b120_5 (t0 t2 : AV) (h : Heap) : E120 C120_17 K120_6 (frOf 25 [(0,t0),(2,t2)]) h = G120_5 t0 t2 h :=
  (r120_5 K120_6 t0 t2 h).trans (congrArg (R120_5 t0 t2 h) (funext fun t0 => funext fun t2 => funext fun h => (Eq.trans (n120_15 _ _) (b120_6 t0 t2 h))))
theorem b120_4 (t0 t2 : AV) (h : Heap) : E120 C120_13 K120_5 (frOf 25 [(0,t0),(2,t2)]) h = G120_4 t0 t2 h :=
  (r120_4 K120_5 t0 t2 h).trans (congrArg (R120_4 t0 t2 h) (funext fun t0 => funext fun t2 => funext fun t8 => funext fun h => (Eq.trans (n120_10 _ _) (Eq.trans (stepCond (c := C120_14) (by kernel_rfl) K120_4 _ _ (v := t8) (by kernel_rfl)) (bcase_congr t8 (Eq.trans (q120_11 _ _) (Eq.trans (stepClean (c := C120_17) (id := 5) (by kernel_rfl) K120_6 _ _ (by kernel_rfl)) (b120_5 t0 t2 h))) (Eq.trans (stepSkip (by kernel_rfl) K120_4 _ _) (Eq.trans (n120_12 _ _) (Eq.trans (q120_13 _ _) (Eq.trans (q120_14 _ _) (Eq.trans (stepClean (c := C120_21) (id := 7) (by kernel_rfl) K120_8 _ _ (by kernel_rfl)) (b120_7 t0 t2 h)))))))))))
theorem b120_3 (t0 : AV) (h : Heap) : E120 C120_10 K120_1 (frOf 25 [(0,t0)]) h = G120_3 t0 h :=
  (r120_3 K120_1 t0 h).trans (congrArg (R120_3 t0 h) (funext fun t0 => funext fun t2 => funext fun h => (Eq.trans (n120_6 _ _) (Eq.trans (q120_7 _ _) (Eq.trans (q120_8 _ _) (b120_4 t0 t2 h))))))
theorem b120_2 (t0 : AV) (h : Heap) : E120 C120_9 K120_3 (frOf 25 [(0,t0)]) h = G120_2 t0 h :=
  (r120_2 K120_3 t0 h).trans (congrArg (R120_2 t0 h) (funext fun t0 => funext fun h => (Eq.trans (n120_9 _ _) (b120_3 t0 h))))
theorem b120_1 (t0 t2 : AV) (h : Heap) : E120 C120_5 K120_2 (frOf 25 [(0,t0),(2,t2)]) h = G120_1 t0 t2 h :=
  (r120_1 K120_2 t0 t2 h).trans (congrArg (R120_1 t0 t2 h) (funext fun t0 => funext fun t2 => funext fun t4 => funext fun h => (Eq.trans (n120_4 _ _) (Eq.trans (stepCond (c := C120_6) (by kernel_rfl) K120_1 _ _ (v := t4) (by kernel_rfl)) (bcase_congr t4 (Eq.trans (q120_5 _ _) (Eq.trans (stepClean (c := C120_9) (id := 2) (by kernel_rfl) K120_3 _ _ (by kernel_rfl)) (b120_2 t0 h))) (Eq.trans (stepSkip (by kernel_rfl) K120_1 _ _) (Eq.trans (n120_6 _ _) (Eq.trans (q120_7 _ _) (Eq.trans (q120_8 _ _) (Eq.trans (stepClean (c := C120_13) (id := 4) (by kernel_rfl) K120_5 _ _ (by kernel_rfl)) (b120_4 t0 t2 h)))))))))))
theorem b120_0 (t0 : AV) (h : Heap) : E120 C120_1 K120_0 (frOf 25 [(0,t0)]) h = G120_0 t0 h :=
  (r120_0 K120_0 t0 h).trans (congrArg (R120_0 t0 h) (funext fun t0 => funext fun t2 => funext fun h => (Eq.trans (n120_1 _ _) (Eq.trans (q120_2 _ _) (Eq.trans (q120_3 _ _) (b120_1 t0 t2 h))))))
theorem entry120 (t0 : AV) (h : Heap) : evFunc T PH120 L120 Try.f120 fuel [t0] h = E120 C120_0 (kFin T Try.f120.results.toList) (frOf 25 [(0,t0)]) h := by kernel_rfl
theorem e120 (t0 : AV) (h : Heap) : evFunc T PH120 L120 Try.f120 fuel [t0] h = G120 [t0] h := Eq.trans (entry120 t0 h) (Eq.trans (q120_0 _ _) (b120_0 t0 h))
set_option maxRecDepth 100000 in
theorem s120 : Sound Try.prog 120 G120 := (soundOf tok 120 Try.f120 rfl rfl (Φ := PH120) allNil L120 fuel).le fun args h r hr => by
  unfold G120 at hr; split at hr
  · exact (e120 _ h).trans (by unfold G120; exact hr)
  · cases hr
/- 102: math/bits.Len -/
def L102 : PM (List Nat) := .node (.node (.node (.leaf) (some [2]) (.leaf)) (some [0]) (.node (.leaf) (some [2]) (.leaf))) (some [0]) (.node (.node (.leaf) (some [0]) (.leaf)) (some [0]) (.leaf))
noncomputable def PH102 : List (Nat × AFn) := [(119, G119), (120, G120)]
noncomputable def E102 : Code → Kont → Fr → Heap → Rs := ev T PH102 L102 fuel
noncomputable def C102_0 : Code := bodyOf Try.f102
noncomputable def C102_1 : Code := cl C102_0
noncomputable def C102_2 : Code := cr C102_0
noncomputable def K102_0 : Kont := kSeq (E102 C102_2 (kFin T Try.f102.results.toList)) (kFin T Try.f102.results.toList)
noncomputable def R102_0 (t0 : AV) (h : Heap) (k : AV → Heap → Rs) : Rs :=
  k t0 h
noncomputable def C102_3 : Code := cl C102_2
noncomputable def C102_4 : Code := cr C102_2
noncomputable def K102_1 : Kont := kSeq (E102 C102_4 (kFin T Try.f102.results.toList)) (kFin T Try.f102.results.toList)
noncomputable def C102_5 : Code := cl C102_3
noncomputable def C102_6 : Code := cr C102_3
noncomputable def C102_7 : Code := cl C102_5
noncomputable def C102_8 : Code := cr C102_5
noncomputable def K102_2 : Kont := kSeq (E102 C102_8 K102_1) K102_1
noncomputable def C102_9 : Code := cl C102_4
noncomputable def C102_10 : Code := cr C102_4
noncomputable def K102_3 : Kont := kSeq (E102 C102_10 (kFin T Try.f102.results.toList)) (kFin T Try.f102.results.toList)
noncomputable def R102_1 (t0 : AV) (h : Heap) (k : AV → Heap → Rs) : Rs :=
  pureK (cvtI .u32 t0) h fun v1 h1 =>
  efK (G119 [v1] h1) fun v2 h2 =>
  k v2 h2
noncomputable def G102_1 (t0 : AV) (h : Heap) : Rs := R102_1 t0 h fun t2 h => some (t2, h)
noncomputable def R102_2 (t0 : AV) (h : Heap) (k : AV → Heap → Rs) : Rs :=
  efK (G120 [t0] h) fun v1 h1 =>
  k v1 h1
noncomputable def G102_2 (t0 : AV) (h : Heap) : Rs := R102_2 t0 h fun t2 h => some (t2, h)
noncomputable def G102_0 (t0 : AV) (h : Heap) : Rs := R102_0 t0 h fun t0 h => G102_2 t0 h
noncomputable def G102 : AFn
  | [t0], h => G102_0 t0 h
  | _, _ => none
theorem q102_0 (fr : Fr) (h : Heap) : E102 C102_0 (kFin T Try.f102.results.toList) fr h = E102 C102_1 K102_0 fr h := stepSeq (by kernel_rfl) _ _ _
theorem r102_0 (K : Kont) (t0 : AV) (h : Heap) : E102 C102_1 K (frOf 8 [(0,t0)]) h = R102_0 t0 h (fun t0 h => K .normal (frOf 8 [(0,t0)]) h) := by kernel_rfl
theorem n102_1 (fr : Fr) (h : Heap) : K102_0 .normal fr h = E102 C102_2 (kFin T Try.f102.results.toList) fr h := kSeq_n _ _ _ _
theorem q102_2 (fr : Fr) (h : Heap) : E102 C102_2 (kFin T Try.f102.results.toList) fr h = E102 C102_3 K102_1 fr h := stepSeq (by kernel_rfl) _ _ _
theorem q102_3 (fr : Fr) (h : Heap) : E102 C102_5 K102_1 fr h = E102 C102_7 K102_2 fr h := stepSeq (by kernel_rfl) _ _ _
theorem n102_4 (fr : Fr) (h : Heap) : K102_1 .normal fr h = E102 C102_4 (kFin T Try.f102.results.toList) fr h := kSeq_n _ _ _ _
theorem q102_5 (fr : Fr) (h : Heap) : E102 C102_4 (kFin T Try.f102.results.toList) fr h = E102 C102_9 K102_3 fr h := stepSeq (by kernel_rfl) _ _ _
theorem r102_1 (K : Kont) (t0 : AV) (h : Heap) : E102 C102_7 K (frOf 8 [(0,t0)]) h = R102_1 t0 h (fun t2 h => K .normal (frOf 8 [(2,t2)]) h) := by kernel_rfl
theorem n102_6 (fr : Fr) (h : Heap) : K102_2 .normal fr h = E102 C102_8 K102_1 fr h := kSeq_n _ _ _ _
theorem b102_1 (t0 : AV) (h : Heap) : E102 C102_7 K102_2 (frOf 8 [(0,t0)]) h = G102_1 t0 h :=
  (r102_1 K102_2 t0 h).trans (congrArg (R102_1 t0 h) (funext fun t2 => funext fun h => (Eq.trans (n102_6 _ _) (Eq.trans (stepRet (by kernel_rfl) K102_1 _ _) (Eq.trans (kSeq_r _ _ _ _) (by kernel_rfl))))))
theorem r102_2 (K : Kont) (t0 : AV) (h : Heap) : E102 C102_9 K (frOf 8 [(0,t0)]) h = R102_2 t0 h (fun t2 h => K .normal (frOf 8 [(2,t2)]) h) := by kernel_rfl
theorem n102_7 (fr : Fr) (h : Heap) : K102_3 .normal fr h = E102 C102_10 (kFin T Try.f102.results.toList) fr h := kSeq_n _ _ _ _
theorem b102_2 (t0 : AV) (h : Heap) : E102 C102_9 K102_3 (frOf 8 [(0,t0)]) h = G102_2 t0 h :=
  (r102_2 K102_3 t0 h).trans (congrArg (R102_2 t0 h) (funext fun t2 => funext fun h => (Eq.trans (n102_7 _ _) (Eq.trans (stepRet (by kernel_rfl) (kFin T Try.f102.results.toList) _ _) (by kernel_rfl)))))
theorem b102_0 (t0 : AV) (h : Heap) : E102 C102_1 K102_0 (frOf 8 [(0,t0)]) h = G102_0 t0 h :=
  (r102_0 K102_0 t0 h).trans (congrArg (R102_0 t0 h) (funext fun t0 => funext fun h => (Eq.trans (n102_1 _ _) (Eq.trans (q102_2 _ _) (Eq.trans (stepCond (c := C102_3) (by kernel_rfl) K102_1 _ _ (v := (AV.bool false)) (by kernel_rfl)) (Eq.trans (stepSkip (by kernel_rfl) K102_1 _ _) (Eq.trans (n102_4 _ _) (Eq.trans (q102_5 _ _) (b102_2 t0 h)))))))))
theorem entry102 (t0 : AV) (h : Heap) : evFunc T PH102 L102 Try.f102 fuel [t0] h = E102 C102_0 (kFin T Try.f102.results.toList) (frOf 8 [(0,t0)]) h := by kernel_rfl
theorem e102 (t0 : AV) (h : Heap) : evFunc T PH102 L102 Try.f102 fuel [t0] h = G102 [t0] h := Eq.trans (entry102 t0 h) (Eq.trans (q102_0 _ _) (b102_0 t0 h))
set_option maxRecDepth 100000 in
theorem s102 : Sound Try.prog 102 G102 := (soundOf tok 102 Try.f102 rfl rfl (Φ := PH102) (allCons s119 (allCons s120 allNil)) L102 fuel).le fun args h r hr => by
  unfold G102 at hr; split at hr
  · exact (e102 _ h).trans (by unfold G102; exact hr)
  · cases hr
/- 75: slices.Sort[[]string,string] -/
def L75 : PM (List Nat) := .node (.node (.node (.leaf) (some []) (.leaf)) (some [0, 2]) (.leaf)) (some [0]) (.node (.leaf) (some [0, 2]) (.leaf))
noncomputable def PH75 : List (Nat × AFn) := [(101, G101), (102, G102)]
noncomputable def E75 : Code → Kont → Fr → Heap → Rs := ev T PH75 L75 fuel
noncomputable def C75_0 : Code := bodyOf Try.f75
noncomputable def C75_1 : Code := cl C75_0
noncomputable def C75_2 : Code := cr C75_0
noncomputable def K75_0 : Kont := kSeq (E75 C75_2 (kFin T Try.f75.results.toList)) (kFin T Try.f75.results.toList)
noncomputable def R75_0 (t0 : AV) (h : Heap) (k : AV → AV → Heap → Rs) : Rs :=
  pureK (lenSl t0) h fun v1 h1 =>
  k t0 v1 h1
noncomputable def R75_1 (t0 t2 : AV) (h : Heap) (k : Heap → Rs) : Rs :=
  pureK (cvtI .u64 t2) h fun v3 h3 =>
  efK (G102 [v3] h3) fun v4 h4 =>
  efK (G101 [t0, (AV.int .i64 0), t2, v4] h4) fun v5 h5 =>
  k h5
noncomputable def G75_1 (t0 t2 : AV) (h : Heap) : Rs := R75_1 t0 t2 h fun h => some ((AV.tup []), h)
noncomputable def G75_0 (t0 : AV) (h : Heap) : Rs := R75_0 t0 h fun t0 t2 h => G75_1 t0 t2 h
noncomputable def G75 : AFn
  | [t0], h => G75_0 t0 h
  | _, _ => none
theorem q75_0 (fr : Fr) (h : Heap) : E75 C75_0 (kFin T Try.f75.results.toList) fr h = E75 C75_1 K75_0 fr h := stepSeq (by kernel_rfl) _ _ _
theorem r75_0 (K : Kont) (t0 : AV) (h : Heap) : E75 C75_1 K (frOf 11 [(0,t0)]) h = R75_0 t0 h (fun t0 t2 h => K .normal (frOf 11 [(0,t0),(2,t2)]) h) := by kernel_rfl
theorem n75_1 (fr : Fr) (h : Heap) : K75_0 .normal fr h = E75 C75_2 (kFin T Try.f75.results.toList) fr h := kSeq_n _ _ _ _
theorem r75_1 (K : Kont) (t0 t2 : AV) (h : Heap) : E75 C75_2 K (frOf 11 [(0,t0),(2,t2)]) h = R75_1 t0 t2 h (fun h => K .normal (frOf 11 []) h) := by kernel_rfl
theorem b75_1 (t0 t2 : AV) (h : Heap) : E75 C75_2 (kFin T Try.f75.results.toList) (frOf 11 [(0,t0),(2,t2)]) h = G75_1 t0 t2 h :=
  (r75_1 (kFin T Try.f75.results.toList) t0 t2 h).trans (congrArg (R75_1 t0 t2 h) (funext fun h => (by kernel_rfl)))
theorem b75_0 (t0 : AV) (h : Heap) : E75 C75_1 K75_0 (frOf 11 [(0,t0)]) h = G75_0 t0 h :=
  (r75_0 K75_0 t0 h).trans (congrArg (R75_0 t0 h) (funext fun t0 => funext fun t2 => funext fun h => (Eq.trans (n75_1 _ _) (b75_1 t0 t2 h))))
theorem entry75 (t0 : AV) (h : Heap) : evFunc T PH75 L75 Try.f75 fuel [t0] h = E75 C75_0 (kFin T Try.f75.results.toList) (frOf 11 [(0,t0)]) h := by kernel_rfl
theorem e75 (t0 : AV) (h : Heap) : evFunc T PH75 L75 Try.f75 fuel [t0] h = G75 [t0] h := Eq.trans (entry75 t0 h) (Eq.trans (q75_0 _ _) (b75_0 t0 h))
set_option maxRecDepth 100000 in
theorem s75 : Sound Try.prog 75 G75 := (soundOf tok 75 Try.f75 rfl rfl (Φ := PH75) (allCons s101 (allCons s102 allNil)) L75 fuel).le fun args h r hr => by
  unfold G75 at hr; split at hr
  · exact (e75 _ h).trans (by unfold G75; exact hr)
  · cases hr
/- 42: slices.Sorted[string] -/
def L42 : PM (List Nat) := .node (.node (.node (.node (.leaf) (some [2]) (.leaf)) (some [3]) (.leaf)) (some [0]) (.node (.leaf) (some [3]) (.leaf))) (some [0]) (.node (.node (.leaf) (some [3]) (.leaf)) (some [0]) (.node (.leaf) (some [3]) (.leaf)))
noncomputable def PH42 : List (Nat × AFn) := [(74, G74), (75, G75)]
noncomputable def E42 : Code → Kont → Fr → Heap → Rs := ev T PH42 L42 fuel
noncomputable def C42_0 : Code := bodyOf Try.f42
noncomputable def C42_1 : Code := cl C42_0
noncomputable def C42_2 : Code := cr C42_0
noncomputable def K42_0 : Kont := kSeq (E42 C42_2 (kFin T Try.f42.results.toList)) (kFin T Try.f42.results.toList)
noncomputable def R42_0 (t0 : AV) (h : Heap) (k : AV → Heap → Rs) : Rs :=
  k t0 h
noncomputable def C42_3 : Code := cl C42_2
noncomputable def C42_4 : Code := cr C42_2
noncomputable def K42_1 : Kont := kSeq (E42 C42_4 (kFin T Try.f42.results.toList)) (kFin T Try.f42.results.toList)
noncomputable def R42_1 (t0 : AV) (h : Heap) (k : AV → Heap → Rs) : Rs :=
  efK (G74 [t0] h) fun v1 h1 =>
  k v1 h1
noncomputable def C42_5 : Code := cl C42_4
noncomputable def C42_6 : Code := cr C42_4
noncomputable def K42_2 : Kont := kSeq (E42 C42_6 (kFin T Try.f42.results.toList)) (kFin T Try.f42.results.toList)
noncomputable def R42_2 (t3 : AV) (h : Heap) (k : AV → Heap → Rs) : Rs :=
  efK (G75 [t3] h) fun v1 h1 =>
  k t3 h1
noncomputable def C42_7 : Code := cl C42_6
noncomputable def C42_8 : Code := cr C42_6
noncomputable def K42_3 : Kont := kSeq (E42 C42_8 (kFin T Try.f42.results.toList)) (kFin T Try.f42.results.toList)
noncomputable def R42_3 (t3 : AV) (h : Heap) (k : AV → Heap → Rs) : Rs :=
  k t3 h
noncomputable def G42_3 (t3 : AV) (h : Heap) : Rs := R42_3 t3 h fun t2 h => some (t2, h)
noncomputable def G42_2 (t3 : AV) (h : Heap) : Rs := R42_2 t3 h fun t3 h => G42_3 t3 h
noncomputable def G42_1 (t0 : AV) (h : Heap) : Rs := R42_1 t0 h fun t3 h => G42_2 t3 h
noncomputable def G42_0 (t0 : AV) (h : Heap) : Rs := R42_0 t0 h fun t0 h => G42_1 t0 h
noncomputable def G42 : AFn
  | [t0], h => G42_0 t0 h
  | _, _ => none
theorem q42_0 (fr : Fr) (h : Heap) : E42 C42_0 (kFin T Try.f42.results.toList) fr h = E42 C42_1 K42_0 fr h := stepSeq (by kernel_rfl) _ _ _
theorem r42_0 (K : Kont) (t0 : AV) (h : Heap) : E42 C42_1 K (frOf 9 [(0,t0)]) h = R42_0 t0 h (fun t0 h => K .normal (frOf 9 [(0,t0)]) h) := by kernel_rfl
theorem n42_1 (fr : Fr) (h : Heap) : K42_0 .normal fr h = E42 C42_2 (kFin T Try.f42.results.toList) fr h := kSeq_n _ _ _ _
theorem q42_2 (fr : Fr) (h : Heap) : E42 C42_2 (kFin T Try.f42.results.toList) fr h = E42 C42_3 K42_1 fr h := stepSeq (by kernel_rfl) _ _ _
theorem r42_1 (K : Kont) (t0 : AV) (h : Heap) : E42 C42_3 K (frOf 9 [(0,t0)]) h = R42_1 t0 h (fun t3 h => K .normal (frOf 9 [(3,t3)]) h) := by kernel_rfl
theorem n42_3 (fr : Fr) (h : Heap) : K42_1 .normal fr h = E42 C42_4 (kFin T Try.f42.results.toList) fr h := kSeq_n _ _ _ _
theorem q42_4 (fr : Fr) (h : Heap) : E42 C42_4 (kFin T Try.f42.results.toList) fr h = E42 C42_5 K42_2 fr h := stepSeq (by kernel_rfl) _ _ _
theorem r42_2 (K : Kont) (t3 : AV) (h : Heap) : E42 C42_5 K (frOf 9 [(3,t3)]) h = R42_2 t3 h (fun t3 h => K .normal (frOf 9 [(3,t3)]) h) := by kernel_rfl
theorem n42_5 (fr : Fr) (h : Heap) : K42_2 .normal fr h = E42 C42_6 (kFin T Try.f42.results.toList) fr h := kSeq_n _ _ _ _
theorem q42_6 (fr : Fr) (h : Heap) : E42 C42_6 (kFin T Try.f42.results.toList) fr h = E42 C42_7 K42_3 fr h := stepSeq (by kernel_rfl) _ _ _
theorem r42_3 (K : Kont) (t3 : AV) (h : Heap) : E42 C42_7 K (frOf 9 [(3,t3)]) h = R42_3 t3 h (fun t2 h => K .normal (frOf 9 [(2,t2)]) h) := by kernel_rfl
theorem n42_7 (fr : Fr) (h : Heap) : K42_3 .normal fr h = E42 C42_8 (kFin T Try.f42.results.toList) fr h := kSeq_n _ _ _ _
theorem b42_3 (t3 : AV) (h : Heap) : E42 C42_7 K42_3 (frOf 9 [(3,t3)]) h = G42_3 t3 h :=
  (r42_3 K42_3 t3 h).trans (congrArg (R42_3 t3 h) (funext fun t2 => funext fun h => (Eq.trans (n42_7 _ _) (Eq.trans (stepRet (by kernel_rfl) (kFin T Try.f42.results.toList) _ _) (by kernel_rfl)))))
theorem b42_2 (t3 : AV) (h : Heap) : E42 C42_5 K42_2 (frOf 9 [(3,t3)]) h = G42_2 t3 h :=
  (r42_2 K42_2 t3 h).trans (congrArg (R42_2 t3 h) (funext fun t3 => funext fun h => (Eq.trans (n42_5 _ _) (Eq.trans (q42_6 _ _) (b42_3 t3 h)))))
theorem b42_1 (t0 : AV) (h : Heap) : E42 C42_3 K42_1 (frOf 9 [(0,t0)]) h = G42_1 t0 h :=
  (r42_1 K42_1 t0 h).trans (congrArg (R42_1 t0 h) (funext fun t3 => funext fun h => (Eq.trans (n42_3 _ _) (Eq.trans (q42_4 _ _) (b42_2 t3 h)))))
theorem b42_0 (t0 : AV) (h : Heap) : E42 C42_1 K42_0 (frOf 9 [(0,t0)]) h = G42_0 t0 h :=
  (r42_0 K42_0 t0 h).trans (congrArg (R42_0 t0 h) (funext fun t0 => funext fun h => (Eq.trans (n42_1 _ _) (Eq.trans (q42_2 _ _) (b42_1 t0 h)))))
theorem entry42 (t0 : AV) (h : Heap) : evFunc T PH42 L42 Try.f42 fuel [t0] h = E42 C42_0 (kFin T Try.f42.results.toList) (frOf 9 [(0,t0)]) h := by kernel_rfl
theorem e42 (t0 : AV) (h : Heap) : evFunc T PH42 L42 Try.f42 fuel [t0] h = G42 [t0] h := Eq.trans (entry42 t0 h) (Eq.trans (q42_0 _ _) (b42_0 t0 h))
set_option maxRecDepth 100000 in
theorem s42 : Sound Try.prog 42 G42 := (soundOf tok 42 Try.f42 rfl rfl (Φ := PH42) (allCons s74 (allCons s75 allNil)) L42 fuel).le fun args h r hr => by
  unfold G42 at hr; split at hr
  · exact (e42 _ h).trans (by unfold G42; exact hr)
  · cases hr
/- 43: maps.Keys[map[string][]byte,string,[]byte] -/
def L43 : PM (List Nat) := .node (.node (.node (.leaf) (some [2]) (.leaf)) (some [1]) (.leaf)) (some [0]) (.node (.leaf) (some [1]) (.leaf))
noncomputable def PH43 : List (Nat × AFn) := []
noncomputable def E43 : Code → Kont → Fr → Heap → Rs := ev T PH43 L43 fuel
noncomputable def C43_0 : Code := bodyOf Try.f43
noncomputable def C43_1 : Code := cl C43_0
noncomputable def C43_2 : Code := cr C43_0
noncomputable def K43_0 : Kont := kSeq (E43 C43_2 (kFin T Try.f43.results.toList)) (kFin T Try.f43.results.toList)
noncomputable def R43_0 (t0 : AV) (h : Heap) (k : AV → Heap → Rs) : Rs :=
  alK (boxV 1 t0) h fun v0 h0 =>
  k v0 h0
noncomputable def C43_3 : Code := cl C43_2
noncomputable def C43_4 : Code := cr C43_2
noncomputable def K43_1 : Kont := kSeq (E43 C43_4 (kFin T Try.f43.results.toList)) (kFin T Try.f43.results.toList)
noncomputable def R43_1 (t1 : AV) (h : Heap) (k : AV → Heap → Rs) : Rs :=
  k (AV.fn 76 [t1]) h
noncomputable def G43_1 (t1 : AV) (h : Heap) : Rs := R43_1 t1 h fun t2 h => some (t2, h)
noncomputable def G43_0 (t0 : AV) (h : Heap) : Rs := R43_0 t0 h fun t1 h => G43_1 t1 h
noncomputable def G43 : AFn
  | [t0], h => G43_0 t0 h
  | _, _ => none
theorem q43_0 (fr : Fr) (h : Heap) : E43 C43_0 (kFin T Try.f43.results.toList) fr h = E43 C43_1 K43_0 fr h := stepSeq (by kernel_rfl) _ _ _
theorem r43_0 (K : Kont) (t0 : AV) (h : Heap) : E43 C43_1 K (frOf 4 [(0,t0)]) h = R43_0 t0 h (fun t1 h => K .normal (frOf 4 [(1,t1)]) h) := by kernel_rfl
theorem n43_1 (fr : Fr) (h : Heap) : K43_0 .normal fr h = E43 C43_2 (kFin T Try.f43.results.toList) fr h := kSeq_n _ _ _ _
theorem q43_2 (fr : Fr) (h : Heap) : E43 C43_2 (kFin T Try.f43.results.toList) fr h = E43 C43_3 K43_1 fr h := stepSeq (by kernel_rfl) _ _ _
theorem r43_1 (K : Kont) (t1 : AV) (h : Heap) : E43 C43_3 K (frOf 4 [(1,t1)]) h = R43_1 t1 h (fun t2 h => K .normal (frOf 4 [(2,t2)]) h) := by kernel_rfl
theorem n43_3 (fr : Fr) (h : Heap) : K43_1 .normal fr h = E43 C43_4 (kFin T Try.f43.results.toList) fr h := kSeq_n _ _ _ _
theorem b43_1 (t1 : AV) (h : Heap) : E43 C43_3 K43_1 (frOf 4 [(1,t1)]) h = G43_1 t1 h :=
  (r43_1 K43_1 t1 h).trans (congrArg (R43_1 t1 h) (funext fun t2 => funext fun h => (Eq.trans (n43_3 _ _) (Eq.trans (stepRet (by kernel_rfl) (kFin T Try.f43.results.toList) _ _) (by kernel_rfl)))))
theorem b43_0 (t0 : AV) (h : Heap) : E43 C43_1 K43_0 (frOf 4 [(0,t0)]) h = G43_0 t0 h :=
  (r43_0 K43_0 t0 h).trans (congrArg (R43_0 t0 h) (funext fun t1 => funext fun h => (Eq.trans (n43_1 _ _) (Eq.trans (q43_2 _ _) (b43_1 t1 h)))))
theorem entry43 (t0 : AV) (h : Heap) : evFunc T PH43 L43 Try.f43 fuel [t0] h = E43 C43_0 (kFin T Try.f43.results.toList) (frOf 4 [(0,t0)]) h := by kernel_rfl
theorem e43 (t0 : AV) (h : Heap) : evFunc T PH43 L43 Try.f43 fuel [t0] h = G43 [t0] h := Eq.trans (entry43 t0 h) (Eq.trans (q43_0 _ _) (b43_0 t0 h))
set_option maxRecDepth 100000 in
theorem s43 : Sound Try.prog 43 G43 := (soundOf tok 43 Try.f43 rfl rfl (Φ := PH43) allNil L43 fuel).le fun args h r hr => by
  unfold G43 at hr; split at hr
  · exact (e43 _ h).trans (by unfold G43; exact hr)
  · cases hr
/- 19: (*delphi/disk.Disk).Names -/
def L19 : PM (List Nat) := .node (.node (.node (.node (.leaf) (some [2]) (.leaf)) (some [0, 4]) (.leaf)) (some [0]) (.node (.leaf) (some [2]) (.leaf))) (some [0]) (.node (.node (.leaf) (some []) (.leaf)) (some [0]) (.node (.leaf) (some [0]) (.leaf)))
noncomputable def PH19 : List (Nat × AFn) := [(42, G42), (43, G43)]
noncomputable def E19 : Code → Kont → Fr → Heap → Rs := ev T PH19 L19 fuel
noncomputable def C19_0 : Code := bodyOf Try.f19
noncomputable def C19_1 : Code := cl C19_0
noncomputable def C19_2 : Code := cr C19_0
noncomputable def K19_0 : Kont := kSeq (E19 C19_2 (kFin T Try.f19.results.toList)) (kFin T Try.f19.results.toList)
noncomputable def R19_0 (t0 : AV) (h : Heap) (k : AV → Heap → Rs) : Rs :=
  k t0 h
noncomputable def C19_3 : Code := cl C19_2
noncomputable def C19_4 : Code := cr C19_2
noncomputable def K19_1 : Kont := kSeq (E19 C19_4 (kFin T Try.f19.results.toList)) (kFin T Try.f19.results.toList)
noncomputable def C19_5 : Code := cl C19_3
noncomputable def C19_6 : Code := cr C19_3
noncomputable def K19_2 : Kont := kSeq (E19 C19_6 K19_1) K19_1
noncomputable def R19_1 (t0 : AV) (h : Heap) (k : AV → AV → Heap → Rs) : Rs :=
  pureK (binOpA T .eql 24 t0 AV.pnil) h fun v1 h1 =>
  k t0 v1 h1
noncomputable def C19_7 : Code := cl C19_6
noncomputable def C19_8 : Code := cr C19_6
noncomputable def C19_9 : Code := cl C19_7
noncomputable def C19_10 : Code := cr C19_7
noncomputable def K19_3 : Kont := kSeq (E19 C19_10 K19_1) K19_1
noncomputable def C19_11 : Code := cl C19_4
noncomputable def C19_12 : Code := cr C19_4
noncomputable def K19_4 : Kont := kSeq (E19 C19_12 (kFin T Try.f19.results.toList)) (kFin T Try.f19.results.toList)
noncomputable def R19_2 (h : Heap) (k : AV → Heap → Rs) : Rs :=
  k AV.snil h
noncomputable def G19_2 (h : Heap) : Rs := R19_2 h fun t2 h => some (t2, h)
noncomputable def R19_3 (t0 : AV) (h : Heap) (k : AV → Heap → Rs) : Rs :=
  pureK (nilck t0) h fun v1 h1 =>
  pureK (faddr 2 v1) h1 fun v2 h2 =>
  pureK (ldV h2 v2) h2 fun v3 h3 =>
  efK (G43 [v3] h3) fun v4 h4 =>
  efK (G42 [v4] h4) fun v5 h5 =>
  k v5 h5
noncomputable def G19_3 (t0 : AV) (h : Heap) : Rs := R19_3 t0 h fun t2 h => some (t2, h)
noncomputable def G19_1 (t0 : AV) (h : Heap) : Rs := R19_1 t0 h fun t0 t4 h => bcase t4 (G19_2 h) (G19_3 t0 h)
noncomputable def G19_0 (t0 : AV) (h : Heap) : Rs := R19_0 t0 h fun t0 h => G19_1 t0 h
noncomputable def G19 : AFn
  | [t0], h => G19_0 t0 h
  | _, _ => none
theorem q19_0 (fr : Fr) (h : Heap) : E19 C19_0 (kFin T Try.f19.results.toList) fr h = E19 C19_1 K19_0 fr h := stepSeq (by kernel_rfl) _ _ _
theorem r19_0 (K : Kont) (t0 : AV) (h : Heap) : E19 C19_1 K (frOf 11 [(0,t0)]) h = R19_0 t0 h (fun t0 h => K .normal (frOf 11 [(0,t0)]) h) := by kernel_rfl
theorem n19_1 (fr : Fr) (h : Heap) : K19_0 .normal fr h = E19 C19_2 (kFin T Try.f19.results.toList) fr h := kSeq_n _ _ _ _
theorem q19_2 (fr : Fr) (h : Heap) : E19 C19_2 (kFin T Try.f19.results.toList) fr h = E19 C19_3 K19_1 fr h := stepSeq (by kernel_rfl) _ _ _
theorem q19_3 (fr : Fr) (h : Heap) : E19 C19_3 K19_1 fr h = E19 C19_5 K19_2 fr h := stepSeq (by kernel_rfl) _ _ _
theorem r19_1 (K : Kont) (t0 : AV) (h : Heap) : E19 C19_5 K (frOf 11 [(0,t0)]) h = R19_1 t0 h (fun t0 t4 h => K .normal (frOf 11 [(0,t0),(4,t4)]) h) := by kernel_rfl
theorem n19_4 (fr : Fr) (h : Heap) : K19_2 .normal fr h = E19 C19_6 K19_1 fr h := kSeq_n _ _ _ _
theorem q19_5 (fr : Fr) (h : Heap) : E19 C19_7 K19_1 fr h = E19 C19_9 K19_3 fr h := stepSeq (by kernel_rfl) _ _ _
theorem n19_6 (fr : Fr) (h : Heap) : K19_1 .normal fr h = E19 C19_4 (kFin T Try.f19.results.toList) fr h := kSeq_n _ _ _ _
theorem q19_7 (fr : Fr) (h : Heap) : E19 C19_4 (kFin T Try.f19.results.toList) fr h = E19 C19_11 K19_4 fr h := stepSeq (by kernel_rfl) _ _ _
theorem r19_2 (K : Kont) (h : Heap) : E19 C19_9 K (frOf 11 []) h = R19_2 h (fun t2 h => K .normal (frOf 11 [(2,t2)]) h) := by kernel_rfl
theorem n19_8 (fr : Fr) (h : Heap) : K19_3 .normal fr h = E19 C19_10 K19_1 fr h := kSeq_n _ _ _ _
theorem b19_2 (h : Heap) : E19 C19_9 K19_3 (frOf 11 []) h = G19_2 h :=
  (r19_2 K19_3 h).trans (congrArg (R19_2 h) (funext fun t2 => funext fun h => (Eq.trans (n19_8 _ _) (Eq.trans (stepRet (by kernel_rfl) K19_1 _ _) (Eq.trans (kSeq_r _ _ _ _) (by kernel_rfl))))))
theorem r19_3 (K : Kont) (t0 : AV) (h : Heap) : E19 C19_11 K (frOf 11 [(0,t0)]) h = R19_3 t0 h (fun t2 h => K .normal (frOf 11 [(2,t2)]) h) := by kernel_rfl
theorem n19_9 (fr : Fr) (h : Heap) : K19_4 .normal fr h = E19 C19_12 (kFin T Try.f19.results.toList) fr h := kSeq_n _ _ _ _
theorem b19_3 (t0 : AV) (h : Heap) : E19 C19_11 K19_4 (frOf 11 [(0,t0)]) h = G19_3 t0 h :=
  (r19_3 K19_4 t0 h).trans (congrArg (R19_3 t0 h) (funext fun t2 => funext fun h => (Eq.trans (n19_9 _ _) (Eq.trans (stepRet (by kernel_rfl) (kFin T Try.f19.results.toList) _ _) (by kernel_rfl)))))
theorem b19_1 (t0 : AV) (h : Heap) : E19 C19_5 K19_2 (frOf 11 [(0,t0)]) h = G19_1 t0 h :=
  (r19_1 K19_2 t0 h).trans (congrArg (R19_1 t0 h) (funext fun t0 => funext fun t4 => funext fun h => (Eq.trans (n19_4 _ _) (Eq.trans (stepCond (c := C19_6) (by kernel_rfl) K19_1 _ _ (v := t4) (by kernel_rfl)) (bcase_congr t4 (Eq.trans (q19_5 _ _) (Eq.trans (stepClean (c := C19_9) (id := 2) (by kernel_rfl) K19_3 _ _ (by kernel_rfl)) (b19_2 h))) (Eq.trans (stepSkip (by kernel_rfl) K19_1 _ _) (Eq.trans (n19_6 _ _) (Eq.trans (q19_7 _ _) (Eq.trans (stepClean (c := C19_11) (id := 3) (by kernel_rfl) K19_4 _ _ (by kernel_rfl)) (b19_3 t0 h))))))))))
theorem b19_0 (t0 : AV) (h : Heap) : E19 C19_1 K19_0 (frOf 11 [(0,t0)]) h = G19_0 t0 h :=
  (r19_0 K19_0 t0 h).trans (congrArg (R19_0 t0 h) (funext fun t0 => funext fun h => (Eq.trans (n19_1 _ _) (Eq.trans (q19_2 _ _) (Eq.trans (q19_3 _ _) (b19_1 t0 h))))))
theorem entry19 (t0 : AV) (h : Heap) : evFunc T PH19 L19 Try.f19 fuel [t0] h = E19 C19_0 (kFin T Try.f19.results.toList) (frOf 11 [(0,t0)]) h := by kernel_rfl
theorem e19 (t0 : AV) (h : Heap) : evFunc T PH19 L19 Try.f19 fuel [t0] h = G19 [t0] h := Eq.trans (entry19 t0 h) (Eq.trans (q19_0 _ _) (b19_0 t0 h))
set_option maxRecDepth 100000 in
theorem s19 : Sound Try.prog 19 G19 := (soundOf tok 19 Try.f19 rfl rfl (Φ := PH19) (allCons s42 (allCons s43 allNil)) L19 fuel).le fun args h r hr => by
  unfold G19 at hr; split at hr
  · exact (e19 _ h).trans (by unfold G19; exact hr)
  · cases hr
/- 21: (*delphi/disk.Disk).Waiting -/
def L21 : PM (List Nat) := .node (.node (.node (.node (.leaf) (some [2]) (.leaf)) (some [0, 4]) (.leaf)) (some [0]) (.node (.leaf) (some [2]) (.leaf))) (some [0]) (.node (.node (.leaf) (some []) (.leaf)) (some [0]) (.node (.leaf) (some [0]) (.leaf)))
noncomputable def PH21 : List (Nat × AFn) := []
noncomputable def E21 : Code → Kont → Fr → Heap → Rs := ev T PH21 L21 fuel
noncomputable def C21_0 : Code := bodyOf Try.f21
noncomputable def C21_1 : Code := cl C21_0
noncomputable def C21_2 : Code := cr C21_0
noncomputable def K21_0 : Kont := kSeq (E21 C21_2 (kFin T Try.f21.results.toList)) (kFin T Try.f21.results.toList)
noncomputable def R21_0 (t0 : AV) (h : Heap) (k : AV → Heap → Rs) : Rs :=
  k t0 h
noncomputable def C21_3 : Code := cl C21_2
noncomputable def C21_4 : Code := cr C21_2
noncomputable def K21_1 : Kont := kSeq (E21 C21_4 (kFin T Try.f21.results.toList)) (kFin T Try.f21.results.toList)
noncomputable def C21_5 : Code := cl C21_3
noncomputable def C21_6 : Code := cr C21_3
noncomputable def K21_2 : Kont := kSeq (E21 C21_6 K21_1) K21_1
noncomputable def R21_1 (t0 : AV) (h : Heap) (k : AV → AV → Heap → Rs) : Rs :=
  pureK (binOpA T .eql 24 t0 AV.pnil) h fun v1 h1 =>
  k t0 v1 h1
noncomputable def C21_7 : Code := cl C21_6
noncomputable def C21_8 : Code := cr C21_6
noncomputable def C21_9 : Code := cl C21_7
noncomputable def C21_10 : Code := cr C21_7
noncomputable def K21_3 : Kont := kSeq (E21 C21_10 K21_1) K21_1
noncomputable def C21_11 : Code := cl C21_4
noncomputable def C21_12 : Code := cr C21_4
noncomputable def K21_4 : Kont := kSeq (E21 C21_12 (kFin T Try.f21.results.toList)) (kFin T Try.f21.results.toList)
noncomputable def R21_2 (h : Heap) (k : AV → Heap → Rs) : Rs :=
  k (AV.int .i64 0) h
noncomputable def G21_2 (h : Heap) : Rs := R21_2 h fun t2 h => some (t2, h)
noncomputable def R21_3 (t0 : AV) (h : Heap) (k : AV → Heap → Rs) : Rs :=
  pureK (nilck t0) h fun v1 h1 =>
  pureK (faddr 3 v1) h1 fun v2 h2 =>
  pureK (ldV h2 v2) h2 fun v3 h3 =>
  pureK (lenSl v3) h3 fun v4 h4 =>
  k v4 h4
noncomputable def G21_3 (t0 : AV) (h : Heap) : Rs := R21_3 t0 h fun t2 h => some (t2, h)
noncomputable def G21_1 (t0 : AV) (h : Heap) : Rs := R21_1 t0 h fun t0 t4 h => bcase t4 (G21_2 h) (G21_3 t0 h)
noncomputable def G21_0 (t0 : AV) (h : Heap) : Rs := R21_0 t0 h fun t0 h => G21_1 t0 h
noncomputable def G21 : AFn
  | [t0], h => G21_0 t0 h
  | _, _ => none
theorem q21_0 (fr : Fr) (h : Heap) : E21 C21_0 (kFin T Try.f21.results.toList) fr h = E21 C21_1 K21_0 fr h := stepSeq (by kernel_rfl) _ _ _
theorem r21_0 (K : Kont) (t0 : AV) (h : Heap) : E21 C21_1 K (frOf 10 [(0,t0)]) h = R21_0 t0 h (fun t0 h => K .normal (frOf 10 [(0,t0)]) h) := by kernel_rfl
theorem n21_1 (fr : Fr) (h : Heap) : K21_0 .normal fr h = E21 C21_2 (kFin T Try.f21.results.toList) fr h := kSeq_n _ _ _ _
theorem q21_2 (fr : Fr) (h : Heap) : E21 C21_2 (kFin T Try.f21.results.toList) fr h = E21 C21_3 K21_1 fr h := stepSeq (by kernel_rfl) _ _ _
theorem q21_3 (fr : Fr) (h : Heap) : E21 C21_3 K21_1 fr h = E21 C21_5 K21_2 fr h := stepSeq (by kernel_rfl) _ _ _
theorem r21_1 (K : Kont) (t0 : AV) (h : Heap) : E21 C21_5 K (frOf 10 [(0,t0)]) h = R21_1 t0 h (fun t0 t4 h => K .normal (frOf 10 [(0,t0),(4,t4)]) h) := by kernel_rfl
theorem n21_4 (fr : Fr) (h : Heap) : K21_2 .normal fr h = E21 C21_6 K21_1 fr h := kSeq_n _ _ _ _
theorem q21_5 (fr : Fr) (h : Heap) : E21 C21_7 K21_1 fr h = E21 C21_9 K21_3 fr h := stepSeq (by kernel_rfl) _ _ _
theorem n21_6 (fr : Fr) (h : Heap) : K21_1 .normal fr h = E21 C21_4 (kFin T Try.f21.results.toList) fr h := kSeq_n _ _ _ _
theorem q21_7 (fr : Fr) (h : Heap) : E21 C21_4 (kFin T Try.f21.results.toList) fr h = E21 C21_11 K21_4 fr h := stepSeq (by kernel_rfl) _ _ _
theorem r21_2 (K : Kont) (h : Heap) : E21 C21_9 K (frOf 10 []) h = R21_2 h (fun t2 h => K .normal (frOf 10 [(2,t2)]) h) := by kernel_rfl
theorem n21_8 (fr : Fr) (h : Heap) : K21_3 .normal fr h = E21 C21_10 K21_1 fr h := kSeq_n _ _ _ _
theorem b21_2 (h : Heap) : E21 C21_9 K21_3 (frOf 10 []) h = G21_2 h :=
  (r21_2 K21_3 h).trans (congrArg (R21_2 h) (funext fun t2 => funext fun h => (Eq.trans (n21_8 _ _) (Eq.trans (stepRet (by kernel_rfl) K21_1 _ _) (Eq.trans (kSeq_r _ _ _ _) (by kernel_rfl))))))
theorem r21_3 (K : Kont) (t0 : AV) (h : Heap) : E21 C21_11 K (frOf 10 [(0,t0)]) h = R21_3 t0 h (fun t2 h => K .normal (frOf 10 [(2,t2)]) h) := by kernel_rfl
theorem n21_9 (fr : Fr) (h : Heap) : K21_4 .normal fr h = E21 C21_12 (kFin T Try.f21.results.toList) fr h := kSeq_n _ _ _ _
theorem b21_3 (t0 : AV) (h : Heap) : E21 C21_11 K21_4 (frOf 10 [(0,t0)]) h = G21_3 t0 h :=
  (r21_3 K21_4 t0 h).trans (congrArg (R21_3 t0 h) (funext fun t2 => funext fun h => (Eq.trans (n21_9 _ _) (Eq.trans (stepRet (by kernel_rfl) (kFin T Try.f21.results.toList) _ _) (by kernel_rfl)))))
theorem b21_1 (t0 : AV) (h : Heap) : E21 C21_5 K21_2 (frOf 10 [(0,t0)]) h = G21_1 t0 h :=
  (r21_1 K21_2 t0 h).trans (congrArg (R21_1 t0 h) (funext fun t0 => funext fun t4 => funext fun h => (Eq.trans (n21_4 _ _) (Eq.trans (stepCond (c := C21_6) (by kernel_rfl) K21_1 _ _ (v := t4) (by kernel_rfl)) (bcase_congr t4 (Eq.trans (q21_5 _ _) (Eq.trans (stepClean (c := C21_9) (id := 2) (by kernel_rfl) K21_3 _ _ (by kernel_rfl)) (b21_2 h))) (Eq.trans (stepSkip (by kernel_rfl) K21_1 _ _) (Eq.trans (n21_6 _ _) (Eq.trans (q21_7 _ _) (Eq.trans (stepClean (c := C21_11) (id := 3) (by kernel_rfl) K21_4 _ _ (by kernel_rfl)) (b21_3 t0 h))))))))))
theorem b21_0 (t0 : AV) (h : Heap) : E21 C21_1 K21_0 (frOf 10 [(0,t0)]) h = G21_0 t0 h :=
  (r21_0 K21_0 t0 h).trans (congrArg (R21_0 t0 h) (funext fun t0 => funext fun h => (Eq.trans (n21_1 _ _) (Eq.trans (q21_2 _ _) (Eq.trans (q21_3 _ _) (b21_1 t0 h))))))
theorem entry21 (t0 : AV) (h : Heap) : evFunc T PH21 L21 Try.f21 fuel [t0] h = E21 C21_0 (kFin T Try.f21.results.toList) (frOf 10 [(0,t0)]) h := by kernel_rfl
theorem e21 (t0 : AV) (h : Heap) : evFunc T PH21 L21 Try.f21 fuel [t0] h = G21 [t0] h := Eq.trans (entry21 t0 h) (Eq.trans (q21_0 _ _) (b21_0 t0 h))
set_option maxRecDepth 100000 in
theorem s21 : Sound Try.prog 21 G21 := (soundOf tok 21 Try.f21 rfl rfl (Φ := PH21) allNil L21 fuel).le fun args h r hr => by
  unfold G21 at hr; split at hr
  · exact (e21 _ h).trans (by unfold G21; exact hr)
  · cases hr
/- 12: (*delphi/disk.Disk).Sync -/
def L12 : PM (List Nat) := .node (.node (.node (.leaf) (some []) (.leaf)) (some [0, 3]) (.leaf)) (some [0]) (.node (.leaf) (some [0]) (.leaf))
noncomputable def PH12 : List (Nat × AFn) := [(40, G40)]
noncomputable def E12 : Code → Kont → Fr → Heap → Rs := ev T PH12 L12 fuel
noncomputable def C12_0 : Code := bodyOf Try.f12
noncomputable def C12_1 : Code := cl C12_0
noncomputable def C12_2 : Code := cr C12_0
noncomputable def K12_0 : Kont := kSeq (E12 C12_2 (kFin T Try.f12.results.toList)) (kFin T Try.f12.results.toList)
noncomputable def R12_0 (t0 : AV) (h : Heap) (k : AV → AV → Heap → Rs) : Rs :=
  pureK (binOpA T .neq 24 t0 AV.pnil) h fun v1 h1 =>
  k t0 v1 h1
noncomputable def C12_3 : Code := cl C12_2
noncomputable def C12_4 : Code := cr C12_2
noncomputable def R12_1 (t0 : AV) (h : Heap) (k : Heap → Rs) : Rs :=
  pureK (nilck t0) h fun v3 h3 =>
  pureK (faddr 2 v3) h3 fun v4 h4 =>
  pureK (ldV h4 v4) h4 fun v5 h5 =>
  efK (G40 [v5] h5) fun v6 h6 =>
  pureK (nilck t0) h6 fun v7 h7 =>
  pureK (faddr 1 v7) h7 fun v8 h8 =>
  stK (stV 1 h8 v8 v6) fun _ h9 =>
  pureK (nilck t0) h9 fun v10 h10 =>
  pureK (faddr 3 v10) h10 fun v11 h11 =>
  stK (stV 1 h11 v11 AV.snil) fun _ h12 =>
  k h12
noncomputable def G12_1 (t0 : AV) (h : Heap) : Rs := R12_1 t0 h fun h => some ((AV.tup []), h)
noncomputable def G12_0 (t0 : AV) (h : Heap) : Rs := R12_0 t0 h fun t0 t3 h => bcase t3 (G12_1 t0 h) (some ((AV.tup []), h))
noncomputable def G12 : AFn
  | [t0], h => G12_0 t0 h
  | _, _ => none
theorem q12_0 (fr : Fr) (h : Heap) : E12 C12_0 (kFin T Try.f12.results.toList) fr h = E12 C12_1 K12_0 fr h := stepSeq (by kernel_rfl) _ _ _
theorem r12_0 (K : Kont) (t0 : AV) (h : Heap) : E12 C12_1 K (frOf 15 [(0,t0)]) h = R12_0 t0 h (fun t0 t3 h => K .normal (frOf 15 [(0,t0),(3,t3)]) h) := by kernel_rfl
theorem n12_1 (fr : Fr) (h : Heap) : K12_0 .normal fr h = E12 C12_2 (kFin T Try.f12.results.toList) fr h := kSeq_n _ _ _ _
theorem r12_1 (K : Kont) (t0 : AV) (h : Heap) : E12 C12_3 K (frOf 15 [(0,t0)]) h = R12_1 t0 h (fun h => K .normal (frOf 15 []) h) := by kernel_rfl
theorem b12_1 (t0 : AV) (h : Heap) : E12 C12_3 (kFin T Try.f12.results.toList) (frOf 15 [(0,t0)]) h = G12_1 t0 h :=
  (r12_1 (kFin T Try.f12.results.toList) t0 h).trans (congrArg (R12_1 t0 h) (funext fun h => (by kernel_rfl)))
theorem b12_0 (t0 : AV) (h : Heap) : E12 C12_1 K12_0 (frOf 15 [(0,t0)]) h = G12_0 t0 h :=
  (r12_0 K12_0 t0 h).trans (congrArg (R12_0 t0 h) (funext fun t0 => funext fun t3 => funext fun h => (Eq.trans (n12_1 _ _) (Eq.trans (stepCond (c := C12_2) (by kernel_rfl) (kFin T Try.f12.results.toList) _ _ (v := t3) (by kernel_rfl)) (bcase_congr t3 (Eq.trans (stepClean (c := C12_3) (id := 1) (by kernel_rfl) (kFin T Try.f12.results.toList) _ _ (by kernel_rfl)) (b12_1 t0 h)) (Eq.trans (stepSkip (by kernel_rfl) (kFin T Try.f12.results.toList) _ _) (by kernel_rfl)))))))
theorem entry12 (t0 : AV) (h : Heap) : evFunc T PH12 L12 Try.f12 fuel [t0] h = E12 C12_0 (kFin T Try.f12.results.toList) (frOf 15 [(0,t0)]) h := by kernel_rfl
theorem e12 (t0 : AV) (h : Heap) : evFunc T PH12 L12 Try.f12 fuel [t0] h = G12 [t0] h := Eq.trans (entry12 t0 h) (Eq.trans (q12_0 _ _) (b12_0 t0 h))
set_option maxRecDepth 100000 in
theorem s12 : Sound Try.prog 12 G12 := (soundOf tok 12 Try.f12 rfl rfl (Φ := PH12) (allCons s40 allNil) L12 fuel).le fun args h r hr => by
  unfold G12 at hr; split at hr
  · exact (e12 _ h).trans (by unfold G12; exact hr)
  · cases hr
/- 13: (*delphi/disk.Disk).Move -/
def L13 : PM (List Nat) := .node (.node (.node (.node (.node (.leaf) (some [6]) (.leaf)) (some [0, 1, 2, 10]) (.leaf)) (some [0, 1, 2, 7]) (.node (.leaf) (some [0, 1, 2, 15]) (.leaf))) (some [0, 1, 2]) (.node (.node (.leaf) (some [6]) (.leaf)) (some [6]) (.node (.leaf) (some [6]) (.leaf)))) (some [0, 1, 2]) (.node (.node (.node (.leaf) (some []) (.leaf)) (some []) (.node (.leaf) (some []) (.leaf))) (some [0, 1, 2]) (.node (.node (.leaf) (some [0, 1, 2]) (.leaf)) (some [0, 1, 2]) (.node (.leaf) (some [0, 1, 2]) (.leaf))))
noncomputable def PH13 : List (Nat × AFn) := [(36, G36), (37, G37), (38, G38)]
noncomputable def E13 : Code → Kont → Fr → Heap → Rs := ev T PH13 L13 fuel
noncomputable def C13_0 : Code := bodyOf Try.f13
noncomputable def C13_1 : Code := cl C13_0
noncomputable def C13_2 : Code := cr C13_0
noncomputable def K13_0 : Kont := kSeq (E13 C13_2 (kFin T Try.f13.results.toList)) (kFin T Try.f13.results.toList)
noncomputable def R13_0 (t0 t1 t2 : AV) (h : Heap) (k : AV → AV → AV → Heap → Rs) : Rs :=
  k t0 t1 t2 h
noncomputable def C13_3 : Code := cl C13_2
noncomputable def C13_4 : Code := cr C13_2
noncomputable def K13_1 : Kont := kSeq (E13 C13_4 (kFin T Try.f13.results.toList)) (kFin T Try.f13.results.toList)
noncomputable def C13_5 : Code := cl C13_3
noncomputable def K13_2 : Kont := kBlock 0 K13_1
noncomputable def C13_6 : Code := cl C13_5
noncomputable def C13_7 : Code := cr C13_5
noncomputable def K13_3 : Kont := kSeq (E13 C13_7 K13_2) K13_2
noncomputable def R13_1 (t0 t1 t2 : AV) (h : Heap) (k : AV → AV → AV → AV → Heap → Rs) : Rs :=
  pureK (binOpA T .eql 24 t0 AV.pnil) h fun v1 h1 =>
  k t0 t1 t2 v1 h1
noncomputable def C13_8 : Code := cl C13_7
noncomputable def C13_9 : Code := cr C13_7
noncomputable def C13_10 : Code := cl C13_8
noncomputable def C13_11 : Code := cr C13_8
noncomputable def K13_4 : Kont := kSeq (E13 C13_11 K13_2) K13_2
noncomputable def C13_12 : Code := cl C13_9
noncomputable def C13_13 : Code := cr C13_9
noncomputable def K13_5 : Kont := kSeq (E13 C13_13 K13_2) K13_2
noncomputable def R13_2 (h : Heap) (k : AV → Heap → Rs) : Rs :=
  k (AV.int .i64 1) h
noncomputable def G13_2 (h : Heap) : Rs := R13_2 h fun t6 h => some (t6, h)
noncomputable def R13_3 (t0 t1 t2 : AV) (h : Heap) (k : AV → AV → AV → AV → Heap → Rs) : Rs :=
  efK (G37 [t0, t1] h) fun v2 h2 =>
  pureK (unOpA .not v2) h2 fun v3 h3 =>
  k t0 t1 t2 v3 h3
noncomputable def C13_14 : Code := cl C13_13
noncomputable def C13_15 : Code := cr C13_13
noncomputable def C13_16 : Code := cl C13_14
noncomputable def C13_17 : Code := cr C13_14
noncomputable def K13_6 : Kont := kSeq (E13 C13_17 K13_2) K13_2
noncomputable def C13_18 : Code := cl C13_15
noncomputable def C13_19 : Code := cr C13_15
noncomputable def K13_7 : Kont := kSeq (E13 C13_19 K13_2) K13_2
noncomputable def R13_4 (h : Heap) (k : AV → Heap → Rs) : Rs :=
  k (AV.int .i64 14) h
noncomputable def G13_4 (h : Heap) : Rs := R13_4 h fun t6 h => some (t6, h)
noncomputable def R13_5 (t0 t1 t2 : AV) (h : Heap) (k : AV → AV → AV → AV → Heap → Rs) : Rs :=
  efK (G36 [t2] h) fun v1 h1 =>
  pureK (unOpA .not v1) h1 fun v2 h2 =>
  k t0 t1 t2 v2 h2
noncomputable def C13_20 : Code := cl C13_19
noncomputable def C13_21 : Code := cr C13_19
noncomputable def C13_22 : Code := cl C13_20
noncomputable def C13_23 : Code := cr C13_20
noncomputable def K13_8 : Kont := kSeq (E13 C13_23 K13_2) K13_2
noncomputable def C13_24 : Code := cl C13_4
noncomputable def C13_25 : Code := cr C13_4
noncomputable def K13_9 : Kont := kSeq (E13 C13_25 (kFin T Try.f13.results.toList)) (kFin T Try.f13.results.toList)
noncomputable def R13_6 (h : Heap) (k : AV → Heap → Rs) : Rs :=
  k (AV.int .i64 3) h
noncomputable def G13_6 (h : Heap) : Rs := R13_6 h fun t6 h => some (t6, h)
noncomputable def R13_7 (t0 t1 t2 : AV) (h : Heap) (k : AV → Heap → Rs) : Rs :=
  pureK (bldP [(AV.int .i64 0), (AV.str []), (AV.str []), (AV.snil), (AV.int .i64 0)] [(0, 1, (AV.int .i64 3)), (1, 1, t1), (2, 1, t2)]) h fun v3 h3 =>
  efK (G38 [t0, v3] h3) fun v4 h4 =>
  k v4 h4
noncomputable def G13_7 (t0 t1 t2 : AV) (h : Heap) : Rs := R13_7 t0 t1 t2 h fun t6 h => some (t6, h)
noncomputable def G13_5 (t0 t1 t2 : AV) (h : Heap) : Rs := R13_5 t0 t1 t2 h fun t0 t1 t2 t15 h => bcase t15 (G13_6 h) (G13_7 t0 t1 t2 h)
noncomputable def G13_3 (t0 t1 t2 : AV) (h : Heap) : Rs := R13_3 t0 t1 t2 h fun t0 t1 t2 t10 h => bcase t10 (G13_4 h) (G13_5 t0 t1 t2 h)
noncomputable def G13_1 (t0 t1 t2 : AV) (h : Heap) : Rs := R13_1 t0 t1 t2 h fun t0 t1 t2 t7 h => bcase t7 (G13_2 h) (G13_3 t0 t1 t2 h)
noncomputable def G13_0 (t0 t1 t2 : AV) (h : Heap) : Rs := R13_0 t0 t1 t2 h fun t0 t1 t2 h => G13_1 t0 t1 t2 h
noncomputable def G13 : AFn
  | [t0, t1, t2], h => G13_0 t0 t1 t2 h
  | _, _ => none
theorem q13_0 (fr : Fr) (h : Heap) : E13 C13_0 (kFin T Try.f13.results.toList) fr h = E13 C13_1 K13_0 fr h := stepSeq (by kernel_rfl) _ _ _
theorem r13_0 (K : Kont) (t0 t1 t2 : AV) (h : Heap) : E13 C13_1 K (frOf 24 [(0,t0),(1,t1),(2,t2)]) h = R13_0 t0 t1 t2 h (fun t0 t1 t2 h => K .normal (frOf 24 [(0,t0),(1,t1),(2,t2)]) h) := by kernel_rfl
theorem n13_1 (fr : Fr) (h : Heap) : K13_0 .normal fr h = E13 C13_2 (kFin T Try.f13.results.toList) fr h := kSeq_n _ _ _ _
theorem q13_2 (fr : Fr) (h : Heap) : E13 C13_2 (kFin T Try.f13.results.toList) fr h = E13 C13_3 K13_1 fr h := stepSeq (by kernel_rfl) _ _ _
theorem q13_3 (fr : Fr) (h : Heap) : E13 C13_3 K13_1 fr h = E13 C13_5 K13_2 fr h := stepBlock (by kernel_rfl) _ _ _
theorem q13_4 (fr : Fr) (h : Heap) : E13 C13_5 K13_2 fr h = E13 C13_6 K13_3 fr h := stepSeq (by kernel_rfl) _ _ _
theorem r13_1 (K : Kont) (t0 t1 t2 : AV) (h : Heap) : E13 C13_6 K (frOf 24 [(0,t0),(1,t1),(2,t2)]) h = R13_1 t0 t1 t2 h (fun t0 t1 t2 t7 h => K .normal (frOf 24 [(0,t0),(1,t1),(2,t2),(7,t7)]) h) := by kernel_rfl
theorem n13_5 (fr : Fr) (h : Heap) : K13_3 .normal fr h = E13 C13_7 K13_2 fr h := kSeq_n _ _ _ _
theorem q13_6 (fr : Fr) (h : Heap) : E13 C13_8 K13_2 fr h = E13 C13_10 K13_4 fr h := stepSeq (by kernel_rfl) _ _ _
theorem q13_7 (fr : Fr) (h : Heap) : E13 C13_9 K13_2 fr h = E13 C13_12 K13_5 fr h := stepSeq (by kernel_rfl) _ _ _
theorem r13_2 (K : Kont) (h : Heap) : E13 C13_10 K (frOf 24 []) h = R13_2 h (fun t6 h => K .normal (frOf 24 [(6,t6)]) h) := by kernel_rfl
theorem n13_8 (fr : Fr) (h : Heap) : K13_4 .normal fr h = E13 C13_11 K13_2 fr h := kSeq_n _ _ _ _
theorem b13_2 (h : Heap) : E13 C13_10 K13_4 (frOf 24 []) h = G13_2 h :=
  (r13_2 K13_4 h).trans (congrArg (R13_2 h) (funext fun t6 => funext fun h => (Eq.trans (n13_8 _ _) (Eq.trans (stepRet (by kernel_rfl) K13_2 _ _) (Eq.trans (kBlock_r _ _ _ _) (Eq.trans (kSeq_r _ _ _ _) (by kernel_rfl)))))))
theorem r13_3 (K : Kont) (t0 t1 t2 : AV) (h : Heap) : E13 C13_12 K (frOf 24 [(0,t0),(1,t1),(2,t2)]) h = R13_3 t0 t1 t2 h (fun t0 t1 t2 t10 h => K .normal (frOf 24 [(0,t0),(1,t1),(2,t2),(10,t10)]) h) := by kernel_rfl
theorem n13_9 (fr : Fr) (h : Heap) : K13_5 .normal fr h = E13 C13_13 K13_2 fr h := kSeq_n _ _ _ _
theorem q13_10 (fr : Fr) (h : Heap) : E13 C13_14 K13_2 fr h = E13 C13_16 K13_6 fr h := stepSeq (by kernel_rfl) _ _ _
theorem q13_11 (fr : Fr) (h : Heap) : E13 C13_15 K13_2 fr h = E13 C13_18 K13_7 fr h := stepSeq (by kernel_rfl) _ _ _
theorem r13_4 (K : Kont) (h : Heap) : E13 C13_16 K (frOf 24 []) h = R13_4 h (fun t6 h => K .normal (frOf 24 [(6,t6)]) h) := by kernel_rfl
theorem n13_12 (fr : Fr) (h : Heap) : K13_6 .normal fr h = E13 C13_17 K13_2 fr h := kSeq_n _ _ _ _
theorem b13_4 (h : Heap) : E13 C13_16 K13_6 (frOf 24 []) h = G13_4 h :=
  (r13_4 K13_6 h).trans (congrArg (R13_4 h) (funext fun t6 => funext fun h => (Eq.trans (n13_12 _ _) (Eq.trans (stepRet (by kernel_rfl) K13_2 _ _) (Eq.trans (kBlock_r _ _ _ _) (Eq.trans (kSeq_r _ _ _ _) (by kernel_rfl)))))))
theorem r13_5 (K : Kont) (t0 t1 t2 : AV) (h : Heap) : E13 C13_18 K (frOf 24 [(0,t0),(1,t1),(2,t2)]) h = R13_5 t0 t1 t2 h (fun t0 t1 t2 t15 h => K .normal (frOf 24 [(0,t0),(1,t1),(2,t2),(15,t15)]) h) := by kernel_rfl
theorem n13_13 (fr : Fr) (h : Heap) : K13_7 .normal fr h = E13 C13_19 K13_2 fr h := kSeq_n _ _ _ _
theorem q13_14 (fr : Fr) (h : Heap) : E13 C13_20 K13_2 fr h = E13 C13_22 K13_8 fr h := stepSeq (by kernel_rfl) _ _ _
theorem n13_15 (fr : Fr) (h : Heap) : K13_1 .normal fr h = E13 C13_4 (kFin T Try.f13.results.toList) fr h := kSeq_n _ _ _ _
theorem q13_16 (fr : Fr) (h : Heap) : E13 C13_4 (kFin T Try.f13.results.toList) fr h = E13 C13_24 K13_9 fr h := stepSeq (by kernel_rfl) _ _ _
theorem r13_6 (K : Kont) (h : Heap) : E13 C13_22 K (frOf 24 []) h = R13_6 h (fun t6 h => K .normal (frOf 24 [(6,t6)]) h) := by kernel_rfl
theorem n13_17 (fr : Fr) (h : Heap) : K13_8 .normal fr h = E13 C13_23 K13_2 fr h := kSeq_n _ _ _ _
theorem b13_6 (h : Heap) : E13 C13_22 K13_8 (frOf 24 []) h = G13_6 h :=
  (r13_6 K13_8 h).trans (congrArg (R13_6 h) (funext fun t6 => funext fun h => (Eq.trans (n13_17 _ _) (Eq.trans (stepRet (by kernel_rfl) K13_2 _ _) (Eq.trans (kBlock_r _ _ _ _) (Eq.trans (kSeq_r _ _ _ _) (by kernel_rfl)))))))
theorem r13_7 (K : Kont) (t0 t1 t2 : AV) (h : Heap) : E13 C13_24 K (frOf 24 [(0,t0),(1,t1),(2,t2)]) h = R13_7 t0 t1 t2 h (fun t6 h => K .normal (frOf 24 [(6,t6)]) h) := by kernel_rfl
theorem n13_18 (fr : Fr) (h : Heap) : K13_9 .normal fr h = E13 C13_25 (kFin T Try.f13.results.toList) fr h := kSeq_n _ _ _ _
theorem b13_7 (t0 t1 t2 : AV) (h : Heap) : E13 C13_24 K13_9 (frOf 24 [(0,t0),(1,t1),(2,t2)]) h = G13_7 t0 t1 t2 h :=
  (r13_7 K13_9 t0 t1 t2 h).trans (congrArg (R13_7 t0 t1 t2 h) (funext fun t6 => funext fun h => (Eq.trans (n13_18 _ _) (Eq.trans (stepRet (by kernel_rfl) (kFin T Try.f13.results.toList) _ _) (by kernel_rfl)))))
theorem b13_5 (t0 t1 t2 : AV) (h : Heap) : E13 C13_18 K13_7 (frOf 24 [(0,t0),(1,t1),(2,t2)]) h = G13_5 t0 t1 t2 h :=
  (r13_5 K13_7 t0 t1 t2 h).trans (congrArg (R13_5 t0 t1 t2 h) (funext fun t0 => funext fun t1 => funext fun t2 => funext fun t15 => funext fun h => (Eq.trans (n13_13 _ _) (Eq.trans (stepCond (c := C13_19) (by kernel_rfl) K13_2 _ _ (v := t15) (by kernel_rfl)) (bcase_congr t15 (Eq.trans (q13_14 _ _) (Eq.trans (stepClean (c := C13_22) (id := 6) (by kernel_rfl) K13_8 _ _ (by kernel_rfl)) (b13_6 h))) (Eq.trans (stepSkip (by kernel_rfl) K13_2 _ _) (Eq.trans (kBlock_n _ _ _ _) (Eq.trans (n13_15 _ _) (Eq.trans (q13_16 _ _) (Eq.trans (stepClean (c := C13_24) (id := 7) (by kernel_rfl) K13_9 _ _ (by kernel_rfl)) (b13_7 t0 t1 t2 h)))))))))))
theorem b13_3 (t0 t1 t2 : AV) (h : Heap) : E13 C13_12 K13_5 (frOf 24 [(0,t0),(1,t1),(2,t2)]) h = G13_3 t0 t1 t2 h :=
  (r13_3 K13_5 t0 t1 t2 h).trans (congrArg (R13_3 t0 t1 t2 h) (funext fun t0 => funext fun t1 => funext fun t2 => funext fun t10 => funext fun h => (Eq.trans (n13_9 _ _) (Eq.trans (stepCond (c := C13_13) (by kernel_rfl) K13_2 _ _ (v := t10) (by kernel_rfl)) (bcase_congr t10 (Eq.trans (q13_10 _ _) (Eq.trans (stepClean (c := C13_16) (id := 4) (by kernel_rfl) K13_6 _ _ (by kernel_rfl)) (b13_4 h))) (Eq.trans (q13_11 _ _) (Eq.trans (stepClean (c := C13_18) (id := 5) (by kernel_rfl) K13_7 _ _ (by kernel_rfl)) (b13_5 t0 t1 t2 h))))))))
theorem b13_1 (t0 t1 t2 : AV) (h : Heap) : E13 C13_6 K13_3 (frOf 24 [(0,t0),(1,t1),(2,t2)]) h = G13_1 t0 t1 t2 h :=
  (r13_1 K13_3 t0 t1 t2 h).trans (congrArg (R13_1 t0 t1 t2 h) (funext fun t0 => funext fun t1 => funext fun t2 => funext fun t7 => funext fun h => (Eq.trans (n13_5 _ _) (Eq.trans (stepCond (c := C13_7) (by kernel_rfl) K13_2 _ _ (v := t7) (by kernel_rfl)) (bcase_congr t7 (Eq.trans (q13_6 _ _) (Eq.trans (stepClean (c := C13_10) (id := 2) (by kernel_rfl) K13_4 _ _ (by kernel_rfl)) (b13_2 h))) (Eq.trans (q13_7 _ _) (Eq.trans (stepClean (c := C13_12) (id := 3) (by kernel_rfl) K13_5 _ _ (by kernel_rfl)) (b13_3 t0 t1 t2 h))))))))
theorem b13_0 (t0 t1 t2 : AV) (h : Heap) : E13 C13_1 K13_0 (frOf 24 [(0,t0),(1,t1),(2,t2)]) h = G13_0 t0 t1 t2 h :=
  (r13_0 K13_0 t0 t1 t2 h).trans (congrArg (R13_0 t0 t1 t2 h) (funext fun t0 => funext fun t1 => funext fun t2 => funext fun h => (Eq.trans (n13_1 _ _) (Eq.trans (q13_2 _ _) (Eq.trans (q13_3 _ _) (Eq.trans (q13_4 _ _) (b13_1 t0 t1 t2 h)))))))
theorem entry13 (t0 t1 t2 : AV) (h : Heap) : evFunc T PH13 L13 Try.f13 fuel [t0, t1, t2] h = E13 C13_0 (kFin T Try.f13.results.toList) (frOf 24 [(0,t0),(1,t1),(2,t2)]) h := by kernel_rfl
theorem e13 (t0 t1 t2 : AV) (h : Heap) : evFunc T PH13 L13 Try.f13 fuel [t0, t1, t2] h = G13 [t0, t1, t2] h := Eq.trans (entry13 t0 t1 t2 h) (Eq.trans (q13_0 _ _) (b13_0 t0 t1 t2 h))
set_option maxRecDepth 100000 in
theorem s13 : Sound Try.prog 13 G13 := (soundOf tok 13 Try.f13 rfl rfl (Φ := PH13) (allCons s36 (allCons s37 (allCons s38 allNil))) L13 fuel).le fun args h r hr => by
  unfold G13 at hr; split at hr
  · exact (e13 _ _ _ h).trans (by unfold G13; exact hr)
  · cases hr
/- 16: (*delphi/disk.Disk).Room -/
def L16 : PM (List Nat) := .node (.node (.node (.leaf) (some []) (.leaf)) (some [0, 1, 5]) (.leaf)) (some [0, 1]) (.node (.leaf) (some [0, 1]) (.leaf))
noncomputable def PH16 : List (Nat × AFn) := [(35, G35)]
noncomputable def E16 : Code → Kont → Fr → Heap → Rs := ev T PH16 L16 fuel
noncomputable def C16_0 : Code := bodyOf Try.f16
noncomputable def C16_1 : Code := cl C16_0
noncomputable def C16_2 : Code := cr C16_0
noncomputable def K16_0 : Kont := kSeq (E16 C16_2 (kFin T Try.f16.results.toList)) (kFin T Try.f16.results.toList)
noncomputable def R16_0 (t0 t1 : AV) (h : Heap) (k : AV → AV → AV → Heap → Rs) : Rs :=
  pureK (binOpA T .neq 24 t0 AV.pnil) h fun v1 h1 =>
  k t0 t1 v1 h1
noncomputable def C16_3 : Code := cl C16_2
noncomputable def C16_4 : Code := cr C16_2
noncomputable def R16_1 (t0 t1 : AV) (h : Heap) (k : Heap → Rs) : Rs :=
  efK (G35 [t1] h) fun v2 h2 =>
  pureK (nilck t0) h2 fun v3 h3 =>
  pureK (faddr 0 v3) h3 fun v4 h4 =>
  stK (stV 1 h4 v4 v2) fun _ h5 =>
  k h5
noncomputable def G16_1 (t0 t1 : AV) (h : Heap) : Rs := R16_1 t0 t1 h fun h => some ((AV.tup []), h)
noncomputable def G16_0 (t0 t1 : AV) (h : Heap) : Rs := R16_0 t0 t1 h fun t0 t1 t5 h => bcase t5 (G16_1 t0 t1 h) (some ((AV.tup []), h))
noncomputable def G16 : AFn
  | [t0, t1], h => G16_0 t0 t1 h
  | _, _ => none
theorem q16_0 (fr : Fr) (h : Heap) : E16 C16_0 (kFin T Try.f16.results.toList) fr h = E16 C16_1 K16_0 fr h := stepSeq (by kernel_rfl) _ _ _
theorem r16_0 (K : Kont) (t0 t1 : AV) (h : Heap) : E16 C16_1 K (frOf 11 [(0,t0),(1,t1)]) h = R16_0 t0 t1 h (fun t0 t1 t5 h => K .normal (frOf 11 [(0,t0),(1,t1),(5,t5)]) h) := by kernel_rfl
theorem n16_1 (fr : Fr) (h : Heap) : K16_0 .normal fr h = E16 C16_2 (kFin T Try.f16.results.toList) fr h := kSeq_n _ _ _ _
theorem r16_1 (K : Kont) (t0 t1 : AV) (h : Heap) : E16 C16_3 K (frOf 11 [(0,t0),(1,t1)]) h = R16_1 t0 t1 h (fun h => K .normal (frOf 11 []) h) := by kernel_rfl
theorem b16_1 (t0 t1 : AV) (h : Heap) : E16 C16_3 (kFin T Try.f16.results.toList) (frOf 11 [(0,t0),(1,t1)]) h = G16_1 t0 t1 h :=
  (r16_1 (kFin T Try.f16.results.toList) t0 t1 h).trans (congrArg (R16_1 t0 t1 h) (funext fun h => (by kernel_rfl)))
theorem b16_0 (t0 t1 : AV) (h : Heap) : E16 C16_1 K16_0 (frOf 11 [(0,t0),(1,t1)]) h = G16_0 t0 t1 h :=
  (r16_0 K16_0 t0 t1 h).trans (congrArg (R16_0 t0 t1 h) (funext fun t0 => funext fun t1 => funext fun t5 => funext fun h => (Eq.trans (n16_1 _ _) (Eq.trans (stepCond (c := C16_2) (by kernel_rfl) (kFin T Try.f16.results.toList) _ _ (v := t5) (by kernel_rfl)) (bcase_congr t5 (Eq.trans (stepClean (c := C16_3) (id := 1) (by kernel_rfl) (kFin T Try.f16.results.toList) _ _ (by kernel_rfl)) (b16_1 t0 t1 h)) (Eq.trans (stepSkip (by kernel_rfl) (kFin T Try.f16.results.toList) _ _) (by kernel_rfl)))))))
theorem entry16 (t0 t1 : AV) (h : Heap) : evFunc T PH16 L16 Try.f16 fuel [t0, t1] h = E16 C16_0 (kFin T Try.f16.results.toList) (frOf 11 [(0,t0),(1,t1)]) h := by kernel_rfl
theorem e16 (t0 t1 : AV) (h : Heap) : evFunc T PH16 L16 Try.f16 fuel [t0, t1] h = G16 [t0, t1] h := Eq.trans (entry16 t0 t1 h) (Eq.trans (q16_0 _ _) (b16_0 t0 t1 h))
set_option maxRecDepth 100000 in
theorem s16 : Sound Try.prog 16 G16 := (soundOf tok 16 Try.f16 rfl rfl (Φ := PH16) (allCons s35 allNil) L16 fuel).le fun args h r hr => by
  unfold G16 at hr; split at hr
  · exact (e16 _ _ h).trans (by unfold G16; exact hr)
  · cases hr
/- 17: (*delphi/disk.Disk).Cut -/
def L17 : PM (List Nat) := .node (.node (.node (.node (.node (.leaf) (some [6]) (.leaf)) (some [0, 1, 2, 10]) (.leaf)) (some [0, 1, 2, 7]) (.node (.leaf) (some [0, 1, 2, 15]) (.leaf))) (some [0, 1, 2]) (.node (.node (.leaf) (some [6]) (.leaf)) (some [6]) (.node (.leaf) (some [6]) (.leaf)))) (some [0, 1, 2]) (.node (.node (.node (.leaf) (some []) (.leaf)) (some []) (.node (.leaf) (some []) (.leaf))) (some [0, 1, 2]) (.node (.node (.leaf) (some [0, 1, 2]) (.leaf)) (some [0, 1, 2]) (.node (.leaf) (some [0, 1, 2]) (.leaf))))
noncomputable def PH17 : List (Nat × AFn) := [(37, G37), (38, G38)]
noncomputable def E17 : Code → Kont → Fr → Heap → Rs := ev T PH17 L17 fuel
noncomputable def C17_0 : Code := bodyOf Try.f17
noncomputable def C17_1 : Code := cl C17_0
noncomputable def C17_2 : Code := cr C17_0
noncomputable def K17_0 : Kont := kSeq (E17 C17_2 (kFin T Try.f17.results.toList)) (kFin T Try.f17.results.toList)
noncomputable def R17_0 (t0 t1 t2 : AV) (h : Heap) (k : AV → AV → AV → Heap → Rs) : Rs :=
  k t0 t1 t2 h
noncomputable def C17_3 : Code := cl C17_2
noncomputable def C17_4 : Code := cr C17_2
noncomputable def K17_1 : Kont := kSeq (E17 C17_4 (kFin T Try.f17.results.toList)) (kFin T Try.f17.results.toList)
noncomputable def C17_5 : Code := cl C17_3
noncomputable def K17_2 : Kont := kBlock 0 K17_1
noncomputable def C17_6 : Code := cl C17_5
noncomputable def C17_7 : Code := cr C17_5
noncomputable def K17_3 : Kont := kSeq (E17 C17_7 K17_2) K17_2
noncomputable def R17_1 (t0 t1 t2 : AV) (h : Heap) (k : AV → AV → AV → AV → Heap → Rs) : Rs :=
  pureK (binOpA T .eql 24 t0 AV.pnil) h fun v1 h1 =>
  k t0 t1 t2 v1 h1
noncomputable def C17_8 : Code := cl C17_7
noncomputable def C17_9 : Code := cr C17_7
noncomputable def C17_10 : Code := cl C17_8
noncomputable def C17_11 : Code := cr C17_8
noncomputable def K17_4 : Kont := kSeq (E17 C17_11 K17_2) K17_2
noncomputable def C17_12 : Code := cl C17_9
noncomputable def C17_13 : Code := cr C17_9
noncomputable def K17_5 : Kont := kSeq (E17 C17_13 K17_2) K17_2
noncomputable def R17_2 (h : Heap) (k : AV → Heap → Rs) : Rs :=
  k (AV.int .i64 1) h
noncomputable def G17_2 (h : Heap) : Rs := R17_2 h fun t6 h => some (t6, h)
noncomputable def R17_3 (t0 t1 t2 : AV) (h : Heap) (k : AV → AV → AV → AV → Heap → Rs) : Rs :=
  efK (G37 [t0, t1] h) fun v2 h2 =>
  pureK (unOpA .not v2) h2 fun v3 h3 =>
  k t0 t1 t2 v3 h3
noncomputable def C17_14 : Code := cl C17_13
noncomputable def C17_15 : Code := cr C17_13
noncomputable def C17_16 : Code := cl C17_14
noncomputable def C17_17 : Code := cr C17_14
noncomputable def K17_6 : Kont := kSeq (E17 C17_17 K17_2) K17_2
noncomputable def C17_18 : Code := cl C17_15
noncomputable def C17_19 : Code := cr C17_15
noncomputable def K17_7 : Kont := kSeq (E17 C17_19 K17_2) K17_2
noncomputable def R17_4 (h : Heap) (k : AV → Heap → Rs) : Rs :=
  k (AV.int .i64 14) h
noncomputable def G17_4 (h : Heap) : Rs := R17_4 h fun t6 h => some (t6, h)
noncomputable def R17_5 (t0 t1 t2 : AV) (h : Heap) (k : AV → AV → AV → AV → Heap → Rs) : Rs :=
  pureK (binOpA T .lss 3 t2 (AV.int .i64 0)) h fun v1 h1 =>
  gcase v1
    (
      k t0 t1 t2 (AV.bool true) h1)
    (
      pureK (nilck t0) h1 fun v5 h5 =>
      pureK (faddr 2 v5) h5 fun v6 h6 =>
      pureK (ldV h6 v6) h6 fun v7 h7 =>
      pureK (lkp .str ((AV.snil)) h7 v7 t1 false) h7 fun v9 h9 =>
      pureK (lenSl v9) h9 fun v10 h10 =>
      pureK (binOpA T .gtr 3 t2 v10) h10 fun v11 h11 =>
      k t0 t1 t2 v11 h11)
    (
      none)
noncomputable def C17_20 : Code := cl C17_19
noncomputable def C17_21 : Code := cr C17_19
noncomputable def C17_22 : Code := cl C17_20
noncomputable def C17_23 : Code := cr C17_20
noncomputable def K17_8 : Kont := kSeq (E17 C17_23 K17_2) K17_2
noncomputable def C17_24 : Code := cl C17_4
noncomputable def C17_25 : Code := cr C17_4
noncomputable def K17_9 : Kont := kSeq (E17 C17_25 (kFin T Try.f17.results.toList)) (kFin T Try.f17.results.toList)
noncomputable def R17_6 (h : Heap) (k : AV → Heap → Rs) : Rs :=
  k (AV.int .i64 1) h
noncomputable def G17_6 (h : Heap) : Rs := R17_6 h fun t6 h => some (t6, h)
noncomputable def R17_7 (t0 t1 t2 : AV) (h : Heap) (k : AV → Heap → Rs) : Rs :=
  pureK (bldP [(AV.int .i64 0), (AV.str []), (AV.str []), (AV.snil), (AV.int .i64 0)] [(0, 1, (AV.int .i64 1)), (1, 1, t1), (4, 1, t2)]) h fun v3 h3 =>
  efK (G38 [t0, v3] h3) fun v4 h4 =>
  k v4 h4
noncomputable def G17_7 (t0 t1 t2 : AV) (h : Heap) : Rs := R17_7 t0 t1 t2 h fun t6 h => some (t6, h)
noncomputable def G17_5 (t0 t1 t2 : AV) (h : Heap) : Rs := R17_5 t0 t1 t2 h fun t0 t1 t2 t15 h => bcase t15 (G17_6 h) (G17_7 t0 t1 t2 h)
noncomputable def G17_3 (t0 t1 t2 : AV) (h : Heap) : Rs := R17_3 t0 t1 t2 h fun t0 t1 t2 t10 h => bcase t10 (G17_4 h) (G17_5 t0 t1 t2 h)
noncomputable def G17_1 (t0 t1 t2 : AV) (h : Heap) : Rs := R17_1 t0 t1 t2 h fun t0 t1 t2 t7 h => bcase t7 (G17_2 h) (G17_3 t0 t1 t2 h)
noncomputable def G17_0 (t0 t1 t2 : AV) (h : Heap) : Rs := R17_0 t0 t1 t2 h fun t0 t1 t2 h => G17_1 t0 t1 t2 h
noncomputable def G17 : AFn
  | [t0, t1, t2], h => G17_0 t0 t1 t2 h
  | _, _ => none
theorem q17_0 (fr : Fr) (h : Heap) : E17 C17_0 (kFin T Try.f17.results.toList) fr h = E17 C17_1 K17_0 fr h := stepSeq (by kernel_rfl) _ _ _
theorem r17_0 (K : Kont) (t0 t1 t2 : AV) (h : Heap) : E17 C17_1 K (frOf 34 [(0,t0),(1,t1),(2,t2)]) h = R17_0 t0 t1 t2 h (fun t0 t1 t2 h => K .normal (frOf 34 [(0,t0),(1,t1),(2,t2)]) h) := by kernel_rfl
theorem n17_1 (fr : Fr) (h : Heap) : K17_0 .normal fr h = E17 C17_2 (kFin T Try.f17.results.toList) fr h := kSeq_n _ _ _ _
theorem q17_2 (fr : Fr) (h : Heap) : E17 C17_2 (kFin T Try.f17.results.toList) fr h = E17 C17_3 K17_1 fr h := stepSeq (by kernel_rfl) _ _ _
theorem q17_3 (fr : Fr) (h : Heap) : E17 C17_3 K17_1 fr h = E17 C17_5 K17_2 fr h := stepBlock (by kernel_rfl) _ _ _
theorem q17_4 (fr : Fr) (h : Heap) : E17 C17_5 K17_2 fr h = E17 C17_6 K17_3 fr h := stepSeq (by kernel_rfl) _ _ _
theorem r17_1 (K : Kont) (t0 t1 t2 : AV) (h : Heap) : E17 C17_6 K (frOf 34 [(0,t0),(1,t1),(2,t2)]) h = R17_1 t0 t1 t2 h (fun t0 t1 t2 t7 h => K .normal (frOf 34 [(0,t0),(1,t1),(2,t2),(7,t7)]) h) := by kernel_rfl
theorem n17_5 (fr : Fr) (h : Heap) : K17_3 .normal fr h = E17 C17_7 K17_2 fr h := kSeq_n _ _ _ _
theorem q17_6 (fr : Fr) (h : Heap) : E17 C17_8 K17_2 fr h = E17 C17_10 K17_4 fr h := stepSeq (by kernel_rfl) _ _ _
theorem q17_7 (fr : Fr) (h : Heap) : E17 C17_9 K17_2 fr h = E17 C17_12 K17_5 fr h := stepSeq (by kernel_rfl) _ _ _
theorem r17_2 (K : Kont) (h : Heap) : E17 C17_10 K (frOf 34 []) h = R17_2 h (fun t6 h => K .normal (frOf 34 [(6,t6)]) h) := by kernel_rfl
theorem n17_8 (fr : Fr) (h : Heap) : K17_4 .normal fr h = E17 C17_11 K17_2 fr h := kSeq_n _ _ _ _
theorem b17_2 (h : Heap) : E17 C17_10 K17_4 (frOf 34 []) h = G17_2 h :=
  (r17_2 K17_4 h).trans (congrArg (R17_2 h) (funext fun t6 => funext fun h => (Eq.trans (n17_8 _ _) (Eq.trans (stepRet (by kernel_rfl) K17_2 _ _) (Eq.trans (kBlock_r _ _ _ _) (Eq.trans (kSeq_r _ _ _ _) (by kernel_rfl)))))))
theorem r17_3 (K : Kont) (t0 t1 t2 : AV) (h : Heap) : E17 C17_12 K (frOf 34 [(0,t0),(1,t1),(2,t2)]) h = R17_3 t0 t1 t2 h (fun t0 t1 t2 t10 h => K .normal (frOf 34 [(0,t0),(1,t1),(2,t2),(10,t10)]) h) := by kernel_rfl
theorem n17_9 (fr : Fr) (h : Heap) : K17_5 .normal fr h = E17 C17_13 K17_2 fr h := kSeq_n _ _ _ _
theorem q17_10 (fr : Fr) (h : Heap) : E17 C17_14 K17_2 fr h = E17 C17_16 K17_6 fr h := stepSeq (by kernel_rfl) _ _ _
theorem q17_11 (fr : Fr) (h : Heap) : E17 C17_15 K17_2 fr h = E17 C17_18 K17_7 fr h := stepSeq (by kernel_rfl) _ _ _
theorem r17_4 (K : Kont) (h : Heap) : E17 C17_16 K (frOf 34 []) h = R17_4 h (fun t6 h => K .normal (frOf 34 [(6,t6)]) h) := by kernel_rfl
theorem n17_12 (fr : Fr) (h : Heap) : K17_6 .normal fr h = E17 C17_17 K17_2 fr h := kSeq_n _ _ _ _
theorem b17_4 (h : Heap) : E17 C17_16 K17_6 (frOf 34 []) h = G17_4 h :=
  (r17_4 K17_6 h).trans (congrArg (R17_4 h) (funext fun t6 => funext fun h => (Eq.trans (n17_12 _ _) (Eq.trans (stepRet (by kernel_rfl) K17_2 _ _) (Eq.trans (kBlock_r _ _ _ _) (Eq.trans (kSeq_r _ _ _ _) (by kernel_rfl)))))))
theorem r17_5 (K : Kont) (t0 t1 t2 : AV) (h : Heap) : E17 C17_18 K (frOf 34 [(0,t0),(1,t1),(2,t2)]) h = R17_5 t0 t1 t2 h (fun t0 t1 t2 t15 h => K .normal (frOf 34 [(0,t0),(1,t1),(2,t2),(15,t15)]) h) := by kernel_rfl
theorem n17_13 (fr : Fr) (h : Heap) : K17_7 .normal fr h = E17 C17_19 K17_2 fr h := kSeq_n _ _ _ _
theorem q17_14 (fr : Fr) (h : Heap) : E17 C17_20 K17_2 fr h = E17 C17_22 K17_8 fr h := stepSeq (by kernel_rfl) _ _ _
theorem n17_15 (fr : Fr) (h : Heap) : K17_1 .normal fr h = E17 C17_4 (kFin T Try.f17.results.toList) fr h := kSeq_n _ _ _ _
theorem q17_16 (fr : Fr) (h : Heap) : E17 C17_4 (kFin T Try.f17.results.toList) fr h = E17 C17_24 K17_9 fr h := stepSeq (by kernel_rfl) _ _ _
theorem r17_6 (K : Kont) (h : Heap) : E17 C17_22 K (frOf 34 []) h = R17_6 h (fun t6 h => K .normal (frOf 34 [(6,t6)]) h) := by kernel_rfl
theorem n17_17 (fr : Fr) (h : Heap) : K17_8 .normal fr h = E17 C17_23 K17_2 fr h := kSeq_n _ _ _ _
theorem b17_6 (h : Heap) : E17 C17_22 K17_8 (frOf 34 []) h = G17_6 h :=
  (r17_6 K17_8 h).trans (congrArg (R17_6 h) (funext fun t6 => funext fun h => (Eq.trans (n17_17 _ _) (Eq.trans (stepRet (by kernel_rfl) K17_2 _ _) (Eq.trans (kBlock_r _ _ _ _) (Eq.trans (kSeq_r _ _ _ _) (by kernel_rfl)))))))
theorem r17_7 (K : Kont) (t0 t1 t2 : AV) (h : Heap) : E17 C17_24 K (frOf 34 [(0,t0),(1,t1),(2,t2)]) h = R17_7 t0 t1 t2 h (fun t6 h => K .normal (frOf 34 [(6,t6)]) h) := by kernel_rfl
theorem n17_18 (fr : Fr) (h : Heap) : K17_9 .normal fr h = E17 C17_25 (kFin T Try.f17.results.toList) fr h := kSeq_n _ _ _ _
theorem b17_7 (t0 t1 t2 : AV) (h : Heap) : E17 C17_24 K17_9 (frOf 34 [(0,t0),(1,t1),(2,t2)]) h = G17_7 t0 t1 t2 h :=
  (r17_7 K17_9 t0 t1 t2 h).trans (congrArg (R17_7 t0 t1 t2 h) (funext fun t6 => funext fun h => (Eq.trans (n17_18 _ _) (Eq.trans (stepRet (by kernel_rfl) (kFin T Try.f17.results.toList) _ _) (by kernel_rfl)))))
theorem b17_5 (t0 t1 t2 : AV) (h : Heap) : E17 C17_18 K17_7 (frOf 34 [(0,t0),(1,t1),(2,t2)]) h = G17_5 t0 t1 t2 h :=
  (r17_5 K17_7 t0 t1 t2 h).trans (congrArg (R17_5 t0 t1 t2 h) (funext fun t0 => funext fun t1 => funext fun t2 => funext fun t15 => funext fun h => (Eq.trans (n17_13 _ _) (Eq.trans (stepCond (c := C17_19) (by kernel_rfl) K17_2 _ _ (v := t15) (by kernel_rfl)) (bcase_congr t15 (Eq.trans (q17_14 _ _) (Eq.trans (stepClean (c := C17_22) (id := 6) (by kernel_rfl) K17_8 _ _ (by kernel_rfl)) (b17_6 h))) (Eq.trans (stepSkip (by kernel_rfl) K17_2 _ _) (Eq.trans (kBlock_n _ _ _ _) (Eq.trans (n17_15 _ _) (Eq.trans (q17_16 _ _) (Eq.trans (stepClean (c := C17_24) (id := 7) (by kernel_rfl) K17_9 _ _ (by kernel_rfl)) (b17_7 t0 t1 t2 h)))))))))))
theorem b17_3 (t0 t1 t2 : AV) (h : Heap) : E17 C17_12 K17_5 (frOf 34 [(0,t0),(1,t1),(2,t2)]) h = G17_3 t0 t1 t2 h :=
  (r17_3 K17_5 t0 t1 t2 h).trans (congrArg (R17_3 t0 t1 t2 h) (funext fun t0 => funext fun t1 => funext fun t2 => funext fun t10 => funext fun h => (Eq.trans (n17_9 _ _) (Eq.trans (stepCond (c := C17_13) (by kernel_rfl) K17_2 _ _ (v := t10) (by kernel_rfl)) (bcase_congr t10 (Eq.trans (q17_10 _ _) (Eq.trans (stepClean (c := C17_16) (id := 4) (by kernel_rfl) K17_6 _ _ (by kernel_rfl)) (b17_4 h))) (Eq.trans (q17_11 _ _) (Eq.trans (stepClean (c := C17_18) (id := 5) (by kernel_rfl) K17_7 _ _ (by kernel_rfl)) (b17_5 t0 t1 t2 h))))))))
theorem b17_1 (t0 t1 t2 : AV) (h : Heap) : E17 C17_6 K17_3 (frOf 34 [(0,t0),(1,t1),(2,t2)]) h = G17_1 t0 t1 t2 h :=
  (r17_1 K17_3 t0 t1 t2 h).trans (congrArg (R17_1 t0 t1 t2 h) (funext fun t0 => funext fun t1 => funext fun t2 => funext fun t7 => funext fun h => (Eq.trans (n17_5 _ _) (Eq.trans (stepCond (c := C17_7) (by kernel_rfl) K17_2 _ _ (v := t7) (by kernel_rfl)) (bcase_congr t7 (Eq.trans (q17_6 _ _) (Eq.trans (stepClean (c := C17_10) (id := 2) (by kernel_rfl) K17_4 _ _ (by kernel_rfl)) (b17_2 h))) (Eq.trans (q17_7 _ _) (Eq.trans (stepClean (c := C17_12) (id := 3) (by kernel_rfl) K17_5 _ _ (by kernel_rfl)) (b17_3 t0 t1 t2 h))))))))
theorem b17_0 (t0 t1 t2 : AV) (h : Heap) : E17 C17_1 K17_0 (frOf 34 [(0,t0),(1,t1),(2,t2)]) h = G17_0 t0 t1 t2 h :=
  (r17_0 K17_0 t0 t1 t2 h).trans (congrArg (R17_0 t0 t1 t2 h) (funext fun t0 => funext fun t1 => funext fun t2 => funext fun h => (Eq.trans (n17_1 _ _) (Eq.trans (q17_2 _ _) (Eq.trans (q17_3 _ _) (Eq.trans (q17_4 _ _) (b17_1 t0 t1 t2 h)))))))
theorem entry17 (t0 t1 t2 : AV) (h : Heap) : evFunc T PH17 L17 Try.f17 fuel [t0, t1, t2] h = E17 C17_0 (kFin T Try.f17.results.toList) (frOf 34 [(0,t0),(1,t1),(2,t2)]) h := by kernel_rfl
theorem e17 (t0 t1 t2 : AV) (h : Heap) : evFunc T PH17 L17 Try.f17 fuel [t0, t1, t2] h = G17 [t0, t1, t2] h := Eq.trans (entry17 t0 t1 t2 h) (Eq.trans (q17_0 _ _) (b17_0 t0 t1 t2 h))
set_option maxRecDepth 100000 in
theorem s17 : Sound Try.prog 17 G17 := (soundOf tok 17 Try.f17 rfl rfl (Φ := PH17) (allCons s37 (allCons s38 allNil)) L17 fuel).le fun args h r hr => by
  unfold G17 at hr; split at hr
  · exact (e17 _ _ _ h).trans (by unfold G17; exact hr)
  · cases hr
end Go.Ab
