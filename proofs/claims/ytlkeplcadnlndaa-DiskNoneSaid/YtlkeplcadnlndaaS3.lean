/- Printed by a program of the session's own: shallow forms of the program's functions, and that the machine answers as they do. Conditions: none. -/
import Derived.Test.YtlkeplcadnlndaaS2
import Derived.Test.YtlkeplcadnlndaaAb26
import Derived.KernelRfl
set_option linter.unusedSimpArgs false
set_option linter.unusedVariables false
set_option autoImplicit false
set_option linter.unusedVariables false
namespace Go.Ab
open Go.Proofs
/- 9: delphi/delphilaw3.begun -/
def L9 : PM (List Nat) := .node (.node (.node (.node (.node (.leaf) (some [0]) (.leaf)) (some [0]) (.leaf)) (some [1]) (.node (.leaf) (some [1, 2, 3]) (.leaf))) (some []) (.node (.node (.leaf) (some [1, 2]) (.leaf)) (some [1, 8]) (.node (.leaf) (some [1, 2, 4, 5]) (.leaf)))) (some []) (.node (.node (.node (.leaf) (some [1]) (.leaf)) (some [1]) (.node (.leaf) (some [1, 2, 3]) (.leaf))) (some []) (.node (.node (.leaf) (some [1, 2]) (.leaf)) (some []) (.node (.leaf) (some [1, 2, 4, 5]) (.leaf))))
noncomputable def PH9 : List (Nat × AFn) := [(10, G10), (11, G11), (14, G14), (15, G15), (18, G18), (19, G19), (20, G20), (21, G21)]
noncomputable def E9 : Code → Kont → Fr → Heap → Rs := ev T PH9 L9 fuel
noncomputable def C9_0 : Code := bodyOf Try.f9
noncomputable def C9_1 : Code := cl C9_0
noncomputable def C9_2 : Code := cr C9_0
noncomputable def K9_0 : Kont := kSeq (E9 C9_2 (kFin T Try.f9.results.toList)) (kFin T Try.f9.results.toList)
noncomputable def R9_0 (h : Heap) (k : Heap → Rs) : Rs :=
  k h
noncomputable def C9_3 : Code := cl C9_2
noncomputable def C9_4 : Code := cr C9_2
noncomputable def K9_1 : Kont := kSeq (E9 C9_4 (kFin T Try.f9.results.toList)) (kFin T Try.f9.results.toList)
noncomputable def R9_1 (h : Heap) (k : AV → Heap → Rs) : Rs :=
  efK (G10 [(AV.int .i64 100)] h) fun v0 h0 =>
  k v0 h0
noncomputable def C9_5 : Code := cl C9_4
noncomputable def C9_6 : Code := cr C9_4
noncomputable def K9_2 : Kont := kSeq (E9 C9_6 (kFin T Try.f9.results.toList)) (kFin T Try.f9.results.toList)
noncomputable def C9_7 : Code := cl C9_5
noncomputable def C9_8 : Code := cr C9_5
noncomputable def K9_3 : Kont := kSeq (E9 C9_8 K9_2) K9_2
noncomputable def R9_2 (t1 : AV) (h : Heap) (k : AV → AV → Heap → Rs) : Rs :=
  pureK (binOpA T .eql 24 t1 AV.pnil) h fun v1 h1 =>
  k t1 v1 h1
noncomputable def C9_9 : Code := cl C9_8
noncomputable def C9_10 : Code := cr C9_8
noncomputable def C9_11 : Code := cl C9_9
noncomputable def C9_12 : Code := cr C9_9
noncomputable def K9_4 : Kont := kSeq (E9 C9_12 K9_2) K9_2
noncomputable def C9_13 : Code := cl C9_6
noncomputable def C9_14 : Code := cr C9_6
noncomputable def K9_5 : Kont := kSeq (E9 C9_14 (kFin T Try.f9.results.toList)) (kFin T Try.f9.results.toList)
noncomputable def R9_3 (h : Heap) (k : AV → Heap → Rs) : Rs :=
  k (AV.bool false) h
noncomputable def G9_3 (h : Heap) : Rs := R9_3 h fun t0 h => some (t0, h)
noncomputable def R9_4 (t1 : AV) (h : Heap) (k : AV → AV → Heap → Rs) : Rs :=
  alK (bldSl [(AV.int .u8 0), (AV.int .u8 0), (AV.int .u8 0)] 3 [(0, 1, (AV.int .u8 120)), (1, 1, (AV.int .u8 121)), (2, 1, (AV.int .u8 122))]) h fun v1 h1 =>
  pureK (convertA T h1 22 22 v1) h1 fun v2 h2 =>
  efK (G11 [t1, (AV.str [97]), v2] h2) fun v3 h3 =>
  k t1 v3 h3
noncomputable def C9_15 : Code := cl C9_14
noncomputable def C9_16 : Code := cr C9_14
noncomputable def K9_6 : Kont := kSeq (E9 C9_16 (kFin T Try.f9.results.toList)) (kFin T Try.f9.results.toList)
noncomputable def R9_5 (t1 t2 : AV) (h : Heap) (k : AV → AV → AV → Heap → Rs) : Rs :=
  efK (G14 [t1, (AV.int .i64 0), (AV.int .i64 2)] h) fun v1 h1 =>
  k t1 t2 v1 h1
noncomputable def C9_17 : Code := cl C9_16
noncomputable def C9_18 : Code := cr C9_16
noncomputable def K9_7 : Kont := kSeq (E9 C9_18 (kFin T Try.f9.results.toList)) (kFin T Try.f9.results.toList)
noncomputable def R9_6 (t1 t2 t3 : AV) (h : Heap) (k : AV → AV → AV → AV → Heap → Rs) : Rs :=
  efK (G15 [t3, (AV.str [97])] h) fun v1 h1 =>
  pureK (extr v1 0) h1 fun v3 h3 =>
  pureK (extr v1 1) h3 fun v4 h4 =>
  k t1 t2 v3 v4 h4
noncomputable def C9_19 : Code := cl C9_18
noncomputable def C9_20 : Code := cr C9_18
noncomputable def K9_8 : Kont := kSeq (E9 C9_20 (kFin T Try.f9.results.toList)) (kFin T Try.f9.results.toList)
noncomputable def R9_7 (t1 t2 t4 t5 : AV) (h : Heap) (k : AV → Heap → Rs) : Rs :=
  pureK (binOpA T .eql 26 t2 (AV.int .i64 0)) h fun v1 h1 =>
  gcase v1
    (
      gcase t5
        (
          pureK (cvtB h1 t4) h1 fun v7 h7 =>
          pureK (binOpA T .eql 9 v7 (AV.str [120, 121])) h7 fun v8 h8 =>
          gcase v8
            (
              efK (G20 [t1] h8) fun v12 h12 =>
              pureK (binOpA T .eql 3 v12 (AV.int .i64 3)) h12 fun v13 h13 =>
              gcase v13
                (
                  efK (G21 [t1] h13) fun v17 h17 =>
                  pureK (binOpA T .eql 3 v17 (AV.int .i64 1)) h17 fun v18 h18 =>
                  gcase v18
                    (
                      efK (G18 [t1, (AV.str [98])] h18) fun v22 h22 =>
                      pureK (binOpA T .eql 26 v22 (AV.int .i64 14)) h22 fun v23 h23 =>
                      gcase v23
                        (
                          efK (G19 [t1] h23) fun v27 h27 =>
                          pureK (lenSl v27) h27 fun v28 h28 =>
                          pureK (binOpA T .eql 3 v28 (AV.int .i64 1)) h28 fun v29 h29 =>
                          k v29 h29)
                        (
                          k (AV.bool false) h23)
                        (
                          none))
                    (
                      k (AV.bool false) h18)
                    (
                      none))
                (
                  k (AV.bool false) h13)
                (
                  none))
            (
              k (AV.bool false) h8)
            (
              none))
        (
          k (AV.bool false) h1)
        (
          none))
    (
      k (AV.bool false) h1)
    (
      none)
noncomputable def G9_7 (t1 t2 t4 t5 : AV) (h : Heap) : Rs := R9_7 t1 t2 t4 t5 h fun t0 h => some (t0, h)
noncomputable def G9_6 (t1 t2 t3 : AV) (h : Heap) : Rs := R9_6 t1 t2 t3 h fun t1 t2 t4 t5 h => G9_7 t1 t2 t4 t5 h
noncomputable def G9_5 (t1 t2 : AV) (h : Heap) : Rs := R9_5 t1 t2 h fun t1 t2 t3 h => G9_6 t1 t2 t3 h
noncomputable def G9_4 (t1 : AV) (h : Heap) : Rs := R9_4 t1 h fun t1 t2 h => G9_5 t1 t2 h
noncomputable def G9_2 (t1 : AV) (h : Heap) : Rs := R9_2 t1 h fun t1 t8 h => bcase t8 (G9_3 h) (G9_4 t1 h)
noncomputable def G9_1 (h : Heap) : Rs := R9_1 h fun t1 h => G9_2 t1 h
noncomputable def G9_0 (h : Heap) : Rs := R9_0 h fun h => G9_1 h
noncomputable def G9 : AFn
  | [], h => G9_0 h
  | _, _ => none
theorem q9_0 (fr : Fr) (h : Heap) : E9 C9_0 (kFin T Try.f9.results.toList) fr h = E9 C9_1 K9_0 fr h := stepSeq (by kernel_rfl) _ _ _
theorem r9_0 (K : Kont) (h : Heap) : E9 C9_1 K (frOf 51 []) h = R9_0 h (fun h => K .normal (frOf 51 []) h) := by kernel_rfl
theorem n9_1 (fr : Fr) (h : Heap) : K9_0 .normal fr h = E9 C9_2 (kFin T Try.f9.results.toList) fr h := kSeq_n _ _ _ _
theorem q9_2 (fr : Fr) (h : Heap) : E9 C9_2 (kFin T Try.f9.results.toList) fr h = E9 C9_3 K9_1 fr h := stepSeq (by kernel_rfl) _ _ _
theorem r9_1 (K : Kont) (h : Heap) : E9 C9_3 K (frOf 51 []) h = R9_1 h (fun t1 h => K .normal (frOf 51 [(1,t1)]) h) := by kernel_rfl
theorem n9_3 (fr : Fr) (h : Heap) : K9_1 .normal fr h = E9 C9_4 (kFin T Try.f9.results.toList) fr h := kSeq_n _ _ _ _
theorem q9_4 (fr : Fr) (h : Heap) : E9 C9_4 (kFin T Try.f9.results.toList) fr h = E9 C9_5 K9_2 fr h := stepSeq (by kernel_rfl) _ _ _
theorem q9_5 (fr : Fr) (h : Heap) : E9 C9_5 K9_2 fr h = E9 C9_7 K9_3 fr h := stepSeq (by kernel_rfl) _ _ _
theorem r9_2 (K : Kont) (t1 : AV) (h : Heap) : E9 C9_7 K (frOf 51 [(1,t1)]) h = R9_2 t1 h (fun t1 t8 h => K .normal (frOf 51 [(1,t1),(8,t8)]) h) := by kernel_rfl
theorem n9_6 (fr : Fr) (h : Heap) : K9_3 .normal fr h = E9 C9_8 K9_2 fr h := kSeq_n _ _ _ _
theorem q9_7 (fr : Fr) (h : Heap) : E9 C9_9 K9_2 fr h = E9 C9_11 K9_4 fr h := stepSeq (by kernel_rfl) _ _ _
theorem n9_8 (fr : Fr) (h : Heap) : K9_2 .normal fr h = E9 C9_6 (kFin T Try.f9.results.toList) fr h := kSeq_n _ _ _ _
theorem q9_9 (fr : Fr) (h : Heap) : E9 C9_6 (kFin T Try.f9.results.toList) fr h = E9 C9_13 K9_5 fr h := stepSeq (by kernel_rfl) _ _ _
theorem r9_3 (K : Kont) (h : Heap) : E9 C9_11 K (frOf 51 []) h = R9_3 h (fun t0 h => K .normal (frOf 51 [(0,t0)]) h) := by kernel_rfl
theorem n9_10 (fr : Fr) (h : Heap) : K9_4 .normal fr h = E9 C9_12 K9_2 fr h := kSeq_n _ _ _ _
theorem b9_3 (h : Heap) : E9 C9_11 K9_4 (frOf 51 []) h = G9_3 h :=
  (r9_3 K9_4 h).trans (congrArg (R9_3 h) (funext fun t0 => funext fun h => (Eq.trans (n9_10 _ _) (Eq.trans (stepRet (by kernel_rfl) K9_2 _ _) (Eq.trans (kSeq_r _ _ _ _) (by kernel_rfl))))))
theorem r9_4 (K : Kont) (t1 : AV) (h : Heap) : E9 C9_13 K (frOf 51 [(1,t1)]) h = R9_4 t1 h (fun t1 t2 h => K .normal (frOf 51 [(1,t1),(2,t2)]) h) := by kernel_rfl
theorem n9_11 (fr : Fr) (h : Heap) : K9_5 .normal fr h = E9 C9_14 (kFin T Try.f9.results.toList) fr h := kSeq_n _ _ _ _
theorem q9_12 (fr : Fr) (h : Heap) : E9 C9_14 (kFin T Try.f9.results.toList) fr h = E9 C9_15 K9_6 fr h := stepSeq (by kernel_rfl) _ _ _
theorem r9_5 (K : Kont) (t1 t2 : AV) (h : Heap) : E9 C9_15 K (frOf 51 [(1,t1),(2,t2)]) h = R9_5 t1 t2 h (fun t1 t2 t3 h => K .normal (frOf 51 [(1,t1),(2,t2),(3,t3)]) h) := by kernel_rfl
theorem n9_13 (fr : Fr) (h : Heap) : K9_6 .normal fr h = E9 C9_16 (kFin T Try.f9.results.toList) fr h := kSeq_n _ _ _ _
theorem q9_14 (fr : Fr) (h : Heap) : E9 C9_16 (kFin T Try.f9.results.toList) fr h = E9 C9_17 K9_7 fr h := stepSeq (by kernel_rfl) _ _ _
theorem r9_6 (K : Kont) (t1 t2 t3 : AV) (h : Heap) : E9 C9_17 K (frOf 51 [(1,t1),(2,t2),(3,t3)]) h = R9_6 t1 t2 t3 h (fun t1 t2 t4 t5 h => K .normal (frOf 51 [(1,t1),(2,t2),(4,t4),(5,t5)]) h) := by kernel_rfl
theorem n9_15 (fr : Fr) (h : Heap) : K9_7 .normal fr h = E9 C9_18 (kFin T Try.f9.results.toList) fr h := kSeq_n _ _ _ _
theorem q9_16 (fr : Fr) (h : Heap) : E9 C9_18 (kFin T Try.f9.results.toList) fr h = E9 C9_19 K9_8 fr h := stepSeq (by kernel_rfl) _ _ _
theorem r9_7 (K : Kont) (t1 t2 t4 t5 : AV) (h : Heap) : E9 C9_19 K (frOf 51 [(1,t1),(2,t2),(4,t4),(5,t5)]) h = R9_7 t1 t2 t4 t5 h (fun t0 h => K .normal (frOf 51 [(0,t0)]) h) := by kernel_rfl
theorem n9_17 (fr : Fr) (h : Heap) : K9_8 .normal fr h = E9 C9_20 (kFin T Try.f9.results.toList) fr h := kSeq_n _ _ _ _
theorem b9_7 (t1 t2 t4 t5 : AV) (h : Heap) : E9 C9_19 K9_8 (frOf 51 [(1,t1),(2,t2),(4,t4),(5,t5)]) h = G9_7 t1 t2 t4 t5 h :=
  (r9_7 K9_8 t1 t2 t4 t5 h).trans (congrArg (R9_7 t1 t2 t4 t5 h) (funext fun t0 => funext fun h => (Eq.trans (n9_17 _ _) (Eq.trans (stepRet (by kernel_rfl) (kFin T Try.f9.results.toList) _ _) (by kernel_rfl)))))
theorem b9_6 (t1 t2 t3 : AV) (h : Heap) : E9 C9_17 K9_7 (frOf 51 [(1,t1),(2,t2),(3,t3)]) h = G9_6 t1 t2 t3 h :=
  (r9_6 K9_7 t1 t2 t3 h).trans (congrArg (R9_6 t1 t2 t3 h) (funext fun t1 => funext fun t2 => funext fun t4 => funext fun t5 => funext fun h => (Eq.trans (n9_15 _ _) (Eq.trans (q9_16 _ _) (b9_7 t1 t2 t4 t5 h)))))
theorem b9_5 (t1 t2 : AV) (h : Heap) : E9 C9_15 K9_6 (frOf 51 [(1,t1),(2,t2)]) h = G9_5 t1 t2 h :=
  (r9_5 K9_6 t1 t2 h).trans (congrArg (R9_5 t1 t2 h) (funext fun t1 => funext fun t2 => funext fun t3 => funext fun h => (Eq.trans (n9_13 _ _) (Eq.trans (q9_14 _ _) (b9_6 t1 t2 t3 h)))))
theorem b9_4 (t1 : AV) (h : Heap) : E9 C9_13 K9_5 (frOf 51 [(1,t1)]) h = G9_4 t1 h :=
  (r9_4 K9_5 t1 h).trans (congrArg (R9_4 t1 h) (funext fun t1 => funext fun t2 => funext fun h => (Eq.trans (n9_11 _ _) (Eq.trans (q9_12 _ _) (b9_5 t1 t2 h)))))
theorem b9_2 (t1 : AV) (h : Heap) : E9 C9_7 K9_3 (frOf 51 [(1,t1)]) h = G9_2 t1 h :=
  (r9_2 K9_3 t1 h).trans (congrArg (R9_2 t1 h) (funext fun t1 => funext fun t8 => funext fun h => (Eq.trans (n9_6 _ _) (Eq.trans (stepCond (c := C9_8) (by kernel_rfl) K9_2 _ _ (v := t8) (by kernel_rfl)) (bcase_congr t8 (Eq.trans (q9_7 _ _) (Eq.trans (stepClean (c := C9_11) (id := 3) (by kernel_rfl) K9_4 _ _ (by kernel_rfl)) (b9_3 h))) (Eq.trans (stepSkip (by kernel_rfl) K9_2 _ _) (Eq.trans (n9_8 _ _) (Eq.trans (q9_9 _ _) (Eq.trans (stepClean (c := C9_13) (id := 4) (by kernel_rfl) K9_5 _ _ (by kernel_rfl)) (b9_4 t1 h))))))))))
theorem b9_1 (h : Heap) : E9 C9_3 K9_1 (frOf 51 []) h = G9_1 h :=
  (r9_1 K9_1 h).trans (congrArg (R9_1 h) (funext fun t1 => funext fun h => (Eq.trans (n9_3 _ _) (Eq.trans (q9_4 _ _) (Eq.trans (q9_5 _ _) (b9_2 t1 h))))))
theorem b9_0 (h : Heap) : E9 C9_1 K9_0 (frOf 51 []) h = G9_0 h :=
  (r9_0 K9_0 h).trans (congrArg (R9_0 h) (funext fun h => (Eq.trans (n9_1 _ _) (Eq.trans (q9_2 _ _) (b9_1 h)))))
theorem entry9 (h : Heap) : evFunc T PH9 L9 Try.f9 fuel [] h = E9 C9_0 (kFin T Try.f9.results.toList) (frOf 51 []) h := by kernel_rfl
theorem e9 (h : Heap) : evFunc T PH9 L9 Try.f9 fuel [] h = G9 [] h := Eq.trans (entry9 h) (Eq.trans (q9_0 _ _) (b9_0 h))
set_option maxRecDepth 100000 in
theorem s9 : Sound Try.prog 9 G9 := (soundOf tok 9 Try.f9 rfl rfl (Φ := PH9) (allCons s10 (allCons s11 (allCons s14 (allCons s15 (allCons s18 (allCons s19 (allCons s20 (allCons s21 allNil)))))))) L9 fuel).le fun args h r hr => by
  unfold G9 at hr; split at hr
  · exact (e9 h).trans (by unfold G9; exact hr)
  · cases hr
/- 4: delphi/delphilaw3.DiskNone -/
def L4 : PM (List Nat) := .node (.node (.node (.node (.leaf) (some [1]) (.leaf)) (some [1]) (.node (.leaf) (some [0]) (.leaf))) (some []) (.node (.node (.leaf) (some [1, 3]) (.leaf)) (some [1]) (.leaf))) (some []) (.node (.node (.node (.leaf) (some [1]) (.leaf)) (some [1]) (.leaf)) (some []) (.node (.node (.leaf) (some [1, 3]) (.leaf)) (some [1]) (.leaf)))
noncomputable def PH4 : List (Nat × AFn) := [(9, G9), (11, G11), (12, G12), (13, G13), (14, G14), (15, G15), (16, G16), (17, G17), (18, G18), (19, G19), (20, G20), (21, G21)]
noncomputable def E4 : Code → Kont → Fr → Heap → Rs := ev T PH4 L4 fuel
noncomputable def C4_0 : Code := bodyOf Try.f4
noncomputable def C4_1 : Code := cl C4_0
noncomputable def C4_2 : Code := cr C4_0
noncomputable def K4_0 : Kont := kSeq (E4 C4_2 (kFin T Try.f4.results.toList)) (kFin T Try.f4.results.toList)
noncomputable def R4_0 (h : Heap) (k : Heap → Rs) : Rs :=
  k h
noncomputable def C4_3 : Code := cl C4_2
noncomputable def C4_4 : Code := cr C4_2
noncomputable def K4_1 : Kont := kSeq (E4 C4_4 (kFin T Try.f4.results.toList)) (kFin T Try.f4.results.toList)
noncomputable def R4_1 (h : Heap) (k : AV → Heap → Rs) : Rs :=
  k AV.pnil h
noncomputable def C4_5 : Code := cl C4_4
noncomputable def C4_6 : Code := cr C4_4
noncomputable def K4_2 : Kont := kSeq (E4 C4_6 (kFin T Try.f4.results.toList)) (kFin T Try.f4.results.toList)
noncomputable def R4_2 (t1 : AV) (h : Heap) (k : AV → Heap → Rs) : Rs :=
  efK (G12 [t1] h) fun v1 h1 =>
  k t1 h1
noncomputable def C4_7 : Code := cl C4_6
noncomputable def C4_8 : Code := cr C4_6
noncomputable def K4_3 : Kont := kSeq (E4 C4_8 (kFin T Try.f4.results.toList)) (kFin T Try.f4.results.toList)
noncomputable def R4_3 (t1 : AV) (h : Heap) (k : AV → Heap → Rs) : Rs :=
  efK (G16 [t1, (AV.int .i64 5)] h) fun v1 h1 =>
  k t1 h1
noncomputable def C4_9 : Code := cl C4_8
noncomputable def C4_10 : Code := cr C4_8
noncomputable def K4_4 : Kont := kSeq (E4 C4_10 (kFin T Try.f4.results.toList)) (kFin T Try.f4.results.toList)
noncomputable def R4_4 (t1 : AV) (h : Heap) (k : AV → AV → Heap → Rs) : Rs :=
  efK (G15 [t1, (AV.str [97])] h) fun v1 h1 =>
  pureK (extr v1 0) h1 fun v3 h3 =>
  pureK (extr v1 1) h3 fun v4 h4 =>
  k t1 v4 h4
noncomputable def C4_11 : Code := cl C4_10
noncomputable def C4_12 : Code := cr C4_10
noncomputable def K4_5 : Kont := kSeq (E4 C4_12 (kFin T Try.f4.results.toList)) (kFin T Try.f4.results.toList)
noncomputable def R4_5 (t1 t3 : AV) (h : Heap) (k : AV → Heap → Rs) : Rs :=
  efK (G9 [] h) fun v0 h0 =>
  gcase v0
    (
      efK (G11 [t1, (AV.str [97]), AV.snil] h0) fun v3 h3 =>
      pureK (binOpA T .eql 26 v3 (AV.int .i64 1)) h3 fun v4 h4 =>
      gcase v4
        (
          efK (G17 [t1, (AV.str [97]), (AV.int .i64 0)] h4) fun v8 h8 =>
          pureK (binOpA T .eql 26 v8 (AV.int .i64 1)) h8 fun v9 h9 =>
          gcase v9
            (
              efK (G18 [t1, (AV.str [97])] h9) fun v13 h13 =>
              pureK (binOpA T .eql 26 v13 (AV.int .i64 1)) h13 fun v14 h14 =>
              gcase v14
                (
                  efK (G13 [t1, (AV.str [97]), (AV.str [98])] h14) fun v18 h18 =>
                  pureK (binOpA T .eql 26 v18 (AV.int .i64 1)) h18 fun v19 h19 =>
                  gcase v19
                    (
                      pureK (unOpA .not t3) h19 fun v23 h23 =>
                      gcase v23
                        (
                          efK (G19 [t1] h23) fun v27 h27 =>
                          pureK (lenSl v27) h27 fun v28 h28 =>
                          pureK (binOpA T .eql 3 v28 (AV.int .i64 0)) h28 fun v29 h29 =>
                          gcase v29
                            (
                              efK (G20 [t1] h29) fun v33 h33 =>
                              pureK (binOpA T .eql 3 v33 (AV.int .i64 0)) h33 fun v34 h34 =>
                              gcase v34
                                (
                                  efK (G21 [t1] h34) fun v38 h38 =>
                                  pureK (binOpA T .eql 3 v38 (AV.int .i64 0)) h38 fun v39 h39 =>
                                  gcase v39
                                    (
                                      efK (G14 [t1, (AV.int .i64 0), (AV.int .i64 0)] h39) fun v43 h43 =>
                                      pureK (binOpA T .eql 24 v43 AV.pnil) h43 fun v44 h44 =>
                                      k v44 h44)
                                    (
                                      k (AV.bool false) h39)
                                    (
                                      none))
                                (
                                  k (AV.bool false) h34)
                                (
                                  none))
                            (
                              k (AV.bool false) h29)
                            (
                              none))
                        (
                          k (AV.bool false) h23)
                        (
                          none))
                    (
                      k (AV.bool false) h19)
                    (
                      none))
                (
                  k (AV.bool false) h14)
                (
                  none))
            (
              k (AV.bool false) h9)
            (
              none))
        (
          k (AV.bool false) h4)
        (
          none))
    (
      k (AV.bool false) h0)
    (
      none)
noncomputable def G4_5 (t1 t3 : AV) (h : Heap) : Rs := R4_5 t1 t3 h fun t0 h => some (t0, h)
noncomputable def G4_4 (t1 : AV) (h : Heap) : Rs := R4_4 t1 h fun t1 t3 h => G4_5 t1 t3 h
noncomputable def G4_3 (t1 : AV) (h : Heap) : Rs := R4_3 t1 h fun t1 h => G4_4 t1 h
noncomputable def G4_2 (t1 : AV) (h : Heap) : Rs := R4_2 t1 h fun t1 h => G4_3 t1 h
noncomputable def G4_1 (h : Heap) : Rs := R4_1 h fun t1 h => G4_2 t1 h
noncomputable def G4_0 (h : Heap) : Rs := R4_0 h fun h => G4_1 h
noncomputable def G4 : AFn
  | [], h => G4_0 h
  | _, _ => none
theorem q4_0 (fr : Fr) (h : Heap) : E4 C4_0 (kFin T Try.f4.results.toList) fr h = E4 C4_1 K4_0 fr h := stepSeq (by kernel_rfl) _ _ _
theorem r4_0 (K : Kont) (h : Heap) : E4 C4_1 K (frOf 59 []) h = R4_0 h (fun h => K .normal (frOf 59 []) h) := by kernel_rfl
theorem n4_1 (fr : Fr) (h : Heap) : K4_0 .normal fr h = E4 C4_2 (kFin T Try.f4.results.toList) fr h := kSeq_n _ _ _ _
theorem q4_2 (fr : Fr) (h : Heap) : E4 C4_2 (kFin T Try.f4.results.toList) fr h = E4 C4_3 K4_1 fr h := stepSeq (by kernel_rfl) _ _ _
theorem r4_1 (K : Kont) (h : Heap) : E4 C4_3 K (frOf 59 []) h = R4_1 h (fun t1 h => K .normal (frOf 59 [(1,t1)]) h) := by kernel_rfl
theorem n4_3 (fr : Fr) (h : Heap) : K4_1 .normal fr h = E4 C4_4 (kFin T Try.f4.results.toList) fr h := kSeq_n _ _ _ _
theorem q4_4 (fr : Fr) (h : Heap) : E4 C4_4 (kFin T Try.f4.results.toList) fr h = E4 C4_5 K4_2 fr h := stepSeq (by kernel_rfl) _ _ _
theorem r4_2 (K : Kont) (t1 : AV) (h : Heap) : E4 C4_5 K (frOf 59 [(1,t1)]) h = R4_2 t1 h (fun t1 h => K .normal (frOf 59 [(1,t1)]) h) := by kernel_rfl
theorem n4_5 (fr : Fr) (h : Heap) : K4_2 .normal fr h = E4 C4_6 (kFin T Try.f4.results.toList) fr h := kSeq_n _ _ _ _
theorem q4_6 (fr : Fr) (h : Heap) : E4 C4_6 (kFin T Try.f4.results.toList) fr h = E4 C4_7 K4_3 fr h := stepSeq (by kernel_rfl) _ _ _
theorem r4_3 (K : Kont) (t1 : AV) (h : Heap) : E4 C4_7 K (frOf 59 [(1,t1)]) h = R4_3 t1 h (fun t1 h => K .normal (frOf 59 [(1,t1)]) h) := by kernel_rfl
theorem n4_7 (fr : Fr) (h : Heap) : K4_3 .normal fr h = E4 C4_8 (kFin T Try.f4.results.toList) fr h := kSeq_n _ _ _ _
theorem q4_8 (fr : Fr) (h : Heap) : E4 C4_8 (kFin T Try.f4.results.toList) fr h = E4 C4_9 K4_4 fr h := stepSeq (by kernel_rfl) _ _ _
theorem r4_4 (K : Kont) (t1 : AV) (h : Heap) : E4 C4_9 K (frOf 59 [(1,t1)]) h = R4_4 t1 h (fun t1 t3 h => K .normal (frOf 59 [(1,t1),(3,t3)]) h) := by kernel_rfl
theorem n4_9 (fr : Fr) (h : Heap) : K4_4 .normal fr h = E4 C4_10 (kFin T Try.f4.results.toList) fr h := kSeq_n _ _ _ _
theorem q4_10 (fr : Fr) (h : Heap) : E4 C4_10 (kFin T Try.f4.results.toList) fr h = E4 C4_11 K4_5 fr h := stepSeq (by kernel_rfl) _ _ _
theorem r4_5 (K : Kont) (t1 t3 : AV) (h : Heap) : E4 C4_11 K (frOf 59 [(1,t1),(3,t3)]) h = R4_5 t1 t3 h (fun t0 h => K .normal (frOf 59 [(0,t0)]) h) := by kernel_rfl
theorem n4_11 (fr : Fr) (h : Heap) : K4_5 .normal fr h = E4 C4_12 (kFin T Try.f4.results.toList) fr h := kSeq_n _ _ _ _
theorem b4_5 (t1 t3 : AV) (h : Heap) : E4 C4_11 K4_5 (frOf 59 [(1,t1),(3,t3)]) h = G4_5 t1 t3 h :=
  (r4_5 K4_5 t1 t3 h).trans (congrArg (R4_5 t1 t3 h) (funext fun t0 => funext fun h => (Eq.trans (n4_11 _ _) (Eq.trans (stepRet (by kernel_rfl) (kFin T Try.f4.results.toList) _ _) (by kernel_rfl)))))
theorem b4_4 (t1 : AV) (h : Heap) : E4 C4_9 K4_4 (frOf 59 [(1,t1)]) h = G4_4 t1 h :=
  (r4_4 K4_4 t1 h).trans (congrArg (R4_4 t1 h) (funext fun t1 => funext fun t3 => funext fun h => (Eq.trans (n4_9 _ _) (Eq.trans (q4_10 _ _) (b4_5 t1 t3 h)))))
theorem b4_3 (t1 : AV) (h : Heap) : E4 C4_7 K4_3 (frOf 59 [(1,t1)]) h = G4_3 t1 h :=
  (r4_3 K4_3 t1 h).trans (congrArg (R4_3 t1 h) (funext fun t1 => funext fun h => (Eq.trans (n4_7 _ _) (Eq.trans (q4_8 _ _) (b4_4 t1 h)))))
theorem b4_2 (t1 : AV) (h : Heap) : E4 C4_5 K4_2 (frOf 59 [(1,t1)]) h = G4_2 t1 h :=
  (r4_2 K4_2 t1 h).trans (congrArg (R4_2 t1 h) (funext fun t1 => funext fun h => (Eq.trans (n4_5 _ _) (Eq.trans (q4_6 _ _) (b4_3 t1 h)))))
theorem b4_1 (h : Heap) : E4 C4_3 K4_1 (frOf 59 []) h = G4_1 h :=
  (r4_1 K4_1 h).trans (congrArg (R4_1 h) (funext fun t1 => funext fun h => (Eq.trans (n4_3 _ _) (Eq.trans (q4_4 _ _) (b4_2 t1 h)))))
theorem b4_0 (h : Heap) : E4 C4_1 K4_0 (frOf 59 []) h = G4_0 h :=
  (r4_0 K4_0 h).trans (congrArg (R4_0 h) (funext fun h => (Eq.trans (n4_1 _ _) (Eq.trans (q4_2 _ _) (b4_1 h)))))
theorem entry4 (h : Heap) : evFunc T PH4 L4 Try.f4 fuel [] h = E4 C4_0 (kFin T Try.f4.results.toList) (frOf 59 []) h := by kernel_rfl
theorem e4 (h : Heap) : evFunc T PH4 L4 Try.f4 fuel [] h = G4 [] h := Eq.trans (entry4 h) (Eq.trans (q4_0 _ _) (b4_0 h))
set_option maxRecDepth 100000 in
theorem s4 : Sound Try.prog 4 G4 := (soundOf tok 4 Try.f4 rfl rfl (Φ := PH4) (allCons s9 (allCons s11 (allCons s12 (allCons s13 (allCons s14 (allCons s15 (allCons s16 (allCons s17 (allCons s18 (allCons s19 (allCons s20 (allCons s21 allNil)))))))))))) L4 fuel).le fun args h r hr => by
  unfold G4 at hr; split at hr
  · exact (e4 h).trans (by unfold G4; exact hr)
  · cases hr
/- 3: delphi/delphilaw3.DiskMoves -/
def L3 : PM (List Nat) := .node (.node (.node (.node (.node (.node (.leaf) (some [1, 2, 11, 12, 13]) (.leaf)) (some [0, 1, 2, 3]) (.leaf)) (some [8]) (.node (.leaf) (some [0, 1, 2, 3, 10]) (.leaf))) (some [0, 1, 2, 3, 9]) (.node (.node (.node (.leaf) (some [11, 12, 13]) (.leaf)) (some [0, 1, 2, 3, 10]) (.leaf)) (some [0, 1, 2, 3]) (.node (.leaf) (some [0, 1, 2, 3, 10]) (.leaf)))) (some [0, 1, 2, 3]) (.node (.node (.node (.node (.leaf) (some [1, 11, 12, 13, 53]) (.leaf)) (some [0, 1, 2, 3, 10]) (.leaf)) (some [0, 1, 2, 3, 19]) (.node (.leaf) (some [0, 1, 2, 3, 10]) (.leaf))) (some [0, 1, 2, 3, 16]) (.node (.node (.node (.leaf) (some [8]) (.leaf)) (some [0, 1, 2, 3, 10]) (.leaf)) (some [0, 1, 2, 3, 24]) (.node (.leaf) (some [0, 1, 2, 11, 12]) (.leaf))))) (some [0, 1, 2, 3]) (.node (.node (.node (.node (.node (.leaf) (some [1, 2, 11, 12, 13]) (.leaf)) (some [0, 1, 2, 3]) (.leaf)) (some [0, 1, 2, 3]) (.node (.leaf) (some [0, 1, 2, 3, 10]) (.leaf))) (some [0, 1, 2, 3, 9]) (.node (.node (.node (.leaf) (some [11, 12, 13]) (.leaf)) (some [0, 1, 2, 3, 10]) (.leaf)) (some [0, 1, 2, 3]) (.node (.leaf) (some [0, 1, 2, 3, 10]) (.leaf)))) (some [0, 1, 2, 3]) (.node (.node (.node (.node (.leaf) (some [1, 11, 12]) (.leaf)) (some [0, 1, 2, 3, 10]) (.leaf)) (some [0, 1, 2, 3]) (.node (.leaf) (some [0, 1, 2, 3, 10]) (.leaf))) (some []) (.node (.node (.leaf) (some [0, 1, 2, 3, 10]) (.leaf)) (some [0, 1, 2, 3]) (.node (.leaf) (some [0, 1, 2, 11, 12]) (.leaf)))))
noncomputable def PH3 : List (Nat × AFn) := [(9, G9), (10, G10), (11, G11), (12, G12), (13, G13), (14, G14), (15, G15)]
noncomputable def E3 : Code → Kont → Fr → Heap → Rs := ev T PH3 L3 fuel
noncomputable def C3_0 : Code := bodyOf Try.f3
noncomputable def C3_1 : Code := cl C3_0
noncomputable def C3_2 : Code := cr C3_0
noncomputable def K3_0 : Kont := kSeq (E3 C3_2 (kFin T Try.f3.results.toList)) (kFin T Try.f3.results.toList)
noncomputable def R3_0 (t0 t1 t2 t3 : AV) (h : Heap) (k : AV → AV → AV → AV → Heap → Rs) : Rs :=
  k t0 t1 t2 t3 h
noncomputable def C3_3 : Code := cl C3_2
noncomputable def C3_4 : Code := cr C3_2
noncomputable def K3_1 : Kont := kSeq (E3 C3_4 (kFin T Try.f3.results.toList)) (kFin T Try.f3.results.toList)
noncomputable def R3_1 (t0 t1 t2 t3 : AV) (h : Heap) (k : AV → AV → AV → AV → AV → Heap → Rs) : Rs :=
  efK (G9 [] h) fun v0 h0 =>
  k t0 t1 t2 t3 v0 h0
noncomputable def C3_5 : Code := cl C3_4
noncomputable def C3_6 : Code := cr C3_4
noncomputable def K3_2 : Kont := kSeq (E3 C3_6 (kFin T Try.f3.results.toList)) (kFin T Try.f3.results.toList)
noncomputable def C3_7 : Code := cl C3_5
noncomputable def C3_8 : Code := cr C3_5
noncomputable def K3_3 : Kont := kSeq (E3 C3_8 K3_2) K3_2
noncomputable def R3_2 (t0 t1 t2 t3 t9 : AV) (h : Heap) (k : AV → AV → AV → AV → AV → Heap → Rs) : Rs :=
  pureK (unOpA .not t9) h fun v1 h1 =>
  k t0 t1 t2 t3 v1 h1
noncomputable def C3_9 : Code := cl C3_8
noncomputable def C3_10 : Code := cr C3_8
noncomputable def C3_11 : Code := cl C3_9
noncomputable def C3_12 : Code := cr C3_9
noncomputable def K3_4 : Kont := kSeq (E3 C3_12 K3_2) K3_2
noncomputable def C3_13 : Code := cl C3_6
noncomputable def C3_14 : Code := cr C3_6
noncomputable def K3_5 : Kont := kSeq (E3 C3_14 (kFin T Try.f3.results.toList)) (kFin T Try.f3.results.toList)
noncomputable def C3_15 : Code := cl C3_13
noncomputable def C3_16 : Code := cr C3_13
noncomputable def K3_6 : Kont := kSeq (E3 C3_16 K3_5) K3_5
noncomputable def R3_3 (h : Heap) (k : AV → Heap → Rs) : Rs :=
  k (AV.bool false) h
noncomputable def G3_3 (h : Heap) : Rs := R3_3 h fun t8 h => some (t8, h)
noncomputable def R3_4 (t0 t1 t2 t3 : AV) (h : Heap) (k : AV → AV → AV → AV → AV → Heap → Rs) : Rs :=
  pureK (lenSl t0) h fun v1 h1 =>
  pureK (binOpA T .gtr 3 v1 (AV.int .i64 100)) h1 fun v2 h2 =>
  k t0 t1 t2 t3 v2 h2
noncomputable def C3_17 : Code := cl C3_16
noncomputable def C3_18 : Code := cr C3_16
noncomputable def C3_19 : Code := cl C3_14
noncomputable def C3_20 : Code := cr C3_14
noncomputable def K3_7 : Kont := kSeq (E3 C3_20 (kFin T Try.f3.results.toList)) (kFin T Try.f3.results.toList)
noncomputable def C3_21 : Code := cl C3_19
noncomputable def C3_22 : Code := cr C3_19
noncomputable def K3_8 : Kont := kSeq (E3 C3_22 K3_7) K3_7
noncomputable def R3_5 (t0 t1 t2 t3 : AV) (h : Heap) (k : AV → AV → AV → AV → Heap → Rs) : Rs :=
  pureK (slc 1 h t0 none (some (AV.int .i64 100)) none) h fun v1 h1 =>
  k v1 t1 t2 t3 h1
noncomputable def R3_6 (t0 t1 t2 t3 : AV) (h : Heap) (k : AV → AV → AV → AV → AV → Heap → Rs) : Rs :=
  pureK (lenSl t1) h fun v1 h1 =>
  pureK (binOpA T .gtr 3 v1 (AV.int .i64 100)) h1 fun v2 h2 =>
  k t0 t1 t2 t3 v2 h2
noncomputable def C3_23 : Code := cl C3_22
noncomputable def C3_24 : Code := cr C3_22
noncomputable def C3_25 : Code := cl C3_20
noncomputable def C3_26 : Code := cr C3_20
noncomputable def K3_9 : Kont := kSeq (E3 C3_26 (kFin T Try.f3.results.toList)) (kFin T Try.f3.results.toList)
noncomputable def R3_7 (t0 t1 t2 t3 : AV) (h : Heap) (k : AV → AV → AV → AV → Heap → Rs) : Rs :=
  pureK (slc 1 h t1 none (some (AV.int .i64 100)) none) h fun v1 h1 =>
  k t0 v1 t2 t3 h1
noncomputable def R3_8 (t0 t1 t2 t3 : AV) (h : Heap) (k : AV → AV → AV → AV → AV → Heap → Rs) : Rs :=
  efK (G10 [(AV.int .i64 1048576)] h) fun v0 h0 =>
  k t0 t1 t2 t3 v0 h0
noncomputable def C3_27 : Code := cl C3_26
noncomputable def C3_28 : Code := cr C3_26
noncomputable def K3_10 : Kont := kSeq (E3 C3_28 (kFin T Try.f3.results.toList)) (kFin T Try.f3.results.toList)
noncomputable def R3_9 (t0 t1 t2 t3 t10 : AV) (h : Heap) (k : AV → AV → AV → AV → AV → Heap → Rs) : Rs :=
  efK (G11 [t10, (AV.str [102]), t0] h) fun v2 h2 =>
  k t0 t1 t2 t3 t10 h2
noncomputable def C3_29 : Code := cl C3_28
noncomputable def C3_30 : Code := cr C3_28
noncomputable def K3_11 : Kont := kSeq (E3 C3_30 (kFin T Try.f3.results.toList)) (kFin T Try.f3.results.toList)
noncomputable def R3_10 (t0 t1 t2 t3 t10 : AV) (h : Heap) (k : AV → AV → AV → AV → AV → Heap → Rs) : Rs :=
  efK (G11 [t10, (AV.str [103]), t1] h) fun v2 h2 =>
  k t0 t1 t2 t3 t10 h2
noncomputable def C3_31 : Code := cl C3_30
noncomputable def C3_32 : Code := cr C3_30
noncomputable def K3_12 : Kont := kSeq (E3 C3_32 (kFin T Try.f3.results.toList)) (kFin T Try.f3.results.toList)
noncomputable def R3_11 (t0 t1 t2 t3 t10 : AV) (h : Heap) (k : AV → AV → AV → AV → AV → Heap → Rs) : Rs :=
  efK (G12 [t10] h) fun v1 h1 =>
  k t0 t1 t2 t3 t10 h1
noncomputable def C3_33 : Code := cl C3_32
noncomputable def C3_34 : Code := cr C3_32
noncomputable def K3_13 : Kont := kSeq (E3 C3_34 (kFin T Try.f3.results.toList)) (kFin T Try.f3.results.toList)
noncomputable def R3_12 (t0 t1 t2 t3 t10 : AV) (h : Heap) (k : AV → AV → AV → AV → AV → Heap → Rs) : Rs :=
  efK (G13 [t10, (AV.str [103]), (AV.str [102])] h) fun v1 h1 =>
  k t0 t1 t2 t3 t10 h1
noncomputable def C3_35 : Code := cl C3_34
noncomputable def C3_36 : Code := cr C3_34
noncomputable def K3_14 : Kont := kSeq (E3 C3_36 (kFin T Try.f3.results.toList)) (kFin T Try.f3.results.toList)
noncomputable def R3_13 (t0 t1 t2 t3 t10 : AV) (h : Heap) (k : AV → AV → AV → AV → AV → Heap → Rs) : Rs :=
  alK (bldSl [(AV.int .u8 0), (AV.int .u8 0), (AV.int .u8 0), (AV.int .u8 0), (AV.int .u8 0)] 5 [(0, 1, (AV.int .u8 108)), (1, 1, (AV.int .u8 97)), (2, 1, (AV.int .u8 116)), (3, 1, (AV.int .u8 101)), (4, 1, (AV.int .u8 114))]) h fun v1 h1 =>
  pureK (convertA T h1 22 22 v1) h1 fun v2 h2 =>
  efK (G11 [t10, (AV.str [104]), v2] h2) fun v3 h3 =>
  k t0 t1 t2 t3 t10 h3
noncomputable def C3_37 : Code := cl C3_36
noncomputable def C3_38 : Code := cr C3_36
noncomputable def K3_15 : Kont := kSeq (E3 C3_38 (kFin T Try.f3.results.toList)) (kFin T Try.f3.results.toList)
noncomputable def R3_14 (t0 t1 t2 t3 t10 : AV) (h : Heap) (k : AV → AV → AV → AV → AV → Heap → Rs) : Rs :=
  efK (G14 [t10, t2, t3] h) fun v3 h3 =>
  efK (G15 [v3, (AV.str [102])] h3) fun v4 h4 =>
  pureK (extr v4 0) h4 fun v6 h6 =>
  pureK (extr v4 1) h6 fun v7 h7 =>
  k t0 t1 t2 v6 v7 h7
noncomputable def C3_39 : Code := cl C3_38
noncomputable def C3_40 : Code := cr C3_38
noncomputable def K3_16 : Kont := kSeq (E3 C3_40 (kFin T Try.f3.results.toList)) (kFin T Try.f3.results.toList)
noncomputable def R3_15 (t0 t1 t2 t11 t12 : AV) (h : Heap) (k : AV → AV → AV → AV → AV → Heap → Rs) : Rs :=
  pureK (cvtB h t0) h fun v1 h1 =>
  k t1 t2 t11 t12 v1 h1
noncomputable def C3_41 : Code := cl C3_40
noncomputable def C3_42 : Code := cr C3_40
noncomputable def K3_17 : Kont := kSeq (E3 C3_42 (kFin T Try.f3.results.toList)) (kFin T Try.f3.results.toList)
noncomputable def C3_43 : Code := cl C3_41
noncomputable def C3_44 : Code := cr C3_41
noncomputable def K3_18 : Kont := kSeq (E3 C3_44 K3_17) K3_17
noncomputable def R3_16 (t1 t2 t11 t12 t13 : AV) (h : Heap) (k : AV → AV → AV → AV → AV → Heap → Rs) : Rs :=
  pureK (binOpA T .geq 3 t2 (AV.int .i64 1)) h fun v1 h1 =>
  k t1 t11 t12 t13 v1 h1
noncomputable def C3_45 : Code := cl C3_44
noncomputable def C3_46 : Code := cr C3_44
noncomputable def C3_47 : Code := cl C3_42
noncomputable def C3_48 : Code := cr C3_42
noncomputable def K3_19 : Kont := kSeq (E3 C3_48 (kFin T Try.f3.results.toList)) (kFin T Try.f3.results.toList)
noncomputable def R3_17 (t1 t11 t12 : AV) (h : Heap) (k : AV → AV → AV → Heap → Rs) : Rs :=
  pureK (cvtB h t1) h fun v1 h1 =>
  k t11 t12 v1 h1
noncomputable def R3_18 (t11 t12 t13 : AV) (h : Heap) (k : AV → Heap → Rs) : Rs :=
  gcase t12
    (
      pureK (cvtB h t11) h fun v3 h3 =>
      pureK (binOpA T .eql 9 v3 t13) h3 fun v5 h5 =>
      k v5 h5)
    (
      k (AV.bool false) h)
    (
      none)
noncomputable def G3_18 (t11 t12 t13 : AV) (h : Heap) : Rs := R3_18 t11 t12 t13 h fun t8 h => some (t8, h)
noncomputable def G3_17 (t1 t11 t12 : AV) (h : Heap) : Rs := R3_17 t1 t11 t12 h fun t11 t12 t13 h => G3_18 t11 t12 t13 h
noncomputable def G3_16 (t1 t2 t11 t12 t13 : AV) (h : Heap) : Rs := R3_16 t1 t2 t11 t12 t13 h fun t1 t11 t12 t13 t53 h => bcase t53 (G3_17 t1 t11 t12 h) (G3_18 t11 t12 t13 h)
noncomputable def G3_15 (t0 t1 t2 t11 t12 : AV) (h : Heap) : Rs := R3_15 t0 t1 t2 t11 t12 h fun t1 t2 t11 t12 t13 h => G3_16 t1 t2 t11 t12 t13 h
noncomputable def G3_14 (t0 t1 t2 t3 t10 : AV) (h : Heap) : Rs := R3_14 t0 t1 t2 t3 t10 h fun t0 t1 t2 t11 t12 h => G3_15 t0 t1 t2 t11 t12 h
noncomputable def G3_13 (t0 t1 t2 t3 t10 : AV) (h : Heap) : Rs := R3_13 t0 t1 t2 t3 t10 h fun t0 t1 t2 t3 t10 h => G3_14 t0 t1 t2 t3 t10 h
noncomputable def G3_12 (t0 t1 t2 t3 t10 : AV) (h : Heap) : Rs := R3_12 t0 t1 t2 t3 t10 h fun t0 t1 t2 t3 t10 h => G3_13 t0 t1 t2 t3 t10 h
noncomputable def G3_11 (t0 t1 t2 t3 t10 : AV) (h : Heap) : Rs := R3_11 t0 t1 t2 t3 t10 h fun t0 t1 t2 t3 t10 h => G3_12 t0 t1 t2 t3 t10 h
noncomputable def G3_10 (t0 t1 t2 t3 t10 : AV) (h : Heap) : Rs := R3_10 t0 t1 t2 t3 t10 h fun t0 t1 t2 t3 t10 h => G3_11 t0 t1 t2 t3 t10 h
noncomputable def G3_9 (t0 t1 t2 t3 t10 : AV) (h : Heap) : Rs := R3_9 t0 t1 t2 t3 t10 h fun t0 t1 t2 t3 t10 h => G3_10 t0 t1 t2 t3 t10 h
noncomputable def G3_8 (t0 t1 t2 t3 : AV) (h : Heap) : Rs := R3_8 t0 t1 t2 t3 h fun t0 t1 t2 t3 t10 h => G3_9 t0 t1 t2 t3 t10 h
noncomputable def G3_7 (t0 t1 t2 t3 : AV) (h : Heap) : Rs := R3_7 t0 t1 t2 t3 h fun t0 t1 t2 t3 h => G3_8 t0 t1 t2 t3 h
noncomputable def G3_6 (t0 t1 t2 t3 : AV) (h : Heap) : Rs := R3_6 t0 t1 t2 t3 h fun t0 t1 t2 t3 t24 h => bcase t24 (G3_7 t0 t1 t2 t3 h) (G3_8 t0 t1 t2 t3 h)
noncomputable def G3_5 (t0 t1 t2 t3 : AV) (h : Heap) : Rs := R3_5 t0 t1 t2 t3 h fun t0 t1 t2 t3 h => G3_6 t0 t1 t2 t3 h
noncomputable def G3_4 (t0 t1 t2 t3 : AV) (h : Heap) : Rs := R3_4 t0 t1 t2 t3 h fun t0 t1 t2 t3 t19 h => bcase t19 (G3_5 t0 t1 t2 t3 h) (G3_6 t0 t1 t2 t3 h)
noncomputable def G3_2 (t0 t1 t2 t3 t9 : AV) (h : Heap) : Rs := R3_2 t0 t1 t2 t3 t9 h fun t0 t1 t2 t3 t16 h => bcase t16 (G3_3 h) (G3_4 t0 t1 t2 t3 h)
noncomputable def G3_1 (t0 t1 t2 t3 : AV) (h : Heap) : Rs := R3_1 t0 t1 t2 t3 h fun t0 t1 t2 t3 t9 h => G3_2 t0 t1 t2 t3 t9 h
noncomputable def G3_0 (t0 t1 t2 t3 : AV) (h : Heap) : Rs := R3_0 t0 t1 t2 t3 h fun t0 t1 t2 t3 h => G3_1 t0 t1 t2 t3 h
noncomputable def G3 : AFn
  | [t0, t1, t2, t3], h => G3_0 t0 t1 t2 t3 h
  | _, _ => none
theorem q3_0 (fr : Fr) (h : Heap) : E3 C3_0 (kFin T Try.f3.results.toList) fr h = E3 C3_1 K3_0 fr h := stepSeq (by kernel_rfl) _ _ _
theorem r3_0 (K : Kont) (t0 t1 t2 t3 : AV) (h : Heap) : E3 C3_1 K (frOf 63 [(0,t0),(1,t1),(2,t2),(3,t3)]) h = R3_0 t0 t1 t2 t3 h (fun t0 t1 t2 t3 h => K .normal (frOf 63 [(0,t0),(1,t1),(2,t2),(3,t3)]) h) := by kernel_rfl
theorem n3_1 (fr : Fr) (h : Heap) : K3_0 .normal fr h = E3 C3_2 (kFin T Try.f3.results.toList) fr h := kSeq_n _ _ _ _
theorem q3_2 (fr : Fr) (h : Heap) : E3 C3_2 (kFin T Try.f3.results.toList) fr h = E3 C3_3 K3_1 fr h := stepSeq (by kernel_rfl) _ _ _
theorem r3_1 (K : Kont) (t0 t1 t2 t3 : AV) (h : Heap) : E3 C3_3 K (frOf 63 [(0,t0),(1,t1),(2,t2),(3,t3)]) h = R3_1 t0 t1 t2 t3 h (fun t0 t1 t2 t3 t9 h => K .normal (frOf 63 [(0,t0),(1,t1),(2,t2),(3,t3),(9,t9)]) h) := by kernel_rfl
theorem n3_3 (fr : Fr) (h : Heap) : K3_1 .normal fr h = E3 C3_4 (kFin T Try.f3.results.toList) fr h := kSeq_n _ _ _ _
theorem q3_4 (fr : Fr) (h : Heap) : E3 C3_4 (kFin T Try.f3.results.toList) fr h = E3 C3_5 K3_2 fr h := stepSeq (by kernel_rfl) _ _ _
theorem q3_5 (fr : Fr) (h : Heap) : E3 C3_5 K3_2 fr h = E3 C3_7 K3_3 fr h := stepSeq (by kernel_rfl) _ _ _
theorem r3_2 (K : Kont) (t0 t1 t2 t3 t9 : AV) (h : Heap) : E3 C3_7 K (frOf 63 [(0,t0),(1,t1),(2,t2),(3,t3),(9,t9)]) h = R3_2 t0 t1 t2 t3 t9 h (fun t0 t1 t2 t3 t16 h => K .normal (frOf 63 [(0,t0),(1,t1),(2,t2),(3,t3),(16,t16)]) h) := by kernel_rfl
theorem n3_6 (fr : Fr) (h : Heap) : K3_3 .normal fr h = E3 C3_8 K3_2 fr h := kSeq_n _ _ _ _
theorem q3_7 (fr : Fr) (h : Heap) : E3 C3_9 K3_2 fr h = E3 C3_11 K3_4 fr h := stepSeq (by kernel_rfl) _ _ _
theorem n3_8 (fr : Fr) (h : Heap) : K3_2 .normal fr h = E3 C3_6 (kFin T Try.f3.results.toList) fr h := kSeq_n _ _ _ _
theorem q3_9 (fr : Fr) (h : Heap) : E3 C3_6 (kFin T Try.f3.results.toList) fr h = E3 C3_13 K3_5 fr h := stepSeq (by kernel_rfl) _ _ _
theorem q3_10 (fr : Fr) (h : Heap) : E3 C3_13 K3_5 fr h = E3 C3_15 K3_6 fr h := stepSeq (by kernel_rfl) _ _ _
theorem r3_3 (K : Kont) (h : Heap) : E3 C3_11 K (frOf 63 []) h = R3_3 h (fun t8 h => K .normal (frOf 63 [(8,t8)]) h) := by kernel_rfl
theorem n3_11 (fr : Fr) (h : Heap) : K3_4 .normal fr h = E3 C3_12 K3_2 fr h := kSeq_n _ _ _ _
theorem b3_3 (h : Heap) : E3 C3_11 K3_4 (frOf 63 []) h = G3_3 h :=
  (r3_3 K3_4 h).trans (congrArg (R3_3 h) (funext fun t8 => funext fun h => (Eq.trans (n3_11 _ _) (Eq.trans (stepRet (by kernel_rfl) K3_2 _ _) (Eq.trans (kSeq_r _ _ _ _) (by kernel_rfl))))))
theorem r3_4 (K : Kont) (t0 t1 t2 t3 : AV) (h : Heap) : E3 C3_15 K (frOf 63 [(0,t0),(1,t1),(2,t2),(3,t3)]) h = R3_4 t0 t1 t2 t3 h (fun t0 t1 t2 t3 t19 h => K .normal (frOf 63 [(0,t0),(1,t1),(2,t2),(3,t3),(19,t19)]) h) := by kernel_rfl
theorem n3_12 (fr : Fr) (h : Heap) : K3_6 .normal fr h = E3 C3_16 K3_5 fr h := kSeq_n _ _ _ _
theorem n3_13 (fr : Fr) (h : Heap) : K3_5 .normal fr h = E3 C3_14 (kFin T Try.f3.results.toList) fr h := kSeq_n _ _ _ _
theorem q3_14 (fr : Fr) (h : Heap) : E3 C3_14 (kFin T Try.f3.results.toList) fr h = E3 C3_19 K3_7 fr h := stepSeq (by kernel_rfl) _ _ _
theorem q3_15 (fr : Fr) (h : Heap) : E3 C3_19 K3_7 fr h = E3 C3_21 K3_8 fr h := stepSeq (by kernel_rfl) _ _ _
theorem r3_5 (K : Kont) (t0 t1 t2 t3 : AV) (h : Heap) : E3 C3_17 K (frOf 63 [(0,t0),(1,t1),(2,t2),(3,t3)]) h = R3_5 t0 t1 t2 t3 h (fun t0 t1 t2 t3 h => K .normal (frOf 63 [(0,t0),(1,t1),(2,t2),(3,t3)]) h) := by kernel_rfl
theorem r3_6 (K : Kont) (t0 t1 t2 t3 : AV) (h : Heap) : E3 C3_21 K (frOf 63 [(0,t0),(1,t1),(2,t2),(3,t3)]) h = R3_6 t0 t1 t2 t3 h (fun t0 t1 t2 t3 t24 h => K .normal (frOf 63 [(0,t0),(1,t1),(2,t2),(3,t3),(24,t24)]) h) := by kernel_rfl
theorem n3_16 (fr : Fr) (h : Heap) : K3_8 .normal fr h = E3 C3_22 K3_7 fr h := kSeq_n _ _ _ _
theorem n3_17 (fr : Fr) (h : Heap) : K3_7 .normal fr h = E3 C3_20 (kFin T Try.f3.results.toList) fr h := kSeq_n _ _ _ _
theorem q3_18 (fr : Fr) (h : Heap) : E3 C3_20 (kFin T Try.f3.results.toList) fr h = E3 C3_25 K3_9 fr h := stepSeq (by kernel_rfl) _ _ _
theorem r3_7 (K : Kont) (t0 t1 t2 t3 : AV) (h : Heap) : E3 C3_23 K (frOf 63 [(0,t0),(1,t1),(2,t2),(3,t3)]) h = R3_7 t0 t1 t2 t3 h (fun t0 t1 t2 t3 h => K .normal (frOf 63 [(0,t0),(1,t1),(2,t2),(3,t3)]) h) := by kernel_rfl
theorem r3_8 (K : Kont) (t0 t1 t2 t3 : AV) (h : Heap) : E3 C3_25 K (frOf 63 [(0,t0),(1,t1),(2,t2),(3,t3)]) h = R3_8 t0 t1 t2 t3 h (fun t0 t1 t2 t3 t10 h => K .normal (frOf 63 [(0,t0),(1,t1),(2,t2),(3,t3),(10,t10)]) h) := by kernel_rfl
theorem n3_19 (fr : Fr) (h : Heap) : K3_9 .normal fr h = E3 C3_26 (kFin T Try.f3.results.toList) fr h := kSeq_n _ _ _ _
theorem q3_20 (fr : Fr) (h : Heap) : E3 C3_26 (kFin T Try.f3.results.toList) fr h = E3 C3_27 K3_10 fr h := stepSeq (by kernel_rfl) _ _ _
theorem r3_9 (K : Kont) (t0 t1 t2 t3 t10 : AV) (h : Heap) : E3 C3_27 K (frOf 63 [(0,t0),(1,t1),(2,t2),(3,t3),(10,t10)]) h = R3_9 t0 t1 t2 t3 t10 h (fun t0 t1 t2 t3 t10 h => K .normal (frOf 63 [(0,t0),(1,t1),(2,t2),(3,t3),(10,t10)]) h) := by kernel_rfl
theorem n3_21 (fr : Fr) (h : Heap) : K3_10 .normal fr h = E3 C3_28 (kFin T Try.f3.results.toList) fr h := kSeq_n _ _ _ _
theorem q3_22 (fr : Fr) (h : Heap) : E3 C3_28 (kFin T Try.f3.results.toList) fr h = E3 C3_29 K3_11 fr h := stepSeq (by kernel_rfl) _ _ _
theorem r3_10 (K : Kont) (t0 t1 t2 t3 t10 : AV) (h : Heap) : E3 C3_29 K (frOf 63 [(0,t0),(1,t1),(2,t2),(3,t3),(10,t10)]) h = R3_10 t0 t1 t2 t3 t10 h (fun t0 t1 t2 t3 t10 h => K .normal (frOf 63 [(0,t0),(1,t1),(2,t2),(3,t3),(10,t10)]) h) := by kernel_rfl
theorem n3_23 (fr : Fr) (h : Heap) : K3_11 .normal fr h = E3 C3_30 (kFin T Try.f3.results.toList) fr h := kSeq_n _ _ _ _
theorem q3_24 (fr : Fr) (h : Heap) : E3 C3_30 (kFin T Try.f3.results.toList) fr h = E3 C3_31 K3_12 fr h := stepSeq (by kernel_rfl) _ _ _
theorem r3_11 (K : Kont) (t0 t1 t2 t3 t10 : AV) (h : Heap) : E3 C3_31 K (frOf 63 [(0,t0),(1,t1),(2,t2),(3,t3),(10,t10)]) h = R3_11 t0 t1 t2 t3 t10 h (fun t0 t1 t2 t3 t10 h => K .normal (frOf 63 [(0,t0),(1,t1),(2,t2),(3,t3),(10,t10)]) h) := by kernel_rfl
theorem n3_25 (fr : Fr) (h : Heap) : K3_12 .normal fr h = E3 C3_32 (kFin T Try.f3.results.toList) fr h := kSeq_n _ _ _ _
theorem q3_26 (fr : Fr) (h : Heap) : E3 C3_32 (kFin T Try.f3.results.toList) fr h = E3 C3_33 K3_13 fr h := stepSeq (by kernel_rfl) _ _ _
theorem r3_12 (K : Kont) (t0 t1 t2 t3 t10 : AV) (h : Heap) : E3 C3_33 K (frOf 63 [(0,t0),(1,t1),(2,t2),(3,t3),(10,t10)]) h = R3_12 t0 t1 t2 t3 t10 h (fun t0 t1 t2 t3 t10 h => K .normal (frOf 63 [(0,t0),(1,t1),(2,t2),(3,t3),(10,t10)]) h) := by kernel_rfl
theorem n3_27 (fr : Fr) (h : Heap) : K3_13 .normal fr h = E3 C3_34 (kFin T Try.f3.results.toList) fr h := kSeq_n _ _ _ _
theorem q3_28 (fr : Fr) (h : Heap) : E3 C3_34 (kFin T Try.f3.results.toList) fr h = E3 C3_35 K3_14 fr h := stepSeq (by kernel_rfl) _ _ _
theorem r3_13 (K : Kont) (t0 t1 t2 t3 t10 : AV) (h : Heap) : E3 C3_35 K (frOf 63 [(0,t0),(1,t1),(2,t2),(3,t3),(10,t10)]) h = R3_13 t0 t1 t2 t3 t10 h (fun t0 t1 t2 t3 t10 h => K .normal (frOf 63 [(0,t0),(1,t1),(2,t2),(3,t3),(10,t10)]) h) := by kernel_rfl
theorem n3_29 (fr : Fr) (h : Heap) : K3_14 .normal fr h = E3 C3_36 (kFin T Try.f3.results.toList) fr h := kSeq_n _ _ _ _
theorem q3_30 (fr : Fr) (h : Heap) : E3 C3_36 (kFin T Try.f3.results.toList) fr h = E3 C3_37 K3_15 fr h := stepSeq (by kernel_rfl) _ _ _
theorem r3_14 (K : Kont) (t0 t1 t2 t3 t10 : AV) (h : Heap) : E3 C3_37 K (frOf 63 [(0,t0),(1,t1),(2,t2),(3,t3),(10,t10)]) h = R3_14 t0 t1 t2 t3 t10 h (fun t0 t1 t2 t11 t12 h => K .normal (frOf 63 [(0,t0),(1,t1),(2,t2),(11,t11),(12,t12)]) h) := by kernel_rfl
theorem n3_31 (fr : Fr) (h : Heap) : K3_15 .normal fr h = E3 C3_38 (kFin T Try.f3.results.toList) fr h := kSeq_n _ _ _ _
theorem q3_32 (fr : Fr) (h : Heap) : E3 C3_38 (kFin T Try.f3.results.toList) fr h = E3 C3_39 K3_16 fr h := stepSeq (by kernel_rfl) _ _ _
theorem r3_15 (K : Kont) (t0 t1 t2 t11 t12 : AV) (h : Heap) : E3 C3_39 K (frOf 63 [(0,t0),(1,t1),(2,t2),(11,t11),(12,t12)]) h = R3_15 t0 t1 t2 t11 t12 h (fun t1 t2 t11 t12 t13 h => K .normal (frOf 63 [(1,t1),(2,t2),(11,t11),(12,t12),(13,t13)]) h) := by kernel_rfl
theorem n3_33 (fr : Fr) (h : Heap) : K3_16 .normal fr h = E3 C3_40 (kFin T Try.f3.results.toList) fr h := kSeq_n _ _ _ _
theorem q3_34 (fr : Fr) (h : Heap) : E3 C3_40 (kFin T Try.f3.results.toList) fr h = E3 C3_41 K3_17 fr h := stepSeq (by kernel_rfl) _ _ _
theorem q3_35 (fr : Fr) (h : Heap) : E3 C3_41 K3_17 fr h = E3 C3_43 K3_18 fr h := stepSeq (by kernel_rfl) _ _ _
theorem r3_16 (K : Kont) (t1 t2 t11 t12 t13 : AV) (h : Heap) : E3 C3_43 K (frOf 63 [(1,t1),(2,t2),(11,t11),(12,t12),(13,t13)]) h = R3_16 t1 t2 t11 t12 t13 h (fun t1 t11 t12 t13 t53 h => K .normal (frOf 63 [(1,t1),(11,t11),(12,t12),(13,t13),(53,t53)]) h) := by kernel_rfl
theorem n3_36 (fr : Fr) (h : Heap) : K3_18 .normal fr h = E3 C3_44 K3_17 fr h := kSeq_n _ _ _ _
theorem n3_37 (fr : Fr) (h : Heap) : K3_17 .normal fr h = E3 C3_42 (kFin T Try.f3.results.toList) fr h := kSeq_n _ _ _ _
theorem q3_38 (fr : Fr) (h : Heap) : E3 C3_42 (kFin T Try.f3.results.toList) fr h = E3 C3_47 K3_19 fr h := stepSeq (by kernel_rfl) _ _ _
theorem r3_17 (K : Kont) (t1 t11 t12 : AV) (h : Heap) : E3 C3_45 K (frOf 63 [(1,t1),(11,t11),(12,t12)]) h = R3_17 t1 t11 t12 h (fun t11 t12 t13 h => K .normal (frOf 63 [(11,t11),(12,t12),(13,t13)]) h) := by kernel_rfl
theorem r3_18 (K : Kont) (t11 t12 t13 : AV) (h : Heap) : E3 C3_47 K (frOf 63 [(11,t11),(12,t12),(13,t13)]) h = R3_18 t11 t12 t13 h (fun t8 h => K .normal (frOf 63 [(8,t8)]) h) := by kernel_rfl
theorem n3_39 (fr : Fr) (h : Heap) : K3_19 .normal fr h = E3 C3_48 (kFin T Try.f3.results.toList) fr h := kSeq_n _ _ _ _
theorem b3_18 (t11 t12 t13 : AV) (h : Heap) : E3 C3_47 K3_19 (frOf 63 [(11,t11),(12,t12),(13,t13)]) h = G3_18 t11 t12 t13 h :=
  (r3_18 K3_19 t11 t12 t13 h).trans (congrArg (R3_18 t11 t12 t13 h) (funext fun t8 => funext fun h => (Eq.trans (n3_39 _ _) (Eq.trans (stepRet (by kernel_rfl) (kFin T Try.f3.results.toList) _ _) (by kernel_rfl)))))
theorem b3_17 (t1 t11 t12 : AV) (h : Heap) : E3 C3_45 K3_17 (frOf 63 [(1,t1),(11,t11),(12,t12)]) h = G3_17 t1 t11 t12 h :=
  (r3_17 K3_17 t1 t11 t12 h).trans (congrArg (R3_17 t1 t11 t12 h) (funext fun t11 => funext fun t12 => funext fun t13 => funext fun h => (Eq.trans (n3_37 _ _) (Eq.trans (q3_38 _ _) (b3_18 t11 t12 t13 h)))))
theorem b3_16 (t1 t2 t11 t12 t13 : AV) (h : Heap) : E3 C3_43 K3_18 (frOf 63 [(1,t1),(2,t2),(11,t11),(12,t12),(13,t13)]) h = G3_16 t1 t2 t11 t12 t13 h :=
  (r3_16 K3_18 t1 t2 t11 t12 t13 h).trans (congrArg (R3_16 t1 t2 t11 t12 t13 h) (funext fun t1 => funext fun t11 => funext fun t12 => funext fun t13 => funext fun t53 => funext fun h => (Eq.trans (n3_36 _ _) (Eq.trans (stepCond (c := C3_44) (by kernel_rfl) K3_17 _ _ (v := t53) (by kernel_rfl)) (bcase_congr t53 (Eq.trans (stepClean (c := C3_45) (id := 17) (by kernel_rfl) K3_17 _ _ (by kernel_rfl)) (b3_17 t1 t11 t12 h)) (Eq.trans (stepSkip (by kernel_rfl) K3_17 _ _) (Eq.trans (n3_37 _ _) (Eq.trans (q3_38 _ _) (Eq.trans (stepClean (c := C3_47) (id := 18) (by kernel_rfl) K3_19 _ _ (by kernel_rfl)) (b3_18 t11 t12 t13 h))))))))))
theorem b3_15 (t0 t1 t2 t11 t12 : AV) (h : Heap) : E3 C3_39 K3_16 (frOf 63 [(0,t0),(1,t1),(2,t2),(11,t11),(12,t12)]) h = G3_15 t0 t1 t2 t11 t12 h :=
  (r3_15 K3_16 t0 t1 t2 t11 t12 h).trans (congrArg (R3_15 t0 t1 t2 t11 t12 h) (funext fun t1 => funext fun t2 => funext fun t11 => funext fun t12 => funext fun t13 => funext fun h => (Eq.trans (n3_33 _ _) (Eq.trans (q3_34 _ _) (Eq.trans (q3_35 _ _) (b3_16 t1 t2 t11 t12 t13 h))))))
theorem b3_14 (t0 t1 t2 t3 t10 : AV) (h : Heap) : E3 C3_37 K3_15 (frOf 63 [(0,t0),(1,t1),(2,t2),(3,t3),(10,t10)]) h = G3_14 t0 t1 t2 t3 t10 h :=
  (r3_14 K3_15 t0 t1 t2 t3 t10 h).trans (congrArg (R3_14 t0 t1 t2 t3 t10 h) (funext fun t0 => funext fun t1 => funext fun t2 => funext fun t11 => funext fun t12 => funext fun h => (Eq.trans (n3_31 _ _) (Eq.trans (q3_32 _ _) (b3_15 t0 t1 t2 t11 t12 h)))))
theorem b3_13 (t0 t1 t2 t3 t10 : AV) (h : Heap) : E3 C3_35 K3_14 (frOf 63 [(0,t0),(1,t1),(2,t2),(3,t3),(10,t10)]) h = G3_13 t0 t1 t2 t3 t10 h :=
  (r3_13 K3_14 t0 t1 t2 t3 t10 h).trans (congrArg (R3_13 t0 t1 t2 t3 t10 h) (funext fun t0 => funext fun t1 => funext fun t2 => funext fun t3 => funext fun t10 => funext fun h => (Eq.trans (n3_29 _ _) (Eq.trans (q3_30 _ _) (b3_14 t0 t1 t2 t3 t10 h)))))
theorem b3_12 (t0 t1 t2 t3 t10 : AV) (h : Heap) : E3 C3_33 K3_13 (frOf 63 [(0,t0),(1,t1),(2,t2),(3,t3),(10,t10)]) h = G3_12 t0 t1 t2 t3 t10 h :=
  (r3_12 K3_13 t0 t1 t2 t3 t10 h).trans (congrArg (R3_12 t0 t1 t2 t3 t10 h) (funext fun t0 => funext fun t1 => funext fun t2 => funext fun t3 => funext fun t10 => funext fun h => (Eq.trans (n3_27 _ _) (Eq.trans (q3_28 _ _) (b3_13 t0 t1 t2 t3 t10 h)))))
theorem b3_11 (t0 t1 t2 t3 t10 : AV) (h : Heap) : E3 C3_31 K3_12 (frOf 63 [(0,t0),(1,t1),(2,t2),(3,t3),(10,t10)]) h = G3_11 t0 t1 t2 t3 t10 h :=
  (r3_11 K3_12 t0 t1 t2 t3 t10 h).trans (congrArg (R3_11 t0 t1 t2 t3 t10 h) (funext fun t0 => funext fun t1 => funext fun t2 => funext fun t3 => funext fun t10 => funext fun h => (Eq.trans (n3_25 _ _) (Eq.trans (q3_26 _ _) (b3_12 t0 t1 t2 t3 t10 h)))))
theorem b3_10 (t0 t1 t2 t3 t10 : AV) (h : Heap) : E3 C3_29 K3_11 (frOf 63 [(0,t0),(1,t1),(2,t2),(3,t3),(10,t10)]) h = G3_10 t0 t1 t2 t3 t10 h :=
  (r3_10 K3_11 t0 t1 t2 t3 t10 h).trans (congrArg (R3_10 t0 t1 t2 t3 t10 h) (funext fun t0 => funext fun t1 => funext fun t2 => funext fun t3 => funext fun t10 => funext fun h => (Eq.trans (n3_23 _ _) (Eq.trans (q3_24 _ _) (b3_11 t0 t1 t2 t3 t10 h)))))
theorem b3_9 (t0 t1 t2 t3 t10 : AV) (h : Heap) : E3 C3_27 K3_10 (frOf 63 [(0,t0),(1,t1),(2,t2),(3,t3),(10,t10)]) h = G3_9 t0 t1 t2 t3 t10 h :=
  (r3_9 K3_10 t0 t1 t2 t3 t10 h).trans (congrArg (R3_9 t0 t1 t2 t3 t10 h) (funext fun t0 => funext fun t1 => funext fun t2 => funext fun t3 => funext fun t10 => funext fun h => (Eq.trans (n3_21 _ _) (Eq.trans (q3_22 _ _) (b3_10 t0 t1 t2 t3 t10 h)))))
theorem b3_8 (t0 t1 t2 t3 : AV) (h : Heap) : E3 C3_25 K3_9 (frOf 63 [(0,t0),(1,t1),(2,t2),(3,t3)]) h = G3_8 t0 t1 t2 t3 h :=
  (r3_8 K3_9 t0 t1 t2 t3 h).trans (congrArg (R3_8 t0 t1 t2 t3 h) (funext fun t0 => funext fun t1 => funext fun t2 => funext fun t3 => funext fun t10 => funext fun h => (Eq.trans (n3_19 _ _) (Eq.trans (q3_20 _ _) (b3_9 t0 t1 t2 t3 t10 h)))))
theorem b3_7 (t0 t1 t2 t3 : AV) (h : Heap) : E3 C3_23 K3_7 (frOf 63 [(0,t0),(1,t1),(2,t2),(3,t3)]) h = G3_7 t0 t1 t2 t3 h :=
  (r3_7 K3_7 t0 t1 t2 t3 h).trans (congrArg (R3_7 t0 t1 t2 t3 h) (funext fun t0 => funext fun t1 => funext fun t2 => funext fun t3 => funext fun h => (Eq.trans (n3_17 _ _) (Eq.trans (q3_18 _ _) (b3_8 t0 t1 t2 t3 h)))))
theorem b3_6 (t0 t1 t2 t3 : AV) (h : Heap) : E3 C3_21 K3_8 (frOf 63 [(0,t0),(1,t1),(2,t2),(3,t3)]) h = G3_6 t0 t1 t2 t3 h :=
  (r3_6 K3_8 t0 t1 t2 t3 h).trans (congrArg (R3_6 t0 t1 t2 t3 h) (funext fun t0 => funext fun t1 => funext fun t2 => funext fun t3 => funext fun t24 => funext fun h => (Eq.trans (n3_16 _ _) (Eq.trans (stepCond (c := C3_22) (by kernel_rfl) K3_7 _ _ (v := t24) (by kernel_rfl)) (bcase_congr t24 (Eq.trans (stepClean (c := C3_23) (id := 7) (by kernel_rfl) K3_7 _ _ (by kernel_rfl)) (b3_7 t0 t1 t2 t3 h)) (Eq.trans (stepSkip (by kernel_rfl) K3_7 _ _) (Eq.trans (n3_17 _ _) (Eq.trans (q3_18 _ _) (Eq.trans (stepClean (c := C3_25) (id := 8) (by kernel_rfl) K3_9 _ _ (by kernel_rfl)) (b3_8 t0 t1 t2 t3 h))))))))))
theorem b3_5 (t0 t1 t2 t3 : AV) (h : Heap) : E3 C3_17 K3_5 (frOf 63 [(0,t0),(1,t1),(2,t2),(3,t3)]) h = G3_5 t0 t1 t2 t3 h :=
  (r3_5 K3_5 t0 t1 t2 t3 h).trans (congrArg (R3_5 t0 t1 t2 t3 h) (funext fun t0 => funext fun t1 => funext fun t2 => funext fun t3 => funext fun h => (Eq.trans (n3_13 _ _) (Eq.trans (q3_14 _ _) (Eq.trans (q3_15 _ _) (b3_6 t0 t1 t2 t3 h))))))
theorem b3_4 (t0 t1 t2 t3 : AV) (h : Heap) : E3 C3_15 K3_6 (frOf 63 [(0,t0),(1,t1),(2,t2),(3,t3)]) h = G3_4 t0 t1 t2 t3 h :=
  (r3_4 K3_6 t0 t1 t2 t3 h).trans (congrArg (R3_4 t0 t1 t2 t3 h) (funext fun t0 => funext fun t1 => funext fun t2 => funext fun t3 => funext fun t19 => funext fun h => (Eq.trans (n3_12 _ _) (Eq.trans (stepCond (c := C3_16) (by kernel_rfl) K3_5 _ _ (v := t19) (by kernel_rfl)) (bcase_congr t19 (Eq.trans (stepClean (c := C3_17) (id := 5) (by kernel_rfl) K3_5 _ _ (by kernel_rfl)) (b3_5 t0 t1 t2 t3 h)) (Eq.trans (stepSkip (by kernel_rfl) K3_5 _ _) (Eq.trans (n3_13 _ _) (Eq.trans (q3_14 _ _) (Eq.trans (q3_15 _ _) (Eq.trans (stepClean (c := C3_21) (id := 6) (by kernel_rfl) K3_8 _ _ (by kernel_rfl)) (b3_6 t0 t1 t2 t3 h)))))))))))
theorem b3_2 (t0 t1 t2 t3 t9 : AV) (h : Heap) : E3 C3_7 K3_3 (frOf 63 [(0,t0),(1,t1),(2,t2),(3,t3),(9,t9)]) h = G3_2 t0 t1 t2 t3 t9 h :=
  (r3_2 K3_3 t0 t1 t2 t3 t9 h).trans (congrArg (R3_2 t0 t1 t2 t3 t9 h) (funext fun t0 => funext fun t1 => funext fun t2 => funext fun t3 => funext fun t16 => funext fun h => (Eq.trans (n3_6 _ _) (Eq.trans (stepCond (c := C3_8) (by kernel_rfl) K3_2 _ _ (v := t16) (by kernel_rfl)) (bcase_congr t16 (Eq.trans (q3_7 _ _) (Eq.trans (stepClean (c := C3_11) (id := 3) (by kernel_rfl) K3_4 _ _ (by kernel_rfl)) (b3_3 h))) (Eq.trans (stepSkip (by kernel_rfl) K3_2 _ _) (Eq.trans (n3_8 _ _) (Eq.trans (q3_9 _ _) (Eq.trans (q3_10 _ _) (Eq.trans (stepClean (c := C3_15) (id := 4) (by kernel_rfl) K3_6 _ _ (by kernel_rfl)) (b3_4 t0 t1 t2 t3 h)))))))))))
theorem b3_1 (t0 t1 t2 t3 : AV) (h : Heap) : E3 C3_3 K3_1 (frOf 63 [(0,t0),(1,t1),(2,t2),(3,t3)]) h = G3_1 t0 t1 t2 t3 h :=
  (r3_1 K3_1 t0 t1 t2 t3 h).trans (congrArg (R3_1 t0 t1 t2 t3 h) (funext fun t0 => funext fun t1 => funext fun t2 => funext fun t3 => funext fun t9 => funext fun h => (Eq.trans (n3_3 _ _) (Eq.trans (q3_4 _ _) (Eq.trans (q3_5 _ _) (b3_2 t0 t1 t2 t3 t9 h))))))
theorem b3_0 (t0 t1 t2 t3 : AV) (h : Heap) : E3 C3_1 K3_0 (frOf 63 [(0,t0),(1,t1),(2,t2),(3,t3)]) h = G3_0 t0 t1 t2 t3 h :=
  (r3_0 K3_0 t0 t1 t2 t3 h).trans (congrArg (R3_0 t0 t1 t2 t3 h) (funext fun t0 => funext fun t1 => funext fun t2 => funext fun t3 => funext fun h => (Eq.trans (n3_1 _ _) (Eq.trans (q3_2 _ _) (b3_1 t0 t1 t2 t3 h)))))
theorem entry3 (t0 t1 t2 t3 : AV) (h : Heap) : evFunc T PH3 L3 Try.f3 fuel [t0, t1, t2, t3] h = E3 C3_0 (kFin T Try.f3.results.toList) (frOf 63 [(0,t0),(1,t1),(2,t2),(3,t3)]) h := by kernel_rfl
theorem e3 (t0 t1 t2 t3 : AV) (h : Heap) : evFunc T PH3 L3 Try.f3 fuel [t0, t1, t2, t3] h = G3 [t0, t1, t2, t3] h := Eq.trans (entry3 t0 t1 t2 t3 h) (Eq.trans (q3_0 _ _) (b3_0 t0 t1 t2 t3 h))
set_option maxRecDepth 100000 in
theorem s3 : Sound Try.prog 3 G3 := (soundOf tok 3 Try.f3 rfl rfl (Φ := PH3) (allCons s9 (allCons s10 (allCons s11 (allCons s12 (allCons s13 (allCons s14 (allCons s15 allNil))))))) L3 fuel).le fun args h r hr => by
  unfold G3 at hr; split at hr
  · exact (e3 _ _ _ _ h).trans (by unfold G3; exact hr)
  · cases hr
end Go.Ab
