/- Printed by a program of the session's own: shallow forms of the program's functions, and that the machine answers as they do. Conditions: none. -/
import Derived.Test.YtlkeplcadnlndaaT1
import Derived.Test.YtlkeplcadnlndaaAb26
import Derived.KernelRfl
set_option linter.unusedSimpArgs false
set_option linter.unusedVariables false
set_option autoImplicit false
set_option linter.unusedVariables false
namespace Go.Ab
open Go.Proofs
/- 35: delphi/disk.room -/
def L35 : PM (List Nat) := .node (.node (.node (.leaf) (some [2]) (.leaf)) (some [0]) (.leaf)) (some [0]) (.node (.leaf) (some [0]) (.leaf))
noncomputable def PH35 : List (Nat × AFn) := []
noncomputable def E35 : Code → Kont → Fr → Heap → Rs := ev T PH35 L35 fuel
noncomputable def C35_0 : Code := bodyOf Try.f35
noncomputable def C35_1 : Code := cl C35_0
noncomputable def C35_2 : Code := cr C35_0
noncomputable def K35_0 : Kont := kSeq (E35 C35_2 (kFin T Try.f35.results.toList)) (kFin T Try.f35.results.toList)
noncomputable def R35_0 (t0 : AV) (h : Heap) (k : AV → Heap → Rs) : Rs :=
  k t0 h
noncomputable def C35_3 : Code := cl C35_2
noncomputable def C35_4 : Code := cr C35_2
noncomputable def K35_1 : Kont := kSeq (E35 C35_4 (kFin T Try.f35.results.toList)) (kFin T Try.f35.results.toList)
noncomputable def R35_1 (t0 : AV) (h : Heap) (k : AV → Heap → Rs) : Rs :=
  pureK (maxA t0 (AV.int .i64 0)) h fun v1 h1 =>
  pureK (minA v1 (AV.int .i64 4194304)) h1 fun v2 h2 =>
  k v2 h2
noncomputable def G35_1 (t0 : AV) (h : Heap) : Rs := R35_1 t0 h fun t2 h => some (t2, h)
noncomputable def G35_0 (t0 : AV) (h : Heap) : Rs := R35_0 t0 h fun t0 h => G35_1 t0 h
noncomputable def G35 : AFn
  | [t0], h => G35_0 t0 h
  | _, _ => none
theorem q35_0 (fr : Fr) (h : Heap) : E35 C35_0 (kFin T Try.f35.results.toList) fr h = E35 C35_1 K35_0 fr h := stepSeq (by kernel_rfl) _ _ _
theorem r35_0 (K : Kont) (t0 : AV) (h : Heap) : E35 C35_1 K (frOf 6 [(0,t0)]) h = R35_0 t0 h (fun t0 h => K .normal (frOf 6 [(0,t0)]) h) := by kernel_rfl
theorem n35_1 (fr : Fr) (h : Heap) : K35_0 .normal fr h = E35 C35_2 (kFin T Try.f35.results.toList) fr h := kSeq_n _ _ _ _
theorem q35_2 (fr : Fr) (h : Heap) : E35 C35_2 (kFin T Try.f35.results.toList) fr h = E35 C35_3 K35_1 fr h := stepSeq (by kernel_rfl) _ _ _
theorem r35_1 (K : Kont) (t0 : AV) (h : Heap) : E35 C35_3 K (frOf 6 [(0,t0)]) h = R35_1 t0 h (fun t2 h => K .normal (frOf 6 [(2,t2)]) h) := by kernel_rfl
theorem n35_3 (fr : Fr) (h : Heap) : K35_1 .normal fr h = E35 C35_4 (kFin T Try.f35.results.toList) fr h := kSeq_n _ _ _ _
theorem b35_1 (t0 : AV) (h : Heap) : E35 C35_3 K35_1 (frOf 6 [(0,t0)]) h = G35_1 t0 h :=
  (r35_1 K35_1 t0 h).trans (congrArg (R35_1 t0 h) (funext fun t2 => funext fun h => (Eq.trans (n35_3 _ _) (Eq.trans (stepRet (by kernel_rfl) (kFin T Try.f35.results.toList) _ _) (by kernel_rfl)))))
theorem b35_0 (t0 : AV) (h : Heap) : E35 C35_1 K35_0 (frOf 6 [(0,t0)]) h = G35_0 t0 h :=
  (r35_0 K35_0 t0 h).trans (congrArg (R35_0 t0 h) (funext fun t0 => funext fun h => (Eq.trans (n35_1 _ _) (Eq.trans (q35_2 _ _) (b35_1 t0 h)))))
theorem entry35 (t0 : AV) (h : Heap) : evFunc T PH35 L35 Try.f35 fuel [t0] h = E35 C35_0 (kFin T Try.f35.results.toList) (frOf 6 [(0,t0)]) h := by kernel_rfl
theorem e35 (t0 : AV) (h : Heap) : evFunc T PH35 L35 Try.f35 fuel [t0] h = G35 [t0] h := Eq.trans (entry35 t0 h) (Eq.trans (q35_0 _ _) (b35_0 t0 h))
set_option maxRecDepth 100000 in
theorem s35 : Sound Try.prog 35 G35 := (soundOf tok 35 Try.f35 rfl rfl (Φ := PH35) allNil L35 fuel).le fun args h r hr => by
  unfold G35 at hr; split at hr
  · exact (e35 _ h).trans (by unfold G35; exact hr)
  · cases hr
/- 10: delphi/disk.New -/
def L10 : PM (List Nat) := .node (.node (.node (.leaf) (some [2]) (.leaf)) (some [0]) (.leaf)) (some [0]) (.node (.leaf) (some [0]) (.leaf))
noncomputable def PH10 : List (Nat × AFn) := [(35, G35)]
noncomputable def E10 : Code → Kont → Fr → Heap → Rs := ev T PH10 L10 fuel
noncomputable def C10_0 : Code := bodyOf Try.f10
noncomputable def C10_1 : Code := cl C10_0
noncomputable def C10_2 : Code := cr C10_0
noncomputable def K10_0 : Kont := kSeq (E10 C10_2 (kFin T Try.f10.results.toList)) (kFin T Try.f10.results.toList)
noncomputable def R10_0 (t0 : AV) (h : Heap) (k : AV → Heap → Rs) : Rs :=
  k t0 h
noncomputable def C10_3 : Code := cl C10_2
noncomputable def C10_4 : Code := cr C10_2
noncomputable def K10_1 : Kont := kSeq (E10 C10_4 (kFin T Try.f10.results.toList)) (kFin T Try.f10.results.toList)
noncomputable def R10_1 (t0 : AV) (h : Heap) (k : AV → Heap → Rs) : Rs :=
  efK (G35 [t0] h) fun v1 h1 =>
  alK mkMap h1 fun v2 h2 =>
  alK mkMap h2 fun v3 h3 =>
  pureK (bldP [(AV.int .i64 0), (AV.mnil), (AV.mnil), (AV.snil)] [(0, 1, v1), (1, 1, v2), (2, 1, v3)]) h3 fun v4 h4 =>
  alK (boxV 4 v4) h4 fun v5 h5 =>
  k v5 h5
noncomputable def G10_1 (t0 : AV) (h : Heap) : Rs := R10_1 t0 h fun t2 h => some (t2, h)
noncomputable def G10_0 (t0 : AV) (h : Heap) : Rs := R10_0 t0 h fun t0 h => G10_1 t0 h
noncomputable def G10 : AFn
  | [t0], h => G10_0 t0 h
  | _, _ => none
theorem q10_0 (fr : Fr) (h : Heap) : E10 C10_0 (kFin T Try.f10.results.toList) fr h = E10 C10_1 K10_0 fr h := stepSeq (by kernel_rfl) _ _ _
theorem r10_0 (K : Kont) (t0 : AV) (h : Heap) : E10 C10_1 K (frOf 9 [(0,t0)]) h = R10_0 t0 h (fun t0 h => K .normal (frOf 9 [(0,t0)]) h) := by kernel_rfl
theorem n10_1 (fr : Fr) (h : Heap) : K10_0 .normal fr h = E10 C10_2 (kFin T Try.f10.results.toList) fr h := kSeq_n _ _ _ _
theorem q10_2 (fr : Fr) (h : Heap) : E10 C10_2 (kFin T Try.f10.results.toList) fr h = E10 C10_3 K10_1 fr h := stepSeq (by kernel_rfl) _ _ _
theorem r10_1 (K : Kont) (t0 : AV) (h : Heap) : E10 C10_3 K (frOf 9 [(0,t0)]) h = R10_1 t0 h (fun t2 h => K .normal (frOf 9 [(2,t2)]) h) := by kernel_rfl
theorem n10_3 (fr : Fr) (h : Heap) : K10_1 .normal fr h = E10 C10_4 (kFin T Try.f10.results.toList) fr h := kSeq_n _ _ _ _
theorem b10_1 (t0 : AV) (h : Heap) : E10 C10_3 K10_1 (frOf 9 [(0,t0)]) h = G10_1 t0 h :=
  (r10_1 K10_1 t0 h).trans (congrArg (R10_1 t0 h) (funext fun t2 => funext fun h => (Eq.trans (n10_3 _ _) (Eq.trans (stepRet (by kernel_rfl) (kFin T Try.f10.results.toList) _ _) (by kernel_rfl)))))
theorem b10_0 (t0 : AV) (h : Heap) : E10 C10_1 K10_0 (frOf 9 [(0,t0)]) h = G10_0 t0 h :=
  (r10_0 K10_0 t0 h).trans (congrArg (R10_0 t0 h) (funext fun t0 => funext fun h => (Eq.trans (n10_1 _ _) (Eq.trans (q10_2 _ _) (b10_1 t0 h)))))
theorem entry10 (t0 : AV) (h : Heap) : evFunc T PH10 L10 Try.f10 fuel [t0] h = E10 C10_0 (kFin T Try.f10.results.toList) (frOf 9 [(0,t0)]) h := by kernel_rfl
theorem e10 (t0 : AV) (h : Heap) : evFunc T PH10 L10 Try.f10 fuel [t0] h = G10 [t0] h := Eq.trans (entry10 t0 h) (Eq.trans (q10_0 _ _) (b10_0 t0 h))
set_option maxRecDepth 100000 in
theorem s10 : Sound Try.prog 10 G10 := (soundOf tok 10 Try.f10 rfl rfl (Φ := PH10) (allCons s35 allNil) L10 fuel).le fun args h r hr => by
  unfold G10 at hr; split at hr
  · exact (e10 _ h).trans (by unfold G10; exact hr)
  · cases hr
/- 36: delphi/disk.may -/
def L36 : PM (List Nat) := .node (.node (.node (.node (.node (.leaf) (some [0, 6, 7]) (.leaf)) (some [0, 3, 6, 7]) (.leaf)) (some [0, 6, 7]) (.node (.leaf) (some [0, 6, 7, 38]) (.leaf))) (some [0]) (.node (.node (.node (.leaf) (some [2]) (.leaf)) (some [0, 4, 6, 7]) (.leaf)) (some [0, 6, 7, 8]) (.node (.leaf) (some [2]) (.leaf)))) (some [0]) (.node (.node (.node (.node (.leaf) (some [0]) (.leaf)) (some [0, 3, 6, 7]) (.leaf)) (some [0, 6, 7]) (.node (.leaf) (some []) (.leaf))) (some [0]) (.node (.node (.leaf) (some [0, 4, 6, 7]) (.leaf)) (some [0, 6, 7]) (.node (.leaf) (some [0, 6, 7]) (.leaf))))
noncomputable def PH36 : List (Nat × AFn) := []
noncomputable def E36 : Code → Kont → Fr → Heap → Rs := ev T PH36 L36 fuel
noncomputable def C36_0 : Code := bodyOf Try.f36
noncomputable def C36_1 : Code := cl C36_0
noncomputable def C36_2 : Code := cr C36_0
noncomputable def K36_0 : Kont := kSeq (E36 C36_2 (kFin T Try.f36.results.toList)) (kFin T Try.f36.results.toList)
noncomputable def R36_0 (t0 : AV) (h : Heap) (k : AV → Heap → Rs) : Rs :=
  k t0 h
noncomputable def C36_3 : Code := cl C36_2
noncomputable def C36_4 : Code := cr C36_2
noncomputable def K36_1 : Kont := kSeq (E36 C36_4 (kFin T Try.f36.results.toList)) (kFin T Try.f36.results.toList)
noncomputable def C36_5 : Code := cl C36_3
noncomputable def C36_6 : Code := cr C36_3
noncomputable def K36_2 : Kont := kSeq (E36 C36_6 K36_1) K36_1
noncomputable def R36_1 (t0 : AV) (h : Heap) (k : AV → AV → AV → Heap → Rs) : Rs :=
  pureK (lenStr t0) h fun v1 h1 =>
  k t0 v1 (AV.int .i64 0) h1
noncomputable def C36_7 : Code := cl C36_6
noncomputable def K36_3 : Kont := kBlock 0 K36_1
noncomputable def C36_8 : Code := cl C36_7
noncomputable def K36_4 (m0 : Nat) : Kont := kSeq (fun fr h => evLoop (cleanO L36 (headId C36_8)) (E36 C36_8) K36_3 m0 ((cleanO L36 (headId C36_8)) fr) h) K36_3
noncomputable def C36_9 : Code := cl C36_8
noncomputable def C36_10 : Code := cr C36_8
noncomputable def K36_5 (m0 : Nat) : Kont := kSeq (E36 C36_10 (K36_4 m0)) (K36_4 m0)
noncomputable def R36_2 (t0 t6 t7 : AV) (h : Heap) (k : AV → AV → AV → AV → Heap → Rs) : Rs :=
  pureK (binOpA T .lss 3 t7 t6) h fun v0 h0 =>
  k t0 t6 t7 v0 h0
noncomputable def C36_11 : Code := cl C36_10
noncomputable def C36_12 : Code := cr C36_10
noncomputable def K36_6 (m0 : Nat) : Kont := kSeq (E36 C36_12 (K36_4 m0)) (K36_4 m0)
noncomputable def C36_13 : Code := cl C36_11
noncomputable def C36_14 : Code := cr C36_11
noncomputable def C36_15 : Code := cl C36_12
noncomputable def C36_16 : Code := cr C36_12
noncomputable def K36_7 (m0 : Nat) : Kont := kSeq (E36 C36_16 (K36_4 m0)) (K36_4 m0)
noncomputable def C36_17 : Code := cl C36_15
noncomputable def K36_8 (m0 : Nat) : Kont := kBlock 1 (K36_7 m0)
noncomputable def C36_18 : Code := cl C36_17
noncomputable def C36_19 : Code := cr C36_17
noncomputable def K36_9 (m0 : Nat) : Kont := kSeq (E36 C36_19 (K36_8 m0)) (K36_8 m0)
noncomputable def C36_20 : Code := cl C36_4
noncomputable def C36_21 : Code := cr C36_4
noncomputable def K36_10 : Kont := kSeq (E36 C36_21 (kFin T Try.f36.results.toList)) (kFin T Try.f36.results.toList)
noncomputable def R36_3 (t0 t6 t7 : AV) (h : Heap) (k : AV → AV → AV → AV → Heap → Rs) : Rs :=
  k t0 t7 t6 t7 h
noncomputable def C36_22 : Code := cl C36_19
noncomputable def C36_23 : Code := cr C36_19
noncomputable def K36_11 (m0 : Nat) : Kont := kSeq (E36 C36_23 (K36_8 m0)) (K36_8 m0)
noncomputable def R36_4 (t0 t3 t6 t7 : AV) (h : Heap) (k : AV → AV → AV → AV → Heap → Rs) : Rs :=
  pureK (idxS t0 t3) h fun v2 h2 =>
  k t0 v2 t6 t7 h2
noncomputable def C36_24 : Code := cl C36_23
noncomputable def C36_25 : Code := cr C36_23
noncomputable def K36_12 (m0 : Nat) : Kont := kSeq (E36 C36_25 (K36_8 m0)) (K36_8 m0)
noncomputable def R36_5 (t0 t4 t6 t7 : AV) (h : Heap) (k : AV → AV → AV → AV → Heap → Rs) : Rs :=
  pureK (binOpA T .lss 5 t4 (AV.int .u8 97)) h fun v1 h1 =>
  gcase v1
    (
      pureK (binOpA T .lss 5 t4 (AV.int .u8 65)) h1 fun v8 h8 =>
      gcase v8
        (
          pureK (binOpA T .lss 5 t4 (AV.int .u8 48)) h8 fun v16 h16 =>
          gcase v16
            (
              pureK (binOpA T .neq 5 t4 (AV.int .u8 46)) h16 fun v24 h24 =>
              k t0 t6 t7 v24 h24)
            (
              pureK (binOpA T .gtr 5 t4 (AV.int .u8 57)) h16 fun v19 h19 =>
              gcase v19
                (
                  pureK (binOpA T .neq 5 t4 (AV.int .u8 46)) h19 fun v24 h24 =>
                  k t0 t6 t7 v24 h24)
                (
                  k t0 t6 t7 (AV.bool false) h19)
                (
                  none))
            (
              none))
        (
          pureK (binOpA T .gtr 5 t4 (AV.int .u8 90)) h8 fun v11 h11 =>
          gcase v11
            (
              pureK (binOpA T .lss 5 t4 (AV.int .u8 48)) h11 fun v16 h16 =>
              gcase v16
                (
                  pureK (binOpA T .neq 5 t4 (AV.int .u8 46)) h16 fun v24 h24 =>
                  k t0 t6 t7 v24 h24)
                (
                  pureK (binOpA T .gtr 5 t4 (AV.int .u8 57)) h16 fun v19 h19 =>
                  gcase v19
                    (
                      pureK (binOpA T .neq 5 t4 (AV.int .u8 46)) h19 fun v24 h24 =>
                      k t0 t6 t7 v24 h24)
                    (
                      k t0 t6 t7 (AV.bool false) h19)
                    (
                      none))
                (
                  none))
            (
              k t0 t6 t7 (AV.bool false) h11)
            (
              none))
        (
          none))
    (
      pureK (binOpA T .gtr 5 t4 (AV.int .u8 122)) h1 fun v4 h4 =>
      gcase v4
        (
          pureK (binOpA T .lss 5 t4 (AV.int .u8 65)) h4 fun v8 h8 =>
          gcase v8
            (
              pureK (binOpA T .lss 5 t4 (AV.int .u8 48)) h8 fun v16 h16 =>
              gcase v16
                (
                  pureK (binOpA T .neq 5 t4 (AV.int .u8 46)) h16 fun v24 h24 =>
                  k t0 t6 t7 v24 h24)
                (
                  pureK (binOpA T .gtr 5 t4 (AV.int .u8 57)) h16 fun v19 h19 =>
                  gcase v19
                    (
                      pureK (binOpA T .neq 5 t4 (AV.int .u8 46)) h19 fun v24 h24 =>
                      k t0 t6 t7 v24 h24)
                    (
                      k t0 t6 t7 (AV.bool false) h19)
                    (
                      none))
                (
                  none))
            (
              pureK (binOpA T .gtr 5 t4 (AV.int .u8 90)) h8 fun v11 h11 =>
              gcase v11
                (
                  pureK (binOpA T .lss 5 t4 (AV.int .u8 48)) h11 fun v16 h16 =>
                  gcase v16
                    (
                      pureK (binOpA T .neq 5 t4 (AV.int .u8 46)) h16 fun v24 h24 =>
                      k t0 t6 t7 v24 h24)
                    (
                      pureK (binOpA T .gtr 5 t4 (AV.int .u8 57)) h16 fun v19 h19 =>
                      gcase v19
                        (
                          pureK (binOpA T .neq 5 t4 (AV.int .u8 46)) h19 fun v24 h24 =>
                          k t0 t6 t7 v24 h24)
                        (
                          k t0 t6 t7 (AV.bool false) h19)
                        (
                          none))
                    (
                      none))
                (
                  k t0 t6 t7 (AV.bool false) h11)
                (
                  none))
            (
              none))
        (
          k t0 t6 t7 (AV.bool false) h4)
        (
          none))
    (
      none)
noncomputable def C36_26 : Code := cl C36_25
noncomputable def C36_27 : Code := cr C36_25
noncomputable def C36_28 : Code := cl C36_26
noncomputable def C36_29 : Code := cr C36_26
noncomputable def K36_13 (m0 : Nat) : Kont := kSeq (E36 C36_29 (K36_8 m0)) (K36_8 m0)
noncomputable def R36_6 (h : Heap) (k : AV → Heap → Rs) : Rs :=
  k (AV.bool false) h
noncomputable def G36_6 (lc0 : AV → AV → AV → Heap → Rs) (h : Heap) : Rs := R36_6 h fun t2 h => some (t2, h)
noncomputable def R36_7 (t0 t6 t7 : AV) (h : Heap) (k : AV → AV → AV → Heap → Rs) : Rs :=
  pureK (binOpA T .add 3 t7 (AV.int .i64 1)) h fun v0 h0 =>
  k t0 t6 v0 h0
noncomputable def G36_7 (lc0 : AV → AV → AV → Heap → Rs) (t0 t6 t7 : AV) (h : Heap) : Rs := R36_7 t0 t6 t7 h fun t0 t6 t7 h => lc0 t0 t6 t7 h
noncomputable def G36_5 (lc0 : AV → AV → AV → Heap → Rs) (t0 t4 t6 t7 : AV) (h : Heap) : Rs := R36_5 t0 t4 t6 t7 h fun t0 t6 t7 t38 h => bcase t38 (G36_6 lc0 h) (G36_7 lc0 t0 t6 t7 h)
noncomputable def G36_4 (lc0 : AV → AV → AV → Heap → Rs) (t0 t3 t6 t7 : AV) (h : Heap) : Rs := R36_4 t0 t3 t6 t7 h fun t0 t4 t6 t7 h => G36_5 lc0 t0 t4 t6 t7 h
noncomputable def G36_3 (lc0 : AV → AV → AV → Heap → Rs) (t0 t6 t7 : AV) (h : Heap) : Rs := R36_3 t0 t6 t7 h fun t0 t3 t6 t7 h => G36_4 lc0 t0 t3 t6 t7 h
noncomputable def R36_8 (t0 : AV) (h : Heap) (k : AV → Heap → Rs) : Rs :=
  pureK (binOpA T .neq 9 t0 (AV.str [])) h fun v1 h1 =>
  gcase v1
    (
      pureK (lenStr t0) h1 fun v4 h4 =>
      pureK (binOpA T .leq 3 v4 (AV.int .i64 16)) h4 fun v5 h5 =>
      k v5 h5)
    (
      k (AV.bool false) h1)
    (
      none)
noncomputable def G36_8 (t0 : AV) (h : Heap) : Rs := R36_8 t0 h fun t2 h => some (t2, h)
noncomputable def G36_2 (lc0 : AV → AV → AV → Heap → Rs) (t0 t6 t7 : AV) (h : Heap) : Rs := R36_2 t0 t6 t7 h fun t0 t6 t7 t8 h => bcase t8 (G36_3 lc0 t0 t6 t7 h) (G36_8 t0 h)
noncomputable def G36_l0 : Nat → AV → AV → AV → Heap → Rs
  | 0, _, _, _, _ => none
  | m + 1, t0, t6, t7, h => G36_2 (G36_l0 m) t0 t6 t7 h
noncomputable def G36_1 (t0 : AV) (h : Heap) : Rs := R36_1 t0 h fun t0 t6 t7 h => G36_l0 fuel t0 t6 t7 h
noncomputable def G36_0 (t0 : AV) (h : Heap) : Rs := R36_0 t0 h fun t0 h => G36_1 t0 h
noncomputable def G36 : AFn
  | [t0], h => G36_0 t0 h
  | _, _ => none
theorem q36_0 (fr : Fr) (h : Heap) : E36 C36_0 (kFin T Try.f36.results.toList) fr h = E36 C36_1 K36_0 fr h := stepSeq (by kernel_rfl) _ _ _
theorem r36_0 (K : Kont) (t0 : AV) (h : Heap) : E36 C36_1 K (frOf 47 [(0,t0)]) h = R36_0 t0 h (fun t0 h => K .normal (frOf 47 [(0,t0)]) h) := by kernel_rfl
theorem n36_1 (fr : Fr) (h : Heap) : K36_0 .normal fr h = E36 C36_2 (kFin T Try.f36.results.toList) fr h := kSeq_n _ _ _ _
theorem q36_2 (fr : Fr) (h : Heap) : E36 C36_2 (kFin T Try.f36.results.toList) fr h = E36 C36_3 K36_1 fr h := stepSeq (by kernel_rfl) _ _ _
theorem q36_3 (fr : Fr) (h : Heap) : E36 C36_3 K36_1 fr h = E36 C36_5 K36_2 fr h := stepSeq (by kernel_rfl) _ _ _
theorem r36_1 (K : Kont) (t0 : AV) (h : Heap) : E36 C36_5 K (frOf 47 [(0,t0)]) h = R36_1 t0 h (fun t0 t6 t7 h => K .normal (frOf 47 [(0,t0),(6,t6),(7,t7)]) h) := by kernel_rfl
theorem n36_4 (fr : Fr) (h : Heap) : K36_2 .normal fr h = E36 C36_6 K36_1 fr h := kSeq_n _ _ _ _
theorem q36_5 (fr : Fr) (h : Heap) : E36 C36_6 K36_1 fr h = E36 C36_7 K36_3 fr h := stepBlock (by kernel_rfl) _ _ _
theorem q36_6 (m0 : Nat) (fr : Fr) (h : Heap) : E36 C36_8 (K36_4 m0) fr h = E36 C36_9 (K36_5 m0) fr h := stepSeq (by kernel_rfl) _ _ _
theorem r36_2 (K : Kont) (t0 t6 t7 : AV) (h : Heap) : E36 C36_9 K (frOf 47 [(0,t0),(6,t6),(7,t7)]) h = R36_2 t0 t6 t7 h (fun t0 t6 t7 t8 h => K .normal (frOf 47 [(0,t0),(6,t6),(7,t7),(8,t8)]) h) := by kernel_rfl
theorem n36_7 (m0 : Nat) (fr : Fr) (h : Heap) : (K36_5 m0) .normal fr h = E36 C36_10 (K36_4 m0) fr h := kSeq_n _ _ _ _
theorem q36_8 (m0 : Nat) (fr : Fr) (h : Heap) : E36 C36_10 (K36_4 m0) fr h = E36 C36_11 (K36_6 m0) fr h := stepSeq (by kernel_rfl) _ _ _
theorem n36_9 (m0 : Nat) (fr : Fr) (h : Heap) : (K36_6 m0) .normal fr h = E36 C36_12 (K36_4 m0) fr h := kSeq_n _ _ _ _
theorem q36_10 (m0 : Nat) (fr : Fr) (h : Heap) : E36 C36_12 (K36_4 m0) fr h = E36 C36_15 (K36_7 m0) fr h := stepSeq (by kernel_rfl) _ _ _
theorem q36_11 (m0 : Nat) (fr : Fr) (h : Heap) : E36 C36_15 (K36_7 m0) fr h = E36 C36_17 (K36_8 m0) fr h := stepBlock (by kernel_rfl) _ _ _
theorem q36_12 (m0 : Nat) (fr : Fr) (h : Heap) : E36 C36_17 (K36_8 m0) fr h = E36 C36_18 (K36_9 m0) fr h := stepSeq (by kernel_rfl) _ _ _
theorem n36_13 (fr : Fr) (h : Heap) : K36_1 .normal fr h = E36 C36_4 (kFin T Try.f36.results.toList) fr h := kSeq_n _ _ _ _
theorem q36_14 (fr : Fr) (h : Heap) : E36 C36_4 (kFin T Try.f36.results.toList) fr h = E36 C36_20 K36_10 fr h := stepSeq (by kernel_rfl) _ _ _
theorem r36_3 (K : Kont) (t0 t6 t7 : AV) (h : Heap) : E36 C36_18 K (frOf 47 [(0,t0),(6,t6),(7,t7)]) h = R36_3 t0 t6 t7 h (fun t0 t3 t6 t7 h => K .normal (frOf 47 [(0,t0),(3,t3),(6,t6),(7,t7)]) h) := by kernel_rfl
theorem n36_15 (m0 : Nat) (fr : Fr) (h : Heap) : (K36_9 m0) .normal fr h = E36 C36_19 (K36_8 m0) fr h := kSeq_n _ _ _ _
theorem q36_16 (m0 : Nat) (fr : Fr) (h : Heap) : E36 C36_19 (K36_8 m0) fr h = E36 C36_22 (K36_11 m0) fr h := stepSeq (by kernel_rfl) _ _ _
theorem r36_4 (K : Kont) (t0 t3 t6 t7 : AV) (h : Heap) : E36 C36_22 K (frOf 47 [(0,t0),(3,t3),(6,t6),(7,t7)]) h = R36_4 t0 t3 t6 t7 h (fun t0 t4 t6 t7 h => K .normal (frOf 47 [(0,t0),(4,t4),(6,t6),(7,t7)]) h) := by kernel_rfl
theorem n36_17 (m0 : Nat) (fr : Fr) (h : Heap) : (K36_11 m0) .normal fr h = E36 C36_23 (K36_8 m0) fr h := kSeq_n _ _ _ _
theorem q36_18 (m0 : Nat) (fr : Fr) (h : Heap) : E36 C36_23 (K36_8 m0) fr h = E36 C36_24 (K36_12 m0) fr h := stepSeq (by kernel_rfl) _ _ _
theorem r36_5 (K : Kont) (t0 t4 t6 t7 : AV) (h : Heap) : E36 C36_24 K (frOf 47 [(0,t0),(4,t4),(6,t6),(7,t7)]) h = R36_5 t0 t4 t6 t7 h (fun t0 t6 t7 t38 h => K .normal (frOf 47 [(0,t0),(6,t6),(7,t7),(38,t38)]) h) := by kernel_rfl
theorem n36_19 (m0 : Nat) (fr : Fr) (h : Heap) : (K36_12 m0) .normal fr h = E36 C36_25 (K36_8 m0) fr h := kSeq_n _ _ _ _
theorem q36_20 (m0 : Nat) (fr : Fr) (h : Heap) : E36 C36_26 (K36_8 m0) fr h = E36 C36_28 (K36_13 m0) fr h := stepSeq (by kernel_rfl) _ _ _
theorem n36_21 (m0 : Nat) (fr : Fr) (h : Heap) : (K36_7 m0) .normal fr h = E36 C36_16 (K36_4 m0) fr h := kSeq_n _ _ _ _
theorem r36_6 (K : Kont) (h : Heap) : E36 C36_28 K (frOf 47 []) h = R36_6 h (fun t2 h => K .normal (frOf 47 [(2,t2)]) h) := by kernel_rfl
theorem n36_22 (m0 : Nat) (fr : Fr) (h : Heap) : (K36_13 m0) .normal fr h = E36 C36_29 (K36_8 m0) fr h := kSeq_n _ _ _ _
theorem b36_6 (m0 : Nat) (ih0 : ∀ (t0 t6 t7 : AV) (h : Heap), evLoop (cleanO L36 (headId C36_8)) (E36 C36_8) K36_3 m0 (frOf 47 [(0,t0),(6,t6),(7,t7)]) h = G36_l0  m0 t0 t6 t7 h) (h : Heap) : E36 C36_28 (K36_13 m0) (frOf 47 []) h = G36_6 (G36_l0  m0) h :=
  (r36_6 (K36_13 m0) h).trans (congrArg (R36_6 h) (funext fun t2 => funext fun h => (Eq.trans (n36_22 m0 _ _) (Eq.trans (stepRet (by kernel_rfl) (K36_8 m0) _ _) (Eq.trans (kBlock_r _ _ _ _) (Eq.trans (kSeq_r _ _ _ _) (Eq.trans (kSeq_r _ _ _ _) (Eq.trans (kBlock_r _ _ _ _) (Eq.trans (kSeq_r _ _ _ _) (by kernel_rfl))))))))))
theorem r36_7 (K : Kont) (t0 t6 t7 : AV) (h : Heap) : E36 C36_16 K (frOf 47 [(0,t0),(6,t6),(7,t7)]) h = R36_7 t0 t6 t7 h (fun t0 t6 t7 h => K .normal (frOf 47 [(0,t0),(6,t6),(7,t7)]) h) := by kernel_rfl
theorem b36_7 (m0 : Nat) (ih0 : ∀ (t0 t6 t7 : AV) (h : Heap), evLoop (cleanO L36 (headId C36_8)) (E36 C36_8) K36_3 m0 (frOf 47 [(0,t0),(6,t6),(7,t7)]) h = G36_l0  m0 t0 t6 t7 h) (t0 t6 t7 : AV) (h : Heap) : E36 C36_16 (K36_4 m0) (frOf 47 [(0,t0),(6,t6),(7,t7)]) h = G36_7 (G36_l0  m0) t0 t6 t7 h :=
  (r36_7 (K36_4 m0) t0 t6 t7 h).trans (congrArg (R36_7 t0 t6 t7 h) (funext fun t0 => funext fun t6 => funext fun t7 => funext fun h => (Eq.trans (stepNext _ (by kernel_rfl)) (ih0 t0 t6 t7 h))))
theorem b36_5 (m0 : Nat) (ih0 : ∀ (t0 t6 t7 : AV) (h : Heap), evLoop (cleanO L36 (headId C36_8)) (E36 C36_8) K36_3 m0 (frOf 47 [(0,t0),(6,t6),(7,t7)]) h = G36_l0  m0 t0 t6 t7 h) (t0 t4 t6 t7 : AV) (h : Heap) : E36 C36_24 (K36_12 m0) (frOf 47 [(0,t0),(4,t4),(6,t6),(7,t7)]) h = G36_5 (G36_l0  m0) t0 t4 t6 t7 h :=
  (r36_5 (K36_12 m0) t0 t4 t6 t7 h).trans (congrArg (R36_5 t0 t4 t6 t7 h) (funext fun t0 => funext fun t6 => funext fun t7 => funext fun t38 => funext fun h => (Eq.trans (n36_19 m0 _ _) (Eq.trans (stepCond (c := C36_25) (by kernel_rfl) (K36_8 m0) _ _ (v := t38) (by kernel_rfl)) (bcase_congr t38 (Eq.trans (q36_20 m0 _ _) (Eq.trans (stepClean (c := C36_28) (id := 6) (by kernel_rfl) (K36_13 m0) _ _ (by kernel_rfl)) (b36_6 m0 ih0 h))) (Eq.trans (stepSkip (by kernel_rfl) (K36_8 m0) _ _) (Eq.trans (kBlock_n _ _ _ _) (Eq.trans (n36_21 m0 _ _) (Eq.trans (stepClean (c := C36_16) (id := 7) (by kernel_rfl) (K36_4 m0) _ _ (by kernel_rfl)) (b36_7 m0 ih0 t0 t6 t7 h))))))))))
theorem b36_4 (m0 : Nat) (ih0 : ∀ (t0 t6 t7 : AV) (h : Heap), evLoop (cleanO L36 (headId C36_8)) (E36 C36_8) K36_3 m0 (frOf 47 [(0,t0),(6,t6),(7,t7)]) h = G36_l0  m0 t0 t6 t7 h) (t0 t3 t6 t7 : AV) (h : Heap) : E36 C36_22 (K36_11 m0) (frOf 47 [(0,t0),(3,t3),(6,t6),(7,t7)]) h = G36_4 (G36_l0  m0) t0 t3 t6 t7 h :=
  (r36_4 (K36_11 m0) t0 t3 t6 t7 h).trans (congrArg (R36_4 t0 t3 t6 t7 h) (funext fun t0 => funext fun t4 => funext fun t6 => funext fun t7 => funext fun h => (Eq.trans (n36_17 m0 _ _) (Eq.trans (q36_18 m0 _ _) (b36_5 m0 ih0 t0 t4 t6 t7 h)))))
theorem b36_3 (m0 : Nat) (ih0 : ∀ (t0 t6 t7 : AV) (h : Heap), evLoop (cleanO L36 (headId C36_8)) (E36 C36_8) K36_3 m0 (frOf 47 [(0,t0),(6,t6),(7,t7)]) h = G36_l0  m0 t0 t6 t7 h) (t0 t6 t7 : AV) (h : Heap) : E36 C36_18 (K36_9 m0) (frOf 47 [(0,t0),(6,t6),(7,t7)]) h = G36_3 (G36_l0  m0) t0 t6 t7 h :=
  (r36_3 (K36_9 m0) t0 t6 t7 h).trans (congrArg (R36_3 t0 t6 t7 h) (funext fun t0 => funext fun t3 => funext fun t6 => funext fun t7 => funext fun h => (Eq.trans (n36_15 m0 _ _) (Eq.trans (q36_16 m0 _ _) (b36_4 m0 ih0 t0 t3 t6 t7 h)))))
theorem r36_8 (K : Kont) (t0 : AV) (h : Heap) : E36 C36_20 K (frOf 47 [(0,t0)]) h = R36_8 t0 h (fun t2 h => K .normal (frOf 47 [(2,t2)]) h) := by kernel_rfl
theorem n36_23 (fr : Fr) (h : Heap) : K36_10 .normal fr h = E36 C36_21 (kFin T Try.f36.results.toList) fr h := kSeq_n _ _ _ _
theorem b36_8 (t0 : AV) (h : Heap) : E36 C36_20 K36_10 (frOf 47 [(0,t0)]) h = G36_8 t0 h :=
  (r36_8 K36_10 t0 h).trans (congrArg (R36_8 t0 h) (funext fun t2 => funext fun h => (Eq.trans (n36_23 _ _) (Eq.trans (stepRet (by kernel_rfl) (kFin T Try.f36.results.toList) _ _) (by kernel_rfl)))))
theorem b36_2 (m0 : Nat) (ih0 : ∀ (t0 t6 t7 : AV) (h : Heap), evLoop (cleanO L36 (headId C36_8)) (E36 C36_8) K36_3 m0 (frOf 47 [(0,t0),(6,t6),(7,t7)]) h = G36_l0  m0 t0 t6 t7 h) (t0 t6 t7 : AV) (h : Heap) : E36 C36_9 (K36_5 m0) (frOf 47 [(0,t0),(6,t6),(7,t7)]) h = G36_2 (G36_l0  m0) t0 t6 t7 h :=
  (r36_2 (K36_5 m0) t0 t6 t7 h).trans (congrArg (R36_2 t0 t6 t7 h) (funext fun t0 => funext fun t6 => funext fun t7 => funext fun t8 => funext fun h => (Eq.trans (n36_7 m0 _ _) (Eq.trans (q36_8 m0 _ _) (Eq.trans (stepCond (c := C36_11) (by kernel_rfl) (K36_6 m0) _ _ (v := t8) (by kernel_rfl)) (bcase_congr t8 (Eq.trans (stepSkip (by kernel_rfl) (K36_6 m0) _ _) (Eq.trans (n36_9 m0 _ _) (Eq.trans (q36_10 m0 _ _) (Eq.trans (q36_11 m0 _ _) (Eq.trans (q36_12 m0 _ _) (Eq.trans (stepClean (c := C36_18) (id := 3) (by kernel_rfl) (K36_9 m0) _ _ (by kernel_rfl)) (b36_3 m0 ih0 t0 t6 t7 h))))))) (Eq.trans (stepExit (i := 0) (by kernel_rfl) (K36_6 m0) _ _) (Eq.trans (kSeq_x _ _ _ _ _) (Eq.trans (kSeq_x _ _ _ _ _) (Eq.trans (kBlock_hit _ _ _ _) (Eq.trans (n36_13 _ _) (Eq.trans (q36_14 _ _) (Eq.trans (stepClean (c := C36_20) (id := 8) (by kernel_rfl) K36_10 _ _ (by kernel_rfl)) (b36_8 t0 h))))))))))))))
theorem b36_l0 : ∀ (m0 : Nat) (t0 t6 t7 : AV) (h : Heap), evLoop (cleanO L36 (headId C36_8)) (E36 C36_8) K36_3 m0 (frOf 47 [(0,t0),(6,t6),(7,t7)]) h = G36_l0 m0 t0 t6 t7 h := by
  intro m0
  induction m0 with
  | zero => intros; rfl
  | succ m0 ih0 => intro t0 t6 t7 h; exact Eq.trans (evLoop_succ _ _ _ _ _ _) (Eq.trans (q36_6 m0 _ _) (b36_2 m0 ih0 t0 t6 t7 h))
theorem b36_1 (t0 : AV) (h : Heap) : E36 C36_5 K36_2 (frOf 47 [(0,t0)]) h = G36_1 t0 h :=
  (r36_1 K36_2 t0 h).trans (congrArg (R36_1 t0 h) (funext fun t0 => funext fun t6 => funext fun t7 => funext fun h => (Eq.trans (n36_4 _ _) (Eq.trans (q36_5 _ _) (Eq.trans (stepLoop (by kernel_rfl) K36_3 _ _ (by kernel_rfl)) (b36_l0 fuel t0 t6 t7 h))))))
theorem b36_0 (t0 : AV) (h : Heap) : E36 C36_1 K36_0 (frOf 47 [(0,t0)]) h = G36_0 t0 h :=
  (r36_0 K36_0 t0 h).trans (congrArg (R36_0 t0 h) (funext fun t0 => funext fun h => (Eq.trans (n36_1 _ _) (Eq.trans (q36_2 _ _) (Eq.trans (q36_3 _ _) (b36_1 t0 h))))))
theorem entry36 (t0 : AV) (h : Heap) : evFunc T PH36 L36 Try.f36 fuel [t0] h = E36 C36_0 (kFin T Try.f36.results.toList) (frOf 47 [(0,t0)]) h := by kernel_rfl
theorem e36 (t0 : AV) (h : Heap) : evFunc T PH36 L36 Try.f36 fuel [t0] h = G36 [t0] h := Eq.trans (entry36 t0 h) (Eq.trans (q36_0 _ _) (b36_0 t0 h))
set_option maxRecDepth 100000 in
theorem s36 : Sound Try.prog 36 G36 := (soundOf tok 36 Try.f36 rfl rfl (Φ := PH36) allNil L36 fuel).le fun args h r hr => by
  unfold G36 at hr; split at hr
  · exact (e36 _ h).trans (by unfold G36; exact hr)
  · cases hr
/- 37: (*delphi/disk.Disk).there -/
def L37 : PM (List Nat) := .node (.node (.node (.leaf) (some [6]) (.leaf)) (some [0, 1]) (.node (.leaf) (some [4]) (.leaf))) (some [0, 1]) (.node (.node (.leaf) (some [6]) (.leaf)) (some [0, 1]) (.leaf))
noncomputable def PH37 : List (Nat × AFn) := []
noncomputable def E37 : Code → Kont → Fr → Heap → Rs := ev T PH37 L37 fuel
noncomputable def C37_0 : Code := bodyOf Try.f37
noncomputable def C37_1 : Code := cl C37_0
noncomputable def C37_2 : Code := cr C37_0
noncomputable def K37_0 : Kont := kSeq (E37 C37_2 (kFin T Try.f37.results.toList)) (kFin T Try.f37.results.toList)
noncomputable def R37_0 (t0 t1 : AV) (h : Heap) (k : AV → AV → Heap → Rs) : Rs :=
  k t0 t1 h
noncomputable def C37_3 : Code := cl C37_2
noncomputable def C37_4 : Code := cr C37_2
noncomputable def K37_1 : Kont := kSeq (E37 C37_4 (kFin T Try.f37.results.toList)) (kFin T Try.f37.results.toList)
noncomputable def R37_1 (t0 t1 : AV) (h : Heap) (k : AV → Heap → Rs) : Rs :=
  pureK (nilck t0) h fun v1 h1 =>
  pureK (faddr 2 v1) h1 fun v2 h2 =>
  pureK (ldV h2 v2) h2 fun v3 h3 =>
  pureK (lkp .str ((AV.snil)) h3 v3 t1 true) h3 fun v5 h5 =>
  pureK (extr v5 0) h5 fun v7 h7 =>
  pureK (extr v5 1) h7 fun v8 h8 =>
  k v8 h8
noncomputable def C37_5 : Code := cl C37_4
noncomputable def C37_6 : Code := cr C37_4
noncomputable def K37_2 : Kont := kSeq (E37 C37_6 (kFin T Try.f37.results.toList)) (kFin T Try.f37.results.toList)
noncomputable def R37_2 (t6 : AV) (h : Heap) (k : AV → Heap → Rs) : Rs :=
  k t6 h
noncomputable def G37_2 (t6 : AV) (h : Heap) : Rs := R37_2 t6 h fun t4 h => some (t4, h)
noncomputable def G37_1 (t0 t1 : AV) (h : Heap) : Rs := R37_1 t0 t1 h fun t6 h => G37_2 t6 h
noncomputable def G37_0 (t0 t1 : AV) (h : Heap) : Rs := R37_0 t0 t1 h fun t0 t1 h => G37_1 t0 t1 h
noncomputable def G37 : AFn
  | [t0, t1], h => G37_0 t0 t1 h
  | _, _ => none
theorem q37_0 (fr : Fr) (h : Heap) : E37 C37_0 (kFin T Try.f37.results.toList) fr h = E37 C37_1 K37_0 fr h := stepSeq (by kernel_rfl) _ _ _
theorem r37_0 (K : Kont) (t0 t1 : AV) (h : Heap) : E37 C37_1 K (frOf 17 [(0,t0),(1,t1)]) h = R37_0 t0 t1 h (fun t0 t1 h => K .normal (frOf 17 [(0,t0),(1,t1)]) h) := by kernel_rfl
theorem n37_1 (fr : Fr) (h : Heap) : K37_0 .normal fr h = E37 C37_2 (kFin T Try.f37.results.toList) fr h := kSeq_n _ _ _ _
theorem q37_2 (fr : Fr) (h : Heap) : E37 C37_2 (kFin T Try.f37.results.toList) fr h = E37 C37_3 K37_1 fr h := stepSeq (by kernel_rfl) _ _ _
theorem r37_1 (K : Kont) (t0 t1 : AV) (h : Heap) : E37 C37_3 K (frOf 17 [(0,t0),(1,t1)]) h = R37_1 t0 t1 h (fun t6 h => K .normal (frOf 17 [(6,t6)]) h) := by kernel_rfl
theorem n37_3 (fr : Fr) (h : Heap) : K37_1 .normal fr h = E37 C37_4 (kFin T Try.f37.results.toList) fr h := kSeq_n _ _ _ _
theorem q37_4 (fr : Fr) (h : Heap) : E37 C37_4 (kFin T Try.f37.results.toList) fr h = E37 C37_5 K37_2 fr h := stepSeq (by kernel_rfl) _ _ _
theorem r37_2 (K : Kont) (t6 : AV) (h : Heap) : E37 C37_5 K (frOf 17 [(6,t6)]) h = R37_2 t6 h (fun t4 h => K .normal (frOf 17 [(4,t4)]) h) := by kernel_rfl
theorem n37_5 (fr : Fr) (h : Heap) : K37_2 .normal fr h = E37 C37_6 (kFin T Try.f37.results.toList) fr h := kSeq_n _ _ _ _
theorem b37_2 (t6 : AV) (h : Heap) : E37 C37_5 K37_2 (frOf 17 [(6,t6)]) h = G37_2 t6 h :=
  (r37_2 K37_2 t6 h).trans (congrArg (R37_2 t6 h) (funext fun t4 => funext fun h => (Eq.trans (n37_5 _ _) (Eq.trans (stepRet (by kernel_rfl) (kFin T Try.f37.results.toList) _ _) (by kernel_rfl)))))
theorem b37_1 (t0 t1 : AV) (h : Heap) : E37 C37_3 K37_1 (frOf 17 [(0,t0),(1,t1)]) h = G37_1 t0 t1 h :=
  (r37_1 K37_1 t0 t1 h).trans (congrArg (R37_1 t0 t1 h) (funext fun t6 => funext fun h => (Eq.trans (n37_3 _ _) (Eq.trans (q37_4 _ _) (b37_2 t6 h)))))
theorem b37_0 (t0 t1 : AV) (h : Heap) : E37 C37_1 K37_0 (frOf 17 [(0,t0),(1,t1)]) h = G37_0 t0 t1 h :=
  (r37_0 K37_0 t0 t1 h).trans (congrArg (R37_0 t0 t1 h) (funext fun t0 => funext fun t1 => funext fun h => (Eq.trans (n37_1 _ _) (Eq.trans (q37_2 _ _) (b37_1 t0 t1 h)))))
theorem entry37 (t0 t1 : AV) (h : Heap) : evFunc T PH37 L37 Try.f37 fuel [t0, t1] h = E37 C37_0 (kFin T Try.f37.results.toList) (frOf 17 [(0,t0),(1,t1)]) h := by kernel_rfl
theorem e37 (t0 t1 : AV) (h : Heap) : evFunc T PH37 L37 Try.f37 fuel [t0, t1] h = G37 [t0, t1] h := Eq.trans (entry37 t0 t1 h) (Eq.trans (q37_0 _ _) (b37_0 t0 t1 h))
set_option maxRecDepth 100000 in
theorem s37 : Sound Try.prog 37 G37 := (soundOf tok 37 Try.f37 rfl rfl (Φ := PH37) allNil L37 fuel).le fun args h r hr => by
  unfold G37 at hr; split at hr
  · exact (e37 _ _ h).trans (by unfold G37; exact hr)
  · cases hr
/- 73: slices.Clip[[]byte,byte] -/
def L73 : PM (List Nat) := .node (.node (.node (.leaf) (some [2]) (.leaf)) (some [0]) (.leaf)) (some [0]) (.node (.leaf) (some [0]) (.leaf))
noncomputable def PH73 : List (Nat × AFn) := []
noncomputable def E73 : Code → Kont → Fr → Heap → Rs := ev T PH73 L73 fuel
noncomputable def C73_0 : Code := bodyOf Try.f73
noncomputable def C73_1 : Code := cl C73_0
noncomputable def C73_2 : Code := cr C73_0
noncomputable def K73_0 : Kont := kSeq (E73 C73_2 (kFin T Try.f73.results.toList)) (kFin T Try.f73.results.toList)
noncomputable def R73_0 (t0 : AV) (h : Heap) (k : AV → Heap → Rs) : Rs :=
  k t0 h
noncomputable def C73_3 : Code := cl C73_2
noncomputable def C73_4 : Code := cr C73_2
noncomputable def K73_1 : Kont := kSeq (E73 C73_4 (kFin T Try.f73.results.toList)) (kFin T Try.f73.results.toList)
noncomputable def R73_1 (t0 : AV) (h : Heap) (k : AV → Heap → Rs) : Rs :=
  pureK (lenSl t0) h fun v2 h2 =>
  pureK (lenSl t0) h2 fun v4 h4 =>
  pureK (slc 1 h4 t0 none (some v2) (some v4)) h4 fun v5 h5 =>
  k v5 h5
noncomputable def G73_1 (t0 : AV) (h : Heap) : Rs := R73_1 t0 h fun t2 h => some (t2, h)
noncomputable def G73_0 (t0 : AV) (h : Heap) : Rs := R73_0 t0 h fun t0 h => G73_1 t0 h
noncomputable def G73 : AFn
  | [t0], h => G73_0 t0 h
  | _, _ => none
theorem q73_0 (fr : Fr) (h : Heap) : E73 C73_0 (kFin T Try.f73.results.toList) fr h = E73 C73_1 K73_0 fr h := stepSeq (by kernel_rfl) _ _ _
theorem r73_0 (K : Kont) (t0 : AV) (h : Heap) : E73 C73_1 K (frOf 9 [(0,t0)]) h = R73_0 t0 h (fun t0 h => K .normal (frOf 9 [(0,t0)]) h) := by kernel_rfl
theorem n73_1 (fr : Fr) (h : Heap) : K73_0 .normal fr h = E73 C73_2 (kFin T Try.f73.results.toList) fr h := kSeq_n _ _ _ _
theorem q73_2 (fr : Fr) (h : Heap) : E73 C73_2 (kFin T Try.f73.results.toList) fr h = E73 C73_3 K73_1 fr h := stepSeq (by kernel_rfl) _ _ _
theorem r73_1 (K : Kont) (t0 : AV) (h : Heap) : E73 C73_3 K (frOf 9 [(0,t0)]) h = R73_1 t0 h (fun t2 h => K .normal (frOf 9 [(2,t2)]) h) := by kernel_rfl
theorem n73_3 (fr : Fr) (h : Heap) : K73_1 .normal fr h = E73 C73_4 (kFin T Try.f73.results.toList) fr h := kSeq_n _ _ _ _
theorem b73_1 (t0 : AV) (h : Heap) : E73 C73_3 K73_1 (frOf 9 [(0,t0)]) h = G73_1 t0 h :=
  (r73_1 K73_1 t0 h).trans (congrArg (R73_1 t0 h) (funext fun t2 => funext fun h => (Eq.trans (n73_3 _ _) (Eq.trans (stepRet (by kernel_rfl) (kFin T Try.f73.results.toList) _ _) (by kernel_rfl)))))
theorem b73_0 (t0 : AV) (h : Heap) : E73 C73_1 K73_0 (frOf 9 [(0,t0)]) h = G73_0 t0 h :=
  (r73_0 K73_0 t0 h).trans (congrArg (R73_0 t0 h) (funext fun t0 => funext fun h => (Eq.trans (n73_1 _ _) (Eq.trans (q73_2 _ _) (b73_1 t0 h)))))
theorem entry73 (t0 : AV) (h : Heap) : evFunc T PH73 L73 Try.f73 fuel [t0] h = E73 C73_0 (kFin T Try.f73.results.toList) (frOf 9 [(0,t0)]) h := by kernel_rfl
theorem e73 (t0 : AV) (h : Heap) : evFunc T PH73 L73 Try.f73 fuel [t0] h = G73 [t0] h := Eq.trans (entry73 t0 h) (Eq.trans (q73_0 _ _) (b73_0 t0 h))
set_option maxRecDepth 100000 in
theorem s73 : Sound Try.prog 73 G73 := (soundOf tok 73 Try.f73 rfl rfl (Φ := PH73) allNil L73 fuel).le fun args h r hr => by
  unfold G73 at hr; split at hr
  · exact (e73 _ h).trans (by unfold G73; exact hr)
  · cases hr
/- 41: delphi/disk.do -/
def L41 : PM (List Nat) := .node (.node (.node (.node (.node (.leaf) (some [0, 4, 8, 35]) (.leaf)) (some [0, 4, 6]) (.leaf)) (some [0, 2, 4, 8]) (.node (.node (.leaf) (some [0, 4, 49]) (.leaf)) (some [0, 2, 4, 8, 20]) (.leaf))) (some [0, 2, 4]) (.node (.node (.node (.leaf) (some []) (.leaf)) (some []) (.leaf)) (some [0, 4, 6]) (.node (.node (.leaf) (some []) (.leaf)) (some []) (.leaf)))) (some [0, 1, 2]) (.node (.node (.node (.node (.leaf) (some [0, 4]) (.leaf)) (some [0, 4, 6]) (.leaf)) (some [0, 4]) (.node (.node (.leaf) (some [0, 4]) (.leaf)) (some [0, 2, 4]) (.leaf))) (some [0, 2, 4]) (.node (.node (.node (.leaf) (some [0, 4, 8]) (.leaf)) (some [0, 2, 4, 8]) (.leaf)) (some [0, 4, 6]) (.node (.leaf) (some [0, 4, 8]) (.leaf))))
noncomputable def PH41 : List (Nat × AFn) := [(73, G73)]
noncomputable def E41 : Code → Kont → Fr → Heap → Rs := ev T PH41 L41 fuel
noncomputable def C41_0 : Code := bodyOf Try.f41
noncomputable def C41_1 : Code := cl C41_0
noncomputable def C41_2 : Code := cr C41_0
noncomputable def K41_0 : Kont := kSeq (E41 C41_2 (kFin T Try.f41.results.toList)) (kFin T Try.f41.results.toList)
noncomputable def R41_0 (t0 t1 t2 : AV) (h : Heap) (k : AV → AV → AV → Heap → Rs) : Rs :=
  alK (boxV 5 t1) h fun v0 h0 =>
  k t0 t2 v0 h0
noncomputable def C41_3 : Code := cl C41_2
noncomputable def C41_4 : Code := cr C41_2
noncomputable def K41_1 : Kont := kSeq (E41 C41_4 (kFin T Try.f41.results.toList)) (kFin T Try.f41.results.toList)
noncomputable def R41_1 (t0 t2 t4 : AV) (h : Heap) (k : AV → AV → AV → AV → Heap → Rs) : Rs :=
  pureK (faddr 0 t4) h fun v0 h0 =>
  pureK (ldV h0 v0) h0 fun v1 h1 =>
  k t0 t2 t4 v1 h1
noncomputable def C41_5 : Code := cl C41_4
noncomputable def K41_2 : Kont := kBlock 0 (kFin T Try.f41.results.toList)
noncomputable def C41_6 : Code := cl C41_5
noncomputable def C41_7 : Code := cr C41_5
noncomputable def K41_3 : Kont := kSeq (E41 C41_7 K41_2) K41_2
noncomputable def R41_5 (t0 t2 t4 t8 : AV) (h : Heap) (k : AV → AV → AV → AV → AV → Heap → Rs) : Rs :=
  pureK (binOpA T .eql 3 t8 (AV.int .i64 0)) h fun v0 h0 =>
  k t0 t2 t4 t8 v0 h0
noncomputable def C41_8 : Code := cl C41_7
noncomputable def C41_9 : Code := cr C41_7
noncomputable def C41_10 : Code := cl C41_9
noncomputable def C41_11 : Code := cr C41_9
noncomputable def K41_4 : Kont := kSeq (E41 C41_11 K41_2) K41_2
noncomputable def R41_6 (t0 t2 t4 : AV) (h : Heap) (k : Heap → Rs) : Rs :=
  pureK (faddr 1 t4) h fun v1 h1 =>
  pureK (ldV h1 v1) h1 fun v2 h2 =>
  pureK (faddr 1 t4) h2 fun v4 h4 =>
  pureK (ldV h4 v4) h4 fun v5 h5 =>
  pureK (lkp .str ((AV.snil)) h5 t0 v5 false) h5 fun v6 h6 =>
  efK (G73 [v6] h6) fun v7 h7 =>
  pureK (faddr 3 t4) h7 fun v8 h8 =>
  pureK (ldV h8 v8) h8 fun v9 h9 =>
  pureK (slc 1 h9 v9 none (some t2) none) h9 fun v11 h11 =>
  efK (appd 1 1 1 h11 v7 v11) fun v12 h12 =>
  stK (mupd .str h12 t0 v2 v12) fun _ h13 =>
  chkK (optBeq (ldV h7 v1) (ldV h1 v1) && (optBeq (ldV h12 v1) (ldV h1 v1) && (optBeq (ldV h v8) (ldV h8 v8) && (optBeq (slc 1 h v9 none (some t2) none) (slc 1 h9 v9 none (some t2) none) && true)))) (k h13)
noncomputable def G41_6 (t0 t2 t4 : AV) (h : Heap) : Rs := R41_6 t0 t2 t4 h fun h => some ((AV.tup []), h)
noncomputable def R41_7 (t0 t4 t8 : AV) (h : Heap) (k : AV → AV → AV → AV → Heap → Rs) : Rs :=
  pureK (binOpA T .eql 3 t8 (AV.int .i64 1)) h fun v0 h0 =>
  k t0 t4 t8 v0 h0
noncomputable def C41_12 : Code := cl C41_11
noncomputable def C41_13 : Code := cr C41_11
noncomputable def C41_14 : Code := cl C41_13
noncomputable def C41_15 : Code := cr C41_13
noncomputable def K41_5 : Kont := kSeq (E41 C41_15 K41_2) K41_2
noncomputable def R41_8 (t0 t4 : AV) (h : Heap) (k : Heap → Rs) : Rs :=
  pureK (faddr 1 t4) h fun v1 h1 =>
  pureK (ldV h1 v1) h1 fun v2 h2 =>
  pureK (faddr 1 t4) h2 fun v4 h4 =>
  pureK (ldV h4 v4) h4 fun v5 h5 =>
  pureK (lkp .str ((AV.snil)) h5 t0 v5 false) h5 fun v6 h6 =>
  pureK (faddr 4 t4) h6 fun v7 h7 =>
  pureK (ldV h7 v7) h7 fun v8 h8 =>
  pureK (faddr 4 t4) h8 fun v9 h9 =>
  pureK (ldV h9 v9) h9 fun v10 h10 =>
  pureK (slc 1 h10 v6 none (some v8) (some v10)) h10 fun v11 h11 =>
  stK (mupd .str h11 t0 v2 v11) fun _ h12 =>
  k h12
noncomputable def G41_8 (t0 t4 : AV) (h : Heap) : Rs := R41_8 t0 t4 h fun h => some ((AV.tup []), h)
noncomputable def R41_9 (t0 t4 t8 : AV) (h : Heap) (k : AV → AV → AV → Heap → Rs) : Rs :=
  pureK (binOpA T .eql 3 t8 (AV.int .i64 2)) h fun v0 h0 =>
  k t0 t4 v0 h0
noncomputable def C41_16 : Code := cl C41_15
noncomputable def C41_17 : Code := cr C41_15
noncomputable def C41_18 : Code := cl C41_17
noncomputable def C41_19 : Code := cr C41_17
noncomputable def K41_6 : Kont := kSeq (E41 C41_19 K41_2) K41_2
noncomputable def R41_10 (t0 t4 : AV) (h : Heap) (k : Heap → Rs) : Rs :=
  pureK (faddr 1 t4) h fun v1 h1 =>
  pureK (ldV h1 v1) h1 fun v2 h2 =>
  stK (mdel .str h2 t0 v2) fun _ h3 =>
  k h3
noncomputable def G41_10 (t0 t4 : AV) (h : Heap) : Rs := R41_10 t0 t4 h fun h => some ((AV.tup []), h)
noncomputable def R41_2 (t0 t4 : AV) (h : Heap) (k : AV → AV → AV → Heap → Rs) : Rs :=
  pureK (faddr 1 t4) h fun v1 h1 =>
  pureK (ldV h1 v1) h1 fun v2 h2 =>
  pureK (lkp .str ((AV.snil)) h2 t0 v2 false) h2 fun v3 h3 =>
  k t0 t4 v3 h3
noncomputable def C41_20 : Code := cl C41_19
noncomputable def C41_21 : Code := cr C41_19
noncomputable def K41_7 : Kont := kSeq (E41 C41_21 K41_2) K41_2
noncomputable def R41_3 (t0 t4 t6 : AV) (h : Heap) (k : AV → AV → AV → Heap → Rs) : Rs :=
  pureK (faddr 1 t4) h fun v1 h1 =>
  pureK (ldV h1 v1) h1 fun v2 h2 =>
  stK (mdel .str h2 t0 v2) fun _ h3 =>
  k t0 t4 t6 h3
noncomputable def R41_4 (t0 t4 t6 : AV) (h : Heap) (k : Heap → Rs) : Rs :=
  pureK (faddr 2 t4) h fun v1 h1 =>
  pureK (ldV h1 v1) h1 fun v2 h2 =>
  stK (mupd .str h2 t0 v2 t6) fun _ h4 =>
  k h4
noncomputable def G41_4 (t0 t4 t6 : AV) (h : Heap) : Rs := R41_4 t0 t4 t6 h fun h => some ((AV.tup []), h)
noncomputable def G41_3 (t0 t4 t6 : AV) (h : Heap) : Rs := R41_3 t0 t4 t6 h fun t0 t4 t6 h => G41_4 t0 t4 t6 h
noncomputable def G41_2 (t0 t4 : AV) (h : Heap) : Rs := R41_2 t0 t4 h fun t0 t4 t6 h => G41_3 t0 t4 t6 h
noncomputable def G41_9 (t0 t4 t8 : AV) (h : Heap) : Rs := R41_9 t0 t4 t8 h fun t0 t4 t49 h => bcase t49 (G41_10 t0 t4 h) (G41_2 t0 t4 h)
noncomputable def G41_7 (t0 t4 t8 : AV) (h : Heap) : Rs := R41_7 t0 t4 t8 h fun t0 t4 t8 t35 h => bcase t35 (G41_8 t0 t4 h) (G41_9 t0 t4 t8 h)
noncomputable def G41_5 (t0 t2 t4 t8 : AV) (h : Heap) : Rs := R41_5 t0 t2 t4 t8 h fun t0 t2 t4 t8 t20 h => bcase t20 (G41_6 t0 t2 t4 h) (G41_7 t0 t4 t8 h)
noncomputable def G41_1 (t0 t2 t4 : AV) (h : Heap) : Rs := R41_1 t0 t2 t4 h fun t0 t2 t4 t8 h => G41_5 t0 t2 t4 t8 h
noncomputable def G41_0 (t0 t1 t2 : AV) (h : Heap) : Rs := R41_0 t0 t1 t2 h fun t0 t2 t4 h => G41_1 t0 t2 t4 h
noncomputable def G41 : AFn
  | [t0, t1, t2], h => G41_0 t0 t1 t2 h
  | _, _ => none
theorem q41_0 (fr : Fr) (h : Heap) : E41 C41_0 (kFin T Try.f41.results.toList) fr h = E41 C41_1 K41_0 fr h := stepSeq (by kernel_rfl) _ _ _
theorem r41_0 (K : Kont) (t0 t1 t2 : AV) (h : Heap) : E41 C41_1 K (frOf 54 [(0,t0),(1,t1),(2,t2)]) h = R41_0 t0 t1 t2 h (fun t0 t2 t4 h => K .normal (frOf 54 [(0,t0),(2,t2),(4,t4)]) h) := by kernel_rfl
theorem n41_1 (fr : Fr) (h : Heap) : K41_0 .normal fr h = E41 C41_2 (kFin T Try.f41.results.toList) fr h := kSeq_n _ _ _ _
theorem q41_2 (fr : Fr) (h : Heap) : E41 C41_2 (kFin T Try.f41.results.toList) fr h = E41 C41_3 K41_1 fr h := stepSeq (by kernel_rfl) _ _ _
theorem r41_1 (K : Kont) (t0 t2 t4 : AV) (h : Heap) : E41 C41_3 K (frOf 54 [(0,t0),(2,t2),(4,t4)]) h = R41_1 t0 t2 t4 h (fun t0 t2 t4 t8 h => K .normal (frOf 54 [(0,t0),(2,t2),(4,t4),(8,t8)]) h) := by kernel_rfl
theorem n41_3 (fr : Fr) (h : Heap) : K41_1 .normal fr h = E41 C41_4 (kFin T Try.f41.results.toList) fr h := kSeq_n _ _ _ _
theorem q41_4 (fr : Fr) (h : Heap) : E41 C41_4 (kFin T Try.f41.results.toList) fr h = E41 C41_5 K41_2 fr h := stepBlock (by kernel_rfl) _ _ _
theorem q41_5 (fr : Fr) (h : Heap) : E41 C41_5 K41_2 fr h = E41 C41_6 K41_3 fr h := stepSeq (by kernel_rfl) _ _ _
theorem r41_5 (K : Kont) (t0 t2 t4 t8 : AV) (h : Heap) : E41 C41_6 K (frOf 54 [(0,t0),(2,t2),(4,t4),(8,t8)]) h = R41_5 t0 t2 t4 t8 h (fun t0 t2 t4 t8 t20 h => K .normal (frOf 54 [(0,t0),(2,t2),(4,t4),(8,t8),(20,t20)]) h) := by kernel_rfl
theorem n41_6 (fr : Fr) (h : Heap) : K41_3 .normal fr h = E41 C41_7 K41_2 fr h := kSeq_n _ _ _ _
theorem q41_7 (fr : Fr) (h : Heap) : E41 C41_9 K41_2 fr h = E41 C41_10 K41_4 fr h := stepSeq (by kernel_rfl) _ _ _
theorem r41_6 (K : Kont) (t0 t2 t4 : AV) (h : Heap) : E41 C41_8 K (frOf 54 [(0,t0),(2,t2),(4,t4)]) h = R41_6 t0 t2 t4 h (fun h => K .normal (frOf 54 []) h) := by kernel_rfl
theorem b41_6 (t0 t2 t4 : AV) (h : Heap) : E41 C41_8 K41_2 (frOf 54 [(0,t0),(2,t2),(4,t4)]) h = G41_6 t0 t2 t4 h :=
  (r41_6 K41_2 t0 t2 t4 h).trans (congrArg (R41_6 t0 t2 t4 h) (funext fun h => (Eq.trans (kBlock_n _ _ _ _) (by kernel_rfl))))
theorem r41_7 (K : Kont) (t0 t4 t8 : AV) (h : Heap) : E41 C41_10 K (frOf 54 [(0,t0),(4,t4),(8,t8)]) h = R41_7 t0 t4 t8 h (fun t0 t4 t8 t35 h => K .normal (frOf 54 [(0,t0),(4,t4),(8,t8),(35,t35)]) h) := by kernel_rfl
theorem n41_8 (fr : Fr) (h : Heap) : K41_4 .normal fr h = E41 C41_11 K41_2 fr h := kSeq_n _ _ _ _
theorem q41_9 (fr : Fr) (h : Heap) : E41 C41_13 K41_2 fr h = E41 C41_14 K41_5 fr h := stepSeq (by kernel_rfl) _ _ _
theorem r41_8 (K : Kont) (t0 t4 : AV) (h : Heap) : E41 C41_12 K (frOf 54 [(0,t0),(4,t4)]) h = R41_8 t0 t4 h (fun h => K .normal (frOf 54 []) h) := by kernel_rfl
theorem b41_8 (t0 t4 : AV) (h : Heap) : E41 C41_12 K41_2 (frOf 54 [(0,t0),(4,t4)]) h = G41_8 t0 t4 h :=
  (r41_8 K41_2 t0 t4 h).trans (congrArg (R41_8 t0 t4 h) (funext fun h => (Eq.trans (kBlock_n _ _ _ _) (by kernel_rfl))))
theorem r41_9 (K : Kont) (t0 t4 t8 : AV) (h : Heap) : E41 C41_14 K (frOf 54 [(0,t0),(4,t4),(8,t8)]) h = R41_9 t0 t4 t8 h (fun t0 t4 t49 h => K .normal (frOf 54 [(0,t0),(4,t4),(49,t49)]) h) := by kernel_rfl
theorem n41_10 (fr : Fr) (h : Heap) : K41_5 .normal fr h = E41 C41_15 K41_2 fr h := kSeq_n _ _ _ _
theorem q41_11 (fr : Fr) (h : Heap) : E41 C41_17 K41_2 fr h = E41 C41_18 K41_6 fr h := stepSeq (by kernel_rfl) _ _ _
theorem r41_10 (K : Kont) (t0 t4 : AV) (h : Heap) : E41 C41_16 K (frOf 54 [(0,t0),(4,t4)]) h = R41_10 t0 t4 h (fun h => K .normal (frOf 54 []) h) := by kernel_rfl
theorem b41_10 (t0 t4 : AV) (h : Heap) : E41 C41_16 K41_2 (frOf 54 [(0,t0),(4,t4)]) h = G41_10 t0 t4 h :=
  (r41_10 K41_2 t0 t4 h).trans (congrArg (R41_10 t0 t4 h) (funext fun h => (Eq.trans (kBlock_n _ _ _ _) (by kernel_rfl))))
theorem r41_2 (K : Kont) (t0 t4 : AV) (h : Heap) : E41 C41_18 K (frOf 54 [(0,t0),(4,t4)]) h = R41_2 t0 t4 h (fun t0 t4 t6 h => K .normal (frOf 54 [(0,t0),(4,t4),(6,t6)]) h) := by kernel_rfl
theorem n41_12 (fr : Fr) (h : Heap) : K41_6 .normal fr h = E41 C41_19 K41_2 fr h := kSeq_n _ _ _ _
theorem q41_13 (fr : Fr) (h : Heap) : E41 C41_19 K41_2 fr h = E41 C41_20 K41_7 fr h := stepSeq (by kernel_rfl) _ _ _
theorem r41_3 (K : Kont) (t0 t4 t6 : AV) (h : Heap) : E41 C41_20 K (frOf 54 [(0,t0),(4,t4),(6,t6)]) h = R41_3 t0 t4 t6 h (fun t0 t4 t6 h => K .normal (frOf 54 [(0,t0),(4,t4),(6,t6)]) h) := by kernel_rfl
theorem n41_14 (fr : Fr) (h : Heap) : K41_7 .normal fr h = E41 C41_21 K41_2 fr h := kSeq_n _ _ _ _
theorem r41_4 (K : Kont) (t0 t4 t6 : AV) (h : Heap) : E41 C41_21 K (frOf 54 [(0,t0),(4,t4),(6,t6)]) h = R41_4 t0 t4 t6 h (fun h => K .normal (frOf 54 []) h) := by kernel_rfl
theorem b41_4 (t0 t4 t6 : AV) (h : Heap) : E41 C41_21 K41_2 (frOf 54 [(0,t0),(4,t4),(6,t6)]) h = G41_4 t0 t4 t6 h :=
  (r41_4 K41_2 t0 t4 t6 h).trans (congrArg (R41_4 t0 t4 t6 h) (funext fun h => (Eq.trans (kBlock_n _ _ _ _) (by kernel_rfl))))
theorem b41_3 (t0 t4 t6 : AV) (h : Heap) : E41 C41_20 K41_7 (frOf 54 [(0,t0),(4,t4),(6,t6)]) h = G41_3 t0 t4 t6 h :=
  (r41_3 K41_7 t0 t4 t6 h).trans (congrArg (R41_3 t0 t4 t6 h) (funext fun t0 => funext fun t4 => funext fun t6 => funext fun h => (Eq.trans (n41_14 _ _) (b41_4 t0 t4 t6 h))))
theorem b41_2 (t0 t4 : AV) (h : Heap) : E41 C41_18 K41_6 (frOf 54 [(0,t0),(4,t4)]) h = G41_2 t0 t4 h :=
  (r41_2 K41_6 t0 t4 h).trans (congrArg (R41_2 t0 t4 h) (funext fun t0 => funext fun t4 => funext fun t6 => funext fun h => (Eq.trans (n41_12 _ _) (Eq.trans (q41_13 _ _) (b41_3 t0 t4 t6 h)))))
theorem b41_9 (t0 t4 t8 : AV) (h : Heap) : E41 C41_14 K41_5 (frOf 54 [(0,t0),(4,t4),(8,t8)]) h = G41_9 t0 t4 t8 h :=
  (r41_9 K41_5 t0 t4 t8 h).trans (congrArg (R41_9 t0 t4 t8 h) (funext fun t0 => funext fun t4 => funext fun t49 => funext fun h => (Eq.trans (n41_10 _ _) (Eq.trans (stepCond (c := C41_15) (by kernel_rfl) K41_2 _ _ (v := t49) (by kernel_rfl)) (bcase_congr t49 (Eq.trans (stepClean (c := C41_16) (id := 10) (by kernel_rfl) K41_2 _ _ (by kernel_rfl)) (b41_10 t0 t4 h)) (Eq.trans (q41_11 _ _) (Eq.trans (stepClean (c := C41_18) (id := 2) (by kernel_rfl) K41_6 _ _ (by kernel_rfl)) (b41_2 t0 t4 h))))))))
theorem b41_7 (t0 t4 t8 : AV) (h : Heap) : E41 C41_10 K41_4 (frOf 54 [(0,t0),(4,t4),(8,t8)]) h = G41_7 t0 t4 t8 h :=
  (r41_7 K41_4 t0 t4 t8 h).trans (congrArg (R41_7 t0 t4 t8 h) (funext fun t0 => funext fun t4 => funext fun t8 => funext fun t35 => funext fun h => (Eq.trans (n41_8 _ _) (Eq.trans (stepCond (c := C41_11) (by kernel_rfl) K41_2 _ _ (v := t35) (by kernel_rfl)) (bcase_congr t35 (Eq.trans (stepClean (c := C41_12) (id := 8) (by kernel_rfl) K41_2 _ _ (by kernel_rfl)) (b41_8 t0 t4 h)) (Eq.trans (q41_9 _ _) (Eq.trans (stepClean (c := C41_14) (id := 9) (by kernel_rfl) K41_5 _ _ (by kernel_rfl)) (b41_9 t0 t4 t8 h))))))))
theorem b41_5 (t0 t2 t4 t8 : AV) (h : Heap) : E41 C41_6 K41_3 (frOf 54 [(0,t0),(2,t2),(4,t4),(8,t8)]) h = G41_5 t0 t2 t4 t8 h :=
  (r41_5 K41_3 t0 t2 t4 t8 h).trans (congrArg (R41_5 t0 t2 t4 t8 h) (funext fun t0 => funext fun t2 => funext fun t4 => funext fun t8 => funext fun t20 => funext fun h => (Eq.trans (n41_6 _ _) (Eq.trans (stepCond (c := C41_7) (by kernel_rfl) K41_2 _ _ (v := t20) (by kernel_rfl)) (bcase_congr t20 (Eq.trans (stepClean (c := C41_8) (id := 6) (by kernel_rfl) K41_2 _ _ (by kernel_rfl)) (b41_6 t0 t2 t4 h)) (Eq.trans (q41_7 _ _) (Eq.trans (stepClean (c := C41_10) (id := 7) (by kernel_rfl) K41_4 _ _ (by kernel_rfl)) (b41_7 t0 t4 t8 h))))))))
theorem b41_1 (t0 t2 t4 : AV) (h : Heap) : E41 C41_3 K41_1 (frOf 54 [(0,t0),(2,t2),(4,t4)]) h = G41_1 t0 t2 t4 h :=
  (r41_1 K41_1 t0 t2 t4 h).trans (congrArg (R41_1 t0 t2 t4 h) (funext fun t0 => funext fun t2 => funext fun t4 => funext fun t8 => funext fun h => (Eq.trans (n41_3 _ _) (Eq.trans (q41_4 _ _) (Eq.trans (q41_5 _ _) (b41_5 t0 t2 t4 t8 h))))))
theorem b41_0 (t0 t1 t2 : AV) (h : Heap) : E41 C41_1 K41_0 (frOf 54 [(0,t0),(1,t1),(2,t2)]) h = G41_0 t0 t1 t2 h :=
  (r41_0 K41_0 t0 t1 t2 h).trans (congrArg (R41_0 t0 t1 t2 h) (funext fun t0 => funext fun t2 => funext fun t4 => funext fun h => (Eq.trans (n41_1 _ _) (Eq.trans (q41_2 _ _) (b41_1 t0 t2 t4 h)))))
theorem entry41 (t0 t1 t2 : AV) (h : Heap) : evFunc T PH41 L41 Try.f41 fuel [t0, t1, t2] h = E41 C41_0 (kFin T Try.f41.results.toList) (frOf 54 [(0,t0),(1,t1),(2,t2)]) h := by kernel_rfl
theorem e41 (t0 t1 t2 : AV) (h : Heap) : evFunc T PH41 L41 Try.f41 fuel [t0, t1, t2] h = G41 [t0, t1, t2] h := Eq.trans (entry41 t0 t1 t2 h) (Eq.trans (q41_0 _ _) (b41_0 t0 t1 t2 h))
set_option maxRecDepth 100000 in
theorem s41 : Sound Try.prog 41 G41 := (soundOf tok 41 Try.f41 rfl rfl (Φ := PH41) (allCons s73 allNil) L41 fuel).le fun args h r hr => by
  unfold G41 at hr; split at hr
  · exact (e41 _ _ _ h).trans (by unfold G41; exact hr)
  · cases hr
/- 38: (*delphi/disk.Disk).change -/
def L38 : PM (List Nat) := .node (.node (.node (.node (.leaf) (some [4]) (.leaf)) (some [0, 3]) (.leaf)) (some [0, 3]) (.node (.leaf) (some []) (.leaf))) (some [0, 1]) (.node (.node (.leaf) (some [0, 3]) (.leaf)) (some [0, 3]) (.node (.leaf) (some []) (.leaf)))
noncomputable def PH38 : List (Nat × AFn) := [(41, G41)]
noncomputable def E38 : Code → Kont → Fr → Heap → Rs := ev T PH38 L38 fuel
noncomputable def C38_0 : Code := bodyOf Try.f38
noncomputable def C38_1 : Code := cl C38_0
noncomputable def C38_2 : Code := cr C38_0
noncomputable def K38_0 : Kont := kSeq (E38 C38_2 (kFin T Try.f38.results.toList)) (kFin T Try.f38.results.toList)
noncomputable def R38_0 (t0 t1 : AV) (h : Heap) (k : AV → AV → Heap → Rs) : Rs :=
  alK (boxV 5 t1) h fun v0 h0 =>
  k t0 v0 h0
noncomputable def C38_3 : Code := cl C38_2
noncomputable def C38_4 : Code := cr C38_2
noncomputable def K38_1 : Kont := kSeq (E38 C38_4 (kFin T Try.f38.results.toList)) (kFin T Try.f38.results.toList)
noncomputable def R38_1 (t0 t3 : AV) (h : Heap) (k : AV → AV → Heap → Rs) : Rs :=
  pureK (nilck t0) h fun v1 h1 =>
  pureK (faddr 2 v1) h1 fun v2 h2 =>
  pureK (ldV h2 v2) h2 fun v3 h3 =>
  pureK (ldG 5 h3 t3) h3 fun v4 h4 =>
  pureK (faddr 3 t3) h4 fun v5 h5 =>
  pureK (ldV h5 v5) h5 fun v6 h6 =>
  pureK (lenSl v6) h6 fun v7 h7 =>
  efK (G41 [v3, v4, v7] h7) fun v8 h8 =>
  k t0 t3 h8
noncomputable def C38_5 : Code := cl C38_4
noncomputable def C38_6 : Code := cr C38_4
noncomputable def K38_2 : Kont := kSeq (E38 C38_6 (kFin T Try.f38.results.toList)) (kFin T Try.f38.results.toList)
noncomputable def R38_2 (t0 t3 : AV) (h : Heap) (k : Heap → Rs) : Rs :=
  pureK (nilck t0) h fun v2 h2 =>
  pureK (faddr 3 v2) h2 fun v3 h3 =>
  pureK (ldV h3 v3) h3 fun v4 h4 =>
  pureK (ldG 5 h4 t3) h4 fun v5 h5 =>
  alK (bldSl [(AV.int .i64 0), (AV.str []), (AV.str []), (AV.snil), (AV.int .i64 0)] 1 [(0, 5, v5)]) h5 fun v6 h6 =>
  efK (appd 5 72 5 h6 v4 v6) fun v7 h7 =>
  pureK (nilck t0) h7 fun v8 h8 =>
  pureK (faddr 3 v8) h8 fun v9 h9 =>
  stK (stV 1 h9 v9 v7) fun _ h10 =>
  chkK (optBeq (ldV h6 v3) (ldV h3 v3) && true) (k h10)
noncomputable def C38_7 : Code := cl C38_6
noncomputable def C38_8 : Code := cr C38_6
noncomputable def K38_3 : Kont := kSeq (E38 C38_8 (kFin T Try.f38.results.toList)) (kFin T Try.f38.results.toList)
noncomputable def R38_3 (h : Heap) (k : AV → Heap → Rs) : Rs :=
  k (AV.int .i64 0) h
noncomputable def G38_3 (h : Heap) : Rs := R38_3 h fun t4 h => some (t4, h)
noncomputable def G38_2 (t0 t3 : AV) (h : Heap) : Rs := R38_2 t0 t3 h fun h => G38_3 h
noncomputable def G38_1 (t0 t3 : AV) (h : Heap) : Rs := R38_1 t0 t3 h fun t0 t3 h => G38_2 t0 t3 h
noncomputable def G38_0 (t0 t1 : AV) (h : Heap) : Rs := R38_0 t0 t1 h fun t0 t3 h => G38_1 t0 t3 h
noncomputable def G38 : AFn
  | [t0, t1], h => G38_0 t0 t1 h
  | _, _ => none
theorem q38_0 (fr : Fr) (h : Heap) : E38 C38_0 (kFin T Try.f38.results.toList) fr h = E38 C38_1 K38_0 fr h := stepSeq (by kernel_rfl) _ _ _
theorem r38_0 (K : Kont) (t0 t1 : AV) (h : Heap) : E38 C38_1 K (frOf 24 [(0,t0),(1,t1)]) h = R38_0 t0 t1 h (fun t0 t3 h => K .normal (frOf 24 [(0,t0),(3,t3)]) h) := by kernel_rfl
theorem n38_1 (fr : Fr) (h : Heap) : K38_0 .normal fr h = E38 C38_2 (kFin T Try.f38.results.toList) fr h := kSeq_n _ _ _ _
theorem q38_2 (fr : Fr) (h : Heap) : E38 C38_2 (kFin T Try.f38.results.toList) fr h = E38 C38_3 K38_1 fr h := stepSeq (by kernel_rfl) _ _ _
theorem r38_1 (K : Kont) (t0 t3 : AV) (h : Heap) : E38 C38_3 K (frOf 24 [(0,t0),(3,t3)]) h = R38_1 t0 t3 h (fun t0 t3 h => K .normal (frOf 24 [(0,t0),(3,t3)]) h) := by kernel_rfl
theorem n38_3 (fr : Fr) (h : Heap) : K38_1 .normal fr h = E38 C38_4 (kFin T Try.f38.results.toList) fr h := kSeq_n _ _ _ _
theorem q38_4 (fr : Fr) (h : Heap) : E38 C38_4 (kFin T Try.f38.results.toList) fr h = E38 C38_5 K38_2 fr h := stepSeq (by kernel_rfl) _ _ _
theorem r38_2 (K : Kont) (t0 t3 : AV) (h : Heap) : E38 C38_5 K (frOf 24 [(0,t0),(3,t3)]) h = R38_2 t0 t3 h (fun h => K .normal (frOf 24 []) h) := by kernel_rfl
theorem n38_5 (fr : Fr) (h : Heap) : K38_2 .normal fr h = E38 C38_6 (kFin T Try.f38.results.toList) fr h := kSeq_n _ _ _ _
theorem q38_6 (fr : Fr) (h : Heap) : E38 C38_6 (kFin T Try.f38.results.toList) fr h = E38 C38_7 K38_3 fr h := stepSeq (by kernel_rfl) _ _ _
theorem r38_3 (K : Kont) (h : Heap) : E38 C38_7 K (frOf 24 []) h = R38_3 h (fun t4 h => K .normal (frOf 24 [(4,t4)]) h) := by kernel_rfl
theorem n38_7 (fr : Fr) (h : Heap) : K38_3 .normal fr h = E38 C38_8 (kFin T Try.f38.results.toList) fr h := kSeq_n _ _ _ _
theorem b38_3 (h : Heap) : E38 C38_7 K38_3 (frOf 24 []) h = G38_3 h :=
  (r38_3 K38_3 h).trans (congrArg (R38_3 h) (funext fun t4 => funext fun h => (Eq.trans (n38_7 _ _) (Eq.trans (stepRet (by kernel_rfl) (kFin T Try.f38.results.toList) _ _) (by kernel_rfl)))))
theorem b38_2 (t0 t3 : AV) (h : Heap) : E38 C38_5 K38_2 (frOf 24 [(0,t0),(3,t3)]) h = G38_2 t0 t3 h :=
  (r38_2 K38_2 t0 t3 h).trans (congrArg (R38_2 t0 t3 h) (funext fun h => (Eq.trans (n38_5 _ _) (Eq.trans (q38_6 _ _) (b38_3 h)))))
theorem b38_1 (t0 t3 : AV) (h : Heap) : E38 C38_3 K38_1 (frOf 24 [(0,t0),(3,t3)]) h = G38_1 t0 t3 h :=
  (r38_1 K38_1 t0 t3 h).trans (congrArg (R38_1 t0 t3 h) (funext fun t0 => funext fun t3 => funext fun h => (Eq.trans (n38_3 _ _) (Eq.trans (q38_4 _ _) (b38_2 t0 t3 h)))))
theorem b38_0 (t0 t1 : AV) (h : Heap) : E38 C38_1 K38_0 (frOf 24 [(0,t0),(1,t1)]) h = G38_0 t0 t1 h :=
  (r38_0 K38_0 t0 t1 h).trans (congrArg (R38_0 t0 t1 h) (funext fun t0 => funext fun t3 => funext fun h => (Eq.trans (n38_1 _ _) (Eq.trans (q38_2 _ _) (b38_1 t0 t3 h)))))
theorem entry38 (t0 t1 : AV) (h : Heap) : evFunc T PH38 L38 Try.f38 fuel [t0, t1] h = E38 C38_0 (kFin T Try.f38.results.toList) (frOf 24 [(0,t0),(1,t1)]) h := by kernel_rfl
theorem e38 (t0 t1 : AV) (h : Heap) : evFunc T PH38 L38 Try.f38 fuel [t0, t1] h = G38 [t0, t1] h := Eq.trans (entry38 t0 t1 h) (Eq.trans (q38_0 _ _) (b38_0 t0 t1 h))
set_option maxRecDepth 100000 in
theorem s38 : Sound Try.prog 38 G38 := (soundOf tok 38 Try.f38 rfl rfl (Φ := PH38) (allCons s41 allNil) L38 fuel).le fun args h r hr => by
  unfold G38 at hr; split at hr
  · exact (e38 _ _ h).trans (by unfold G38; exact hr)
  · cases hr
/- 39: bytes.Clone -/
def L39 : PM (List Nat) := .node (.node (.node (.node (.leaf) (some [2]) (.leaf)) (some [0, 4]) (.leaf)) (some [0]) (.node (.leaf) (some [2]) (.leaf))) (some [0]) (.node (.node (.leaf) (some []) (.leaf)) (some [0]) (.node (.leaf) (some [0]) (.leaf)))
noncomputable def PH39 : List (Nat × AFn) := []
noncomputable def E39 : Code → Kont → Fr → Heap → Rs := ev T PH39 L39 fuel
noncomputable def C39_0 : Code := bodyOf Try.f39
noncomputable def C39_1 : Code := cl C39_0
noncomputable def C39_2 : Code := cr C39_0
noncomputable def K39_0 : Kont := kSeq (E39 C39_2 (kFin T Try.f39.results.toList)) (kFin T Try.f39.results.toList)
noncomputable def R39_0 (t0 : AV) (h : Heap) (k : AV → Heap → Rs) : Rs :=
  k t0 h
noncomputable def C39_3 : Code := cl C39_2
noncomputable def C39_4 : Code := cr C39_2
noncomputable def K39_1 : Kont := kSeq (E39 C39_4 (kFin T Try.f39.results.toList)) (kFin T Try.f39.results.toList)
noncomputable def C39_5 : Code := cl C39_3
noncomputable def C39_6 : Code := cr C39_3
noncomputable def K39_2 : Kont := kSeq (E39 C39_6 K39_1) K39_1
noncomputable def R39_1 (t0 : AV) (h : Heap) (k : AV → AV → Heap → Rs) : Rs :=
  pureK (binOpA T .eql 22 t0 AV.snil) h fun v1 h1 =>
  k t0 v1 h1
noncomputable def C39_7 : Code := cl C39_6
noncomputable def C39_8 : Code := cr C39_6
noncomputable def C39_9 : Code := cl C39_7
noncomputable def C39_10 : Code := cr C39_7
noncomputable def K39_3 : Kont := kSeq (E39 C39_10 K39_1) K39_1
noncomputable def C39_11 : Code := cl C39_4
noncomputable def C39_12 : Code := cr C39_4
noncomputable def K39_4 : Kont := kSeq (E39 C39_12 (kFin T Try.f39.results.toList)) (kFin T Try.f39.results.toList)
noncomputable def R39_2 (h : Heap) (k : AV → Heap → Rs) : Rs :=
  k AV.snil h
noncomputable def G39_2 (h : Heap) : Rs := R39_2 h fun t2 h => some (t2, h)
noncomputable def R39_3 (t0 : AV) (h : Heap) (k : AV → Heap → Rs) : Rs :=
  alK (bldSl [] 0 []) h fun v0 h0 =>
  efK (appd 1 1 1 h0 v0 t0) fun v2 h2 =>
  k v2 h2
noncomputable def G39_3 (t0 : AV) (h : Heap) : Rs := R39_3 t0 h fun t2 h => some (t2, h)
noncomputable def G39_1 (t0 : AV) (h : Heap) : Rs := R39_1 t0 h fun t0 t4 h => bcase t4 (G39_2 h) (G39_3 t0 h)
noncomputable def G39_0 (t0 : AV) (h : Heap) : Rs := R39_0 t0 h fun t0 h => G39_1 t0 h
noncomputable def G39 : AFn
  | [t0], h => G39_0 t0 h
  | _, _ => none
theorem q39_0 (fr : Fr) (h : Heap) : E39 C39_0 (kFin T Try.f39.results.toList) fr h = E39 C39_1 K39_0 fr h := stepSeq (by kernel_rfl) _ _ _
theorem r39_0 (K : Kont) (t0 : AV) (h : Heap) : E39 C39_1 K (frOf 8 [(0,t0)]) h = R39_0 t0 h (fun t0 h => K .normal (frOf 8 [(0,t0)]) h) := by kernel_rfl
theorem n39_1 (fr : Fr) (h : Heap) : K39_0 .normal fr h = E39 C39_2 (kFin T Try.f39.results.toList) fr h := kSeq_n _ _ _ _
theorem q39_2 (fr : Fr) (h : Heap) : E39 C39_2 (kFin T Try.f39.results.toList) fr h = E39 C39_3 K39_1 fr h := stepSeq (by kernel_rfl) _ _ _
theorem q39_3 (fr : Fr) (h : Heap) : E39 C39_3 K39_1 fr h = E39 C39_5 K39_2 fr h := stepSeq (by kernel_rfl) _ _ _
theorem r39_1 (K : Kont) (t0 : AV) (h : Heap) : E39 C39_5 K (frOf 8 [(0,t0)]) h = R39_1 t0 h (fun t0 t4 h => K .normal (frOf 8 [(0,t0),(4,t4)]) h) := by kernel_rfl
theorem n39_4 (fr : Fr) (h : Heap) : K39_2 .normal fr h = E39 C39_6 K39_1 fr h := kSeq_n _ _ _ _
theorem q39_5 (fr : Fr) (h : Heap) : E39 C39_7 K39_1 fr h = E39 C39_9 K39_3 fr h := stepSeq (by kernel_rfl) _ _ _
theorem n39_6 (fr : Fr) (h : Heap) : K39_1 .normal fr h = E39 C39_4 (kFin T Try.f39.results.toList) fr h := kSeq_n _ _ _ _
theorem q39_7 (fr : Fr) (h : Heap) : E39 C39_4 (kFin T Try.f39.results.toList) fr h = E39 C39_11 K39_4 fr h := stepSeq (by kernel_rfl) _ _ _
theorem r39_2 (K : Kont) (h : Heap) : E39 C39_9 K (frOf 8 []) h = R39_2 h (fun t2 h => K .normal (frOf 8 [(2,t2)]) h) := by kernel_rfl
theorem n39_8 (fr : Fr) (h : Heap) : K39_3 .normal fr h = E39 C39_10 K39_1 fr h := kSeq_n _ _ _ _
theorem b39_2 (h : Heap) : E39 C39_9 K39_3 (frOf 8 []) h = G39_2 h :=
  (r39_2 K39_3 h).trans (congrArg (R39_2 h) (funext fun t2 => funext fun h => (Eq.trans (n39_8 _ _) (Eq.trans (stepRet (by kernel_rfl) K39_1 _ _) (Eq.trans (kSeq_r _ _ _ _) (by kernel_rfl))))))
theorem r39_3 (K : Kont) (t0 : AV) (h : Heap) : E39 C39_11 K (frOf 8 [(0,t0)]) h = R39_3 t0 h (fun t2 h => K .normal (frOf 8 [(2,t2)]) h) := by kernel_rfl
theorem n39_9 (fr : Fr) (h : Heap) : K39_4 .normal fr h = E39 C39_12 (kFin T Try.f39.results.toList) fr h := kSeq_n _ _ _ _
theorem b39_3 (t0 : AV) (h : Heap) : E39 C39_11 K39_4 (frOf 8 [(0,t0)]) h = G39_3 t0 h :=
  (r39_3 K39_4 t0 h).trans (congrArg (R39_3 t0 h) (funext fun t2 => funext fun h => (Eq.trans (n39_9 _ _) (Eq.trans (stepRet (by kernel_rfl) (kFin T Try.f39.results.toList) _ _) (by kernel_rfl)))))
theorem b39_1 (t0 : AV) (h : Heap) : E39 C39_5 K39_2 (frOf 8 [(0,t0)]) h = G39_1 t0 h :=
  (r39_1 K39_2 t0 h).trans (congrArg (R39_1 t0 h) (funext fun t0 => funext fun t4 => funext fun h => (Eq.trans (n39_4 _ _) (Eq.trans (stepCond (c := C39_6) (by kernel_rfl) K39_1 _ _ (v := t4) (by kernel_rfl)) (bcase_congr t4 (Eq.trans (q39_5 _ _) (Eq.trans (stepClean (c := C39_9) (id := 2) (by kernel_rfl) K39_3 _ _ (by kernel_rfl)) (b39_2 h))) (Eq.trans (stepSkip (by kernel_rfl) K39_1 _ _) (Eq.trans (n39_6 _ _) (Eq.trans (q39_7 _ _) (Eq.trans (stepClean (c := C39_11) (id := 3) (by kernel_rfl) K39_4 _ _ (by kernel_rfl)) (b39_3 t0 h))))))))))
theorem b39_0 (t0 : AV) (h : Heap) : E39 C39_1 K39_0 (frOf 8 [(0,t0)]) h = G39_0 t0 h :=
  (r39_0 K39_0 t0 h).trans (congrArg (R39_0 t0 h) (funext fun t0 => funext fun h => (Eq.trans (n39_1 _ _) (Eq.trans (q39_2 _ _) (Eq.trans (q39_3 _ _) (b39_1 t0 h))))))
theorem entry39 (t0 : AV) (h : Heap) : evFunc T PH39 L39 Try.f39 fuel [t0] h = E39 C39_0 (kFin T Try.f39.results.toList) (frOf 8 [(0,t0)]) h := by kernel_rfl
theorem e39 (t0 : AV) (h : Heap) : evFunc T PH39 L39 Try.f39 fuel [t0] h = G39 [t0] h := Eq.trans (entry39 t0 h) (Eq.trans (q39_0 _ _) (b39_0 t0 h))
set_option maxRecDepth 100000 in
theorem s39 : Sound Try.prog 39 G39 := (soundOf tok 39 Try.f39 rfl rfl (Φ := PH39) allNil L39 fuel).le fun args h r hr => by
  unfold G39 at hr; split at hr
  · exact (e39 _ h).trans (by unfold G39; exact hr)
  · cases hr
/- 20: (*delphi/disk.Disk).Used -/
def L20 : PM (List Nat) := .node (.node (.node (.node (.node (.leaf) (some [2]) (.leaf)) (some [3, 12]) (.leaf)) (some [0, 3]) (.node (.leaf) (some [3, 5, 12]) (.leaf))) (some [0]) (.node (.node (.leaf) (some [3, 12, 14]) (.leaf)) (some [0, 3, 7]) (.node (.leaf) (some [3, 12]) (.leaf)))) (some [0]) (.node (.node (.node (.leaf) (some [3, 12]) (.leaf)) (some [0, 3]) (.node (.leaf) (some [3, 5, 12]) (.leaf))) (some [0]) (.node (.node (.leaf) (some [3, 12]) (.leaf)) (some [0, 3]) (.node (.leaf) (some [3]) (.leaf))))
noncomputable def PH20 : List (Nat × AFn) := []
noncomputable def E20 : Code → (KontR Prop) → Fr → Heap → (Option Prop) := evW T PH20 L20 fuel
noncomputable def C20_0 : Code := bodyOf Try.f20
noncomputable def C20_1 : Code := cl C20_0
noncomputable def C20_2 : Code := cr C20_0
noncomputable def K20_0 (res : AV × Heap) : (KontR Prop) := kSeq (E20 C20_2 ((kFinW T Try.f20.results.toList) res)) ((kFinW T Try.f20.results.toList) res)
noncomputable def R20_0 (t0 : AV) (h : Heap) (k : AV → Heap → (Option Prop)) : (Option Prop) :=
  k t0 h
noncomputable def C20_3 : Code := cl C20_2
noncomputable def C20_4 : Code := cr C20_2
noncomputable def K20_1 (res : AV × Heap) : (KontR Prop) := kSeq (E20 C20_4 ((kFinW T Try.f20.results.toList) res)) ((kFinW T Try.f20.results.toList) res)
noncomputable def R20_1 (t0 : AV) (h : Heap) (k : AV → AV → Heap → (Option Prop)) : (Option Prop) :=
  k t0 (AV.int .i64 0) h
noncomputable def C20_5 : Code := cl C20_4
noncomputable def C20_6 : Code := cr C20_4
noncomputable def K20_2 (res : AV × Heap) : (KontR Prop) := kSeq (E20 C20_6 ((kFinW T Try.f20.results.toList) res)) ((kFinW T Try.f20.results.toList) res)
noncomputable def C20_7 : Code := cl C20_5
noncomputable def C20_8 : Code := cr C20_5
noncomputable def K20_3 (res : AV × Heap) : (KontR Prop) := kSeq (E20 C20_8 (K20_2 res)) (K20_2 res)
noncomputable def R20_2 (t0 t3 : AV) (h : Heap) (k : AV → AV → AV → Heap → (Option Prop)) : (Option Prop) :=
  pureK (binOpA T .neq 24 t0 AV.pnil) h fun v1 h1 =>
  k t0 t3 v1 h1
noncomputable def C20_9 : Code := cl C20_8
noncomputable def C20_10 : Code := cr C20_8
noncomputable def C20_11 : Code := cl C20_9
noncomputable def C20_12 : Code := cr C20_9
noncomputable def K20_4 (res : AV × Heap) : (KontR Prop) := kSeq (E20 C20_12 (K20_2 res)) (K20_2 res)
noncomputable def C20_13 : Code := cl C20_6
noncomputable def C20_14 : Code := cr C20_6
noncomputable def K20_5 (res : AV × Heap) : (KontR Prop) := kSeq (E20 C20_14 ((kFinW T Try.f20.results.toList) res)) ((kFinW T Try.f20.results.toList) res)
noncomputable def R20_3 (t0 t3 : AV) (h : Heap) (k : AV → AV → Heap → (Option Prop)) : (Option Prop) :=
  pureK (nilck t0) h fun v1 h1 =>
  pureK (faddr 2 v1) h1 fun v2 h2 =>
  pureK (ldV h2 v2) h2 fun v3 h3 =>
  efK (rangeA T h3 79 v3) fun v4 h4 =>
  k t3 v4 h4
noncomputable def C20_15 : Code := cl C20_12
noncomputable def K20_6 (res : AV × Heap) : (KontR Prop) := kBlock 0 (K20_2 res)
noncomputable def C20_16 : Code := cl C20_15
noncomputable def K20_7 (res : AV × Heap) (m0 : Nat) : (KontR Prop) := kSeq (fun fr h => evLoop (cleanO L20 (headId C20_16)) (E20 C20_16) (K20_6 res) m0 ((cleanO L20 (headId C20_16)) fr) h) (K20_6 res)
noncomputable def C20_17 : Code := cl C20_16
noncomputable def C20_18 : Code := cr C20_16
noncomputable def K20_8 (res : AV × Heap) (m0 : Nat) : (KontR Prop) := kSeq (E20 C20_18 (K20_7 res m0)) (K20_7 res m0)
noncomputable def R20_4 (t3 t12 : AV) (h : Heap) (k : AV → AV → AV → Heap → (Option Prop)) : (Option Prop) :=
  nxK h t12 fun v0 h0 =>
  pureK (extr v0 0) h0 fun v1 h1 =>
  k t3 t12 v1 h1
noncomputable def C20_19 : Code := cl C20_18
noncomputable def C20_20 : Code := cr C20_18
noncomputable def K20_9 (res : AV × Heap) (m0 : Nat) : (KontR Prop) := kSeq (E20 C20_20 (K20_7 res m0)) (K20_7 res m0)
noncomputable def C20_21 : Code := cl C20_19
noncomputable def C20_22 : Code := cr C20_19
noncomputable def C20_23 : Code := cl C20_20
noncomputable def K20_10 (res : AV × Heap) (m0 : Nat) : (KontR Prop) := kBlock 1 (K20_7 res m0)
noncomputable def C20_24 : Code := cl C20_23
noncomputable def C20_25 : Code := cr C20_23
noncomputable def K20_11 (res : AV × Heap) (m0 : Nat) : (KontR Prop) := kSeq (E20 C20_25 (K20_10 res m0)) (K20_10 res m0)
noncomputable def R20_5 (t3 t12 : AV) (h : Heap) (k : AV → AV → AV → Heap → (Option Prop)) : (Option Prop) :=
  pureK (entryA h t12) h fun v0 h0 =>
  pureK (extr v0 1) h0 fun v1 h1 =>
  k t3 v1 t12 h1
noncomputable def R20_6 (t3 t5 t12 : AV) (h : Heap) (k : AV → AV → Heap → (Option Prop)) : (Option Prop) :=
  pureK (lenSl t5) h fun v2 h2 =>
  pureK (binOpA T .add 3 t3 v2) h2 fun v3 h3 =>
  k v3 t12 h3
noncomputable def G20_6 (res : AV × Heap) (lc0 : AV → AV → Heap → (Option Prop)) (t3 t5 t12 : AV) (h : Heap) : (Option Prop) := R20_6 t3 t5 t12 h fun t3 t12 h => lc0 t3 t12 h
noncomputable def G20_5 (res : AV × Heap) (lc0 : AV → AV → Heap → (Option Prop)) (t3 t12 : AV) (h : Heap) : (Option Prop) := R20_5 t3 t12 h fun t3 t5 t12 h => G20_6 res lc0 t3 t5 t12 h
noncomputable def R20_7 (t3 : AV) (h : Heap) (k : AV → Heap → (Option Prop)) : (Option Prop) :=
  k t3 h
noncomputable def G20_7 (res : AV × Heap) (t3 : AV) (h : Heap) : (Option Prop) := R20_7 t3 h fun t2 h => some ((t2, h) = res)
noncomputable def G20_4 (res : AV × Heap) (lc0 : AV → AV → Heap → (Option Prop)) (t3 t12 : AV) (h : Heap) : (Option Prop) := R20_4 t3 t12 h fun t3 t12 t14 h => bcase t14 (G20_5 res lc0 t3 t12 h) (G20_7 res t3 h)
noncomputable def G20_l0 (res : AV × Heap) : Nat → AV → AV → Heap → (Option Prop)
  | 0, _, _, _ => none
  | m + 1, t3, t12, h => G20_4 res (G20_l0 res m) t3 t12 h
noncomputable def G20_3 (res : AV × Heap) (t0 t3 : AV) (h : Heap) : (Option Prop) := R20_3 t0 t3 h fun t3 t12 h => G20_l0 res fuel t3 t12 h
noncomputable def G20_2 (res : AV × Heap) (t0 t3 : AV) (h : Heap) : (Option Prop) := R20_2 t0 t3 h fun t0 t3 t7 h => bcase t7 (G20_3 res t0 t3 h) (G20_7 res t3 h)
noncomputable def G20_1 (res : AV × Heap) (t0 : AV) (h : Heap) : (Option Prop) := R20_1 t0 h fun t0 t3 h => G20_2 res t0 t3 h
noncomputable def G20_0 (res : AV × Heap) (t0 : AV) (h : Heap) : (Option Prop) := R20_0 t0 h fun t0 h => G20_1 res t0 h
noncomputable def GW20 (res : AV × Heap) (t0 : AV) (h : Heap) : Option Prop := G20_0 res t0 h
theorem entry20 (res : AV × Heap) (t0 : AV) (h : Heap) : evW T PH20 L20 fuel (bodyOf Try.f20) (kFinW T Try.f20.results.toList res) ([t0].map some ++ List.replicate (Try.f20.ntmps - [t0].length) none) h = E20 C20_0 (kFinW T Try.f20.results.toList res) (frOf 22 [(0,t0)]) h := by kernel_rfl
theorem q20_0 (res : AV × Heap) (fr : Fr) (h : Heap) : E20 C20_0 ((kFinW T Try.f20.results.toList) res) fr h = E20 C20_1 (K20_0 res) fr h := stepSeqW (by kernel_rfl) _ _ _
theorem r20_0 (K : (KontR Prop)) (t0 : AV) (h : Heap) : E20 C20_1 K (frOf 22 [(0,t0)]) h = R20_0 t0 h (fun t0 h => K .normal (frOf 22 [(0,t0)]) h) := by kernel_rfl
theorem n20_1 (res : AV × Heap) (fr : Fr) (h : Heap) : (K20_0 res) .normal fr h = E20 C20_2 ((kFinW T Try.f20.results.toList) res) fr h := kSeq_n _ _ _ _
theorem q20_2 (res : AV × Heap) (fr : Fr) (h : Heap) : E20 C20_2 ((kFinW T Try.f20.results.toList) res) fr h = E20 C20_3 (K20_1 res) fr h := stepSeqW (by kernel_rfl) _ _ _
theorem r20_1 (K : (KontR Prop)) (t0 : AV) (h : Heap) : E20 C20_3 K (frOf 22 [(0,t0)]) h = R20_1 t0 h (fun t0 t3 h => K .normal (frOf 22 [(0,t0),(3,t3)]) h) := by kernel_rfl
theorem n20_3 (res : AV × Heap) (fr : Fr) (h : Heap) : (K20_1 res) .normal fr h = E20 C20_4 ((kFinW T Try.f20.results.toList) res) fr h := kSeq_n _ _ _ _
theorem q20_4 (res : AV × Heap) (fr : Fr) (h : Heap) : E20 C20_4 ((kFinW T Try.f20.results.toList) res) fr h = E20 C20_5 (K20_2 res) fr h := stepSeqW (by kernel_rfl) _ _ _
theorem q20_5 (res : AV × Heap) (fr : Fr) (h : Heap) : E20 C20_5 (K20_2 res) fr h = E20 C20_7 (K20_3 res) fr h := stepSeqW (by kernel_rfl) _ _ _
theorem r20_2 (K : (KontR Prop)) (t0 t3 : AV) (h : Heap) : E20 C20_7 K (frOf 22 [(0,t0),(3,t3)]) h = R20_2 t0 t3 h (fun t0 t3 t7 h => K .normal (frOf 22 [(0,t0),(3,t3),(7,t7)]) h) := by kernel_rfl
theorem n20_6 (res : AV × Heap) (fr : Fr) (h : Heap) : (K20_3 res) .normal fr h = E20 C20_8 (K20_2 res) fr h := kSeq_n _ _ _ _
theorem q20_7 (res : AV × Heap) (fr : Fr) (h : Heap) : E20 C20_9 (K20_2 res) fr h = E20 C20_11 (K20_4 res) fr h := stepSeqW (by kernel_rfl) _ _ _
theorem n20_8 (res : AV × Heap) (fr : Fr) (h : Heap) : (K20_2 res) .normal fr h = E20 C20_6 ((kFinW T Try.f20.results.toList) res) fr h := kSeq_n _ _ _ _
theorem q20_9 (res : AV × Heap) (fr : Fr) (h : Heap) : E20 C20_6 ((kFinW T Try.f20.results.toList) res) fr h = E20 C20_13 (K20_5 res) fr h := stepSeqW (by kernel_rfl) _ _ _
theorem r20_3 (K : (KontR Prop)) (t0 t3 : AV) (h : Heap) : E20 C20_11 K (frOf 22 [(0,t0),(3,t3)]) h = R20_3 t0 t3 h (fun t3 t12 h => K .normal (frOf 22 [(3,t3),(12,t12)]) h) := by kernel_rfl
theorem n20_10 (res : AV × Heap) (fr : Fr) (h : Heap) : (K20_4 res) .normal fr h = E20 C20_12 (K20_2 res) fr h := kSeq_n _ _ _ _
theorem q20_11 (res : AV × Heap) (fr : Fr) (h : Heap) : E20 C20_12 (K20_2 res) fr h = E20 C20_15 (K20_6 res) fr h := stepBlockW (by kernel_rfl) _ _ _
theorem q20_12 (res : AV × Heap) (m0 : Nat) (fr : Fr) (h : Heap) : E20 C20_16 (K20_7 res m0) fr h = E20 C20_17 (K20_8 res m0) fr h := stepSeqW (by kernel_rfl) _ _ _
theorem r20_4 (K : (KontR Prop)) (t3 t12 : AV) (h : Heap) : E20 C20_17 K (frOf 22 [(3,t3),(12,t12)]) h = R20_4 t3 t12 h (fun t3 t12 t14 h => K .normal (frOf 22 [(3,t3),(12,t12),(14,t14)]) h) := by kernel_rfl
theorem n20_13 (res : AV × Heap) (m0 : Nat) (fr : Fr) (h : Heap) : (K20_8 res m0) .normal fr h = E20 C20_18 (K20_7 res m0) fr h := kSeq_n _ _ _ _
theorem q20_14 (res : AV × Heap) (m0 : Nat) (fr : Fr) (h : Heap) : E20 C20_18 (K20_7 res m0) fr h = E20 C20_19 (K20_9 res m0) fr h := stepSeqW (by kernel_rfl) _ _ _
theorem n20_15 (res : AV × Heap) (m0 : Nat) (fr : Fr) (h : Heap) : (K20_9 res m0) .normal fr h = E20 C20_20 (K20_7 res m0) fr h := kSeq_n _ _ _ _
theorem q20_16 (res : AV × Heap) (m0 : Nat) (fr : Fr) (h : Heap) : E20 C20_20 (K20_7 res m0) fr h = E20 C20_23 (K20_10 res m0) fr h := stepBlockW (by kernel_rfl) _ _ _
theorem q20_17 (res : AV × Heap) (m0 : Nat) (fr : Fr) (h : Heap) : E20 C20_23 (K20_10 res m0) fr h = E20 C20_24 (K20_11 res m0) fr h := stepSeqW (by kernel_rfl) _ _ _
theorem r20_5 (K : (KontR Prop)) (t3 t12 : AV) (h : Heap) : E20 C20_24 K (frOf 22 [(3,t3),(12,t12)]) h = R20_5 t3 t12 h (fun t3 t5 t12 h => K .normal (frOf 22 [(3,t3),(5,t5),(12,t12)]) h) := by kernel_rfl
theorem n20_18 (res : AV × Heap) (m0 : Nat) (fr : Fr) (h : Heap) : (K20_11 res m0) .normal fr h = E20 C20_25 (K20_10 res m0) fr h := kSeq_n _ _ _ _
theorem r20_6 (K : (KontR Prop)) (t3 t5 t12 : AV) (h : Heap) : E20 C20_25 K (frOf 22 [(3,t3),(5,t5),(12,t12)]) h = R20_6 t3 t5 t12 h (fun t3 t12 h => K .normal (frOf 22 [(3,t3),(12,t12)]) h) := by kernel_rfl
theorem b20_6 (res : AV × Heap) (m0 : Nat) (ih0 : ∀ (t3 t12 : AV) (h : Heap), evLoop (cleanO L20 (headId C20_16)) (E20 C20_16) (K20_6 res) m0 (frOf 22 [(3,t3),(12,t12)]) h = G20_l0 res  m0 t3 t12 h) (t3 t5 t12 : AV) (h : Heap) : E20 C20_25 (K20_10 res m0) (frOf 22 [(3,t3),(5,t5),(12,t12)]) h = G20_6 res (G20_l0 res  m0) t3 t5 t12 h :=
  (r20_6 (K20_10 res m0) t3 t5 t12 h).trans (congrArg (R20_6 t3 t5 t12 h) (funext fun t3 => funext fun t12 => funext fun h => (Eq.trans (kBlock_n _ _ _ _) (Eq.trans (stepNext _ (by kernel_rfl)) (ih0 t3 t12 h)))))
theorem b20_5 (res : AV × Heap) (m0 : Nat) (ih0 : ∀ (t3 t12 : AV) (h : Heap), evLoop (cleanO L20 (headId C20_16)) (E20 C20_16) (K20_6 res) m0 (frOf 22 [(3,t3),(12,t12)]) h = G20_l0 res  m0 t3 t12 h) (t3 t12 : AV) (h : Heap) : E20 C20_24 (K20_11 res m0) (frOf 22 [(3,t3),(12,t12)]) h = G20_5 res (G20_l0 res  m0) t3 t12 h :=
  (r20_5 (K20_11 res m0) t3 t12 h).trans (congrArg (R20_5 t3 t12 h) (funext fun t3 => funext fun t5 => funext fun t12 => funext fun h => (Eq.trans (n20_18 res m0 _ _) (b20_6 res m0 ih0 t3 t5 t12 h))))
theorem r20_7 (K : (KontR Prop)) (t3 : AV) (h : Heap) : E20 C20_13 K (frOf 22 [(3,t3)]) h = R20_7 t3 h (fun t2 h => K .normal (frOf 22 [(2,t2)]) h) := by kernel_rfl
theorem n20_19 (res : AV × Heap) (fr : Fr) (h : Heap) : (K20_5 res) .normal fr h = E20 C20_14 ((kFinW T Try.f20.results.toList) res) fr h := kSeq_n _ _ _ _
theorem b20_7 (res : AV × Heap) (t3 : AV) (h : Heap) : E20 C20_13 (K20_5 res) (frOf 22 [(3,t3)]) h = G20_7 res t3 h :=
  (r20_7 (K20_5 res) t3 h).trans (congrArg (R20_7 t3 h) (funext fun t2 => funext fun h => (Eq.trans (n20_19 res _ _) (Eq.trans (stepRetW (by kernel_rfl) ((kFinW T Try.f20.results.toList) res) _ _) (by kernel_rfl)))))
theorem b20_4 (res : AV × Heap) (m0 : Nat) (ih0 : ∀ (t3 t12 : AV) (h : Heap), evLoop (cleanO L20 (headId C20_16)) (E20 C20_16) (K20_6 res) m0 (frOf 22 [(3,t3),(12,t12)]) h = G20_l0 res  m0 t3 t12 h) (t3 t12 : AV) (h : Heap) : E20 C20_17 (K20_8 res m0) (frOf 22 [(3,t3),(12,t12)]) h = G20_4 res (G20_l0 res  m0) t3 t12 h :=
  (r20_4 (K20_8 res m0) t3 t12 h).trans (congrArg (R20_4 t3 t12 h) (funext fun t3 => funext fun t12 => funext fun t14 => funext fun h => (Eq.trans (n20_13 res m0 _ _) (Eq.trans (q20_14 res m0 _ _) (Eq.trans (stepCondW (c := C20_19) (by kernel_rfl) (K20_9 res m0) _ _ (v := t14) (by kernel_rfl)) (bcase_congr t14 (Eq.trans (stepSkipW (by kernel_rfl) (K20_9 res m0) _ _) (Eq.trans (n20_15 res m0 _ _) (Eq.trans (q20_16 res m0 _ _) (Eq.trans (q20_17 res m0 _ _) (Eq.trans (stepCleanW (c := C20_24) (id := 5) (by kernel_rfl) (K20_11 res m0) _ _ (by kernel_rfl)) (b20_5 res m0 ih0 t3 t12 h)))))) (Eq.trans (stepExitW (i := 0) (by kernel_rfl) (K20_9 res m0) _ _) (Eq.trans (kSeq_x _ _ _ _ _) (Eq.trans (kSeq_x _ _ _ _ _) (Eq.trans (kBlock_hit _ _ _ _) (Eq.trans (n20_8 res _ _) (Eq.trans (q20_9 res _ _) (Eq.trans (stepCleanW (c := C20_13) (id := 7) (by kernel_rfl) (K20_5 res) _ _ (by kernel_rfl)) (b20_7 res t3 h))))))))))))))
theorem b20_l0 (res : AV × Heap) : ∀ (m0 : Nat) (t3 t12 : AV) (h : Heap), evLoop (cleanO L20 (headId C20_16)) (E20 C20_16) (K20_6 res) m0 (frOf 22 [(3,t3),(12,t12)]) h = G20_l0 res m0 t3 t12 h := by
  intro m0
  induction m0 with
  | zero => intros; rfl
  | succ m0 ih0 => intro t3 t12 h; exact Eq.trans (evLoop_succ _ _ _ _ _ _) (Eq.trans (q20_12 res m0 _ _) (b20_4 res m0 ih0 t3 t12 h))
theorem b20_3 (res : AV × Heap) (t0 t3 : AV) (h : Heap) : E20 C20_11 (K20_4 res) (frOf 22 [(0,t0),(3,t3)]) h = G20_3 res t0 t3 h :=
  (r20_3 (K20_4 res) t0 t3 h).trans (congrArg (R20_3 t0 t3 h) (funext fun t3 => funext fun t12 => funext fun h => (Eq.trans (n20_10 res _ _) (Eq.trans (q20_11 res _ _) (Eq.trans (stepLoopW (by kernel_rfl) (K20_6 res) _ _ (by kernel_rfl)) (b20_l0 res fuel t3 t12 h))))))
theorem b20_2 (res : AV × Heap) (t0 t3 : AV) (h : Heap) : E20 C20_7 (K20_3 res) (frOf 22 [(0,t0),(3,t3)]) h = G20_2 res t0 t3 h :=
  (r20_2 (K20_3 res) t0 t3 h).trans (congrArg (R20_2 t0 t3 h) (funext fun t0 => funext fun t3 => funext fun t7 => funext fun h => (Eq.trans (n20_6 res _ _) (Eq.trans (stepCondW (c := C20_8) (by kernel_rfl) (K20_2 res) _ _ (v := t7) (by kernel_rfl)) (bcase_congr t7 (Eq.trans (q20_7 res _ _) (Eq.trans (stepCleanW (c := C20_11) (id := 3) (by kernel_rfl) (K20_4 res) _ _ (by kernel_rfl)) (b20_3 res t0 t3 h))) (Eq.trans (stepSkipW (by kernel_rfl) (K20_2 res) _ _) (Eq.trans (n20_8 res _ _) (Eq.trans (q20_9 res _ _) (Eq.trans (stepCleanW (c := C20_13) (id := 7) (by kernel_rfl) (K20_5 res) _ _ (by kernel_rfl)) (b20_7 res t3 h))))))))))
theorem b20_1 (res : AV × Heap) (t0 : AV) (h : Heap) : E20 C20_3 (K20_1 res) (frOf 22 [(0,t0)]) h = G20_1 res t0 h :=
  (r20_1 (K20_1 res) t0 h).trans (congrArg (R20_1 t0 h) (funext fun t0 => funext fun t3 => funext fun h => (Eq.trans (n20_3 res _ _) (Eq.trans (q20_4 res _ _) (Eq.trans (q20_5 res _ _) (b20_2 res t0 t3 h))))))
theorem b20_0 (res : AV × Heap) (t0 : AV) (h : Heap) : E20 C20_1 (K20_0 res) (frOf 22 [(0,t0)]) h = G20_0 res t0 h :=
  (r20_0 (K20_0 res) t0 h).trans (congrArg (R20_0 t0 h) (funext fun t0 => funext fun h => (Eq.trans (n20_1 res _ _) (Eq.trans (q20_2 res _ _) (b20_1 res t0 h)))))
theorem e20 (res : AV × Heap) (t0 : AV) (h : Heap) : evW T PH20 L20 fuel (bodyOf Try.f20) (kFinW T Try.f20.results.toList res) ([t0].map some ++ List.replicate (Try.f20.ntmps - [t0].length) none) h = GW20 res t0 h :=
  Eq.trans (entry20 res t0 h) (Eq.trans (q20_0 res _ _) (b20_0 res t0 h))
set_option maxRecDepth 100000 in
theorem sw20 {F : AFn} (hF : ∀ args h res, F args h = some res → ∃ t0 , args = [t0] ∧ Ev (GW20 res t0 h)) : Sound Try.prog 20 F :=
  soundW tok 20 Try.f20 rfl rfl (Φ := PH20) allNil L20 fuel fun args h res hr => by
    obtain ⟨t0, rfl, hh⟩ := hF args h res hr
    rw [e20]; exact hh
end Go.Ab
