/-
  What each function gives when run. Printed by a program of mine (gen.py).
-/
import Derived.Test.YtieagdjehjghdaaVdTy
set_option linter.all false
set_option linter.unusedVariables false
set_option maxRecDepth 100000
namespace Go.Av
open Go.Proofs
/-! law19_DomainAts -/
def sp_law19_DomainAts : List LSpec := []
def law19_DomainAts (Φ : Phi) (fuel : Nat) (d1 : List (List D)) (n2 : Int) : Option A :=
((Φ i_law19_small [(A.agg [(C.d (D.sl d1))])]).bind fun r3 =>
((xAD r3).bind fun d4 =>
((xDB d4).bind fun b5 =>
(xite (!b5)
((Φ i_law19_alive []).bind fun r6 =>
((xAD r6).bind fun d7 =>
((xDB d7).bind fun b8 =>
(some (A.one (C.d (D.v (.bool b8))))))))
((Φ i_domain_At [(A.agg [(C.d (D.sl d1))]), (A.one (C.d (D.v (.int .i64 n2))))]).bind fun r9 =>
((xtup r9 0).bind fun r10 =>
((xAD r10).bind fun d11 =>
((xDL d11).bind fun l12 =>
((xtup r9 1).bind fun r13 =>
((xAD r13).bind fun d14 =>
((xDI .i64 d14).bind fun n15 =>
((Φ i_ref19_At [(A.agg [(C.d (D.sl d1))]), (A.one (C.d (D.v (.int .i64 n2))))]).bind fun r16 =>
((xtup r16 0).bind fun r17 =>
((xAD r17).bind fun d18 =>
((xDL d18).bind fun l19 =>
((xtup r16 1).bind fun r20 =>
((xAD r20).bind fun d21 =>
((xDI .i64 d21).bind fun n22 =>
((Φ i_ref01_EqualAll [(A.one (C.d (D.sl l12))), (A.one (C.d (D.sl l19)))]).bind fun r23 =>
((xAD r23).bind fun d24 =>
((xDB d24).bind fun b25 =>
(xite b25
(xite (decide (n15 = n22))
((Φ i_law19_alive []).bind fun r26 =>
((xAD r26).bind fun d27 =>
((xDB d27).bind fun b28 =>
(some (A.one (C.d (D.v (.bool b28))))))))
(some (A.one (C.d (D.v (.bool false))))))
(some (A.one (C.d (D.v (.bool false)))))))))))))))))))))))))))
theorem law19_DomainAts_eq (Φ : Phi) (fuel : Nat) (d1 : List (List D)) (n2 : Int) : xbody TT0 Φ fuel sp_law19_DomainAts Try.f3 [(A.agg [(C.d (D.sl d1))]), (A.one (C.d (D.v (.int .i64 n2))))] = law19_DomainAts Φ fuel d1 n2 := by kernel_rfl
/-! law19_DomainRestricts -/
def sp_law19_DomainRestricts : List LSpec := []
def law19_DomainRestricts (Φ : Phi) (fuel : Nat) (d1 : List (List D)) (axis2 : Int) (keep3 : List (List D)) : Option A :=
((Φ i_law19_small [(A.agg [(C.d (D.sl d1))])]).bind fun r4 =>
((xAD r4).bind fun d5 =>
((xDB d5).bind fun b6 =>
(xite (!b6)
((Φ i_law19_alive []).bind fun r7 =>
((xAD r7).bind fun d8 =>
((xDB d8).bind fun b9 =>
(some (A.one (C.d (D.v (.bool b9))))))))
(xite (decide ((100 : Int) < ((keep3).length : Int)))
((Φ i_law19_alive []).bind fun r10 =>
((xAD r10).bind fun d11 =>
((xDB d11).bind fun b12 =>
(some (A.one (C.d (D.v (.bool b12))))))))
((Φ i_domain_Restrict [(A.agg [(C.d (D.sl d1))]), (A.one (C.d (D.v (.int .i64 axis2)))), (A.one (C.d (D.sl keep3)))]).bind fun r13 =>
((xtup r13 0).bind fun r14 =>
((xADs r14).bind fun d15 =>
(xif (decide (d15.length = 1))
((xDL (List.getD d15 0 (D.s []))).bind fun l16 =>
((xtup r13 1).bind fun r17 =>
((xAD r17).bind fun d18 =>
((xDI .i64 d18).bind fun n19 =>
((Φ i_ref19_Restrict [(A.agg [(C.d (D.sl d1))]), (A.one (C.d (D.v (.int .i64 axis2)))), (A.one (C.d (D.sl keep3)))]).bind fun r20 =>
((xtup r20 0).bind fun r21 =>
((xADs r21).bind fun d22 =>
(xif (decide (d22.length = 1))
((xDL (List.getD d22 0 (D.s []))).bind fun l23 =>
((xtup r20 1).bind fun r24 =>
((xAD r24).bind fun d25 =>
((xDI .i64 d25).bind fun n26 =>
((Φ i_ref19_Same [(A.agg [(C.d (D.sl l16))]), (A.agg [(C.d (D.sl l23))])]).bind fun r27 =>
((xAD r27).bind fun d28 =>
((xDB d28).bind fun b29 =>
(xite b29
(xite (decide (n19 = n26))
((Φ i_law19_alive []).bind fun r30 =>
((xAD r30).bind fun d31 =>
((xDB d31).bind fun b32 =>
(some (A.one (C.d (D.v (.bool b32))))))))
(some (A.one (C.d (D.v (.bool false))))))
(some (A.one (C.d (D.v (.bool false))))))))))))))))))))))))))))))
theorem law19_DomainRestricts_eq (Φ : Phi) (fuel : Nat) (d1 : List (List D)) (axis2 : Int) (keep3 : List (List D)) : xbody TT0 Φ fuel sp_law19_DomainRestricts Try.f4 [(A.agg [(C.d (D.sl d1))]), (A.one (C.d (D.v (.int .i64 axis2)))), (A.one (C.d (D.sl keep3)))] = law19_DomainRestricts Φ fuel d1 axis2 keep3 := by kernel_rfl
/-! law19_DomainSizes -/
def sp_law19_DomainSizes : List LSpec := [{ n := 1, m := 73, toks := [], ks := [.slot 7 (.one .sl), .slot 9 (.one .sl), .slot 11 (.one (.int .i64))] }]
def law19_DomainSizes_l0 (Φ : Phi) (fuel : Nat) (k0 : List (List D) → List (List D) → Int → Option A) (l36 : List (List D)) (m37 : List (List D)) (i38 : Int) : Option A :=
(xite (decide (i38 < ((l36).length : Int)))
((xElem 1 l36 i38).bind fun c39 =>
(xif (decide (1 ≤ (c39).length))
((xDL (List.getD c39 0 (D.s []))).bind fun l40 =>
((xElem 1 m37 i38).bind fun c41 =>
(xif (decide (1 ≤ (c41).length))
((xDL (List.getD c41 0 (D.s []))).bind fun l42 =>
((Φ i_ref01_EqualAll [(A.one (C.d (D.sl l40))), (A.one (C.d (D.sl l42)))]).bind fun r43 =>
((xAD r43).bind fun d44 =>
((xDB d44).bind fun b45 =>
(xite (!b45)
(some (A.one (C.d (D.v (.bool false)))))
(k0 l36 m37 (IntKind.i64.wrap (i38 + (1 : Int))))))))))))))
((Φ i_law19_alive []).bind fun r46 =>
((xAD r46).bind fun d47 =>
((xDB d47).bind fun b48 =>
(some (A.one (C.d (D.v (.bool b48)))))))))
def law19_DomainSizes (Φ : Phi) (fuel : Nat) (d1 : List (List D)) : Option A :=
((Φ i_law19_small [(A.agg [(C.d (D.sl d1))])]).bind fun r2 =>
((xAD r2).bind fun d3 =>
((xDB d3).bind fun b4 =>
(xite (!b4)
((Φ i_law19_alive []).bind fun r5 =>
((xAD r5).bind fun d6 =>
((xDB d6).bind fun b7 =>
(some (A.one (C.d (D.v (.bool b7))))))))
((Φ i_domain_Size [(A.agg [(C.d (D.sl d1))])]).bind fun r8 =>
((xtup r8 0).bind fun r9 =>
((xAD r9).bind fun d10 =>
((xDI .i64 d10).bind fun n11 =>
((xtup r8 1).bind fun r12 =>
((xAD r12).bind fun d13 =>
((xDI .i64 d13).bind fun n14 =>
((Φ i_ref19_Size [(A.agg [(C.d (D.sl d1))])]).bind fun r15 =>
((xtup r15 0).bind fun r16 =>
((xAD r16).bind fun d17 =>
((xDI .i64 d17).bind fun n18 =>
((xtup r15 1).bind fun r19 =>
((xAD r19).bind fun d20 =>
((xDI .i64 d20).bind fun n21 =>
((Φ i_domain_All [(A.agg [(C.d (D.sl d1))])]).bind fun r22 =>
((xtup r22 0).bind fun r23 =>
((xAD r23).bind fun d24 =>
((xDL d24).bind fun l25 =>
((xtup r22 1).bind fun r26 =>
((xAD r26).bind fun d27 =>
((xDI .i64 d27).bind fun n28 =>
((Φ i_ref19_All [(A.agg [(C.d (D.sl d1))])]).bind fun r29 =>
((xtup r29 0).bind fun r30 =>
((xAD r30).bind fun d31 =>
((xDL d31).bind fun l32 =>
((xtup r29 1).bind fun r33 =>
((xAD r33).bind fun d34 =>
((xDI .i64 d34).bind fun n35 =>
(xite (!decide (n11 = n18))
(some (A.one (C.d (D.v (.bool false)))))
(xite (!decide (n14 = n21))
(some (A.one (C.d (D.v (.bool false)))))
(xite (!decide (((l25).length : Int) = ((l32).length : Int)))
(some (A.one (C.d (D.v (.bool false)))))
(xite (!decide (n28 = n35))
(some (A.one (C.d (D.v (.bool false)))))
(iter (fun (x : List (List D) × List (List D) × Int × Unit) (rec : (List (List D) × List (List D) × Int × Unit) → Option A) => law19_DomainSizes_l0 Φ fuel (fun l36 m37 i38 => rec (l36, m37, i38, ())) x.1 x.2.1 x.2.2.1) fuel (l25, l32, (0 : Int), ()))))))))))))))))))))))))))))))))))))))
theorem law19_DomainSizes_eq (Φ : Phi) (fuel : Nat) (d1 : List (List D)) : xbody TT0 Φ fuel sp_law19_DomainSizes Try.f5 [(A.agg [(C.d (D.sl d1))])] = law19_DomainSizes Φ fuel d1 := by kernel_rfl
/-! law19_DomainIndexes -/
def sp_law19_DomainIndexes : List LSpec := []
def law19_DomainIndexes (Φ : Phi) (fuel : Nat) (d1 : List (List D)) (tuple2 : List (List D)) : Option A :=
((Φ i_law19_small [(A.agg [(C.d (D.sl d1))])]).bind fun r3 =>
((xAD r3).bind fun d4 =>
((xDB d4).bind fun b5 =>
(xite (!b5)
((Φ i_law19_alive []).bind fun r6 =>
((xAD r6).bind fun d7 =>
((xDB d7).bind fun b8 =>
(some (A.one (C.d (D.v (.bool b8))))))))
((Φ i_law19_few [(A.one (C.d (D.sl tuple2)))]).bind fun r9 =>
((xAD r9).bind fun d10 =>
((xDB d10).bind fun b11 =>
(xite (!b11)
((Φ i_law19_alive []).bind fun r12 =>
((xAD r12).bind fun d13 =>
((xDB d13).bind fun b14 =>
(some (A.one (C.d (D.v (.bool b14))))))))
((Φ i_domain_Index [(A.agg [(C.d (D.sl d1))]), (A.one (C.d (D.sl tuple2)))]).bind fun r15 =>
((xtup r15 0).bind fun r16 =>
((xAD r16).bind fun d17 =>
((xDI .i64 d17).bind fun n18 =>
((xtup r15 1).bind fun r19 =>
((xAD r19).bind fun d20 =>
((xDB d20).bind fun b21 =>
((Φ i_ref19_Index [(A.agg [(C.d (D.sl d1))]), (A.one (C.d (D.sl tuple2)))]).bind fun r22 =>
((xtup r22 0).bind fun r23 =>
((xAD r23).bind fun d24 =>
((xDI .i64 d24).bind fun n25 =>
((xtup r22 1).bind fun r26 =>
((xAD r26).bind fun d27 =>
((xDB d27).bind fun b28 =>
(xite (decide (n18 = n25))
(xite (b21 == b28)
((Φ i_law19_alive []).bind fun r29 =>
((xAD r29).bind fun d30 =>
((xDB d30).bind fun b31 =>
(some (A.one (C.d (D.v (.bool b31))))))))
(some (A.one (C.d (D.v (.bool false))))))
(some (A.one (C.d (D.v (.bool false))))))))))))))))))))))))))))
theorem law19_DomainIndexes_eq (Φ : Phi) (fuel : Nat) (d1 : List (List D)) (tuple2 : List (List D)) : xbody TT0 Φ fuel sp_law19_DomainIndexes Try.f6 [(A.agg [(C.d (D.sl d1))]), (A.one (C.d (D.sl tuple2)))] = law19_DomainIndexes Φ fuel d1 tuple2 := by kernel_rfl
/-! law19_DomainChecks -/
def sp_law19_DomainChecks : List LSpec := []
def law19_DomainChecks (Φ : Phi) (fuel : Nat) (d1 : List (List D)) (inputs2 : List (List D)) : Option A :=
((Φ i_law19_small [(A.agg [(C.d (D.sl d1))])]).bind fun r3 =>
((xAD r3).bind fun d4 =>
((xDB d4).bind fun b5 =>
(xite (!b5)
((Φ i_law19_alive []).bind fun r6 =>
((xAD r6).bind fun d7 =>
((xDB d7).bind fun b8 =>
(some (A.one (C.d (D.v (.bool b8))))))))
(xite (decide ((20 : Int) < ((inputs2).length : Int)))
((Φ i_law19_alive []).bind fun r9 =>
((xAD r9).bind fun d10 =>
((xDB d10).bind fun b11 =>
(some (A.one (C.d (D.v (.bool b11))))))))
((Φ i_domain_Check [(A.agg [(C.d (D.sl d1))]), (A.one (C.d (D.sl inputs2)))]).bind fun r12 =>
((xAD r12).bind fun d13 =>
((xDI .i64 d13).bind fun n14 =>
((Φ i_ref19_Check [(A.agg [(C.d (D.sl d1))]), (A.one (C.d (D.sl inputs2)))]).bind fun r15 =>
((xAD r15).bind fun d16 =>
((xDI .i64 d16).bind fun n17 =>
(xite (decide (n14 = n17))
((Φ i_law19_alive []).bind fun r18 =>
((xAD r18).bind fun d19 =>
((xDB d19).bind fun b20 =>
(some (A.one (C.d (D.v (.bool b20))))))))
(some (A.one (C.d (D.v (.bool false)))))))))))))))))
theorem law19_DomainChecks_eq (Φ : Phi) (fuel : Nat) (d1 : List (List D)) (inputs2 : List (List D)) : xbody TT0 Φ fuel sp_law19_DomainChecks Try.f7 [(A.agg [(C.d (D.sl d1))]), (A.one (C.d (D.sl inputs2)))] = law19_DomainChecks Φ fuel d1 inputs2 := by kernel_rfl
/-! law19_DomainSmalls -/
def sp_law19_DomainSmalls : List LSpec := []
def law19_DomainSmalls (Φ : Phi) (fuel : Nat) (inputs1 : List (List D)) (n2 : Int) : Option A :=
(xite (decide ((20 : Int) < ((inputs1).length : Int)))
((Φ i_law19_alive []).bind fun r3 =>
((xAD r3).bind fun d4 =>
((xDB d4).bind fun b5 =>
(some (A.one (C.d (D.v (.bool b5))))))))
((Φ i_domain_Small [(A.one (C.d (D.sl inputs1))), (A.one (C.d (D.v (.int .i64 n2))))]).bind fun r6 =>
((xtup r6 0).bind fun r7 =>
((xADs r7).bind fun d8 =>
(xif (decide (d8.length = 1))
((xDL (List.getD d8 0 (D.s []))).bind fun l9 =>
((xtup r6 1).bind fun r10 =>
((xAD r10).bind fun d11 =>
((xDI .i64 d11).bind fun n12 =>
((Φ i_ref19_Small [(A.one (C.d (D.sl inputs1))), (A.one (C.d (D.v (.int .i64 n2))))]).bind fun r13 =>
((xtup r13 0).bind fun r14 =>
((xADs r14).bind fun d15 =>
(xif (decide (d15.length = 1))
((xDL (List.getD d15 0 (D.s []))).bind fun l16 =>
((xtup r13 1).bind fun r17 =>
((xAD r17).bind fun d18 =>
((xDI .i64 d18).bind fun n19 =>
((Φ i_ref19_Same [(A.agg [(C.d (D.sl l9))]), (A.agg [(C.d (D.sl l16))])]).bind fun r20 =>
((xAD r20).bind fun d21 =>
((xDB d21).bind fun b22 =>
(xite b22
(xite (decide (n12 = n19))
(xite (!decide (n12 = (0 : Int)))
((Φ i_law19_alive []).bind fun r23 =>
((xAD r23).bind fun d24 =>
((xDB d24).bind fun b25 =>
(some (A.one (C.d (D.v (.bool b25))))))))
((Φ i_domain_Check [(A.agg [(C.d (D.sl l9))]), (A.one (C.d (D.sl inputs1)))]).bind fun r26 =>
((xAD r26).bind fun d27 =>
((xDI .i64 d27).bind fun n28 =>
(xite (decide (n28 = (0 : Int)))
((Φ i_law19_alive []).bind fun r29 =>
((xAD r29).bind fun d30 =>
((xDB d30).bind fun b31 =>
(some (A.one (C.d (D.v (.bool b31))))))))
(some (A.one (C.d (D.v (.bool false))))))))))
(some (A.one (C.d (D.v (.bool false))))))
(some (A.one (C.d (D.v (.bool false))))))))))))))))))))))))))
theorem law19_DomainSmalls_eq (Φ : Phi) (fuel : Nat) (inputs1 : List (List D)) (n2 : Int) : xbody TT0 Φ fuel sp_law19_DomainSmalls Try.f8 [(A.one (C.d (D.sl inputs1))), (A.one (C.d (D.v (.int .i64 n2))))] = law19_DomainSmalls Φ fuel inputs1 n2 := by kernel_rfl
/-! law19_DomainSteps -/
def sp_law19_DomainSteps : List LSpec := [{ n := 1, m := 97, toks := [], ks := [.slot 2 (.one (.ref 0 0)), .slot 7 (.one .sl), .slot 9 (.one (.int .i64)), .box 0 (.lit [.sl])] }]
def law19_DomainSteps_l0 (Φ : Phi) (fuel : Nat) (k0 : List (List D) → Int → List (List D) → Option A) (l32 : List (List D)) (i33 : Int) (l34 : List (List D)) : Option A :=
(xite (decide (i33 < ((l32).length : Int)))
(xite (decide (i33 < (60 : Int)))
((Φ i_domain_At [(A.agg [(C.d (D.sl l34))]), (A.one (C.d (D.v (.int .i64 i33))))]).bind fun r35 =>
((xtup r35 0).bind fun r36 =>
((xAD r36).bind fun d37 =>
((xDL d37).bind fun l38 =>
((xtup r35 1).bind fun r39 =>
((xAD r39).bind fun d40 =>
((xDI .i64 d40).bind fun n41 =>
(xite (!decide (n41 = (0 : Int)))
(some (A.one (C.d (D.v (.bool false)))))
((xElem 1 l32 i33).bind fun c42 =>
(xif (decide (1 ≤ (c42).length))
((xDL (List.getD c42 0 (D.s []))).bind fun l43 =>
((Φ i_ref01_EqualAll [(A.one (C.d (D.sl l38))), (A.one (C.d (D.sl l43)))]).bind fun r44 =>
((xAD r44).bind fun d45 =>
((xDB d45).bind fun b46 =>
(xite (!b46)
(some (A.one (C.d (D.v (.bool false)))))
(xite (decide ((0 : Int) < i33))
((xElem 1 l32 (IntKind.i64.wrap (i33 - (1 : Int)))).bind fun c47 =>
(xif (decide (1 ≤ (c47).length))
((xDL (List.getD c47 0 (D.s []))).bind fun l48 =>
((xElem 1 l32 i33).bind fun c49 =>
(xif (decide (1 ≤ (c49).length))
((xDL (List.getD c49 0 (D.s []))).bind fun l50 =>
((Φ i_ref01_EqualAll [(A.one (C.d (D.sl l48))), (A.one (C.d (D.sl l50)))]).bind fun r51 =>
((xAD r51).bind fun d52 =>
((xDB d52).bind fun b53 =>
(xite b53
(some (A.one (C.d (D.v (.bool false)))))
(k0 l32 (IntKind.i64.wrap (i33 + (1 : Int))) l34)))))))))))
(k0 l32 (IntKind.i64.wrap (i33 + (1 : Int))) l34)))))))))))))))))
((Φ i_law19_alive []).bind fun r54 =>
((xAD r54).bind fun d55 =>
((xDB d55).bind fun b56 =>
(some (A.one (C.d (D.v (.bool b56)))))))))
((Φ i_law19_alive []).bind fun r57 =>
((xAD r57).bind fun d58 =>
((xDB d58).bind fun b59 =>
(some (A.one (C.d (D.v (.bool b59)))))))))
def law19_DomainSteps (Φ : Phi) (fuel : Nat) (d1 : List (List D)) (inputs2 : List (List D)) : Option A :=
((Φ i_law19_small [(A.agg [(C.d (D.sl d1))])]).bind fun r3 =>
((xAD r3).bind fun d4 =>
((xDB d4).bind fun b5 =>
(xite (!b5)
((Φ i_law19_alive []).bind fun r6 =>
((xAD r6).bind fun d7 =>
((xDB d7).bind fun b8 =>
(some (A.one (C.d (D.v (.bool b8))))))))
(xite (decide ((20 : Int) < ((inputs2).length : Int)))
((Φ i_law19_alive []).bind fun r9 =>
((xAD r9).bind fun d10 =>
((xDB d10).bind fun b11 =>
(some (A.one (C.d (D.v (.bool b11))))))))
((Φ i_domain_Check [(A.agg [(C.d (D.sl d1))]), (A.one (C.d (D.sl inputs2)))]).bind fun r12 =>
((xAD r12).bind fun d13 =>
((xDI .i64 d13).bind fun n14 =>
(xite (!decide (n14 = (0 : Int)))
((Φ i_law19_alive []).bind fun r15 =>
((xAD r15).bind fun d16 =>
((xDB d16).bind fun b17 =>
(some (A.one (C.d (D.v (.bool b17))))))))
((Φ i_domain_Size [(A.agg [(C.d (D.sl d1))])]).bind fun r18 =>
((xtup r18 0).bind fun r19 =>
((xAD r19).bind fun d20 =>
((xDI .i64 d20).bind fun n21 =>
((xtup r18 1).bind fun r22 =>
((xAD r22).bind fun d23 =>
((xDI .i64 d23).bind fun n24 =>
((Φ i_domain_All [(A.agg [(C.d (D.sl d1))])]).bind fun r25 =>
((xtup r25 0).bind fun r26 =>
((xAD r26).bind fun d27 =>
((xDL d27).bind fun l28 =>
((xtup r25 1).bind fun r29 =>
((xAD r29).bind fun d30 =>
((xDI .i64 d30).bind fun n31 =>
(xite (!decide (n24 = (0 : Int)))
(some (A.one (C.d (D.v (.bool false)))))
(xite (!decide (n31 = (0 : Int)))
(some (A.one (C.d (D.v (.bool false)))))
(xite (!decide (((l28).length : Int) = n21))
(some (A.one (C.d (D.v (.bool false)))))
(xite (decide ((4096 : Int) < n21))
(some (A.one (C.d (D.v (.bool false)))))
(iter (fun (x : Unit × List (List D) × Int × (List (List D) × Unit) × Unit) (rec : (Unit × List (List D) × Int × (List (List D) × Unit) × Unit) → Option A) => law19_DomainSteps_l0 Φ fuel (fun l32 i33 l34 => rec ((), l32, i33, (l34, ()), ())) x.2.1 x.2.2.1 x.2.2.2.1.1) fuel ((), l28, (0 : Int), (d1, ()), ())))))))))))))))))))))))))))))
theorem law19_DomainSteps_eq (Φ : Phi) (fuel : Nat) (d1 : List (List D)) (inputs2 : List (List D)) : xbody TT0 Φ fuel sp_law19_DomainSteps Try.f9 [(A.agg [(C.d (D.sl d1))]), (A.one (C.d (D.sl inputs2)))] = law19_DomainSteps Φ fuel d1 inputs2 := by kernel_rfl
/-! law19_DomainReturns -/
def sp_law19_DomainReturns : List LSpec := []
def law19_DomainReturns (Φ : Phi) (fuel : Nat) (d1 : List (List D)) (inputs2 : List (List D)) (n3 : Int) (tuple4 : List (List D)) : Option A :=
((Φ i_law19_small [(A.agg [(C.d (D.sl d1))])]).bind fun r5 =>
((xAD r5).bind fun d6 =>
((xDB d6).bind fun b7 =>
(xite (!b7)
((Φ i_law19_alive []).bind fun r8 =>
((xAD r8).bind fun d9 =>
((xDB d9).bind fun b10 =>
(some (A.one (C.d (D.v (.bool b10))))))))
(xite (decide ((20 : Int) < ((inputs2).length : Int)))
((Φ i_law19_alive []).bind fun r11 =>
((xAD r11).bind fun d12 =>
((xDB d12).bind fun b13 =>
(some (A.one (C.d (D.v (.bool b13))))))))
((Φ i_law19_few [(A.one (C.d (D.sl tuple4)))]).bind fun r14 =>
((xAD r14).bind fun d15 =>
((xDB d15).bind fun b16 =>
(xite (!b16)
((Φ i_law19_alive []).bind fun r17 =>
((xAD r17).bind fun d18 =>
((xDB d18).bind fun b19 =>
(some (A.one (C.d (D.v (.bool b19))))))))
((Φ i_domain_Check [(A.agg [(C.d (D.sl d1))]), (A.one (C.d (D.sl inputs2)))]).bind fun r20 =>
((xAD r20).bind fun d21 =>
((xDI .i64 d21).bind fun n22 =>
(xite (!decide (n22 = (0 : Int)))
((Φ i_law19_alive []).bind fun r23 =>
((xAD r23).bind fun d24 =>
((xDB d24).bind fun b25 =>
(some (A.one (C.d (D.v (.bool b25))))))))
((Φ i_domain_At [(A.agg [(C.d (D.sl d1))]), (A.one (C.d (D.v (.int .i64 n3))))]).bind fun r26 =>
((xtup r26 0).bind fun r27 =>
((xAD r27).bind fun d28 =>
((xDL d28).bind fun l29 =>
((xtup r26 1).bind fun r30 =>
((xAD r30).bind fun d31 =>
((xDI .i64 d31).bind fun n32 =>
(xite (decide (n32 = (0 : Int)))
((Φ i_domain_Index [(A.agg [(C.d (D.sl d1))]), (A.one (C.d (D.sl l29)))]).bind fun r33 =>
((xtup r33 0).bind fun r34 =>
((xAD r34).bind fun d35 =>
((xDI .i64 d35).bind fun n36 =>
((xtup r33 1).bind fun r37 =>
((xAD r37).bind fun d38 =>
((xDB d38).bind fun b39 =>
(xite (!b39)
(some (A.one (C.d (D.v (.bool false)))))
(xite (!decide (n36 = n3))
(some (A.one (C.d (D.v (.bool false)))))
((Φ i_domain_Index [(A.agg [(C.d (D.sl d1))]), (A.one (C.d (D.sl tuple4)))]).bind fun r40 =>
((xtup r40 0).bind fun r41 =>
((xAD r41).bind fun d42 =>
((xDI .i64 d42).bind fun n43 =>
((xtup r40 1).bind fun r44 =>
((xAD r44).bind fun d45 =>
((xDB d45).bind fun b46 =>
(xite b46
((Φ i_domain_At [(A.agg [(C.d (D.sl d1))]), (A.one (C.d (D.v (.int .i64 n43))))]).bind fun r47 =>
((xtup r47 0).bind fun r48 =>
((xAD r48).bind fun d49 =>
((xDL d49).bind fun l50 =>
((xtup r47 1).bind fun r51 =>
((xAD r51).bind fun d52 =>
((xDI .i64 d52).bind fun n53 =>
(xite (!decide (n53 = (0 : Int)))
(some (A.one (C.d (D.v (.bool false)))))
((Φ i_ref01_EqualAll [(A.one (C.d (D.sl l50))), (A.one (C.d (D.sl tuple4)))]).bind fun r54 =>
((xAD r54).bind fun d55 =>
((xDB d55).bind fun b56 =>
(xite (!b56)
(some (A.one (C.d (D.v (.bool false)))))
((Φ i_law19_alive []).bind fun r57 =>
((xAD r57).bind fun d58 =>
((xDB d58).bind fun b59 =>
(some (A.one (C.d (D.v (.bool b59))))))))))))))))))))
((Φ i_law19_alive []).bind fun r60 =>
((xAD r60).bind fun d61 =>
((xDB d61).bind fun b62 =>
(some (A.one (C.d (D.v (.bool b62)))))))))))))))))))))))))
((Φ i_domain_Index [(A.agg [(C.d (D.sl d1))]), (A.one (C.d (D.sl tuple4)))]).bind fun r63 =>
((xtup r63 0).bind fun r64 =>
((xAD r64).bind fun d65 =>
((xDI .i64 d65).bind fun n66 =>
((xtup r63 1).bind fun r67 =>
((xAD r67).bind fun d68 =>
((xDB d68).bind fun b69 =>
(xite b69
((Φ i_domain_At [(A.agg [(C.d (D.sl d1))]), (A.one (C.d (D.v (.int .i64 n66))))]).bind fun r70 =>
((xtup r70 0).bind fun r71 =>
((xAD r71).bind fun d72 =>
((xDL d72).bind fun l73 =>
((xtup r70 1).bind fun r74 =>
((xAD r74).bind fun d75 =>
((xDI .i64 d75).bind fun n76 =>
(xite (!decide (n76 = (0 : Int)))
(some (A.one (C.d (D.v (.bool false)))))
((Φ i_ref01_EqualAll [(A.one (C.d (D.sl l73))), (A.one (C.d (D.sl tuple4)))]).bind fun r77 =>
((xAD r77).bind fun d78 =>
((xDB d78).bind fun b79 =>
(xite (!b79)
(some (A.one (C.d (D.v (.bool false)))))
((Φ i_law19_alive []).bind fun r80 =>
((xAD r80).bind fun d81 =>
((xDB d81).bind fun b82 =>
(some (A.one (C.d (D.v (.bool b82))))))))))))))))))))
((Φ i_law19_alive []).bind fun r83 =>
((xAD r83).bind fun d84 =>
((xDB d84).bind fun b85 =>
(some (A.one (C.d (D.v (.bool b85)))))))))))))))))))))))))))))))))))))
theorem law19_DomainReturns_eq (Φ : Phi) (fuel : Nat) (d1 : List (List D)) (inputs2 : List (List D)) (n3 : Int) (tuple4 : List (List D)) : xbody TT0 Φ fuel sp_law19_DomainReturns Try.f10 [(A.agg [(C.d (D.sl d1))]), (A.one (C.d (D.sl inputs2))), (A.one (C.d (D.v (.int .i64 n3)))), (A.one (C.d (D.sl tuple4)))] = law19_DomainReturns Φ fuel d1 inputs2 n3 tuple4 := by kernel_rfl
/-! law19_small -/
def sp_law19_small : List LSpec := [{ n := 1, m := 43, toks := [], ks := [.slot 1 (.one (.ref 0 0)), .slot 3 (.one (.int .i64)), .box 0 (.lit [.sl])] }, { n := 1, m := 43, toks := [], ks := [.slot 1 (.one (.ref 0 0)), .slot 3 (.one (.int .i64)), .slot 4 (.one (.int .i64)), .box 0 (.lit [.sl])] }]
def law19_small_l1 (Φ : Phi) (fuel : Nat) (k0 : Int → List (List D) → Option A) (k1 : Int → Int → List (List D) → Option A) (i6 : Int) (k7 : Int) (l8 : List (List D)) : Option A :=
((xElem 1 l8 i6).bind fun c9 =>
(xif (decide (1 ≤ (c9).length))
((xDL (List.getD c9 0 (D.s []))).bind fun l10 =>
(xite (decide (k7 < ((l10).length : Int)))
((xElem 1 l8 i6).bind fun c11 =>
(xif (decide (1 ≤ (c11).length))
((xDL (List.getD c11 0 (D.s []))).bind fun l12 =>
((xElem 4 l12 k7).bind fun c13 =>
(xif (decide (4 ≤ (c13).length))
((xDI .i64 (List.getD c13 0 (D.s []))).bind fun n14 =>
((xDI .i64 (List.getD c13 1 (D.s []))).bind fun n15 =>
((xDS (List.getD c13 2 (D.s []))).bind fun s16 =>
((xDL (List.getD c13 3 (D.s []))).bind fun l17 =>
((Φ i_ref01_Small [(A.agg [(C.d (D.v (.int .i64 n14))), (C.d (D.v (.int .i64 n15))), (C.d (D.s s16)), (C.d (D.sl l17))])]).bind fun r18 =>
((xAD r18).bind fun d19 =>
((xDB d19).bind fun b20 =>
(xite (!b20)
(some (A.one (C.d (D.v (.bool false)))))
(k1 i6 (IntKind.i64.wrap (k7 + (1 : Int))) l8))))))))))))))
(k0 (IntKind.i64.wrap (i6 + (1 : Int))) l8)))))
def law19_small_l0 (Φ : Phi) (fuel : Nat) (k0 : Int → List (List D) → Option A) (i2 : Int) (l3 : List (List D)) : Option A :=
(xite (decide (i2 < ((l3).length : Int)))
((xElem 1 l3 i2).bind fun c4 =>
(xif (decide (1 ≤ (c4).length))
((xDL (List.getD c4 0 (D.s []))).bind fun l5 =>
(xite (decide ((70 : Int) < ((l5).length : Int)))
(some (A.one (C.d (D.v (.bool false)))))
(iter (fun (x : Unit × Int × Int × (List (List D) × Unit) × Unit) (rec : (Unit × Int × Int × (List (List D) × Unit) × Unit) → Option A) => law19_small_l1 Φ fuel k0 (fun i6 k7 l8 => rec ((), i6, k7, (l8, ()), ())) x.2.1 x.2.2.1 x.2.2.2.1.1) fuel ((), i2, (0 : Int), (l3, ()), ()))))))
(some (A.one (C.d (D.v (.bool true))))))
def law19_small (Φ : Phi) (fuel : Nat) (d1 : List (List D)) : Option A :=
(xite (decide ((12 : Int) < ((d1).length : Int)))
(some (A.one (C.d (D.v (.bool false)))))
(iter (fun (x : Unit × Int × (List (List D) × Unit) × Unit) (rec : (Unit × Int × (List (List D) × Unit) × Unit) → Option A) => law19_small_l0 Φ fuel (fun i2 l3 => rec ((), i2, (l3, ()), ())) x.2.1 x.2.2.1.1) fuel ((), (0 : Int), (d1, ()), ())))
theorem law19_small_eq (Φ : Phi) (fuel : Nat) (d1 : List (List D)) : xbody TT0 Φ fuel sp_law19_small Try.f11 [(A.agg [(C.d (D.sl d1))])] = law19_small Φ fuel d1 := by kernel_rfl
/-! law19_alive -/
def sp_law19_alive : List LSpec := []
def law19_alive (Φ : Phi) (fuel : Nat) : Option A :=
((Φ i_domain_Small [(A.one (C.d (D.sl ([[(D.v (.int .i64 (2 : Int)))], [(D.v (.int .i64 (1 : Int)))]] : List (List D))))), (A.one (C.d (D.v (.int .i64 (3 : Int)))))]).bind fun r1 =>
((xtup r1 0).bind fun r2 =>
((xADs r2).bind fun d3 =>
(xif (decide (d3.length = 1))
((xDL (List.getD d3 0 (D.s []))).bind fun l4 =>
((xtup r1 1).bind fun r5 =>
((xAD r5).bind fun d6 =>
((xDI .i64 d6).bind fun n7 =>
((Φ i_domain_Size [(A.agg [(C.d (D.sl l4))])]).bind fun r8 =>
((xtup r8 0).bind fun r9 =>
((xAD r9).bind fun d10 =>
((xDI .i64 d10).bind fun n11 =>
((xtup r8 1).bind fun r12 =>
((xAD r12).bind fun d13 =>
((xDI .i64 d13).bind fun n14 =>
(xite (decide (n7 = (0 : Int)))
(xite (decide (n14 = (0 : Int)))
(xite (decide (n11 = (6 : Int)))
(xite (decide (((l4).length : Int) = (2 : Int)))
((xElem 1 l4 (0 : Int)).bind fun c15 =>
(xif (decide (1 ≤ (c15).length))
((xDL (List.getD c15 0 (D.s []))).bind fun l16 =>
(xite (decide (((l16).length : Int) = (3 : Int)))
((xElem 1 l4 (0 : Int)).bind fun c17 =>
(xif (decide (1 ≤ (c17).length))
((xDL (List.getD c17 0 (D.s []))).bind fun l18 =>
((xElem 4 l18 (2 : Int)).bind fun c19 =>
(xif (decide (1 ≤ ((List.drop 1 c19)).length))
((xDI .i64 (List.getD (List.drop 1 c19) 0 (D.s []))).bind fun n20 =>
(some (A.one (C.d (D.v (.bool (decide (n20 = (-1 : Int))))))))))))))
(some (A.one (C.d (D.v (.bool false)))))))))
(some (A.one (C.d (D.v (.bool false))))))
(some (A.one (C.d (D.v (.bool false))))))
(some (A.one (C.d (D.v (.bool false))))))
(some (A.one (C.d (D.v (.bool false)))))))))))))))))))))
theorem law19_alive_eq (Φ : Phi) (fuel : Nat) : xbody TT0 Φ fuel sp_law19_alive Try.f12 [] = law19_alive Φ fuel := by kernel_rfl
/-! domain_At -/
def sp_domain_At : List LSpec := []
def domain_At (Φ : Phi) (fuel : Nat) (d1 : List (List D)) (n2 : Int) : Option A :=
((Φ i_domain_Size [(A.agg [(C.d (D.sl d1))])]).bind fun r3 =>
((xtup r3 0).bind fun r4 =>
((xAD r4).bind fun d5 =>
((xDI .i64 d5).bind fun n6 =>
((xtup r3 1).bind fun r7 =>
((xAD r7).bind fun d8 =>
((xDI .i64 d8).bind fun n9 =>
(xite (!decide (n9 = (0 : Int)))
(some (A.tup [(A.one (C.d (D.sl []))), (A.one (C.d (D.v (.int .i64 n9))))]))
(xite (decide (n2 < (0 : Int)))
(some (A.tup [(A.one (C.d (D.sl []))), (A.one (C.d (D.v (.int .i64 (1 : Int)))))]))
(xite (decide (n6 ≤ n2))
(some (A.tup [(A.one (C.d (D.sl []))), (A.one (C.d (D.v (.int .i64 (1 : Int)))))]))
((Φ i_domain_tuple [(A.agg [(C.d (D.sl d1))]), (A.one (C.d (D.v (.int .i64 n2))))]).bind fun r10 =>
((xAD r10).bind fun d11 =>
((xDL d11).bind fun l12 =>
(some (A.tup [(A.one (C.d (D.sl l12))), (A.one (C.d (D.v (.int .i64 (0 : Int)))))])))))))))))))))
theorem domain_At_eq (Φ : Phi) (fuel : Nat) (d1 : List (List D)) (n2 : Int) : xbody TT0 Φ fuel sp_domain_At Try.f13 [(A.agg [(C.d (D.sl d1))]), (A.one (C.d (D.v (.int .i64 n2))))] = domain_At Φ fuel d1 n2 := by kernel_rfl
/-! ref19_At -/
def sp_ref19_At : List LSpec := [{ n := 2, m := 61, toks := [], ks := [.slot 1 (.one (.int .i64)), .slot 2 (.one (.ref 0 0)), .slot 8 (.one (.msl 1 0 4)), .slot 9 (.one (.int .i64)), .box 0 (.lit [.sl]), .box 1 .raw] }]
def ref19_At_l0 (Φ : Phi) (fuel : Nat) (k0 : Int → Nat → Nat → Int → List (List D) → List D → Option A) (n10 : Int) (n11 : Nat) (n12 : Nat) (i13 : Int) (l14 : List (List D)) (L15 : List D) : Option A :=
(xite (decide ((0 : Int) ≤ i13))
((xElem 1 l14 i13).bind fun c16 =>
(xif (decide (1 ≤ (c16).length))
((xDL (List.getD c16 0 (D.s []))).bind fun l17 =>
((xElem 1 l14 i13).bind fun c18 =>
(xif (decide (1 ≤ (c18).length))
((xDL (List.getD c18 0 (D.s []))).bind fun l19 =>
(xif (!decide (((l17).length : Int) = 0))
((xElem 4 l19 (Int.tmod n10 ((l17).length : Int))).bind fun c20 =>
(xif (decide (4 ≤ (c20).length))
((xDI .i64 (List.getD c20 0 (D.s []))).bind fun n21 =>
((xDI .i64 (List.getD c20 1 (D.s []))).bind fun n22 =>
((xDS (List.getD c20 2 (D.s []))).bind fun s23 =>
((xDL (List.getD c20 3 (D.s []))).bind fun l24 =>
(xif (decide (0 ≤ i13) && decide (i13 < (n11 : Int)))
(xif (decide ((0 + (i13).toNat * 4) + 4 ≤ ((List.map C.d L15)).length))
(xif (!decide (((l17).length : Int) = 0))
((xlows (rpl (List.map C.d L15) (0 + (i13).toNat * 4) [(C.d (D.v (.int .i64 n21))), (C.d (D.v (.int .i64 n22))), (C.d (D.s s23)), (C.d (D.sl l24))])).bind fun L25 =>
(k0 (IntKind.i64.wrap (Int.tdiv n10 ((l17).length : Int))) n11 n12 (IntKind.i64.wrap (i13 - (1 : Int))) l14 L25))))))))))))))))))
((((xif (decide (n11 ≤ n12) && decide (0 + n11 * 4 ≤ ((List.map C.d L15)).length))
((xlows (List.take (n11 * 4) (List.drop 0 (List.map C.d L15)))).bind fun d27 =>
(some (D.sl (chunks 4 n11 d27))))).bind fun d28 => (some (A.one (C.d d28)))).bind fun r26 => (some [r26, (A.one (C.d (D.v (.int .i64 (0 : Int)))))])).bind fun r29 => (some (A.tup r29))))
def ref19_At (Φ : Phi) (fuel : Nat) (d1 : List (List D)) (n2 : Int) : Option A :=
((Φ i_ref19_Size [(A.agg [(C.d (D.sl d1))])]).bind fun r3 =>
((xtup r3 0).bind fun r4 =>
((xAD r4).bind fun d5 =>
((xDI .i64 d5).bind fun n6 =>
((xtup r3 1).bind fun r7 =>
((xAD r7).bind fun d8 =>
((xDI .i64 d8).bind fun n9 =>
(xite (!decide (n9 = (0 : Int)))
(some (A.tup [(A.one (C.d (D.sl []))), (A.one (C.d (D.v (.int .i64 n9))))]))
(xite (decide (n2 < (0 : Int)))
(some (A.tup [(A.one (C.d (D.sl []))), (A.one (C.d (D.v (.int .i64 (1 : Int)))))]))
(xite (decide (n6 ≤ n2))
(some (A.tup [(A.one (C.d (D.sl []))), (A.one (C.d (D.v (.int .i64 (1 : Int)))))]))
(xif (decide (((d1).length : Int) = ((d1).length : Int)) && (decide (0 ≤ ((d1).length : Int)) && (decide (((d1).length : Int) ≤ 9223372036854775807) && decide (56 * ((d1).length : Int) ≤ 281474976710656))))
((xlows (List.flatten (List.replicate (((d1).length : Int)).toNat [(C.d (D.v (.int .i64 0))), (C.d (D.v (.int .i64 0))), (C.d (D.s [])), (C.full [])]))).bind fun L30 =>
(iter (fun (x : Int × Unit × (Nat × Nat) × Int × (List (List D) × Unit) × List D × Unit) (rec : (Int × Unit × (Nat × Nat) × Int × (List (List D) × Unit) × List D × Unit) → Option A) => ref19_At_l0 Φ fuel (fun n10 n11 n12 i13 l14 L15 => rec (n10, (), (n11, n12), i13, (l14, ()), L15, ())) x.1 x.2.2.1.1 x.2.2.1.2 x.2.2.2.1 x.2.2.2.2.1.1 x.2.2.2.2.2.1) fuel (n2, (), ((((d1).length : Int)).toNat, (((d1).length : Int)).toNat), (IntKind.i64.wrap (((d1).length : Int) - (1 : Int))), (d1, ()), L30, ()))))))))))))))
theorem ref19_At_eq (Φ : Phi) (fuel : Nat) (d1 : List (List D)) (n2 : Int) : xbody TT0 Φ fuel sp_ref19_At Try.f14 [(A.agg [(C.d (D.sl d1))]), (A.one (C.d (D.v (.int .i64 n2))))] = ref19_At Φ fuel d1 n2 := by kernel_rfl
/-! ref01_EqualAll -/
def sp_ref01_EqualAll : List LSpec := []
def ref01_EqualAll (Φ : Phi) (fuel : Nat) (a1 : List (List D)) (b2 : List (List D)) : Option A :=
((Φ i_ref01_CompareAll [(A.one (C.d (D.sl a1))), (A.one (C.d (D.sl b2)))]).bind fun r3 =>
((xAD r3).bind fun d4 =>
((xDI .i64 d4).bind fun n5 =>
(some (A.one (C.d (D.v (.bool (decide (n5 = (0 : Int)))))))))))
theorem ref01_EqualAll_eq (Φ : Phi) (fuel : Nat) (a1 : List (List D)) (b2 : List (List D)) : xbody TT0 Φ fuel sp_ref01_EqualAll Try.f15 [(A.one (C.d (D.sl a1))), (A.one (C.d (D.sl b2)))] = ref01_EqualAll Φ fuel a1 b2 := by kernel_rfl
/-! domain_Restrict -/
def sp_domain_Restrict : List LSpec := [{ n := 4, m := 72, toks := [(27, .cell 2 0)], ks := [.slot 1 (.one (.int .i64)), .slot 2 (.one .sl), .slot 6 (.one (.ref 1 0)), .slot 8 (.one (.ref 2 0)), .slot 35 (.one .sl), .slot 36 (.one (.int .i64)), .slot 37 (.one (.int .i64)), .box 1 (.lit [.full]), .box 2 (.lit [(.app 3 27)])] }, { n := 5, m := 72, toks := [(54, .slot 11)], ks := [.slot 1 (.one (.int .i64)), .slot 2 (.one .sl), .slot 6 (.one (.ref 1 0)), .slot 8 (.one (.ref 2 0)), .slot 9 (.one (.int .i64)), .slot 11 (.one (.app 4 54)), .slot 35 (.one .sl), .slot 36 (.one (.int .i64)), .slot 37 (.one (.int .i64)), .slot 42 (.one .sl), .slot 43 (.one (.int .i64)), .slot 44 (.one (.int .i64)), .box 1 (.lit [.full]), .box 2 (.lit [(.app 3 27)])] }]
def domain_Restrict_l1 (Φ : Phi) (fuel : Nat) (k0 : Int → List (List D) → List (List D) → Int → Int → List (List D) → List (List D) → Option A) (k1 : Int → List (List D) → Int → List (List D) → List (List D) → Int → Int → List (List D) → Int → Int → List (List D) → List (List D) → Option A) (axis34 : Int) (keep35 : List (List D)) (i36 : Int) (l37 : List (List D)) (l38 : List (List D)) (i39 : Int) (i40 : Int) (l41 : List (List D)) (i42 : Int) (i43 : Int) (l44 : List (List D)) (l45 : List (List D)) : Option A :=
(xite (decide (i43 < i42))
((xElem 4 l41 i43).bind fun c46 =>
(xif (decide (4 ≤ (c46).length))
((xDI .i64 (List.getD c46 0 (D.s []))).bind fun n47 =>
((xDI .i64 (List.getD c46 1 (D.s []))).bind fun n48 =>
((xDS (List.getD c46 2 (D.s []))).bind fun s49 =>
((xDL (List.getD c46 3 (D.s []))).bind fun l50 =>
(xite (!decide (i36 = axis34))
((Φ i_domain_copied [(A.agg [(C.d (D.v (.int .i64 n47))), (C.d (D.v (.int .i64 n48))), (C.d (D.s s49)), (C.d (D.sl l50))])]).bind fun r51 =>
((xADs r51).bind fun d52 =>
(xif (decide (d52.length = 4))
((xDI .i64 (List.getD d52 0 (D.s []))).bind fun n53 =>
((xDI .i64 (List.getD d52 1 (D.s []))).bind fun n54 =>
((xDS (List.getD d52 2 (D.s []))).bind fun s55 =>
((xDL (List.getD d52 3 (D.s []))).bind fun l56 =>
((xApp 4 56 (l37.length) l37 ([[(D.v (.int .i64 n53)), (D.v (.int .i64 n54)), (D.s s55), (D.sl l56)]] : List (List D))).bind fun l57 =>
(xif (decide (l57.length = (l57 : List (List D)).length))
(xif (decide (l45.length = (l45 : List (List D)).length))
(k1 axis34 keep35 i36 l57 l38 i39 i40 l41 i42 (IntKind.i64.wrap (i43 + (1 : Int))) l44 l45)))))))))))
((xElem 1 keep35 i43).bind fun c58 =>
(xif (decide (1 ≤ (c58).length))
((xDB (List.getD c58 0 (D.s []))).bind fun b59 =>
(xite b59
((Φ i_domain_copied [(A.agg [(C.d (D.v (.int .i64 n47))), (C.d (D.v (.int .i64 n48))), (C.d (D.s s49)), (C.d (D.sl l50))])]).bind fun r60 =>
((xADs r60).bind fun d61 =>
(xif (decide (d61.length = 4))
((xDI .i64 (List.getD d61 0 (D.s []))).bind fun n62 =>
((xDI .i64 (List.getD d61 1 (D.s []))).bind fun n63 =>
((xDS (List.getD d61 2 (D.s []))).bind fun s64 =>
((xDL (List.getD d61 3 (D.s []))).bind fun l65 =>
((xApp 4 56 (l37.length) l37 ([[(D.v (.int .i64 n62)), (D.v (.int .i64 n63)), (D.s s64), (D.sl l65)]] : List (List D))).bind fun l66 =>
(xif (decide (l66.length = (l66 : List (List D)).length))
(xif (decide (l45.length = (l45 : List (List D)).length))
(k1 axis34 keep35 i36 l66 l38 i39 i40 l41 i42 (IntKind.i64.wrap (i43 + (1 : Int))) l44 l45)))))))))))
(xif (decide (l37.length = (l37 : List (List D)).length))
(xif (decide (l45.length = (l45 : List (List D)).length))
(k1 axis34 keep35 i36 l37 l38 i39 i40 l41 i42 (IntKind.i64.wrap (i43 + (1 : Int))) l44 l45))))))))))))))
((xApp 1 24 (l45.length) l45 ([[(D.sl l37)]] : List (List D))).bind fun l67 =>
(xif (decide (l67.length = (l67 : List (List D)).length))
(k0 axis34 keep35 l38 i39 (IntKind.i64.wrap (i40 + (1 : Int))) l44 l67))))
def domain_Restrict_l0 (Φ : Phi) (fuel : Nat) (k0 : Int → List (List D) → List (List D) → Int → Int → List (List D) → List (List D) → Option A) (axis13 : Int) (keep14 : List (List D)) (l15 : List (List D)) (i16 : Int) (i17 : Int) (l18 : List (List D)) (l19 : List (List D)) : Option A :=
(xite (decide (i17 < i16))
((xElem 1 l15 i17).bind fun c20 =>
(xif (decide (1 ≤ (c20).length))
((xDL (List.getD c20 0 (D.s []))).bind fun l21 =>
(xif (decide (([] : List (List D)).length = ([] : List (List D)).length))
(xif (decide (l19.length = (l19 : List (List D)).length))
(iter (fun (x : Int × List (List D) × Unit × Unit × Int × List (List D) × List (List D) × Int × Int × List (List D) × Int × Int × (List (List D) × Unit) × (List (List D) × Unit) × Unit) (rec : (Int × List (List D) × Unit × Unit × Int × List (List D) × List (List D) × Int × Int × List (List D) × Int × Int × (List (List D) × Unit) × (List (List D) × Unit) × Unit) → Option A) => domain_Restrict_l1 Φ fuel k0 (fun axis34 keep35 i36 l37 l38 i39 i40 l41 i42 i43 l44 l45 => rec (axis34, keep35, (), (), i36, l37, l38, i39, i40, l41, i42, i43, (l44, ()), (l45, ()), ())) x.1 x.2.1 x.2.2.2.2.1 x.2.2.2.2.2.1 x.2.2.2.2.2.2.1 x.2.2.2.2.2.2.2.1 x.2.2.2.2.2.2.2.2.1 x.2.2.2.2.2.2.2.2.2.1 x.2.2.2.2.2.2.2.2.2.2.1 x.2.2.2.2.2.2.2.2.2.2.2.1 x.2.2.2.2.2.2.2.2.2.2.2.2.1.1 x.2.2.2.2.2.2.2.2.2.2.2.2.2.1.1) fuel (axis13, keep14, (), (), i17, [], l15, i16, i17, l21, ((l21).length : Int), (0 : Int), (l18, ()), (l19, ()), ())))))))
(some (A.tup [(A.agg [(C.d (D.sl l19))]), (A.one (C.d (D.v (.int .i64 (0 : Int)))))])))
def domain_Restrict (Φ : Phi) (fuel : Nat) (d1 : List (List D)) (axis2 : Int) (keep3 : List (List D)) : Option A :=
(xite (decide (axis2 < (0 : Int)))
(some (A.tup [(A.agg [(C.d (D.sl []))]), (A.one (C.d (D.v (.int .i64 (1 : Int)))))]))
(xite (decide (((d1).length : Int) ≤ axis2))
(some (A.tup [(A.agg [(C.d (D.sl []))]), (A.one (C.d (D.v (.int .i64 (1 : Int)))))]))
((xElem 1 d1 axis2).bind fun c4 =>
(xif (decide (1 ≤ (c4).length))
((xDL (List.getD c4 0 (D.s []))).bind fun l5 =>
(xite (!decide (((keep3).length : Int) = ((l5).length : Int)))
(some (A.tup [(A.agg [(C.d (D.sl []))]), (A.one (C.d (D.v (.int .i64 (2 : Int)))))]))
(xif (decide (([] : List (List D)).length = ([] : List (List D)).length))
(iter (fun (x : Int × List (List D) × Unit × Unit × List (List D) × Int × Int × (List (List D) × Unit) × (List (List D) × Unit) × Unit) (rec : (Int × List (List D) × Unit × Unit × List (List D) × Int × Int × (List (List D) × Unit) × (List (List D) × Unit) × Unit) → Option A) => domain_Restrict_l0 Φ fuel (fun axis13 keep14 l15 i16 i17 l18 l19 => rec (axis13, keep14, (), (), l15, i16, i17, (l18, ()), (l19, ()), ())) x.1 x.2.1 x.2.2.2.2.1 x.2.2.2.2.2.1 x.2.2.2.2.2.2.1 x.2.2.2.2.2.2.2.1.1 x.2.2.2.2.2.2.2.2.1.1) fuel (axis2, keep3, (), (), d1, ((d1).length : Int), (0 : Int), ([], ()), ([], ()), ())))))))))
theorem domain_Restrict_eq (Φ : Phi) (fuel : Nat) (d1 : List (List D)) (axis2 : Int) (keep3 : List (List D)) : xbody TT0 Φ fuel sp_domain_Restrict Try.f16 [(A.agg [(C.d (D.sl d1))]), (A.one (C.d (D.v (.int .i64 axis2)))), (A.one (C.d (D.sl keep3)))] = domain_Restrict Φ fuel d1 axis2 keep3 := by kernel_rfl
/-! ref19_Restrict -/
def sp_ref19_Restrict : List LSpec := [{ n := 4, m := 76, toks := [(27, .cell 2 0)], ks := [.slot 1 (.one (.int .i64)), .slot 2 (.one .sl), .slot 3 (.one (.ref 0 0)), .slot 6 (.one (.ref 1 0)), .slot 8 (.one (.ref 2 0)), .slot 9 (.one (.int .i64)), .box 0 (.lit [.sl]), .box 1 (.lit [.full]), .box 2 (.lit [(.app 3 27)])] }, { n := 5, m := 76, toks := [(54, .slot 10)], ks := [.slot 1 (.one (.int .i64)), .slot 2 (.one .sl), .slot 3 (.one (.ref 0 0)), .slot 6 (.one (.ref 1 0)), .slot 8 (.one (.ref 2 0)), .slot 9 (.one (.int .i64)), .slot 10 (.one (.app 4 54)), .slot 11 (.one (.int .i64)), .box 0 (.lit [.sl]), .box 1 (.lit [.full]), .box 2 (.lit [(.app 3 27)])] }]
def ref19_Restrict_l1 (Φ : Phi) (fuel : Nat) (k0 : Int → List (List D) → Int → List (List D) → List (List D) → List (List D) → Option A) (k1 : Int → List (List D) → Int → List (List D) → Int → List (List D) → List (List D) → List (List D) → Option A) (axis26 : Int) (keep27 : List (List D)) (i28 : Int) (l29 : List (List D)) (k30 : Int) (l31 : List (List D)) (l32 : List (List D)) (l33 : List (List D)) : Option A :=
((xElem 1 l31 i28).bind fun c34 =>
(xif (decide (1 ≤ (c34).length))
((xDL (List.getD c34 0 (D.s []))).bind fun l35 =>
(xite (decide (k30 < ((l35).length : Int)))
(xite (!decide (i28 = axis26))
((xElem 1 l31 i28).bind fun c36 =>
(xif (decide (1 ≤ (c36).length))
((xDL (List.getD c36 0 (D.s []))).bind fun l37 =>
((xElem 4 l37 k30).bind fun c38 =>
(xif (decide (4 ≤ (c38).length))
((xDI .i64 (List.getD c38 0 (D.s []))).bind fun n39 =>
((xDI .i64 (List.getD c38 1 (D.s []))).bind fun n40 =>
((xDS (List.getD c38 2 (D.s []))).bind fun s41 =>
((xDL (List.getD c38 3 (D.s []))).bind fun l42 =>
((xApp 4 56 (l29.length) l29 ([[(D.v (.int .i64 n39)), (D.v (.int .i64 n40)), (D.s s41), (D.sl l42)]] : List (List D))).bind fun l43 =>
(xif (decide (l43.length = (l43 : List (List D)).length))
(xif (decide (l33.length = (l33 : List (List D)).length))
(k1 axis26 keep27 i28 l43 (IntKind.i64.wrap (k30 + (1 : Int))) l31 l32 l33)))))))))))))
((xElem 1 keep27 k30).bind fun c44 =>
(xif (decide (1 ≤ (c44).length))
((xDB (List.getD c44 0 (D.s []))).bind fun b45 =>
(xite b45
((xElem 1 l31 i28).bind fun c46 =>
(xif (decide (1 ≤ (c46).length))
((xDL (List.getD c46 0 (D.s []))).bind fun l47 =>
((xElem 4 l47 k30).bind fun c48 =>
(xif (decide (4 ≤ (c48).length))
((xDI .i64 (List.getD c48 0 (D.s []))).bind fun n49 =>
((xDI .i64 (List.getD c48 1 (D.s []))).bind fun n50 =>
((xDS (List.getD c48 2 (D.s []))).bind fun s51 =>
((xDL (List.getD c48 3 (D.s []))).bind fun l52 =>
((xApp 4 56 (l29.length) l29 ([[(D.v (.int .i64 n49)), (D.v (.int .i64 n50)), (D.s s51), (D.sl l52)]] : List (List D))).bind fun l53 =>
(xif (decide (l53.length = (l53 : List (List D)).length))
(xif (decide (l33.length = (l33 : List (List D)).length))
(k1 axis26 keep27 i28 l53 (IntKind.i64.wrap (k30 + (1 : Int))) l31 l32 l33)))))))))))))
(xif (decide (l29.length = (l29 : List (List D)).length))
(xif (decide (l33.length = (l33 : List (List D)).length))
(k1 axis26 keep27 i28 l29 (IntKind.i64.wrap (k30 + (1 : Int))) l31 l32 l33))))))))
((xApp 1 24 (l33.length) l33 ([[(D.sl l29)]] : List (List D))).bind fun l54 =>
(xif (decide (l54.length = (l54 : List (List D)).length))
(k0 axis26 keep27 (IntKind.i64.wrap (i28 + (1 : Int))) l31 l32 l54)))))))
def ref19_Restrict_l0 (Φ : Phi) (fuel : Nat) (k0 : Int → List (List D) → Int → List (List D) → List (List D) → List (List D) → Option A) (axis12 : Int) (keep13 : List (List D)) (i14 : Int) (l15 : List (List D)) (l16 : List (List D)) (l17 : List (List D)) : Option A :=
(xite (decide (i14 < ((l15).length : Int)))
(xif (decide (([] : List (List D)).length = ([] : List (List D)).length))
(xif (decide (l17.length = (l17 : List (List D)).length))
(iter (fun (x : Int × List (List D) × Unit × Unit × Unit × Int × List (List D) × Int × (List (List D) × Unit) × (List (List D) × Unit) × (List (List D) × Unit) × Unit) (rec : (Int × List (List D) × Unit × Unit × Unit × Int × List (List D) × Int × (List (List D) × Unit) × (List (List D) × Unit) × (List (List D) × Unit) × Unit) → Option A) => ref19_Restrict_l1 Φ fuel k0 (fun axis26 keep27 i28 l29 k30 l31 l32 l33 => rec (axis26, keep27, (), (), (), i28, l29, k30, (l31, ()), (l32, ()), (l33, ()), ())) x.1 x.2.1 x.2.2.2.2.2.1 x.2.2.2.2.2.2.1 x.2.2.2.2.2.2.2.1 x.2.2.2.2.2.2.2.2.1.1 x.2.2.2.2.2.2.2.2.2.1.1 x.2.2.2.2.2.2.2.2.2.2.1.1) fuel (axis12, keep13, (), (), (), i14, [], (0 : Int), (l15, ()), (l16, ()), (l17, ()), ()))))
(some (A.tup [(A.agg [(C.d (D.sl l17))]), (A.one (C.d (D.v (.int .i64 (0 : Int)))))])))
def ref19_Restrict (Φ : Phi) (fuel : Nat) (d1 : List (List D)) (axis2 : Int) (keep3 : List (List D)) : Option A :=
(xite (decide (axis2 < (0 : Int)))
(some (A.tup [(A.agg [(C.d (D.sl []))]), (A.one (C.d (D.v (.int .i64 (1 : Int)))))]))
(xite (decide (((d1).length : Int) ≤ axis2))
(some (A.tup [(A.agg [(C.d (D.sl []))]), (A.one (C.d (D.v (.int .i64 (1 : Int)))))]))
((xElem 1 d1 axis2).bind fun c4 =>
(xif (decide (1 ≤ (c4).length))
((xDL (List.getD c4 0 (D.s []))).bind fun l5 =>
(xite (!decide (((keep3).length : Int) = ((l5).length : Int)))
(some (A.tup [(A.agg [(C.d (D.sl []))]), (A.one (C.d (D.v (.int .i64 (2 : Int)))))]))
(xif (decide (([] : List (List D)).length = ([] : List (List D)).length))
(iter (fun (x : Int × List (List D) × Unit × Unit × Unit × Int × (List (List D) × Unit) × (List (List D) × Unit) × (List (List D) × Unit) × Unit) (rec : (Int × List (List D) × Unit × Unit × Unit × Int × (List (List D) × Unit) × (List (List D) × Unit) × (List (List D) × Unit) × Unit) → Option A) => ref19_Restrict_l0 Φ fuel (fun axis12 keep13 i14 l15 l16 l17 => rec (axis12, keep13, (), (), (), i14, (l15, ()), (l16, ()), (l17, ()), ())) x.1 x.2.1 x.2.2.2.2.2.1 x.2.2.2.2.2.2.1.1 x.2.2.2.2.2.2.2.1.1 x.2.2.2.2.2.2.2.2.1.1) fuel (axis2, keep3, (), (), (), (0 : Int), (d1, ()), ([], ()), ([], ()), ())))))))))
theorem ref19_Restrict_eq (Φ : Phi) (fuel : Nat) (d1 : List (List D)) (axis2 : Int) (keep3 : List (List D)) : xbody TT0 Φ fuel sp_ref19_Restrict Try.f17 [(A.agg [(C.d (D.sl d1))]), (A.one (C.d (D.v (.int .i64 axis2)))), (A.one (C.d (D.sl keep3)))] = ref19_Restrict Φ fuel d1 axis2 keep3 := by kernel_rfl
/-! ref19_Same -/
def sp_ref19_Same : List LSpec := [{ n := 2, m := 32, toks := [], ks := [.slot 2 (.one (.ref 0 0)), .slot 3 (.one (.ref 1 0)), .slot 5 (.one (.int .i64)), .box 0 (.lit [.sl]), .box 1 (.lit [.sl])] }]
def ref19_Same_l0 (Φ : Phi) (fuel : Nat) (k0 : Int → List (List D) → List (List D) → Option A) (i3 : Int) (l4 : List (List D)) (l5 : List (List D)) : Option A :=
(xite (decide (i3 < ((l4).length : Int)))
((xElem 1 l4 i3).bind fun c6 =>
(xif (decide (1 ≤ (c6).length))
((xDL (List.getD c6 0 (D.s []))).bind fun l7 =>
((xElem 1 l5 i3).bind fun c8 =>
(xif (decide (1 ≤ (c8).length))
((xDL (List.getD c8 0 (D.s []))).bind fun l9 =>
((Φ i_ref01_EqualAll [(A.one (C.d (D.sl l7))), (A.one (C.d (D.sl l9)))]).bind fun r10 =>
((xAD r10).bind fun d11 =>
((xDB d11).bind fun b12 =>
(xite (!b12)
(some (A.one (C.d (D.v (.bool false)))))
(k0 (IntKind.i64.wrap (i3 + (1 : Int))) l4 l5)))))))))))
(some (A.one (C.d (D.v (.bool true))))))
def ref19_Same (Φ : Phi) (fuel : Nat) (a1 : List (List D)) (b2 : List (List D)) : Option A :=
(xite (!decide (((a1).length : Int) = ((b2).length : Int)))
(some (A.one (C.d (D.v (.bool false)))))
(iter (fun (x : Unit × Unit × Int × (List (List D) × Unit) × (List (List D) × Unit) × Unit) (rec : (Unit × Unit × Int × (List (List D) × Unit) × (List (List D) × Unit) × Unit) → Option A) => ref19_Same_l0 Φ fuel (fun i3 l4 l5 => rec ((), (), i3, (l4, ()), (l5, ()), ())) x.2.2.1 x.2.2.2.1.1 x.2.2.2.2.1.1) fuel ((), (), (0 : Int), (a1, ()), (b2, ()), ())))
theorem ref19_Same_eq (Φ : Phi) (fuel : Nat) (a1 : List (List D)) (b2 : List (List D)) : xbody TT0 Φ fuel sp_ref19_Same Try.f18 [(A.agg [(C.d (D.sl a1))]), (A.agg [(C.d (D.sl b2))])] = ref19_Same Φ fuel a1 b2 := by kernel_rfl
/-! domain_Size -/
def sp_domain_Size : List LSpec := [{ n := 1, m := 38, toks := [], ks := [.slot 1 (.one (.ref 0 0)), .slot 4 (.one (.int .i64)), .slot 10 (.one .sl), .slot 11 (.one (.int .i64)), .slot 12 (.one (.int .i64)), .box 0 (.lit [.sl])] }, { n := 1, m := 38, toks := [], ks := [.slot 4 (.one (.int .i64)), .slot 21 (.one .sl), .slot 22 (.one (.int .i64)), .slot 23 (.one (.int .i64))] }]
def domain_Size_l1 (Φ : Phi) (fuel : Nat) (k1 : Int → List (List D) → Int → Int → Option A) (n9 : Int) (l10 : List (List D)) (i11 : Int) (i12 : Int) : Option A :=
(xite (decide (i12 < i11))
((xElem 1 l10 i12).bind fun c13 =>
(xif (decide (1 ≤ (c13).length))
((xDL (List.getD c13 0 (D.s []))).bind fun l14 =>
(xif (!decide (n9 = 0))
(xite (decide ((IntKind.i64.wrap (Int.tdiv (1152921504606846976 : Int) n9)) < ((l14).length : Int)))
(some (A.tup [(A.one (C.d (D.v (.int .i64 (0 : Int))))), (A.one (C.d (D.v (.int .i64 (11 : Int)))))]))
(k1 (IntKind.i64.wrap (n9 * ((l14).length : Int))) l10 i11 (IntKind.i64.wrap (i12 + (1 : Int)))))))))
(some (A.tup [(A.one (C.d (D.v (.int .i64 n9)))), (A.one (C.d (D.v (.int .i64 (0 : Int)))))])))
def domain_Size_l0 (Φ : Phi) (fuel : Nat) (k0 : Int → List (List D) → Int → Int → List (List D) → Option A) (n2 : Int) (l3 : List (List D)) (i4 : Int) (i5 : Int) (l6 : List (List D)) : Option A :=
(xite (decide (i5 < i4))
((xElem 1 l3 i5).bind fun c7 =>
(xif (decide (1 ≤ (c7).length))
((xDL (List.getD c7 0 (D.s []))).bind fun l8 =>
(xite (decide (((l8).length : Int) = (0 : Int)))
(some (A.tup [(A.one (C.d (D.v (.int .i64 (0 : Int))))), (A.one (C.d (D.v (.int .i64 (0 : Int)))))]))
(k0 n2 l3 i4 (IntKind.i64.wrap (i5 + (1 : Int))) l6)))))
(iter (fun (x : Int × List (List D) × Int × Int × Unit) (rec : (Int × List (List D) × Int × Int × Unit) → Option A) => domain_Size_l1 Φ fuel (fun n9 l10 i11 i12 => rec (n9, l10, i11, i12, ())) x.1 x.2.1 x.2.2.1 x.2.2.2.1) fuel (n2, l6, ((l6).length : Int), (0 : Int), ())))
def domain_Size (Φ : Phi) (fuel : Nat) (d1 : List (List D)) : Option A :=
(iter (fun (x : Unit × Int × List (List D) × Int × Int × (List (List D) × Unit) × Unit) (rec : (Unit × Int × List (List D) × Int × Int × (List (List D) × Unit) × Unit) → Option A) => domain_Size_l0 Φ fuel (fun n2 l3 i4 i5 l6 => rec ((), n2, l3, i4, i5, (l6, ()), ())) x.2.1 x.2.2.1 x.2.2.2.1 x.2.2.2.2.1 x.2.2.2.2.2.1.1) fuel ((), (1 : Int), d1, ((d1).length : Int), (0 : Int), (d1, ()), ()))
theorem domain_Size_eq (Φ : Phi) (fuel : Nat) (d1 : List (List D)) : xbody TT0 Φ fuel sp_domain_Size Try.f19 [(A.agg [(C.d (D.sl d1))])] = domain_Size Φ fuel d1 := by kernel_rfl
/-! ref19_Size -/
def sp_ref19_Size : List LSpec := [{ n := 1, m := 43, toks := [], ks := [.slot 1 (.one (.ref 0 0)), .slot 4 (.one (.int .i64)), .box 0 (.lit [.sl])] }, { n := 1, m := 43, toks := [], ks := [.slot 1 (.one (.ref 0 0)), .slot 5 (.one (.int .i64)), .slot 6 (.one (.int .i64)), .box 0 (.lit [.sl])] }]
def ref19_Size_l1 (Φ : Phi) (fuel : Nat) (k1 : Int → Int → List (List D) → Option A) (n6 : Int) (i7 : Int) (l8 : List (List D)) : Option A :=
(xite (decide (i7 < ((l8).length : Int)))
((xElem 1 l8 i7).bind fun c9 =>
(xif (decide (1 ≤ (c9).length))
((xDL (List.getD c9 0 (D.s []))).bind fun l10 =>
(xif (!decide (((l10).length : Int) = 0))
(xite (decide ((IntKind.i64.wrap (Int.tdiv (1152921504606846976 : Int) ((l10).length : Int))) < n6))
(some (A.tup [(A.one (C.d (D.v (.int .i64 (0 : Int))))), (A.one (C.d (D.v (.int .i64 (11 : Int)))))]))
(k1 (IntKind.i64.wrap (n6 * ((l10).length : Int))) (IntKind.i64.wrap (i7 + (1 : Int))) l8))))))
(some (A.tup [(A.one (C.d (D.v (.int .i64 n6)))), (A.one (C.d (D.v (.int .i64 (0 : Int)))))])))
def ref19_Size_l0 (Φ : Phi) (fuel : Nat) (k0 : Int → List (List D) → Option A) (i2 : Int) (l3 : List (List D)) : Option A :=
(xite (decide (i2 < ((l3).length : Int)))
((xElem 1 l3 i2).bind fun c4 =>
(xif (decide (1 ≤ (c4).length))
((xDL (List.getD c4 0 (D.s []))).bind fun l5 =>
(xite (decide (((l5).length : Int) = (0 : Int)))
(some (A.tup [(A.one (C.d (D.v (.int .i64 (0 : Int))))), (A.one (C.d (D.v (.int .i64 (0 : Int)))))]))
(k0 (IntKind.i64.wrap (i2 + (1 : Int))) l3)))))
(iter (fun (x : Unit × Int × Int × (List (List D) × Unit) × Unit) (rec : (Unit × Int × Int × (List (List D) × Unit) × Unit) → Option A) => ref19_Size_l1 Φ fuel (fun n6 i7 l8 => rec ((), n6, i7, (l8, ()), ())) x.2.1 x.2.2.1 x.2.2.2.1.1) fuel ((), (1 : Int), (0 : Int), (l3, ()), ())))
def ref19_Size (Φ : Phi) (fuel : Nat) (d1 : List (List D)) : Option A :=
(iter (fun (x : Unit × Int × (List (List D) × Unit) × Unit) (rec : (Unit × Int × (List (List D) × Unit) × Unit) → Option A) => ref19_Size_l0 Φ fuel (fun i2 l3 => rec ((), i2, (l3, ()), ())) x.2.1 x.2.2.1.1) fuel ((), (0 : Int), (d1, ()), ()))
theorem ref19_Size_eq (Φ : Phi) (fuel : Nat) (d1 : List (List D)) : xbody TT0 Φ fuel sp_ref19_Size Try.f20 [(A.agg [(C.d (D.sl d1))])] = ref19_Size Φ fuel d1 := by kernel_rfl
/-! domain_All -/
def sp_domain_All : List LSpec := [{ n := 2, m := 31, toks := [(27, .slot 6)], ks := [.slot 1 (.one (.ref 0 0)), .slot 4 (.one (.int .i64)), .slot 6 (.one (.app 1 27)), .slot 7 (.one (.int .i64)), .box 0 (.lit [.sl])] }]
def domain_All_l0 (Φ : Phi) (fuel : Nat) (k0 : Int → List (List D) → Int → List (List D) → Option A) (size13 : Int) (out14 : List (List D)) (n15 : Int) (l16 : List (List D)) : Option A :=
(xite (decide (n15 < size13))
((Φ i_domain_tuple [(A.agg [(C.d (D.sl l16))]), (A.one (C.d (D.v (.int .i64 n15))))]).bind fun r17 =>
((xAD r17).bind fun d18 =>
((xDL d18).bind fun l19 =>
((xApp 1 24 (out14.length) out14 ([[(D.sl l19)]] : List (List D))).bind fun l20 =>
(xif (decide (l20.length = (l20 : List (List D)).length))
(k0 size13 l20 (IntKind.i64.wrap (n15 + (1 : Int))) l16))))))
(some (A.tup [(A.one (C.d (D.sl out14))), (A.one (C.d (D.v (.int .i64 (0 : Int)))))])))
def domain_All (Φ : Phi) (fuel : Nat) (d1 : List (List D)) : Option A :=
((Φ i_domain_Size [(A.agg [(C.d (D.sl d1))])]).bind fun r2 =>
((xtup r2 0).bind fun r3 =>
((xAD r3).bind fun d4 =>
((xDI .i64 d4).bind fun n5 =>
((xtup r2 1).bind fun r6 =>
((xAD r6).bind fun d7 =>
((xDI .i64 d7).bind fun n8 =>
(xite (!decide (n8 = (0 : Int)))
(some (A.tup [(A.one (C.d (D.sl []))), (A.one (C.d (D.v (.int .i64 (11 : Int)))))]))
(xite (decide ((4096 : Int) < n5))
(some (A.tup [(A.one (C.d (D.sl []))), (A.one (C.d (D.v (.int .i64 (11 : Int)))))]))
(xif (decide (([] : List (List D)).length = ([] : List (List D)).length))
(iter (fun (x : Unit × Int × List (List D) × Int × (List (List D) × Unit) × Unit) (rec : (Unit × Int × List (List D) × Int × (List (List D) × Unit) × Unit) → Option A) => domain_All_l0 Φ fuel (fun size13 out14 n15 l16 => rec ((), size13, out14, n15, (l16, ()), ())) x.2.1 x.2.2.1 x.2.2.2.1 x.2.2.2.2.1.1) fuel ((), n5, [], (0 : Int), (d1, ()), ()))))))))))))
theorem domain_All_eq (Φ : Phi) (fuel : Nat) (d1 : List (List D)) : xbody TT0 Φ fuel sp_domain_All Try.f21 [(A.agg [(C.d (D.sl d1))])] = domain_All Φ fuel d1 := by kernel_rfl
/-! ref19_All -/
def sp_ref19_All : List LSpec := [{ n := 2, m := 37, toks := [(27, .slot 6)], ks := [.slot 1 (.one (.ref 0 0)), .slot 4 (.one (.int .i64)), .slot 6 (.one (.app 1 27)), .slot 7 (.one (.int .i64)), .box 0 (.lit [.sl])] }]
def ref19_All_l0 (Φ : Phi) (fuel : Nat) (k0 : Int → List (List D) → Int → List (List D) → Option A) (size13 : Int) (out14 : List (List D)) (n15 : Int) (l16 : List (List D)) : Option A :=
(xite (decide (n15 < size13))
((Φ i_ref19_At [(A.agg [(C.d (D.sl l16))]), (A.one (C.d (D.v (.int .i64 n15))))]).bind fun r17 =>
((xtup r17 0).bind fun r18 =>
((xAD r18).bind fun d19 =>
((xDL d19).bind fun l20 =>
((xtup r17 1).bind fun r21 =>
((xAD r21).bind fun d22 =>
((xDI .i64 d22).bind fun n23 =>
((xApp 1 24 (out14.length) out14 ([[(D.sl l20)]] : List (List D))).bind fun l24 =>
(xif (decide (l24.length = (l24 : List (List D)).length))
(k0 size13 l24 (IntKind.i64.wrap (n15 + (1 : Int))) l16))))))))))
(some (A.tup [(A.one (C.d (D.sl out14))), (A.one (C.d (D.v (.int .i64 (0 : Int)))))])))
def ref19_All (Φ : Phi) (fuel : Nat) (d1 : List (List D)) : Option A :=
((Φ i_ref19_Size [(A.agg [(C.d (D.sl d1))])]).bind fun r2 =>
((xtup r2 0).bind fun r3 =>
((xAD r3).bind fun d4 =>
((xDI .i64 d4).bind fun n5 =>
((xtup r2 1).bind fun r6 =>
((xAD r6).bind fun d7 =>
((xDI .i64 d7).bind fun n8 =>
(xite (!decide (n8 = (0 : Int)))
(some (A.tup [(A.one (C.d (D.sl []))), (A.one (C.d (D.v (.int .i64 (11 : Int)))))]))
(xite (decide ((4096 : Int) < n5))
(some (A.tup [(A.one (C.d (D.sl []))), (A.one (C.d (D.v (.int .i64 (11 : Int)))))]))
(xif (decide (([] : List (List D)).length = ([] : List (List D)).length))
(iter (fun (x : Unit × Int × List (List D) × Int × (List (List D) × Unit) × Unit) (rec : (Unit × Int × List (List D) × Int × (List (List D) × Unit) × Unit) → Option A) => ref19_All_l0 Φ fuel (fun size13 out14 n15 l16 => rec ((), size13, out14, n15, (l16, ()), ())) x.2.1 x.2.2.1 x.2.2.2.1 x.2.2.2.2.1.1) fuel ((), n5, [], (0 : Int), (d1, ()), ()))))))))))))
theorem ref19_All_eq (Φ : Phi) (fuel : Nat) (d1 : List (List D)) : xbody TT0 Φ fuel sp_ref19_All Try.f22 [(A.agg [(C.d (D.sl d1))])] = ref19_All Φ fuel d1 := by kernel_rfl
/-! law19_few -/
def sp_law19_few : List LSpec := [{ n := 0, m := 23, toks := [], ks := [.slot 0 (.one .sl), .slot 3 (.one (.int .i64))] }]
def law19_few_l0 (Φ : Phi) (fuel : Nat) (k0 : List (List D) → Int → Option A) (l2 : List (List D)) (i3 : Int) : Option A :=
(xite (decide (i3 < ((l2).length : Int)))
(xite (decide (i3 < (12 : Int)))
((xElem 4 l2 i3).bind fun c4 =>
(xif (decide (4 ≤ (c4).length))
((xDI .i64 (List.getD c4 0 (D.s []))).bind fun n5 =>
((xDI .i64 (List.getD c4 1 (D.s []))).bind fun n6 =>
((xDS (List.getD c4 2 (D.s []))).bind fun s7 =>
((xDL (List.getD c4 3 (D.s []))).bind fun l8 =>
((Φ i_ref01_Small [(A.agg [(C.d (D.v (.int .i64 n5))), (C.d (D.v (.int .i64 n6))), (C.d (D.s s7)), (C.d (D.sl l8))])]).bind fun r9 =>
((xAD r9).bind fun d10 =>
((xDB d10).bind fun b11 =>
(xite (!b11)
(some (A.one (C.d (D.v (.bool false)))))
(k0 l2 (IntKind.i64.wrap (i3 + (1 : Int))))))))))))))
(some (A.one (C.d (D.v (.bool (decide (((l2).length : Int) ≤ (12 : Int)))))))))
(some (A.one (C.d (D.v (.bool (decide (((l2).length : Int) ≤ (12 : Int)))))))))
def law19_few (Φ : Phi) (fuel : Nat) (l1 : List (List D)) : Option A :=
(iter (fun (x : List (List D) × Int × Unit) (rec : (List (List D) × Int × Unit) → Option A) => law19_few_l0 Φ fuel (fun l2 i3 => rec (l2, i3, ())) x.1 x.2.1) fuel (l1, (0 : Int), ()))
theorem law19_few_eq (Φ : Phi) (fuel : Nat) (l1 : List (List D)) : xbody TT0 Φ fuel sp_law19_few Try.f23 [(A.one (C.d (D.sl l1)))] = law19_few Φ fuel l1 := by kernel_rfl
/-! domain_Index -/
def sp_domain_Index : List LSpec := [{ n := 1, m := 51, toks := [], ks := [.slot 1 (.one .sl), .slot 8 (.one (.int .i64)), .slot 28 (.one .sl), .slot 29 (.one (.int .i64)), .slot 30 (.one (.int .i64))] }]
def domain_Index_l0 (Φ : Phi) (fuel : Nat) (k0 : List (List D) → Int → List (List D) → Int → Int → Option A) (tuple10 : List (List D)) (n11 : Int) (l12 : List (List D)) (i13 : Int) (i14 : Int) : Option A :=
(xite (decide (i14 < i13))
((xElem 1 l12 i14).bind fun c15 =>
(xif (decide (1 ≤ (c15).length))
((xDL (List.getD c15 0 (D.s []))).bind fun l16 =>
((xElem 4 tuple10 i14).bind fun c17 =>
(xif (decide (4 ≤ (c17).length))
((xDI .i64 (List.getD c17 0 (D.s []))).bind fun n18 =>
((xDI .i64 (List.getD c17 1 (D.s []))).bind fun n19 =>
((xDS (List.getD c17 2 (D.s []))).bind fun s20 =>
((xDL (List.getD c17 3 (D.s []))).bind fun l21 =>
((Φ i_domain_place [(A.one (C.d (D.sl l16))), (A.agg [(C.d (D.v (.int .i64 n18))), (C.d (D.v (.int .i64 n19))), (C.d (D.s s20)), (C.d (D.sl l21))])]).bind fun r22 =>
((xAD r22).bind fun d23 =>
((xDI .i64 d23).bind fun n24 =>
(xite (decide (n24 < (0 : Int)))
(some (A.tup [(A.one (C.d (D.v (.int .i64 (0 : Int))))), (A.one (C.d (D.v (.bool false))))]))
(k0 tuple10 (IntKind.i64.wrap ((IntKind.i64.wrap (n11 * ((l16).length : Int))) + n24)) l12 i13 (IntKind.i64.wrap (i14 + (1 : Int)))))))))))))))))
(some (A.tup [(A.one (C.d (D.v (.int .i64 n11)))), (A.one (C.d (D.v (.bool true))))])))
def domain_Index (Φ : Phi) (fuel : Nat) (d1 : List (List D)) (tuple2 : List (List D)) : Option A :=
((Φ i_domain_Size [(A.agg [(C.d (D.sl d1))])]).bind fun r3 =>
((xtup r3 0).bind fun r4 =>
((xAD r4).bind fun d5 =>
((xDI .i64 d5).bind fun n6 =>
((xtup r3 1).bind fun r7 =>
((xAD r7).bind fun d8 =>
((xDI .i64 d8).bind fun n9 =>
(xite (!decide (n9 = (0 : Int)))
(some (A.tup [(A.one (C.d (D.v (.int .i64 (0 : Int))))), (A.one (C.d (D.v (.bool false))))]))
(xite (!decide (((tuple2).length : Int) = ((d1).length : Int)))
(some (A.tup [(A.one (C.d (D.v (.int .i64 (0 : Int))))), (A.one (C.d (D.v (.bool false))))]))
(iter (fun (x : List (List D) × Int × List (List D) × Int × Int × Unit) (rec : (List (List D) × Int × List (List D) × Int × Int × Unit) → Option A) => domain_Index_l0 Φ fuel (fun tuple10 n11 l12 i13 i14 => rec (tuple10, n11, l12, i13, i14, ())) x.1 x.2.1 x.2.2.1 x.2.2.2.1 x.2.2.2.2.1) fuel (tuple2, (0 : Int), d1, ((d1).length : Int), (0 : Int), ())))))))))))
theorem domain_Index_eq (Φ : Phi) (fuel : Nat) (d1 : List (List D)) (tuple2 : List (List D)) : xbody TT0 Φ fuel sp_domain_Index Try.f24 [(A.agg [(C.d (D.sl d1))]), (A.one (C.d (D.sl tuple2)))] = domain_Index Φ fuel d1 tuple2 := by kernel_rfl
/-! ref19_Index -/
def sp_ref19_Index : List LSpec := [{ n := 1, m := 56, toks := [], ks := [.slot 1 (.one .sl), .slot 2 (.one (.ref 0 0)), .slot 8 (.one (.int .i64)), .slot 9 (.one (.int .i64)), .box 0 (.lit [.sl])] }]
def ref19_Index_l0 (Φ : Phi) (fuel : Nat) (k0 : List (List D) → Int → Int → List (List D) → Option A) (tuple10 : List (List D)) (n11 : Int) (i12 : Int) (l13 : List (List D)) : Option A :=
(xite (decide (i12 < ((l13).length : Int)))
((xElem 1 l13 i12).bind fun c14 =>
(xif (decide (1 ≤ (c14).length))
((xDL (List.getD c14 0 (D.s []))).bind fun l15 =>
((xElem 4 tuple10 i12).bind fun c16 =>
(xif (decide (4 ≤ (c16).length))
((xDI .i64 (List.getD c16 0 (D.s []))).bind fun n17 =>
((xDI .i64 (List.getD c16 1 (D.s []))).bind fun n18 =>
((xDS (List.getD c16 2 (D.s []))).bind fun s19 =>
((xDL (List.getD c16 3 (D.s []))).bind fun l20 =>
((Φ i_ref19_Place [(A.one (C.d (D.sl l15))), (A.agg [(C.d (D.v (.int .i64 n17))), (C.d (D.v (.int .i64 n18))), (C.d (D.s s19)), (C.d (D.sl l20))])]).bind fun r21 =>
((xAD r21).bind fun d22 =>
((xDI .i64 d22).bind fun n23 =>
(xite (decide (n23 < (0 : Int)))
(some (A.tup [(A.one (C.d (D.v (.int .i64 (0 : Int))))), (A.one (C.d (D.v (.bool false))))]))
((xElem 1 l13 i12).bind fun c24 =>
(xif (decide (1 ≤ (c24).length))
((xDL (List.getD c24 0 (D.s []))).bind fun l25 =>
(k0 tuple10 (IntKind.i64.wrap ((IntKind.i64.wrap (n11 * ((l25).length : Int))) + n23)) (IntKind.i64.wrap (i12 + (1 : Int))) l13)))))))))))))))))
(some (A.tup [(A.one (C.d (D.v (.int .i64 n11)))), (A.one (C.d (D.v (.bool true))))])))
def ref19_Index (Φ : Phi) (fuel : Nat) (d1 : List (List D)) (tuple2 : List (List D)) : Option A :=
((Φ i_ref19_Size [(A.agg [(C.d (D.sl d1))])]).bind fun r3 =>
((xtup r3 0).bind fun r4 =>
((xAD r4).bind fun d5 =>
((xDI .i64 d5).bind fun n6 =>
((xtup r3 1).bind fun r7 =>
((xAD r7).bind fun d8 =>
((xDI .i64 d8).bind fun n9 =>
(xite (!decide (n9 = (0 : Int)))
(some (A.tup [(A.one (C.d (D.v (.int .i64 (0 : Int))))), (A.one (C.d (D.v (.bool false))))]))
(xite (!decide (((tuple2).length : Int) = ((d1).length : Int)))
(some (A.tup [(A.one (C.d (D.v (.int .i64 (0 : Int))))), (A.one (C.d (D.v (.bool false))))]))
(iter (fun (x : List (List D) × Unit × Int × Int × (List (List D) × Unit) × Unit) (rec : (List (List D) × Unit × Int × Int × (List (List D) × Unit) × Unit) → Option A) => ref19_Index_l0 Φ fuel (fun tuple10 n11 i12 l13 => rec (tuple10, (), n11, i12, (l13, ()), ())) x.1 x.2.2.1 x.2.2.2.1 x.2.2.2.2.1.1) fuel (tuple2, (), (0 : Int), (0 : Int), (d1, ()), ())))))))))))
theorem ref19_Index_eq (Φ : Phi) (fuel : Nat) (d1 : List (List D)) (tuple2 : List (List D)) : xbody TT0 Φ fuel sp_ref19_Index Try.f25 [(A.agg [(C.d (D.sl d1))]), (A.one (C.d (D.sl tuple2)))] = ref19_Index Φ fuel d1 tuple2 := by kernel_rfl
end Go.Av
