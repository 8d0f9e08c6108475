/-
  What each function gives when run. Printed by a program of mine (gen.py).
-/
import Derived.Test.YtieagdjehjghdaaVdTy
set_option linter.all false
set_option linter.unusedVariables false
set_option maxRecDepth 100000
namespace Go.Av
open Go.Proofs
/-! domain_Check -/
def sp_domain_Check : List LSpec := [{ n := 1, m := 63, toks := [], ks := [.slot 1 (.one .sl), .slot 2 (.one (.ref 0 0)), .slot 19 (.one .sl), .slot 20 (.one (.int .i64)), .slot 21 (.one (.int .i64)), .box 0 (.lit [.sl])] }, { n := 1, m := 63, toks := [], ks := [.slot 1 (.one .sl), .slot 2 (.one (.ref 0 0)), .slot 5 (.one (.int .i64)), .slot 6 (.one .sl), .slot 19 (.one .sl), .slot 20 (.one (.int .i64)), .slot 21 (.one (.int .i64)), .slot 26 (.one .sl), .slot 27 (.one (.int .i64)), .slot 28 (.one (.int .i64)), .box 0 (.lit [.sl])] }]
def domain_Check_l1 (Φ : Phi) (fuel : Nat) (k0 : List (List D) → List (List D) → Int → Int → List (List D) → Option A) (k1 : List (List D) → Int → List (List D) → List (List D) → Int → Int → List (List D) → Int → Int → List (List D) → Option A) (inputs10 : List (List D)) (i11 : Int) (a12 : List (List D)) (l13 : List (List D)) (i14 : Int) (i15 : Int) (l16 : List (List D)) (i17 : Int) (i18 : Int) (l19 : List (List D)) : Option A :=
(xite (decide (i18 < i17))
((xElem 4 l16 i18).bind fun c20 =>
(xif (decide (4 ≤ (c20).length))
((xDI .i64 (List.getD c20 0 (D.s []))).bind fun n21 =>
((xDI .i64 (List.getD c20 1 (D.s []))).bind fun n22 =>
((xDS (List.getD c20 2 (D.s []))).bind fun s23 =>
((xDL (List.getD c20 3 (D.s []))).bind fun l24 =>
((Φ i_value_Check [(A.agg [(C.d (D.v (.int .i64 n21))), (C.d (D.v (.int .i64 n22))), (C.d (D.s s23)), (C.d (D.sl l24))])]).bind fun r25 =>
((xAD r25).bind fun d26 =>
((xDI .i64 d26).bind fun n27 =>
(xite (!decide (n27 = (0 : Int)))
(some (A.one (C.d (D.v (.int .i64 n27)))))
((xElem 1 inputs10 i11).bind fun c28 =>
(xif (decide (1 ≤ (c28).length))
((xDI .i64 (List.getD c28 0 (D.s []))).bind fun n29 =>
(xite (!decide (n21 = n29))
(some (A.one (C.d (D.v (.int .i64 (3 : Int))))))
((Φ i_domain_place [(A.one (C.d (D.sl a12))), (A.agg [(C.d (D.v (.int .i64 n21))), (C.d (D.v (.int .i64 n22))), (C.d (D.s s23)), (C.d (D.sl l24))])]).bind fun r30 =>
((xAD r30).bind fun d31 =>
((xDI .i64 d31).bind fun n32 =>
(xite (decide (n32 < i18))
(some (A.one (C.d (D.v (.int .i64 (6 : Int))))))
(k1 inputs10 i11 a12 l13 i14 i15 l16 i17 (IntKind.i64.wrap (i18 + (1 : Int))) l19)))))))))))))))))))
(k0 inputs10 l13 i14 (IntKind.i64.wrap (i15 + (1 : Int))) l19))
def domain_Check_l0 (Φ : Phi) (fuel : Nat) (k0 : List (List D) → List (List D) → Int → Int → List (List D) → Option A) (inputs3 : List (List D)) (l4 : List (List D)) (i5 : Int) (i6 : Int) (l7 : List (List D)) : Option A :=
(xite (decide (i6 < i5))
((xElem 1 l4 i6).bind fun c8 =>
(xif (decide (1 ≤ (c8).length))
((xDL (List.getD c8 0 (D.s []))).bind fun l9 =>
(iter (fun (x : List (List D) × Unit × Int × List (List D) × List (List D) × Int × Int × List (List D) × Int × Int × (List (List D) × Unit) × Unit) (rec : (List (List D) × Unit × Int × List (List D) × List (List D) × Int × Int × List (List D) × Int × Int × (List (List D) × Unit) × Unit) → Option A) => domain_Check_l1 Φ fuel k0 (fun inputs10 i11 a12 l13 i14 i15 l16 i17 i18 l19 => rec (inputs10, (), i11, a12, l13, i14, i15, l16, i17, i18, (l19, ()), ())) x.1 x.2.2.1 x.2.2.2.1 x.2.2.2.2.1 x.2.2.2.2.2.1 x.2.2.2.2.2.2.1 x.2.2.2.2.2.2.2.1 x.2.2.2.2.2.2.2.2.1 x.2.2.2.2.2.2.2.2.2.1 x.2.2.2.2.2.2.2.2.2.2.1.1) fuel (inputs3, (), i6, l9, l4, i5, i6, l9, ((l9).length : Int), (0 : Int), (l7, ()), ())))))
((Φ i_domain_Size [(A.agg [(C.d (D.sl l7))])]).bind fun r33 =>
((xtup r33 0).bind fun r34 =>
((xAD r34).bind fun d35 =>
((xDI .i64 d35).bind fun n36 =>
((xtup r33 1).bind fun r37 =>
((xAD r37).bind fun d38 =>
((xDI .i64 d38).bind fun n39 =>
(xite (!decide (n39 = (0 : Int)))
(some (A.one (C.d (D.v (.int .i64 (11 : Int))))))
(xite (decide ((4096 : Int) < n36))
(some (A.one (C.d (D.v (.int .i64 (11 : Int))))))
(some (A.one (C.d (D.v (.int .i64 (0 : Int))))))))))))))))
def domain_Check (Φ : Phi) (fuel : Nat) (d1 : List (List D)) (inputs2 : List (List D)) : Option A :=
(xite (!decide (((d1).length : Int) = ((inputs2).length : Int)))
(some (A.one (C.d (D.v (.int .i64 (2 : Int))))))
(iter (fun (x : List (List D) × Unit × List (List D) × Int × Int × (List (List D) × Unit) × Unit) (rec : (List (List D) × Unit × List (List D) × Int × Int × (List (List D) × Unit) × Unit) → Option A) => domain_Check_l0 Φ fuel (fun inputs3 l4 i5 i6 l7 => rec (inputs3, (), l4, i5, i6, (l7, ()), ())) x.1 x.2.2.1 x.2.2.2.1 x.2.2.2.2.1 x.2.2.2.2.2.1.1) fuel (inputs2, (), d1, ((d1).length : Int), (0 : Int), (d1, ()), ())))
theorem domain_Check_eq (Φ : Phi) (fuel : Nat) (d1 : List (List D)) (inputs2 : List (List D)) : xbody TT0 Φ fuel sp_domain_Check Try.f26 [(A.agg [(C.d (D.sl d1))]), (A.one (C.d (D.sl inputs2)))] = domain_Check Φ fuel d1 inputs2 := by kernel_rfl
/-! ref19_Check -/
def sp_ref19_Check : List LSpec := [{ n := 1, m := 74, toks := [], ks := [.slot 1 (.one .sl), .slot 2 (.one (.ref 0 0)), .slot 5 (.one (.int .i64)), .box 0 (.lit [.sl])] }, { n := 1, m := 74, toks := [], ks := [.slot 1 (.one .sl), .slot 2 (.one (.ref 0 0)), .slot 5 (.one (.int .i64)), .slot 6 (.one (.int .i64)), .box 0 (.lit [.sl])] }]
def ref19_Check_l1 (Φ : Phi) (fuel : Nat) (k0 : List (List D) → Int → List (List D) → Option A) (k1 : List (List D) → Int → Int → List (List D) → Option A) (inputs6 : List (List D)) (i7 : Int) (k8 : Int) (l9 : List (List D)) : Option A :=
((xElem 1 l9 i7).bind fun c10 =>
(xif (decide (1 ≤ (c10).length))
((xDL (List.getD c10 0 (D.s []))).bind fun l11 =>
(xite (decide (k8 < ((l11).length : Int)))
((xElem 1 l9 i7).bind fun c12 =>
(xif (decide (1 ≤ (c12).length))
((xDL (List.getD c12 0 (D.s []))).bind fun l13 =>
((xElem 4 l13 k8).bind fun c14 =>
(xif (decide (4 ≤ (c14).length))
((xDI .i64 (List.getD c14 0 (D.s []))).bind fun n15 =>
((xDI .i64 (List.getD c14 1 (D.s []))).bind fun n16 =>
((xDS (List.getD c14 2 (D.s []))).bind fun s17 =>
((xDL (List.getD c14 3 (D.s []))).bind fun l18 =>
((Φ i_ref01_Check [(A.agg [(C.d (D.v (.int .i64 n15))), (C.d (D.v (.int .i64 n16))), (C.d (D.s s17)), (C.d (D.sl l18))])]).bind fun r19 =>
((xAD r19).bind fun d20 =>
((xDI .i64 d20).bind fun n21 =>
(xite (!decide (n21 = (0 : Int)))
(some (A.one (C.d (D.v (.int .i64 n21)))))
((xElem 1 inputs6 i7).bind fun c22 =>
(xif (decide (1 ≤ (c22).length))
((xDI .i64 (List.getD c22 0 (D.s []))).bind fun n23 =>
(xite (!decide (n15 = n23))
(some (A.one (C.d (D.v (.int .i64 (3 : Int))))))
((xElem 1 l9 i7).bind fun c24 =>
(xif (decide (1 ≤ (c24).length))
((xDL (List.getD c24 0 (D.s []))).bind fun l25 =>
((Φ i_ref19_Place [(A.one (C.d (D.sl l25))), (A.agg [(C.d (D.v (.int .i64 n15))), (C.d (D.v (.int .i64 n16))), (C.d (D.s s17)), (C.d (D.sl l18))])]).bind fun r26 =>
((xAD r26).bind fun d27 =>
((xDI .i64 d27).bind fun n28 =>
(xite (decide (n28 < k8))
(some (A.one (C.d (D.v (.int .i64 (6 : Int))))))
(k1 inputs6 i7 (IntKind.i64.wrap (k8 + (1 : Int))) l9)))))))))))))))))))))))))
(k0 inputs6 (IntKind.i64.wrap (i7 + (1 : Int))) l9)))))
def ref19_Check_l0 (Φ : Phi) (fuel : Nat) (k0 : List (List D) → Int → List (List D) → Option A) (inputs3 : List (List D)) (i4 : Int) (l5 : List (List D)) : Option A :=
(xite (decide (i4 < ((l5).length : Int)))
(iter (fun (x : List (List D) × Unit × Int × Int × (List (List D) × Unit) × Unit) (rec : (List (List D) × Unit × Int × Int × (List (List D) × Unit) × Unit) → Option A) => ref19_Check_l1 Φ fuel k0 (fun inputs6 i7 k8 l9 => rec (inputs6, (), i7, k8, (l9, ()), ())) x.1 x.2.2.1 x.2.2.2.1 x.2.2.2.2.1.1) fuel (inputs3, (), i4, (0 : Int), (l5, ()), ()))
((Φ i_ref19_Size [(A.agg [(C.d (D.sl l5))])]).bind fun r29 =>
((xtup r29 0).bind fun r30 =>
((xAD r30).bind fun d31 =>
((xDI .i64 d31).bind fun n32 =>
((xtup r29 1).bind fun r33 =>
((xAD r33).bind fun d34 =>
((xDI .i64 d34).bind fun n35 =>
(xite (!decide (n35 = (0 : Int)))
(some (A.one (C.d (D.v (.int .i64 (11 : Int))))))
(xite (decide ((4096 : Int) < n32))
(some (A.one (C.d (D.v (.int .i64 (11 : Int))))))
(some (A.one (C.d (D.v (.int .i64 (0 : Int))))))))))))))))
def ref19_Check (Φ : Phi) (fuel : Nat) (d1 : List (List D)) (inputs2 : List (List D)) : Option A :=
(xite (!decide (((d1).length : Int) = ((inputs2).length : Int)))
(some (A.one (C.d (D.v (.int .i64 (2 : Int))))))
(iter (fun (x : List (List D) × Unit × Int × (List (List D) × Unit) × Unit) (rec : (List (List D) × Unit × Int × (List (List D) × Unit) × Unit) → Option A) => ref19_Check_l0 Φ fuel (fun inputs3 i4 l5 => rec (inputs3, (), i4, (l5, ()), ())) x.1 x.2.2.1 x.2.2.2.1.1) fuel (inputs2, (), (0 : Int), (d1, ()), ())))
theorem ref19_Check_eq (Φ : Phi) (fuel : Nat) (d1 : List (List D)) (inputs2 : List (List D)) : xbody TT0 Φ fuel sp_ref19_Check Try.f27 [(A.agg [(C.d (D.sl d1))]), (A.one (C.d (D.sl inputs2)))] = ref19_Check Φ fuel d1 inputs2 := by kernel_rfl
/-! domain_Small -/
def sp_domain_Small : List LSpec := [{ n := 1, m := 66, toks := [], ks := [.slot 0 (.one .sl), .slot 1 (.one (.int .i64)), .slot 4 (.one (.ref 0 0)), .slot 17 (.one .sl), .slot 18 (.one (.int .i64)), .slot 19 (.one (.int .i64)), .box 0 (.lit [.full])] }, { n := 3, m := 66, toks := [(27, .cell 1 0)], ks := [.slot 1 (.one (.int .i64)), .slot 4 (.one (.ref 0 0)), .slot 8 (.one (.ref 1 0)), .slot 38 (.one .sl), .slot 39 (.one (.int .i64)), .slot 40 (.one (.int .i64)), .box 0 (.lit [.full]), .box 1 (.lit [(.app 2 27)])] }]
def domain_Small_l1 (Φ : Phi) (fuel : Nat) (k1 : Int → List (List D) → Int → Int → List (List D) → List (List D) → Option A) (n17 : Int) (l18 : List (List D)) (i19 : Int) (i20 : Int) (l21 : List (List D)) (l22 : List (List D)) : Option A :=
(xite (decide (i20 < i19))
((xElem 1 l18 i20).bind fun c23 =>
(xif (decide (1 ≤ (c23).length))
((xDI .i64 (List.getD c23 0 (D.s []))).bind fun n24 =>
((Φ i_domain_first [(A.one (C.d (D.v (.int .i64 n24)))), (A.one (C.d (D.v (.int .i64 n17))))]).bind fun r25 =>
((xAD r25).bind fun d26 =>
((xDL d26).bind fun l27 =>
((xApp 1 24 (l22.length) l22 ([[(D.sl l27)]] : List (List D))).bind fun l28 =>
(xif (decide (l28.length = (l28 : List (List D)).length))
(k1 n17 l18 i19 (IntKind.i64.wrap (i20 + (1 : Int))) l21 l28)))))))))
((Φ i_domain_Size [(A.agg [(C.d (D.sl l22))])]).bind fun r29 =>
((xtup r29 0).bind fun r30 =>
((xAD r30).bind fun d31 =>
((xDI .i64 d31).bind fun n32 =>
((xtup r29 1).bind fun r33 =>
((xAD r33).bind fun d34 =>
((xDI .i64 d34).bind fun n35 =>
(xite (!decide (n35 = (0 : Int)))
(some (A.tup [(A.agg [(C.d (D.sl []))]), (A.one (C.d (D.v (.int .i64 (11 : Int)))))]))
(xite (decide ((4096 : Int) < n32))
(some (A.tup [(A.agg [(C.d (D.sl []))]), (A.one (C.d (D.v (.int .i64 (11 : Int)))))]))
(some (A.tup [(A.agg [(C.d (D.sl l22))]), (A.one (C.d (D.v (.int .i64 (0 : Int)))))]))))))))))))
def domain_Small_l0 (Φ : Phi) (fuel : Nat) (k0 : List (List D) → Int → List (List D) → Int → Int → List (List D) → Option A) (inputs3 : List (List D)) (n4 : Int) (l5 : List (List D)) (i6 : Int) (i7 : Int) (l8 : List (List D)) : Option A :=
(xite (decide (i7 < i6))
((xElem 1 l5 i7).bind fun c9 =>
(xif (decide (1 ≤ (c9).length))
((xDI .i64 (List.getD c9 0 (D.s []))).bind fun n10 =>
(xite (decide (n10 < (1 : Int)))
(some (A.tup [(A.agg [(C.d (D.sl []))]), (A.one (C.d (D.v (.int .i64 (3 : Int)))))]))
(xite (decide ((8 : Int) < n10))
(some (A.tup [(A.agg [(C.d (D.sl []))]), (A.one (C.d (D.v (.int .i64 (3 : Int)))))]))
(k0 inputs3 n4 l5 i6 (IntKind.i64.wrap (i7 + (1 : Int))) l8))))))
(xite (decide (n4 < (0 : Int)))
(some (A.tup [(A.agg [(C.d (D.sl []))]), (A.one (C.d (D.v (.int .i64 (1 : Int)))))]))
(xite (decide ((64 : Int) < n4))
(some (A.tup [(A.agg [(C.d (D.sl []))]), (A.one (C.d (D.v (.int .i64 (1 : Int)))))]))
(xif (decide (([] : List (List D)).length = ([] : List (List D)).length))
(iter (fun (x : Int × Unit × Unit × List (List D) × Int × Int × (List (List D) × Unit) × (List (List D) × Unit) × Unit) (rec : (Int × Unit × Unit × List (List D) × Int × Int × (List (List D) × Unit) × (List (List D) × Unit) × Unit) → Option A) => domain_Small_l1 Φ fuel (fun n17 l18 i19 i20 l21 l22 => rec (n17, (), (), l18, i19, i20, (l21, ()), (l22, ()), ())) x.1 x.2.2.2.1 x.2.2.2.2.1 x.2.2.2.2.2.1 x.2.2.2.2.2.2.1.1 x.2.2.2.2.2.2.2.1.1) fuel (n4, (), (), inputs3, ((inputs3).length : Int), (0 : Int), (l8, ()), ([], ()), ()))))))
def domain_Small (Φ : Phi) (fuel : Nat) (inputs1 : List (List D)) (n2 : Int) : Option A :=
(xite (decide ((4 : Int) < ((inputs1).length : Int)))
(some (A.tup [(A.agg [(C.d (D.sl []))]), (A.one (C.d (D.v (.int .i64 (2 : Int)))))]))
(iter (fun (x : List (List D) × Int × Unit × List (List D) × Int × Int × (List (List D) × Unit) × Unit) (rec : (List (List D) × Int × Unit × List (List D) × Int × Int × (List (List D) × Unit) × Unit) → Option A) => domain_Small_l0 Φ fuel (fun inputs3 n4 l5 i6 i7 l8 => rec (inputs3, n4, (), l5, i6, i7, (l8, ()), ())) x.1 x.2.1 x.2.2.2.1 x.2.2.2.2.1 x.2.2.2.2.2.1 x.2.2.2.2.2.2.1.1) fuel (inputs1, n2, (), inputs1, ((inputs1).length : Int), (0 : Int), ([], ()), ())))
theorem domain_Small_eq (Φ : Phi) (fuel : Nat) (inputs1 : List (List D)) (n2 : Int) : xbody TT0 Φ fuel sp_domain_Small Try.f28 [(A.one (C.d (D.sl inputs1))), (A.one (C.d (D.v (.int .i64 n2))))] = domain_Small Φ fuel inputs1 n2 := by kernel_rfl
/-! ref19_Small -/
def sp_ref19_Small : List LSpec := [{ n := 1, m := 61, toks := [], ks := [.slot 0 (.one .sl), .slot 1 (.one (.int .i64)), .slot 4 (.one (.ref 0 0)), .slot 6 (.one (.int .i64)), .box 0 (.lit [.full])] }, { n := 3, m := 61, toks := [(27, .cell 1 0)], ks := [.slot 0 (.one .sl), .slot 1 (.one (.int .i64)), .slot 4 (.one (.ref 0 0)), .slot 7 (.one (.ref 1 0)), .slot 8 (.one (.int .i64)), .box 0 (.lit [.full]), .box 1 (.lit [(.app 2 27)])] }]
def ref19_Small_l1 (Φ : Phi) (fuel : Nat) (k1 : List (List D) → Int → Int → List (List D) → List (List D) → Option A) (inputs17 : List (List D)) (n18 : Int) (i19 : Int) (l20 : List (List D)) (l21 : List (List D)) : Option A :=
(xite (decide (i19 < ((inputs17).length : Int)))
((xElem 1 inputs17 i19).bind fun c22 =>
(xif (decide (1 ≤ (c22).length))
((xDI .i64 (List.getD c22 0 (D.s []))).bind fun n23 =>
((Φ i_ref19_First [(A.one (C.d (D.v (.int .i64 n23)))), (A.one (C.d (D.v (.int .i64 n18))))]).bind fun r24 =>
((xAD r24).bind fun d25 =>
((xDL d25).bind fun l26 =>
((xApp 1 24 (l21.length) l21 ([[(D.sl l26)]] : List (List D))).bind fun l27 =>
(xif (decide (l27.length = (l27 : List (List D)).length))
(k1 inputs17 n18 (IntKind.i64.wrap (i19 + (1 : Int))) l20 l27)))))))))
((Φ i_ref19_Size [(A.agg [(C.d (D.sl l21))])]).bind fun r28 =>
((xtup r28 0).bind fun r29 =>
((xAD r29).bind fun d30 =>
((xDI .i64 d30).bind fun n31 =>
((xtup r28 1).bind fun r32 =>
((xAD r32).bind fun d33 =>
((xDI .i64 d33).bind fun n34 =>
(xite (decide ((4096 : Int) < n31))
(some (A.tup [(A.agg [(C.d (D.sl []))]), (A.one (C.d (D.v (.int .i64 (11 : Int)))))]))
(some (A.tup [(A.agg [(C.d (D.sl l21))]), (A.one (C.d (D.v (.int .i64 (0 : Int)))))])))))))))))
def ref19_Small_l0 (Φ : Phi) (fuel : Nat) (k0 : List (List D) → Int → Int → List (List D) → Option A) (inputs3 : List (List D)) (n4 : Int) (i5 : Int) (l6 : List (List D)) : Option A :=
(xite (decide (i5 < ((inputs3).length : Int)))
((xElem 1 inputs3 i5).bind fun c7 =>
(xif (decide (1 ≤ (c7).length))
((xDI .i64 (List.getD c7 0 (D.s []))).bind fun n8 =>
((Φ i_ref01_TypeName [(A.one (C.d (D.v (.int .i64 n8))))]).bind fun r9 =>
((xAD r9).bind fun d10 =>
((xDS d10).bind fun s11 =>
(xite (decide ((s11 : List UInt8) = []))
(some (A.tup [(A.agg [(C.d (D.sl []))]), (A.one (C.d (D.v (.int .i64 (3 : Int)))))]))
(k0 inputs3 n4 (IntKind.i64.wrap (i5 + (1 : Int))) l6))))))))
(xite (decide (n4 < (0 : Int)))
(some (A.tup [(A.agg [(C.d (D.sl []))]), (A.one (C.d (D.v (.int .i64 (1 : Int)))))]))
(xite (decide ((64 : Int) < n4))
(some (A.tup [(A.agg [(C.d (D.sl []))]), (A.one (C.d (D.v (.int .i64 (1 : Int)))))]))
(xif (decide (([] : List (List D)).length = ([] : List (List D)).length))
(iter (fun (x : List (List D) × Int × Unit × Unit × Int × (List (List D) × Unit) × (List (List D) × Unit) × Unit) (rec : (List (List D) × Int × Unit × Unit × Int × (List (List D) × Unit) × (List (List D) × Unit) × Unit) → Option A) => ref19_Small_l1 Φ fuel (fun inputs17 n18 i19 l20 l21 => rec (inputs17, n18, (), (), i19, (l20, ()), (l21, ()), ())) x.1 x.2.1 x.2.2.2.2.1 x.2.2.2.2.2.1.1 x.2.2.2.2.2.2.1.1) fuel (inputs3, n4, (), (), (0 : Int), (l6, ()), ([], ()), ()))))))
def ref19_Small (Φ : Phi) (fuel : Nat) (inputs1 : List (List D)) (n2 : Int) : Option A :=
(xite (decide ((4 : Int) < ((inputs1).length : Int)))
(some (A.tup [(A.agg [(C.d (D.sl []))]), (A.one (C.d (D.v (.int .i64 (2 : Int)))))]))
(iter (fun (x : List (List D) × Int × Unit × Int × (List (List D) × Unit) × Unit) (rec : (List (List D) × Int × Unit × Int × (List (List D) × Unit) × Unit) → Option A) => ref19_Small_l0 Φ fuel (fun inputs3 n4 i5 l6 => rec (inputs3, n4, (), i5, (l6, ()), ())) x.1 x.2.1 x.2.2.2.1 x.2.2.2.2.1.1) fuel (inputs1, n2, (), (0 : Int), ([], ()), ())))
theorem ref19_Small_eq (Φ : Phi) (fuel : Nat) (inputs1 : List (List D)) (n2 : Int) : xbody TT0 Φ fuel sp_ref19_Small Try.f29 [(A.one (C.d (D.sl inputs1))), (A.one (C.d (D.v (.int .i64 n2))))] = ref19_Small Φ fuel inputs1 n2 := by kernel_rfl
/-! ref01_Small -/
def sp_ref01_Small : List LSpec := []
def ref01_Small (Φ : Phi) (fuel : Nat) (v1 : Int) (v2 : Int) (v3 : List UInt8) (v4 : List (List D)) : Option A :=
((Φ i_ref01_Count [(A.one (C.d (D.sl ([[(D.v (.int .i64 v1)), (D.v (.int .i64 v2)), (D.s v3), (D.sl v4)]] : List (List D))))), (A.one (C.d (D.v (.int .i64 (90 : Int)))))]).bind fun r5 =>
((xAD r5).bind fun d6 =>
((xDI .i64 d6).bind fun n7 =>
(xite (decide (n7 ≤ (90 : Int)))
((Φ i_ref01_shallow [(A.agg [(C.d (D.v (.int .i64 v1))), (C.d (D.v (.int .i64 v2))), (C.d (D.s v3)), (C.d (D.sl v4))]), (A.one (C.d (D.v (.int .i64 (8 : Int)))))]).bind fun r8 =>
((xAD r8).bind fun d9 =>
((xDB d9).bind fun b10 =>
(some (A.one (C.d (D.v (.bool b10))))))))
(some (A.one (C.d (D.v (.bool false)))))))))
theorem ref01_Small_eq (Φ : Phi) (fuel : Nat) (v1 : Int) (v2 : Int) (v3 : List UInt8) (v4 : List (List D)) : xbody TT0 Φ fuel sp_ref01_Small Try.f30 [(A.agg [(C.d (D.v (.int .i64 v1))), (C.d (D.v (.int .i64 v2))), (C.d (D.s v3)), (C.d (D.sl v4))])] = ref01_Small Φ fuel v1 v2 v3 v4 := by kernel_rfl
/-! domain_tuple -/
def sp_domain_tuple : List LSpec := [{ n := 2, m := 44, toks := [], ks := [.slot 1 (.one (.int .i64)), .slot 2 (.one (.ref 0 0)), .slot 5 (.one (.msl 1 0 4)), .slot 6 (.one (.int .i64)), .box 0 (.lit [.sl]), .box 1 .raw] }]
def domain_tuple_l0 (Φ : Phi) (fuel : Nat) (k0 : Int → Nat → Nat → Int → List (List D) → List D → Option A) (n3 : Int) (n4 : Nat) (n5 : Nat) (i6 : Int) (l7 : List (List D)) (L8 : List D) : Option A :=
(xite (decide ((0 : Int) ≤ i6))
((xElem 1 l7 i6).bind fun c9 =>
(xif (decide (1 ≤ (c9).length))
((xDL (List.getD c9 0 (D.s []))).bind fun l10 =>
((xElem 1 l7 i6).bind fun c11 =>
(xif (decide (1 ≤ (c11).length))
((xDL (List.getD c11 0 (D.s []))).bind fun l12 =>
(xif (!decide (((l10).length : Int) = 0))
((xElem 4 l12 (Int.tmod n3 ((l10).length : Int))).bind fun c13 =>
(xif (decide (4 ≤ (c13).length))
((xDI .i64 (List.getD c13 0 (D.s []))).bind fun n14 =>
((xDI .i64 (List.getD c13 1 (D.s []))).bind fun n15 =>
((xDS (List.getD c13 2 (D.s []))).bind fun s16 =>
((xDL (List.getD c13 3 (D.s []))).bind fun l17 =>
((Φ i_domain_copied [(A.agg [(C.d (D.v (.int .i64 n14))), (C.d (D.v (.int .i64 n15))), (C.d (D.s s16)), (C.d (D.sl l17))])]).bind fun r18 =>
((xADs r18).bind fun d19 =>
(xif (decide (d19.length = 4))
((xDI .i64 (List.getD d19 0 (D.s []))).bind fun n20 =>
((xDI .i64 (List.getD d19 1 (D.s []))).bind fun n21 =>
((xDS (List.getD d19 2 (D.s []))).bind fun s22 =>
((xDL (List.getD d19 3 (D.s []))).bind fun l23 =>
(xif (decide (0 ≤ i6) && decide (i6 < (n4 : Int)))
(xif (decide ((0 + (i6).toNat * 4) + 4 ≤ ((List.map C.d L8)).length))
(xif (!decide (((l10).length : Int) = 0))
((xlows (rpl (List.map C.d L8) (0 + (i6).toNat * 4) [(C.d (D.v (.int .i64 n20))), (C.d (D.v (.int .i64 n21))), (C.d (D.s s22)), (C.d (D.sl l23))])).bind fun L24 =>
(k0 (IntKind.i64.wrap (Int.tdiv n3 ((l10).length : Int))) n4 n5 (IntKind.i64.wrap (i6 - (1 : Int))) l7 L24)))))))))))))))))))))))))
((xif (decide (n4 ≤ n5) && decide (0 + n4 * 4 ≤ ((List.map C.d L8)).length))
((xlows (List.take (n4 * 4) (List.drop 0 (List.map C.d L8)))).bind fun d25 =>
(some (D.sl (chunks 4 n4 d25))))).bind fun d26 => (some (A.one (C.d d26)))))
def domain_tuple (Φ : Phi) (fuel : Nat) (d1 : List (List D)) (n2 : Int) : Option A :=
(xif (decide (((d1).length : Int) = ((d1).length : Int)) && (decide (0 ≤ ((d1).length : Int)) && (decide (((d1).length : Int) ≤ 9223372036854775807) && decide (56 * ((d1).length : Int) ≤ 281474976710656))))
((xlows (List.flatten (List.replicate (((d1).length : Int)).toNat [(C.d (D.v (.int .i64 0))), (C.d (D.v (.int .i64 0))), (C.d (D.s [])), (C.full [])]))).bind fun L27 =>
(iter (fun (x : Int × Unit × (Nat × Nat) × Int × (List (List D) × Unit) × List D × Unit) (rec : (Int × Unit × (Nat × Nat) × Int × (List (List D) × Unit) × List D × Unit) → Option A) => domain_tuple_l0 Φ fuel (fun n3 n4 n5 i6 l7 L8 => rec (n3, (), (n4, n5), i6, (l7, ()), L8, ())) x.1 x.2.2.1.1 x.2.2.1.2 x.2.2.2.1 x.2.2.2.2.1.1 x.2.2.2.2.2.1) fuel (n2, (), ((((d1).length : Int)).toNat, (((d1).length : Int)).toNat), (IntKind.i64.wrap (((d1).length : Int) - (1 : Int))), (d1, ()), L27, ()))))
theorem domain_tuple_eq (Φ : Phi) (fuel : Nat) (d1 : List (List D)) (n2 : Int) : xbody TT0 Φ fuel sp_domain_tuple Try.f31 [(A.agg [(C.d (D.sl d1))]), (A.one (C.d (D.v (.int .i64 n2))))] = domain_tuple Φ fuel d1 n2 := by kernel_rfl
/-! ref01_CompareAll -/
def sp_ref01_CompareAll : List LSpec := [{ n := 0, m := 42, toks := [], ks := [.slot 0 (.one .sl), .slot 1 (.one .sl), .slot 5 (.one (.int .i64))] }]
def ref01_CompareAll_l0 (Φ : Phi) (fuel : Nat) (k0 : List (List D) → List (List D) → Int → Option A) (a3 : List (List D)) (b4 : List (List D)) (i5 : Int) : Option A :=
(xite (decide (i5 < ((a3).length : Int)))
(xite (decide (i5 < ((b4).length : Int)))
((xElem 4 a3 i5).bind fun c6 =>
(xif (decide (4 ≤ (c6).length))
((xDI .i64 (List.getD c6 0 (D.s []))).bind fun n7 =>
((xDI .i64 (List.getD c6 1 (D.s []))).bind fun n8 =>
((xDS (List.getD c6 2 (D.s []))).bind fun s9 =>
((xDL (List.getD c6 3 (D.s []))).bind fun l10 =>
((xElem 4 b4 i5).bind fun c11 =>
(xif (decide (4 ≤ (c11).length))
((xDI .i64 (List.getD c11 0 (D.s []))).bind fun n12 =>
((xDI .i64 (List.getD c11 1 (D.s []))).bind fun n13 =>
((xDS (List.getD c11 2 (D.s []))).bind fun s14 =>
((xDL (List.getD c11 3 (D.s []))).bind fun l15 =>
((Φ i_ref01_Compare [(A.agg [(C.d (D.v (.int .i64 n7))), (C.d (D.v (.int .i64 n8))), (C.d (D.s s9)), (C.d (D.sl l10))]), (A.agg [(C.d (D.v (.int .i64 n12))), (C.d (D.v (.int .i64 n13))), (C.d (D.s s14)), (C.d (D.sl l15))])]).bind fun r16 =>
((xAD r16).bind fun d17 =>
((xDI .i64 d17).bind fun n18 =>
(xite (!decide (n18 = (0 : Int)))
(some (A.one (C.d (D.v (.int .i64 n18)))))
(k0 a3 b4 (IntKind.i64.wrap (i5 + (1 : Int))))))))))))))))))))
(xite (decide (((a3).length : Int) = ((b4).length : Int)))
(some (A.one (C.d (D.v (.int .i64 (0 : Int))))))
((Φ i_ref01_sign [(A.one (C.d (D.v (.bool (decide (((a3).length : Int) < ((b4).length : Int)))))))]).bind fun r19 =>
((xAD r19).bind fun d20 =>
((xDI .i64 d20).bind fun n21 =>
(some (A.one (C.d (D.v (.int .i64 n21))))))))))
(xite (decide (((a3).length : Int) = ((b4).length : Int)))
(some (A.one (C.d (D.v (.int .i64 (0 : Int))))))
((Φ i_ref01_sign [(A.one (C.d (D.v (.bool (decide (((a3).length : Int) < ((b4).length : Int)))))))]).bind fun r22 =>
((xAD r22).bind fun d23 =>
((xDI .i64 d23).bind fun n24 =>
(some (A.one (C.d (D.v (.int .i64 n24))))))))))
def ref01_CompareAll (Φ : Phi) (fuel : Nat) (a1 : List (List D)) (b2 : List (List D)) : Option A :=
(iter (fun (x : List (List D) × List (List D) × Int × Unit) (rec : (List (List D) × List (List D) × Int × Unit) → Option A) => ref01_CompareAll_l0 Φ fuel (fun a3 b4 i5 => rec (a3, b4, i5, ())) x.1 x.2.1 x.2.2.1) fuel (a1, b2, (0 : Int), ()))
theorem ref01_CompareAll_eq (Φ : Phi) (fuel : Nat) (a1 : List (List D)) (b2 : List (List D)) : xbody TT0 Φ fuel sp_ref01_CompareAll Try.f32 [(A.one (C.d (D.sl a1))), (A.one (C.d (D.sl b2)))] = ref01_CompareAll Φ fuel a1 b2 := by kernel_rfl
/-! domain_copied -/
def sp_domain_copied : List LSpec := [{ n := 3, m := 22, toks := [(54, .slot 3)], ks := [.slot 1 (.one (.ref 0 0)), .slot 2 (.one (.ref 1 0)), .slot 3 (.one (.app 2 54)), .slot 7 (.one .sl), .slot 8 (.one (.int .i64)), .slot 9 (.one (.int .i64)), .box 0 (.lit [(.int .i64), (.int .i64), .str, .sl]), .box 1 (.lit [(.int .i64), (.int .i64), .str, .full])] }]
def domain_copied_l0 (Φ : Phi) (fuel : Nat) (k0 : List (List D) → List (List D) → Int → Int → Int → Int → List UInt8 → List (List D) → Int → Int → List UInt8 → List (List D) → Option A) (items17 : List (List D)) (l18 : List (List D)) (i19 : Int) (i20 : Int) (i21 : Int) (i22 : Int) (s23 : List UInt8) (l24 : List (List D)) (i25 : Int) (i26 : Int) (s27 : List UInt8) (l28 : List (List D)) : Option A :=
(xite (decide (i20 < i19))
((xElem 4 l18 i20).bind fun c29 =>
(xif (decide (4 ≤ (c29).length))
((xDI .i64 (List.getD c29 0 (D.s []))).bind fun n30 =>
((xDI .i64 (List.getD c29 1 (D.s []))).bind fun n31 =>
((xDS (List.getD c29 2 (D.s []))).bind fun s32 =>
((xDL (List.getD c29 3 (D.s []))).bind fun l33 =>
((Φ i_domain_copied [(A.agg [(C.d (D.v (.int .i64 n30))), (C.d (D.v (.int .i64 n31))), (C.d (D.s s32)), (C.d (D.sl l33))])]).bind fun r34 =>
((xADs r34).bind fun d35 =>
(xif (decide (d35.length = 4))
((xDI .i64 (List.getD d35 0 (D.s []))).bind fun n36 =>
((xDI .i64 (List.getD d35 1 (D.s []))).bind fun n37 =>
((xDS (List.getD d35 2 (D.s []))).bind fun s38 =>
((xDL (List.getD d35 3 (D.s []))).bind fun l39 =>
((xApp 4 56 (items17.length) items17 ([[(D.v (.int .i64 n36)), (D.v (.int .i64 n37)), (D.s s38), (D.sl l39)]] : List (List D))).bind fun l40 =>
(xif (decide (l40.length = (l40 : List (List D)).length))
(k0 l40 l18 i19 (IntKind.i64.wrap (i20 + (1 : Int))) i21 i22 s23 l24 i25 i26 s27 l28))))))))))))))))
(some (A.agg [(C.d (D.v (.int .i64 i21))), (C.d (D.v (.int .i64 i22))), (C.d (D.s s23)), (C.d (D.sl items17))])))
def domain_copied (Φ : Phi) (fuel : Nat) (v1 : Int) (v2 : Int) (v3 : List UInt8) (v4 : List (List D)) : Option A :=
(xif (decide (([] : List (List D)).length = ([] : List (List D)).length))
(iter (fun (x : Unit × Unit × List (List D) × List (List D) × Int × Int × (Int × Int × List UInt8 × List (List D) × Unit) × (Int × Int × List UInt8 × List (List D) × Unit) × Unit) (rec : (Unit × Unit × List (List D) × List (List D) × Int × Int × (Int × Int × List UInt8 × List (List D) × Unit) × (Int × Int × List UInt8 × List (List D) × Unit) × Unit) → Option A) => domain_copied_l0 Φ fuel (fun items17 l18 i19 i20 i21 i22 s23 l24 i25 i26 s27 l28 => rec ((), (), items17, l18, i19, i20, (i21, i22, s23, l24, ()), (i25, i26, s27, l28, ()), ())) x.2.2.1 x.2.2.2.1 x.2.2.2.2.1 x.2.2.2.2.2.1 x.2.2.2.2.2.2.1.1 x.2.2.2.2.2.2.1.2.1 x.2.2.2.2.2.2.1.2.2.1 x.2.2.2.2.2.2.1.2.2.2.1 x.2.2.2.2.2.2.2.1.1 x.2.2.2.2.2.2.2.1.2.1 x.2.2.2.2.2.2.2.1.2.2.1 x.2.2.2.2.2.2.2.1.2.2.2.1) fuel ((), (), [], v4, ((v4).length : Int), (0 : Int), (v1, v2, v3, v4, ()), (0, 0, [], [], ()), ())))
theorem domain_copied_eq (Φ : Phi) (fuel : Nat) (v1 : Int) (v2 : Int) (v3 : List UInt8) (v4 : List (List D)) : xbody TT0 Φ fuel sp_domain_copied Try.f33 [(A.agg [(C.d (D.v (.int .i64 v1))), (C.d (D.v (.int .i64 v2))), (C.d (D.s v3)), (C.d (D.sl v4))])] = domain_copied Φ fuel v1 v2 v3 v4 := by kernel_rfl
/-! domain_place -/
def sp_domain_place : List LSpec := [{ n := 1, m := 19, toks := [], ks := [.slot 3 (.one (.ref 0 0)), .slot 7 (.one .sl), .slot 8 (.one (.int .i64)), .slot 9 (.one (.int .i64)), .box 0 (.lit [(.int .i64), (.int .i64), .str, .sl])] }]
def domain_place_l0 (Φ : Phi) (fuel : Nat) (k0 : List (List D) → Int → Int → Int → Int → List UInt8 → List (List D) → Option A) (l6 : List (List D)) (i7 : Int) (i8 : Int) (i9 : Int) (i10 : Int) (s11 : List UInt8) (l12 : List (List D)) : Option A :=
(xite (decide (i8 < i7))
((xElem 4 l6 i8).bind fun c13 =>
(xif (decide (4 ≤ (c13).length))
((xDI .i64 (List.getD c13 0 (D.s []))).bind fun n14 =>
((xDI .i64 (List.getD c13 1 (D.s []))).bind fun n15 =>
((xDS (List.getD c13 2 (D.s []))).bind fun s16 =>
((xDL (List.getD c13 3 (D.s []))).bind fun l17 =>
((Φ i_value_Equal [(A.agg [(C.d (D.v (.int .i64 n14))), (C.d (D.v (.int .i64 n15))), (C.d (D.s s16)), (C.d (D.sl l17))]), (A.agg [(C.d (D.v (.int .i64 i9))), (C.d (D.v (.int .i64 i10))), (C.d (D.s s11)), (C.d (D.sl l12))])]).bind fun r18 =>
((xAD r18).bind fun d19 =>
((xDB d19).bind fun b20 =>
(xite b20
(some (A.one (C.d (D.v (.int .i64 i8)))))
(k0 l6 i7 (IntKind.i64.wrap (i8 + (1 : Int))) i9 i10 s11 l12)))))))))))
(some (A.one (C.d (D.v (.int .i64 (-1 : Int)))))))
def domain_place (Φ : Phi) (fuel : Nat) (axis1 : List (List D)) (v2 : Int) (v3 : Int) (v4 : List UInt8) (v5 : List (List D)) : Option A :=
(iter (fun (x : Unit × List (List D) × Int × Int × (Int × Int × List UInt8 × List (List D) × Unit) × Unit) (rec : (Unit × List (List D) × Int × Int × (Int × Int × List UInt8 × List (List D) × Unit) × Unit) → Option A) => domain_place_l0 Φ fuel (fun l6 i7 i8 i9 i10 s11 l12 => rec ((), l6, i7, i8, (i9, i10, s11, l12, ()), ())) x.2.1 x.2.2.1 x.2.2.2.1 x.2.2.2.2.1.1 x.2.2.2.2.1.2.1 x.2.2.2.2.1.2.2.1 x.2.2.2.2.1.2.2.2.1) fuel ((), axis1, ((axis1).length : Int), (0 : Int), (v2, v3, v4, v5, ()), ()))
theorem domain_place_eq (Φ : Phi) (fuel : Nat) (axis1 : List (List D)) (v2 : Int) (v3 : Int) (v4 : List UInt8) (v5 : List (List D)) : xbody TT0 Φ fuel sp_domain_place Try.f34 [(A.one (C.d (D.sl axis1))), (A.agg [(C.d (D.v (.int .i64 v2))), (C.d (D.v (.int .i64 v3))), (C.d (D.s v4)), (C.d (D.sl v5))])] = domain_place Φ fuel axis1 v2 v3 v4 v5 := by kernel_rfl
/-! ref19_Place -/
def sp_ref19_Place : List LSpec := [{ n := 1, m := 19, toks := [], ks := [.slot 0 (.one .sl), .slot 3 (.one (.ref 0 0)), .slot 5 (.one (.int .i64)), .box 0 (.lit [(.int .i64), (.int .i64), .str, .sl])] }]
def ref19_Place_l0 (Φ : Phi) (fuel : Nat) (k0 : List (List D) → Int → Int → Int → List UInt8 → List (List D) → Option A) (axis6 : List (List D)) (i7 : Int) (i8 : Int) (i9 : Int) (s10 : List UInt8) (l11 : List (List D)) : Option A :=
(xite (decide (i7 < ((axis6).length : Int)))
((xElem 4 axis6 i7).bind fun c12 =>
(xif (decide (4 ≤ (c12).length))
((xDI .i64 (List.getD c12 0 (D.s []))).bind fun n13 =>
((xDI .i64 (List.getD c12 1 (D.s []))).bind fun n14 =>
((xDS (List.getD c12 2 (D.s []))).bind fun s15 =>
((xDL (List.getD c12 3 (D.s []))).bind fun l16 =>
((Φ i_ref01_Equal [(A.agg [(C.d (D.v (.int .i64 n13))), (C.d (D.v (.int .i64 n14))), (C.d (D.s s15)), (C.d (D.sl l16))]), (A.agg [(C.d (D.v (.int .i64 i8))), (C.d (D.v (.int .i64 i9))), (C.d (D.s s10)), (C.d (D.sl l11))])]).bind fun r17 =>
((xAD r17).bind fun d18 =>
((xDB d18).bind fun b19 =>
(xite b19
(some (A.one (C.d (D.v (.int .i64 i7)))))
(k0 axis6 (IntKind.i64.wrap (i7 + (1 : Int))) i8 i9 s10 l11)))))))))))
(some (A.one (C.d (D.v (.int .i64 (-1 : Int)))))))
def ref19_Place (Φ : Phi) (fuel : Nat) (axis1 : List (List D)) (v2 : Int) (v3 : Int) (v4 : List UInt8) (v5 : List (List D)) : Option A :=
(iter (fun (x : List (List D) × Unit × Int × (Int × Int × List UInt8 × List (List D) × Unit) × Unit) (rec : (List (List D) × Unit × Int × (Int × Int × List UInt8 × List (List D) × Unit) × Unit) → Option A) => ref19_Place_l0 Φ fuel (fun axis6 i7 i8 i9 s10 l11 => rec (axis6, (), i7, (i8, i9, s10, l11, ()), ())) x.1 x.2.2.1 x.2.2.2.1.1 x.2.2.2.1.2.1 x.2.2.2.1.2.2.1 x.2.2.2.1.2.2.2.1) fuel (axis1, (), (0 : Int), (v2, v3, v4, v5, ()), ()))
theorem ref19_Place_eq (Φ : Phi) (fuel : Nat) (axis1 : List (List D)) (v2 : Int) (v3 : Int) (v4 : List UInt8) (v5 : List (List D)) : xbody TT0 Φ fuel sp_ref19_Place Try.f35 [(A.one (C.d (D.sl axis1))), (A.agg [(C.d (D.v (.int .i64 v2))), (C.d (D.v (.int .i64 v3))), (C.d (D.s v4)), (C.d (D.sl v5))])] = ref19_Place Φ fuel axis1 v2 v3 v4 v5 := by kernel_rfl
/-! value_Check -/
def sp_value_Check : List LSpec := []
def value_Check (Φ : Phi) (fuel : Nat) (v1 : Int) (v2 : Int) (v3 : List UInt8) (v4 : List (List D)) : Option A :=
(xite (decide (v1 < (1 : Int)))
(some (A.one (C.d (D.v (.int .i64 (3 : Int))))))
(xite (decide ((8 : Int) < v1))
(some (A.one (C.d (D.v (.int .i64 (3 : Int))))))
((Φ i_value_unused [(A.agg [(C.d (D.v (.int .i64 v1))), (C.d (D.v (.int .i64 v2))), (C.d (D.s v3)), (C.d (D.sl v4))])]).bind fun r5 =>
((xAD r5).bind fun d6 =>
((xDB d6).bind fun b7 =>
(xite (!b7)
(some (A.one (C.d (D.v (.int .i64 (4 : Int))))))
(xite (decide (v1 = (1 : Int)))
((Φ i_value_ranged [(A.one (C.d (D.v (.int .i64 v2)))), (A.one (C.d (D.v (.int .i64 (0 : Int))))), (A.one (C.d (D.v (.int .i64 (1 : Int)))))]).bind fun r8 =>
((xAD r8).bind fun d9 =>
((xDI .i64 d9).bind fun n10 =>
(some (A.one (C.d (D.v (.int .i64 n10))))))))
(xite (decide (v1 = (2 : Int)))
((Φ i_value_ranged [(A.one (C.d (D.v (.int .i64 v2)))), (A.one (C.d (D.v (.int .i64 (-1000000 : Int))))), (A.one (C.d (D.v (.int .i64 (1000000 : Int)))))]).bind fun r11 =>
((xAD r11).bind fun d12 =>
((xDI .i64 d12).bind fun n13 =>
(some (A.one (C.d (D.v (.int .i64 n13))))))))
(xite (decide (v1 = (4 : Int)))
((Φ i_value_ranged [(A.one (C.d (D.v (.int .i64 v2)))), (A.one (C.d (D.v (.int .i64 (0 : Int))))), (A.one (C.d (D.v (.int .i64 (255 : Int)))))]).bind fun r14 =>
((xAD r14).bind fun d15 =>
((xDI .i64 d15).bind fun n16 =>
(some (A.one (C.d (D.v (.int .i64 n16))))))))
(xite (decide (v1 = (8 : Int)))
((Φ i_value_sized [(A.one (C.d (D.s v3))), (A.one (C.d (D.v (.int .i64 (1 : Int))))), (A.one (C.d (D.v (.int .i64 (40 : Int)))))]).bind fun r17 =>
((xAD r17).bind fun d18 =>
((xDI .i64 d18).bind fun n19 =>
(some (A.one (C.d (D.v (.int .i64 n19))))))))
(xite (decide (v1 = (3 : Int)))
((Φ i_value_sized [(A.one (C.d (D.s v3))), (A.one (C.d (D.v (.int .i64 (0 : Int))))), (A.one (C.d (D.v (.int .i64 (64 : Int)))))]).bind fun r20 =>
((xAD r20).bind fun d21 =>
((xDI .i64 d21).bind fun n22 =>
(some (A.one (C.d (D.v (.int .i64 n22))))))))
(xite (decide (v1 = (5 : Int)))
((Φ i_value_elements [(A.one (C.d (D.sl v4))), (A.one (C.d (D.v (.int .i64 (2 : Int)))))]).bind fun r23 =>
((xAD r23).bind fun d24 =>
((xDI .i64 d24).bind fun n25 =>
(some (A.one (C.d (D.v (.int .i64 n25))))))))
(xite (decide (v1 = (6 : Int)))
((Φ i_value_elements [(A.one (C.d (D.sl v4))), (A.one (C.d (D.v (.int .i64 (3 : Int)))))]).bind fun r26 =>
((xAD r26).bind fun d27 =>
((xDI .i64 d27).bind fun n28 =>
(some (A.one (C.d (D.v (.int .i64 n28))))))))
((Φ i_value_rows [(A.one (C.d (D.sl v4)))]).bind fun r29 =>
((xAD r29).bind fun d30 =>
((xDI .i64 d30).bind fun n31 =>
(some (A.one (C.d (D.v (.int .i64 n31)))))))))))))))))))))
theorem value_Check_eq (Φ : Phi) (fuel : Nat) (v1 : Int) (v2 : Int) (v3 : List UInt8) (v4 : List (List D)) : xbody TT0 Φ fuel sp_value_Check Try.f36 [(A.agg [(C.d (D.v (.int .i64 v1))), (C.d (D.v (.int .i64 v2))), (C.d (D.s v3)), (C.d (D.sl v4))])] = value_Check Φ fuel v1 v2 v3 v4 := by kernel_rfl
/-! ref01_Check -/
def sp_ref01_Check : List LSpec := []
def ref01_Check (Φ : Phi) (fuel : Nat) (v1 : Int) (v2 : Int) (v3 : List UInt8) (v4 : List (List D)) : Option A :=
(xite (decide (v1 < (1 : Int)))
(some (A.one (C.d (D.v (.int .i64 (3 : Int))))))
(xite (decide ((8 : Int) < v1))
(some (A.one (C.d (D.v (.int .i64 (3 : Int))))))
(xite (decide (v1 = (1 : Int)))
(xite (decide (v1 = (3 : Int)))
(xite (decide ((0 : Int) < ((v4).length : Int)))
(some (A.one (C.d (D.v (.int .i64 (4 : Int))))))
(xite (decide (v1 = (1 : Int)))
((Φ i_ref01_within [(A.one (C.d (D.v (.int .i64 v2)))), (A.one (C.d (D.v (.int .i64 (0 : Int))))), (A.one (C.d (D.v (.int .i64 (1 : Int)))))]).bind fun r5 =>
((xAD r5).bind fun d6 =>
((xDI .i64 d6).bind fun n7 =>
(some (A.one (C.d (D.v (.int .i64 n7))))))))
(xite (decide (v1 = (2 : Int)))
((Φ i_ref01_within [(A.one (C.d (D.v (.int .i64 v2)))), (A.one (C.d (D.v (.int .i64 (-1000000 : Int))))), (A.one (C.d (D.v (.int .i64 (1000000 : Int)))))]).bind fun r8 =>
((xAD r8).bind fun d9 =>
((xDI .i64 d9).bind fun n10 =>
(some (A.one (C.d (D.v (.int .i64 n10))))))))
(xite (decide (v1 = (4 : Int)))
((Φ i_ref01_within [(A.one (C.d (D.v (.int .i64 v2)))), (A.one (C.d (D.v (.int .i64 (0 : Int))))), (A.one (C.d (D.v (.int .i64 (255 : Int)))))]).bind fun r11 =>
((xAD r11).bind fun d12 =>
((xDI .i64 d12).bind fun n13 =>
(some (A.one (C.d (D.v (.int .i64 n13))))))))
(xite (decide (v1 = (3 : Int)))
((Φ i_ref01_plain [(A.one (C.d (D.s v3))), (A.one (C.d (D.v (.int .i64 (0 : Int))))), (A.one (C.d (D.v (.int .i64 (64 : Int)))))]).bind fun r14 =>
((xAD r14).bind fun d15 =>
((xDI .i64 d15).bind fun n16 =>
(some (A.one (C.d (D.v (.int .i64 n16))))))))
(xite (decide (v1 = (8 : Int)))
((Φ i_ref01_plain [(A.one (C.d (D.s v3))), (A.one (C.d (D.v (.int .i64 (1 : Int))))), (A.one (C.d (D.v (.int .i64 (40 : Int)))))]).bind fun r17 =>
((xAD r17).bind fun d18 =>
((xDI .i64 d18).bind fun n19 =>
(some (A.one (C.d (D.v (.int .i64 n19))))))))
(xite (decide (v1 = (5 : Int)))
((Φ i_ref01_elements [(A.one (C.d (D.sl v4))), (A.one (C.d (D.v (.int .i64 (2 : Int)))))]).bind fun r20 =>
((xAD r20).bind fun d21 =>
((xDI .i64 d21).bind fun n22 =>
(some (A.one (C.d (D.v (.int .i64 n22))))))))
(xite (decide (v1 = (6 : Int)))
((Φ i_ref01_elements [(A.one (C.d (D.sl v4))), (A.one (C.d (D.v (.int .i64 (3 : Int)))))]).bind fun r23 =>
((xAD r23).bind fun d24 =>
((xDI .i64 d24).bind fun n25 =>
(some (A.one (C.d (D.v (.int .i64 n25))))))))
((Φ i_ref01_rows [(A.one (C.d (D.sl v4)))]).bind fun r26 =>
((xAD r26).bind fun d27 =>
((xDI .i64 d27).bind fun n28 =>
(some (A.one (C.d (D.v (.int .i64 n28))))))))))))))))
(xite (!(decide (v1 = (8 : Int))))
(xite (!decide ((v3 : List UInt8) = []))
(some (A.one (C.d (D.v (.int .i64 (4 : Int))))))
(xite (decide ((0 : Int) < ((v4).length : Int)))
(some (A.one (C.d (D.v (.int .i64 (4 : Int))))))
(xite (decide (v1 = (1 : Int)))
((Φ i_ref01_within [(A.one (C.d (D.v (.int .i64 v2)))), (A.one (C.d (D.v (.int .i64 (0 : Int))))), (A.one (C.d (D.v (.int .i64 (1 : Int)))))]).bind fun r29 =>
((xAD r29).bind fun d30 =>
((xDI .i64 d30).bind fun n31 =>
(some (A.one (C.d (D.v (.int .i64 n31))))))))
(xite (decide (v1 = (2 : Int)))
((Φ i_ref01_within [(A.one (C.d (D.v (.int .i64 v2)))), (A.one (C.d (D.v (.int .i64 (-1000000 : Int))))), (A.one (C.d (D.v (.int .i64 (1000000 : Int)))))]).bind fun r32 =>
((xAD r32).bind fun d33 =>
((xDI .i64 d33).bind fun n34 =>
(some (A.one (C.d (D.v (.int .i64 n34))))))))
(xite (decide (v1 = (4 : Int)))
((Φ i_ref01_within [(A.one (C.d (D.v (.int .i64 v2)))), (A.one (C.d (D.v (.int .i64 (0 : Int))))), (A.one (C.d (D.v (.int .i64 (255 : Int)))))]).bind fun r35 =>
((xAD r35).bind fun d36 =>
((xDI .i64 d36).bind fun n37 =>
(some (A.one (C.d (D.v (.int .i64 n37))))))))
(xite (decide (v1 = (3 : Int)))
((Φ i_ref01_plain [(A.one (C.d (D.s v3))), (A.one (C.d (D.v (.int .i64 (0 : Int))))), (A.one (C.d (D.v (.int .i64 (64 : Int)))))]).bind fun r38 =>
((xAD r38).bind fun d39 =>
((xDI .i64 d39).bind fun n40 =>
(some (A.one (C.d (D.v (.int .i64 n40))))))))
(xite (decide (v1 = (8 : Int)))
((Φ i_ref01_plain [(A.one (C.d (D.s v3))), (A.one (C.d (D.v (.int .i64 (1 : Int))))), (A.one (C.d (D.v (.int .i64 (40 : Int)))))]).bind fun r41 =>
((xAD r41).bind fun d42 =>
((xDI .i64 d42).bind fun n43 =>
(some (A.one (C.d (D.v (.int .i64 n43))))))))
(xite (decide (v1 = (5 : Int)))
((Φ i_ref01_elements [(A.one (C.d (D.sl v4))), (A.one (C.d (D.v (.int .i64 (2 : Int)))))]).bind fun r44 =>
((xAD r44).bind fun d45 =>
((xDI .i64 d45).bind fun n46 =>
(some (A.one (C.d (D.v (.int .i64 n46))))))))
(xite (decide (v1 = (6 : Int)))
((Φ i_ref01_elements [(A.one (C.d (D.sl v4))), (A.one (C.d (D.v (.int .i64 (3 : Int)))))]).bind fun r47 =>
((xAD r47).bind fun d48 =>
((xDI .i64 d48).bind fun n49 =>
(some (A.one (C.d (D.v (.int .i64 n49))))))))
((Φ i_ref01_rows [(A.one (C.d (D.sl v4)))]).bind fun r50 =>
((xAD r50).bind fun d51 =>
((xDI .i64 d51).bind fun n52 =>
(some (A.one (C.d (D.v (.int .i64 n52)))))))))))))))))
(xite (decide ((0 : Int) < ((v4).length : Int)))
(some (A.one (C.d (D.v (.int .i64 (4 : Int))))))
(xite (decide (v1 = (1 : Int)))
((Φ i_ref01_within [(A.one (C.d (D.v (.int .i64 v2)))), (A.one (C.d (D.v (.int .i64 (0 : Int))))), (A.one (C.d (D.v (.int .i64 (1 : Int)))))]).bind fun r53 =>
((xAD r53).bind fun d54 =>
((xDI .i64 d54).bind fun n55 =>
(some (A.one (C.d (D.v (.int .i64 n55))))))))
(xite (decide (v1 = (2 : Int)))
((Φ i_ref01_within [(A.one (C.d (D.v (.int .i64 v2)))), (A.one (C.d (D.v (.int .i64 (-1000000 : Int))))), (A.one (C.d (D.v (.int .i64 (1000000 : Int)))))]).bind fun r56 =>
((xAD r56).bind fun d57 =>
((xDI .i64 d57).bind fun n58 =>
(some (A.one (C.d (D.v (.int .i64 n58))))))))
(xite (decide (v1 = (4 : Int)))
((Φ i_ref01_within [(A.one (C.d (D.v (.int .i64 v2)))), (A.one (C.d (D.v (.int .i64 (0 : Int))))), (A.one (C.d (D.v (.int .i64 (255 : Int)))))]).bind fun r59 =>
((xAD r59).bind fun d60 =>
((xDI .i64 d60).bind fun n61 =>
(some (A.one (C.d (D.v (.int .i64 n61))))))))
(xite (decide (v1 = (3 : Int)))
((Φ i_ref01_plain [(A.one (C.d (D.s v3))), (A.one (C.d (D.v (.int .i64 (0 : Int))))), (A.one (C.d (D.v (.int .i64 (64 : Int)))))]).bind fun r62 =>
((xAD r62).bind fun d63 =>
((xDI .i64 d63).bind fun n64 =>
(some (A.one (C.d (D.v (.int .i64 n64))))))))
(xite (decide (v1 = (8 : Int)))
((Φ i_ref01_plain [(A.one (C.d (D.s v3))), (A.one (C.d (D.v (.int .i64 (1 : Int))))), (A.one (C.d (D.v (.int .i64 (40 : Int)))))]).bind fun r65 =>
((xAD r65).bind fun d66 =>
((xDI .i64 d66).bind fun n67 =>
(some (A.one (C.d (D.v (.int .i64 n67))))))))
(xite (decide (v1 = (5 : Int)))
((Φ i_ref01_elements [(A.one (C.d (D.sl v4))), (A.one (C.d (D.v (.int .i64 (2 : Int)))))]).bind fun r68 =>
((xAD r68).bind fun d69 =>
((xDI .i64 d69).bind fun n70 =>
(some (A.one (C.d (D.v (.int .i64 n70))))))))
(xite (decide (v1 = (6 : Int)))
((Φ i_ref01_elements [(A.one (C.d (D.sl v4))), (A.one (C.d (D.v (.int .i64 (3 : Int)))))]).bind fun r71 =>
((xAD r71).bind fun d72 =>
((xDI .i64 d72).bind fun n73 =>
(some (A.one (C.d (D.v (.int .i64 n73))))))))
((Φ i_ref01_rows [(A.one (C.d (D.sl v4)))]).bind fun r74 =>
((xAD r74).bind fun d75 =>
((xDI .i64 d75).bind fun n76 =>
(some (A.one (C.d (D.v (.int .i64 n76))))))))))))))))))
(xite (decide (v1 = (2 : Int)))
(xite (decide (v1 = (3 : Int)))
(xite (decide ((0 : Int) < ((v4).length : Int)))
(some (A.one (C.d (D.v (.int .i64 (4 : Int))))))
(xite (decide (v1 = (1 : Int)))
((Φ i_ref01_within [(A.one (C.d (D.v (.int .i64 v2)))), (A.one (C.d (D.v (.int .i64 (0 : Int))))), (A.one (C.d (D.v (.int .i64 (1 : Int)))))]).bind fun r77 =>
((xAD r77).bind fun d78 =>
((xDI .i64 d78).bind fun n79 =>
(some (A.one (C.d (D.v (.int .i64 n79))))))))
(xite (decide (v1 = (2 : Int)))
((Φ i_ref01_within [(A.one (C.d (D.v (.int .i64 v2)))), (A.one (C.d (D.v (.int .i64 (-1000000 : Int))))), (A.one (C.d (D.v (.int .i64 (1000000 : Int)))))]).bind fun r80 =>
((xAD r80).bind fun d81 =>
((xDI .i64 d81).bind fun n82 =>
(some (A.one (C.d (D.v (.int .i64 n82))))))))
(xite (decide (v1 = (4 : Int)))
((Φ i_ref01_within [(A.one (C.d (D.v (.int .i64 v2)))), (A.one (C.d (D.v (.int .i64 (0 : Int))))), (A.one (C.d (D.v (.int .i64 (255 : Int)))))]).bind fun r83 =>
((xAD r83).bind fun d84 =>
((xDI .i64 d84).bind fun n85 =>
(some (A.one (C.d (D.v (.int .i64 n85))))))))
(xite (decide (v1 = (3 : Int)))
((Φ i_ref01_plain [(A.one (C.d (D.s v3))), (A.one (C.d (D.v (.int .i64 (0 : Int))))), (A.one (C.d (D.v (.int .i64 (64 : Int)))))]).bind fun r86 =>
((xAD r86).bind fun d87 =>
((xDI .i64 d87).bind fun n88 =>
(some (A.one (C.d (D.v (.int .i64 n88))))))))
(xite (decide (v1 = (8 : Int)))
((Φ i_ref01_plain [(A.one (C.d (D.s v3))), (A.one (C.d (D.v (.int .i64 (1 : Int))))), (A.one (C.d (D.v (.int .i64 (40 : Int)))))]).bind fun r89 =>
((xAD r89).bind fun d90 =>
((xDI .i64 d90).bind fun n91 =>
(some (A.one (C.d (D.v (.int .i64 n91))))))))
(xite (decide (v1 = (5 : Int)))
((Φ i_ref01_elements [(A.one (C.d (D.sl v4))), (A.one (C.d (D.v (.int .i64 (2 : Int)))))]).bind fun r92 =>
((xAD r92).bind fun d93 =>
((xDI .i64 d93).bind fun n94 =>
(some (A.one (C.d (D.v (.int .i64 n94))))))))
(xite (decide (v1 = (6 : Int)))
((Φ i_ref01_elements [(A.one (C.d (D.sl v4))), (A.one (C.d (D.v (.int .i64 (3 : Int)))))]).bind fun r95 =>
((xAD r95).bind fun d96 =>
((xDI .i64 d96).bind fun n97 =>
(some (A.one (C.d (D.v (.int .i64 n97))))))))
((Φ i_ref01_rows [(A.one (C.d (D.sl v4)))]).bind fun r98 =>
((xAD r98).bind fun d99 =>
((xDI .i64 d99).bind fun n100 =>
(some (A.one (C.d (D.v (.int .i64 n100))))))))))))))))
(xite (!(decide (v1 = (8 : Int))))
(xite (!decide ((v3 : List UInt8) = []))
(some (A.one (C.d (D.v (.int .i64 (4 : Int))))))
(xite (decide ((0 : Int) < ((v4).length : Int)))
(some (A.one (C.d (D.v (.int .i64 (4 : Int))))))
(xite (decide (v1 = (1 : Int)))
((Φ i_ref01_within [(A.one (C.d (D.v (.int .i64 v2)))), (A.one (C.d (D.v (.int .i64 (0 : Int))))), (A.one (C.d (D.v (.int .i64 (1 : Int)))))]).bind fun r101 =>
((xAD r101).bind fun d102 =>
((xDI .i64 d102).bind fun n103 =>
(some (A.one (C.d (D.v (.int .i64 n103))))))))
(xite (decide (v1 = (2 : Int)))
((Φ i_ref01_within [(A.one (C.d (D.v (.int .i64 v2)))), (A.one (C.d (D.v (.int .i64 (-1000000 : Int))))), (A.one (C.d (D.v (.int .i64 (1000000 : Int)))))]).bind fun r104 =>
((xAD r104).bind fun d105 =>
((xDI .i64 d105).bind fun n106 =>
(some (A.one (C.d (D.v (.int .i64 n106))))))))
(xite (decide (v1 = (4 : Int)))
((Φ i_ref01_within [(A.one (C.d (D.v (.int .i64 v2)))), (A.one (C.d (D.v (.int .i64 (0 : Int))))), (A.one (C.d (D.v (.int .i64 (255 : Int)))))]).bind fun r107 =>
((xAD r107).bind fun d108 =>
((xDI .i64 d108).bind fun n109 =>
(some (A.one (C.d (D.v (.int .i64 n109))))))))
(xite (decide (v1 = (3 : Int)))
((Φ i_ref01_plain [(A.one (C.d (D.s v3))), (A.one (C.d (D.v (.int .i64 (0 : Int))))), (A.one (C.d (D.v (.int .i64 (64 : Int)))))]).bind fun r110 =>
((xAD r110).bind fun d111 =>
((xDI .i64 d111).bind fun n112 =>
(some (A.one (C.d (D.v (.int .i64 n112))))))))
(xite (decide (v1 = (8 : Int)))
((Φ i_ref01_plain [(A.one (C.d (D.s v3))), (A.one (C.d (D.v (.int .i64 (1 : Int))))), (A.one (C.d (D.v (.int .i64 (40 : Int)))))]).bind fun r113 =>
((xAD r113).bind fun d114 =>
((xDI .i64 d114).bind fun n115 =>
(some (A.one (C.d (D.v (.int .i64 n115))))))))
(xite (decide (v1 = (5 : Int)))
((Φ i_ref01_elements [(A.one (C.d (D.sl v4))), (A.one (C.d (D.v (.int .i64 (2 : Int)))))]).bind fun r116 =>
((xAD r116).bind fun d117 =>
((xDI .i64 d117).bind fun n118 =>
(some (A.one (C.d (D.v (.int .i64 n118))))))))
(xite (decide (v1 = (6 : Int)))
((Φ i_ref01_elements [(A.one (C.d (D.sl v4))), (A.one (C.d (D.v (.int .i64 (3 : Int)))))]).bind fun r119 =>
((xAD r119).bind fun d120 =>
((xDI .i64 d120).bind fun n121 =>
(some (A.one (C.d (D.v (.int .i64 n121))))))))
((Φ i_ref01_rows [(A.one (C.d (D.sl v4)))]).bind fun r122 =>
((xAD r122).bind fun d123 =>
((xDI .i64 d123).bind fun n124 =>
(some (A.one (C.d (D.v (.int .i64 n124)))))))))))))))))
(xite (decide ((0 : Int) < ((v4).length : Int)))
(some (A.one (C.d (D.v (.int .i64 (4 : Int))))))
(xite (decide (v1 = (1 : Int)))
((Φ i_ref01_within [(A.one (C.d (D.v (.int .i64 v2)))), (A.one (C.d (D.v (.int .i64 (0 : Int))))), (A.one (C.d (D.v (.int .i64 (1 : Int)))))]).bind fun r125 =>
((xAD r125).bind fun d126 =>
((xDI .i64 d126).bind fun n127 =>
(some (A.one (C.d (D.v (.int .i64 n127))))))))
(xite (decide (v1 = (2 : Int)))
((Φ i_ref01_within [(A.one (C.d (D.v (.int .i64 v2)))), (A.one (C.d (D.v (.int .i64 (-1000000 : Int))))), (A.one (C.d (D.v (.int .i64 (1000000 : Int)))))]).bind fun r128 =>
((xAD r128).bind fun d129 =>
((xDI .i64 d129).bind fun n130 =>
(some (A.one (C.d (D.v (.int .i64 n130))))))))
(xite (decide (v1 = (4 : Int)))
((Φ i_ref01_within [(A.one (C.d (D.v (.int .i64 v2)))), (A.one (C.d (D.v (.int .i64 (0 : Int))))), (A.one (C.d (D.v (.int .i64 (255 : Int)))))]).bind fun r131 =>
((xAD r131).bind fun d132 =>
((xDI .i64 d132).bind fun n133 =>
(some (A.one (C.d (D.v (.int .i64 n133))))))))
(xite (decide (v1 = (3 : Int)))
((Φ i_ref01_plain [(A.one (C.d (D.s v3))), (A.one (C.d (D.v (.int .i64 (0 : Int))))), (A.one (C.d (D.v (.int .i64 (64 : Int)))))]).bind fun r134 =>
((xAD r134).bind fun d135 =>
((xDI .i64 d135).bind fun n136 =>
(some (A.one (C.d (D.v (.int .i64 n136))))))))
(xite (decide (v1 = (8 : Int)))
((Φ i_ref01_plain [(A.one (C.d (D.s v3))), (A.one (C.d (D.v (.int .i64 (1 : Int))))), (A.one (C.d (D.v (.int .i64 (40 : Int)))))]).bind fun r137 =>
((xAD r137).bind fun d138 =>
((xDI .i64 d138).bind fun n139 =>
(some (A.one (C.d (D.v (.int .i64 n139))))))))
(xite (decide (v1 = (5 : Int)))
((Φ i_ref01_elements [(A.one (C.d (D.sl v4))), (A.one (C.d (D.v (.int .i64 (2 : Int)))))]).bind fun r140 =>
((xAD r140).bind fun d141 =>
((xDI .i64 d141).bind fun n142 =>
(some (A.one (C.d (D.v (.int .i64 n142))))))))
(xite (decide (v1 = (6 : Int)))
((Φ i_ref01_elements [(A.one (C.d (D.sl v4))), (A.one (C.d (D.v (.int .i64 (3 : Int)))))]).bind fun r143 =>
((xAD r143).bind fun d144 =>
((xDI .i64 d144).bind fun n145 =>
(some (A.one (C.d (D.v (.int .i64 n145))))))))
((Φ i_ref01_rows [(A.one (C.d (D.sl v4)))]).bind fun r146 =>
((xAD r146).bind fun d147 =>
((xDI .i64 d147).bind fun n148 =>
(some (A.one (C.d (D.v (.int .i64 n148))))))))))))))))))
(xite (decide (v1 = (3 : Int)))
(xite (!(decide (v1 = (4 : Int))))
(xite (!decide (v2 = (0 : Int)))
(some (A.one (C.d (D.v (.int .i64 (4 : Int))))))
(xite (decide (v1 = (4 : Int)))
(xite (decide ((0 : Int) < ((v4).length : Int)))
(some (A.one (C.d (D.v (.int .i64 (4 : Int))))))
(xite (decide (v1 = (1 : Int)))
((Φ i_ref01_within [(A.one (C.d (D.v (.int .i64 v2)))), (A.one (C.d (D.v (.int .i64 (0 : Int))))), (A.one (C.d (D.v (.int .i64 (1 : Int)))))]).bind fun r149 =>
((xAD r149).bind fun d150 =>
((xDI .i64 d150).bind fun n151 =>
(some (A.one (C.d (D.v (.int .i64 n151))))))))
(xite (decide (v1 = (2 : Int)))
((Φ i_ref01_within [(A.one (C.d (D.v (.int .i64 v2)))), (A.one (C.d (D.v (.int .i64 (-1000000 : Int))))), (A.one (C.d (D.v (.int .i64 (1000000 : Int)))))]).bind fun r152 =>
((xAD r152).bind fun d153 =>
((xDI .i64 d153).bind fun n154 =>
(some (A.one (C.d (D.v (.int .i64 n154))))))))
(xite (decide (v1 = (4 : Int)))
((Φ i_ref01_within [(A.one (C.d (D.v (.int .i64 v2)))), (A.one (C.d (D.v (.int .i64 (0 : Int))))), (A.one (C.d (D.v (.int .i64 (255 : Int)))))]).bind fun r155 =>
((xAD r155).bind fun d156 =>
((xDI .i64 d156).bind fun n157 =>
(some (A.one (C.d (D.v (.int .i64 n157))))))))
(xite (decide (v1 = (3 : Int)))
((Φ i_ref01_plain [(A.one (C.d (D.s v3))), (A.one (C.d (D.v (.int .i64 (0 : Int))))), (A.one (C.d (D.v (.int .i64 (64 : Int)))))]).bind fun r158 =>
((xAD r158).bind fun d159 =>
((xDI .i64 d159).bind fun n160 =>
(some (A.one (C.d (D.v (.int .i64 n160))))))))
(xite (decide (v1 = (8 : Int)))
((Φ i_ref01_plain [(A.one (C.d (D.s v3))), (A.one (C.d (D.v (.int .i64 (1 : Int))))), (A.one (C.d (D.v (.int .i64 (40 : Int)))))]).bind fun r161 =>
((xAD r161).bind fun d162 =>
((xDI .i64 d162).bind fun n163 =>
(some (A.one (C.d (D.v (.int .i64 n163))))))))
(xite (decide (v1 = (5 : Int)))
((Φ i_ref01_elements [(A.one (C.d (D.sl v4))), (A.one (C.d (D.v (.int .i64 (2 : Int)))))]).bind fun r164 =>
((xAD r164).bind fun d165 =>
((xDI .i64 d165).bind fun n166 =>
(some (A.one (C.d (D.v (.int .i64 n166))))))))
(xite (decide (v1 = (6 : Int)))
((Φ i_ref01_elements [(A.one (C.d (D.sl v4))), (A.one (C.d (D.v (.int .i64 (3 : Int)))))]).bind fun r167 =>
((xAD r167).bind fun d168 =>
((xDI .i64 d168).bind fun n169 =>
(some (A.one (C.d (D.v (.int .i64 n169))))))))
((Φ i_ref01_rows [(A.one (C.d (D.sl v4)))]).bind fun r170 =>
((xAD r170).bind fun d171 =>
((xDI .i64 d171).bind fun n172 =>
(some (A.one (C.d (D.v (.int .i64 n172))))))))))))))))
(xite (decide ((0 : Int) < ((v4).length : Int)))
(some (A.one (C.d (D.v (.int .i64 (4 : Int))))))
(xite (decide (v1 = (1 : Int)))
((Φ i_ref01_within [(A.one (C.d (D.v (.int .i64 v2)))), (A.one (C.d (D.v (.int .i64 (0 : Int))))), (A.one (C.d (D.v (.int .i64 (1 : Int)))))]).bind fun r173 =>
((xAD r173).bind fun d174 =>
((xDI .i64 d174).bind fun n175 =>
(some (A.one (C.d (D.v (.int .i64 n175))))))))
(xite (decide (v1 = (2 : Int)))
((Φ i_ref01_within [(A.one (C.d (D.v (.int .i64 v2)))), (A.one (C.d (D.v (.int .i64 (-1000000 : Int))))), (A.one (C.d (D.v (.int .i64 (1000000 : Int)))))]).bind fun r176 =>
((xAD r176).bind fun d177 =>
((xDI .i64 d177).bind fun n178 =>
(some (A.one (C.d (D.v (.int .i64 n178))))))))
(xite (decide (v1 = (4 : Int)))
((Φ i_ref01_within [(A.one (C.d (D.v (.int .i64 v2)))), (A.one (C.d (D.v (.int .i64 (0 : Int))))), (A.one (C.d (D.v (.int .i64 (255 : Int)))))]).bind fun r179 =>
((xAD r179).bind fun d180 =>
((xDI .i64 d180).bind fun n181 =>
(some (A.one (C.d (D.v (.int .i64 n181))))))))
(xite (decide (v1 = (3 : Int)))
((Φ i_ref01_plain [(A.one (C.d (D.s v3))), (A.one (C.d (D.v (.int .i64 (0 : Int))))), (A.one (C.d (D.v (.int .i64 (64 : Int)))))]).bind fun r182 =>
((xAD r182).bind fun d183 =>
((xDI .i64 d183).bind fun n184 =>
(some (A.one (C.d (D.v (.int .i64 n184))))))))
(xite (decide (v1 = (8 : Int)))
((Φ i_ref01_plain [(A.one (C.d (D.s v3))), (A.one (C.d (D.v (.int .i64 (1 : Int))))), (A.one (C.d (D.v (.int .i64 (40 : Int)))))]).bind fun r185 =>
((xAD r185).bind fun d186 =>
((xDI .i64 d186).bind fun n187 =>
(some (A.one (C.d (D.v (.int .i64 n187))))))))
(xite (decide (v1 = (5 : Int)))
((Φ i_ref01_elements [(A.one (C.d (D.sl v4))), (A.one (C.d (D.v (.int .i64 (2 : Int)))))]).bind fun r188 =>
((xAD r188).bind fun d189 =>
((xDI .i64 d189).bind fun n190 =>
(some (A.one (C.d (D.v (.int .i64 n190))))))))
(xite (decide (v1 = (6 : Int)))
((Φ i_ref01_elements [(A.one (C.d (D.sl v4))), (A.one (C.d (D.v (.int .i64 (3 : Int)))))]).bind fun r191 =>
((xAD r191).bind fun d192 =>
((xDI .i64 d192).bind fun n193 =>
(some (A.one (C.d (D.v (.int .i64 n193))))))))
((Φ i_ref01_rows [(A.one (C.d (D.sl v4)))]).bind fun r194 =>
((xAD r194).bind fun d195 =>
((xDI .i64 d195).bind fun n196 =>
(some (A.one (C.d (D.v (.int .i64 n196))))))))))))))))))
(xite (decide (v1 = (4 : Int)))
(xite (decide ((0 : Int) < ((v4).length : Int)))
(some (A.one (C.d (D.v (.int .i64 (4 : Int))))))
(xite (decide (v1 = (1 : Int)))
((Φ i_ref01_within [(A.one (C.d (D.v (.int .i64 v2)))), (A.one (C.d (D.v (.int .i64 (0 : Int))))), (A.one (C.d (D.v (.int .i64 (1 : Int)))))]).bind fun r197 =>
((xAD r197).bind fun d198 =>
((xDI .i64 d198).bind fun n199 =>
(some (A.one (C.d (D.v (.int .i64 n199))))))))
(xite (decide (v1 = (2 : Int)))
((Φ i_ref01_within [(A.one (C.d (D.v (.int .i64 v2)))), (A.one (C.d (D.v (.int .i64 (-1000000 : Int))))), (A.one (C.d (D.v (.int .i64 (1000000 : Int)))))]).bind fun r200 =>
((xAD r200).bind fun d201 =>
((xDI .i64 d201).bind fun n202 =>
(some (A.one (C.d (D.v (.int .i64 n202))))))))
(xite (decide (v1 = (4 : Int)))
((Φ i_ref01_within [(A.one (C.d (D.v (.int .i64 v2)))), (A.one (C.d (D.v (.int .i64 (0 : Int))))), (A.one (C.d (D.v (.int .i64 (255 : Int)))))]).bind fun r203 =>
((xAD r203).bind fun d204 =>
((xDI .i64 d204).bind fun n205 =>
(some (A.one (C.d (D.v (.int .i64 n205))))))))
(xite (decide (v1 = (3 : Int)))
((Φ i_ref01_plain [(A.one (C.d (D.s v3))), (A.one (C.d (D.v (.int .i64 (0 : Int))))), (A.one (C.d (D.v (.int .i64 (64 : Int)))))]).bind fun r206 =>
((xAD r206).bind fun d207 =>
((xDI .i64 d207).bind fun n208 =>
(some (A.one (C.d (D.v (.int .i64 n208))))))))
(xite (decide (v1 = (8 : Int)))
((Φ i_ref01_plain [(A.one (C.d (D.s v3))), (A.one (C.d (D.v (.int .i64 (1 : Int))))), (A.one (C.d (D.v (.int .i64 (40 : Int)))))]).bind fun r209 =>
((xAD r209).bind fun d210 =>
((xDI .i64 d210).bind fun n211 =>
(some (A.one (C.d (D.v (.int .i64 n211))))))))
(xite (decide (v1 = (5 : Int)))
((Φ i_ref01_elements [(A.one (C.d (D.sl v4))), (A.one (C.d (D.v (.int .i64 (2 : Int)))))]).bind fun r212 =>
((xAD r212).bind fun d213 =>
((xDI .i64 d213).bind fun n214 =>
(some (A.one (C.d (D.v (.int .i64 n214))))))))
(xite (decide (v1 = (6 : Int)))
((Φ i_ref01_elements [(A.one (C.d (D.sl v4))), (A.one (C.d (D.v (.int .i64 (3 : Int)))))]).bind fun r215 =>
((xAD r215).bind fun d216 =>
((xDI .i64 d216).bind fun n217 =>
(some (A.one (C.d (D.v (.int .i64 n217))))))))
((Φ i_ref01_rows [(A.one (C.d (D.sl v4)))]).bind fun r218 =>
((xAD r218).bind fun d219 =>
((xDI .i64 d219).bind fun n220 =>
(some (A.one (C.d (D.v (.int .i64 n220))))))))))))))))
(xite (decide ((0 : Int) < ((v4).length : Int)))
(some (A.one (C.d (D.v (.int .i64 (4 : Int))))))
(xite (decide (v1 = (1 : Int)))
((Φ i_ref01_within [(A.one (C.d (D.v (.int .i64 v2)))), (A.one (C.d (D.v (.int .i64 (0 : Int))))), (A.one (C.d (D.v (.int .i64 (1 : Int)))))]).bind fun r221 =>
((xAD r221).bind fun d222 =>
((xDI .i64 d222).bind fun n223 =>
(some (A.one (C.d (D.v (.int .i64 n223))))))))
(xite (decide (v1 = (2 : Int)))
((Φ i_ref01_within [(A.one (C.d (D.v (.int .i64 v2)))), (A.one (C.d (D.v (.int .i64 (-1000000 : Int))))), (A.one (C.d (D.v (.int .i64 (1000000 : Int)))))]).bind fun r224 =>
((xAD r224).bind fun d225 =>
((xDI .i64 d225).bind fun n226 =>
(some (A.one (C.d (D.v (.int .i64 n226))))))))
(xite (decide (v1 = (4 : Int)))
((Φ i_ref01_within [(A.one (C.d (D.v (.int .i64 v2)))), (A.one (C.d (D.v (.int .i64 (0 : Int))))), (A.one (C.d (D.v (.int .i64 (255 : Int)))))]).bind fun r227 =>
((xAD r227).bind fun d228 =>
((xDI .i64 d228).bind fun n229 =>
(some (A.one (C.d (D.v (.int .i64 n229))))))))
(xite (decide (v1 = (3 : Int)))
((Φ i_ref01_plain [(A.one (C.d (D.s v3))), (A.one (C.d (D.v (.int .i64 (0 : Int))))), (A.one (C.d (D.v (.int .i64 (64 : Int)))))]).bind fun r230 =>
((xAD r230).bind fun d231 =>
((xDI .i64 d231).bind fun n232 =>
(some (A.one (C.d (D.v (.int .i64 n232))))))))
(xite (decide (v1 = (8 : Int)))
((Φ i_ref01_plain [(A.one (C.d (D.s v3))), (A.one (C.d (D.v (.int .i64 (1 : Int))))), (A.one (C.d (D.v (.int .i64 (40 : Int)))))]).bind fun r233 =>
((xAD r233).bind fun d234 =>
((xDI .i64 d234).bind fun n235 =>
(some (A.one (C.d (D.v (.int .i64 n235))))))))
(xite (decide (v1 = (5 : Int)))
((Φ i_ref01_elements [(A.one (C.d (D.sl v4))), (A.one (C.d (D.v (.int .i64 (2 : Int)))))]).bind fun r236 =>
((xAD r236).bind fun d237 =>
((xDI .i64 d237).bind fun n238 =>
(some (A.one (C.d (D.v (.int .i64 n238))))))))
(xite (decide (v1 = (6 : Int)))
((Φ i_ref01_elements [(A.one (C.d (D.sl v4))), (A.one (C.d (D.v (.int .i64 (3 : Int)))))]).bind fun r239 =>
((xAD r239).bind fun d240 =>
((xDI .i64 d240).bind fun n241 =>
(some (A.one (C.d (D.v (.int .i64 n241))))))))
((Φ i_ref01_rows [(A.one (C.d (D.sl v4)))]).bind fun r242 =>
((xAD r242).bind fun d243 =>
((xDI .i64 d243).bind fun n244 =>
(some (A.one (C.d (D.v (.int .i64 n244))))))))))))))))))
(xite (!(decide (v1 = (4 : Int))))
(xite (!decide (v2 = (0 : Int)))
(some (A.one (C.d (D.v (.int .i64 (4 : Int))))))
(xite (!(decide (v1 = (8 : Int))))
(xite (!decide ((v3 : List UInt8) = []))
(some (A.one (C.d (D.v (.int .i64 (4 : Int))))))
(xite (decide (v1 = (4 : Int)))
(xite (decide ((0 : Int) < ((v4).length : Int)))
(some (A.one (C.d (D.v (.int .i64 (4 : Int))))))
(xite (decide (v1 = (1 : Int)))
((Φ i_ref01_within [(A.one (C.d (D.v (.int .i64 v2)))), (A.one (C.d (D.v (.int .i64 (0 : Int))))), (A.one (C.d (D.v (.int .i64 (1 : Int)))))]).bind fun r245 =>
((xAD r245).bind fun d246 =>
((xDI .i64 d246).bind fun n247 =>
(some (A.one (C.d (D.v (.int .i64 n247))))))))
(xite (decide (v1 = (2 : Int)))
((Φ i_ref01_within [(A.one (C.d (D.v (.int .i64 v2)))), (A.one (C.d (D.v (.int .i64 (-1000000 : Int))))), (A.one (C.d (D.v (.int .i64 (1000000 : Int)))))]).bind fun r248 =>
((xAD r248).bind fun d249 =>
((xDI .i64 d249).bind fun n250 =>
(some (A.one (C.d (D.v (.int .i64 n250))))))))
(xite (decide (v1 = (4 : Int)))
((Φ i_ref01_within [(A.one (C.d (D.v (.int .i64 v2)))), (A.one (C.d (D.v (.int .i64 (0 : Int))))), (A.one (C.d (D.v (.int .i64 (255 : Int)))))]).bind fun r251 =>
((xAD r251).bind fun d252 =>
((xDI .i64 d252).bind fun n253 =>
(some (A.one (C.d (D.v (.int .i64 n253))))))))
(xite (decide (v1 = (3 : Int)))
((Φ i_ref01_plain [(A.one (C.d (D.s v3))), (A.one (C.d (D.v (.int .i64 (0 : Int))))), (A.one (C.d (D.v (.int .i64 (64 : Int)))))]).bind fun r254 =>
((xAD r254).bind fun d255 =>
((xDI .i64 d255).bind fun n256 =>
(some (A.one (C.d (D.v (.int .i64 n256))))))))
(xite (decide (v1 = (8 : Int)))
((Φ i_ref01_plain [(A.one (C.d (D.s v3))), (A.one (C.d (D.v (.int .i64 (1 : Int))))), (A.one (C.d (D.v (.int .i64 (40 : Int)))))]).bind fun r257 =>
((xAD r257).bind fun d258 =>
((xDI .i64 d258).bind fun n259 =>
(some (A.one (C.d (D.v (.int .i64 n259))))))))
(xite (decide (v1 = (5 : Int)))
((Φ i_ref01_elements [(A.one (C.d (D.sl v4))), (A.one (C.d (D.v (.int .i64 (2 : Int)))))]).bind fun r260 =>
((xAD r260).bind fun d261 =>
((xDI .i64 d261).bind fun n262 =>
(some (A.one (C.d (D.v (.int .i64 n262))))))))
(xite (decide (v1 = (6 : Int)))
((Φ i_ref01_elements [(A.one (C.d (D.sl v4))), (A.one (C.d (D.v (.int .i64 (3 : Int)))))]).bind fun r263 =>
((xAD r263).bind fun d264 =>
((xDI .i64 d264).bind fun n265 =>
(some (A.one (C.d (D.v (.int .i64 n265))))))))
((Φ i_ref01_rows [(A.one (C.d (D.sl v4)))]).bind fun r266 =>
((xAD r266).bind fun d267 =>
((xDI .i64 d267).bind fun n268 =>
(some (A.one (C.d (D.v (.int .i64 n268))))))))))))))))
(xite (decide (v1 = (8 : Int)))
(xite (decide ((0 : Int) < ((v4).length : Int)))
(some (A.one (C.d (D.v (.int .i64 (4 : Int))))))
(xite (decide (v1 = (1 : Int)))
((Φ i_ref01_within [(A.one (C.d (D.v (.int .i64 v2)))), (A.one (C.d (D.v (.int .i64 (0 : Int))))), (A.one (C.d (D.v (.int .i64 (1 : Int)))))]).bind fun r269 =>
((xAD r269).bind fun d270 =>
((xDI .i64 d270).bind fun n271 =>
(some (A.one (C.d (D.v (.int .i64 n271))))))))
(xite (decide (v1 = (2 : Int)))
((Φ i_ref01_within [(A.one (C.d (D.v (.int .i64 v2)))), (A.one (C.d (D.v (.int .i64 (-1000000 : Int))))), (A.one (C.d (D.v (.int .i64 (1000000 : Int)))))]).bind fun r272 =>
((xAD r272).bind fun d273 =>
((xDI .i64 d273).bind fun n274 =>
(some (A.one (C.d (D.v (.int .i64 n274))))))))
(xite (decide (v1 = (4 : Int)))
((Φ i_ref01_within [(A.one (C.d (D.v (.int .i64 v2)))), (A.one (C.d (D.v (.int .i64 (0 : Int))))), (A.one (C.d (D.v (.int .i64 (255 : Int)))))]).bind fun r275 =>
((xAD r275).bind fun d276 =>
((xDI .i64 d276).bind fun n277 =>
(some (A.one (C.d (D.v (.int .i64 n277))))))))
(xite (decide (v1 = (3 : Int)))
((Φ i_ref01_plain [(A.one (C.d (D.s v3))), (A.one (C.d (D.v (.int .i64 (0 : Int))))), (A.one (C.d (D.v (.int .i64 (64 : Int)))))]).bind fun r278 =>
((xAD r278).bind fun d279 =>
((xDI .i64 d279).bind fun n280 =>
(some (A.one (C.d (D.v (.int .i64 n280))))))))
(xite (decide (v1 = (8 : Int)))
((Φ i_ref01_plain [(A.one (C.d (D.s v3))), (A.one (C.d (D.v (.int .i64 (1 : Int))))), (A.one (C.d (D.v (.int .i64 (40 : Int)))))]).bind fun r281 =>
((xAD r281).bind fun d282 =>
((xDI .i64 d282).bind fun n283 =>
(some (A.one (C.d (D.v (.int .i64 n283))))))))
(xite (decide (v1 = (5 : Int)))
((Φ i_ref01_elements [(A.one (C.d (D.sl v4))), (A.one (C.d (D.v (.int .i64 (2 : Int)))))]).bind fun r284 =>
((xAD r284).bind fun d285 =>
((xDI .i64 d285).bind fun n286 =>
(some (A.one (C.d (D.v (.int .i64 n286))))))))
(xite (decide (v1 = (6 : Int)))
((Φ i_ref01_elements [(A.one (C.d (D.sl v4))), (A.one (C.d (D.v (.int .i64 (3 : Int)))))]).bind fun r287 =>
((xAD r287).bind fun d288 =>
((xDI .i64 d288).bind fun n289 =>
(some (A.one (C.d (D.v (.int .i64 n289))))))))
((Φ i_ref01_rows [(A.one (C.d (D.sl v4)))]).bind fun r290 =>
((xAD r290).bind fun d291 =>
((xDI .i64 d291).bind fun n292 =>
(some (A.one (C.d (D.v (.int .i64 n292))))))))))))))))
(xite (decide (v1 = (1 : Int)))
((Φ i_ref01_within [(A.one (C.d (D.v (.int .i64 v2)))), (A.one (C.d (D.v (.int .i64 (0 : Int))))), (A.one (C.d (D.v (.int .i64 (1 : Int)))))]).bind fun r293 =>
((xAD r293).bind fun d294 =>
((xDI .i64 d294).bind fun n295 =>
(some (A.one (C.d (D.v (.int .i64 n295))))))))
(xite (decide (v1 = (2 : Int)))
((Φ i_ref01_within [(A.one (C.d (D.v (.int .i64 v2)))), (A.one (C.d (D.v (.int .i64 (-1000000 : Int))))), (A.one (C.d (D.v (.int .i64 (1000000 : Int)))))]).bind fun r296 =>
((xAD r296).bind fun d297 =>
((xDI .i64 d297).bind fun n298 =>
(some (A.one (C.d (D.v (.int .i64 n298))))))))
(xite (decide (v1 = (4 : Int)))
((Φ i_ref01_within [(A.one (C.d (D.v (.int .i64 v2)))), (A.one (C.d (D.v (.int .i64 (0 : Int))))), (A.one (C.d (D.v (.int .i64 (255 : Int)))))]).bind fun r299 =>
((xAD r299).bind fun d300 =>
((xDI .i64 d300).bind fun n301 =>
(some (A.one (C.d (D.v (.int .i64 n301))))))))
(xite (decide (v1 = (3 : Int)))
((Φ i_ref01_plain [(A.one (C.d (D.s v3))), (A.one (C.d (D.v (.int .i64 (0 : Int))))), (A.one (C.d (D.v (.int .i64 (64 : Int)))))]).bind fun r302 =>
((xAD r302).bind fun d303 =>
((xDI .i64 d303).bind fun n304 =>
(some (A.one (C.d (D.v (.int .i64 n304))))))))
(xite (decide (v1 = (8 : Int)))
((Φ i_ref01_plain [(A.one (C.d (D.s v3))), (A.one (C.d (D.v (.int .i64 (1 : Int))))), (A.one (C.d (D.v (.int .i64 (40 : Int)))))]).bind fun r305 =>
((xAD r305).bind fun d306 =>
((xDI .i64 d306).bind fun n307 =>
(some (A.one (C.d (D.v (.int .i64 n307))))))))
(xite (decide (v1 = (5 : Int)))
((Φ i_ref01_elements [(A.one (C.d (D.sl v4))), (A.one (C.d (D.v (.int .i64 (2 : Int)))))]).bind fun r308 =>
((xAD r308).bind fun d309 =>
((xDI .i64 d309).bind fun n310 =>
(some (A.one (C.d (D.v (.int .i64 n310))))))))
(xite (decide (v1 = (6 : Int)))
((Φ i_ref01_elements [(A.one (C.d (D.sl v4))), (A.one (C.d (D.v (.int .i64 (3 : Int)))))]).bind fun r311 =>
((xAD r311).bind fun d312 =>
((xDI .i64 d312).bind fun n313 =>
(some (A.one (C.d (D.v (.int .i64 n313))))))))
((Φ i_ref01_rows [(A.one (C.d (D.sl v4)))]).bind fun r314 =>
((xAD r314).bind fun d315 =>
((xDI .i64 d315).bind fun n316 =>
(some (A.one (C.d (D.v (.int .i64 n316))))))))))))))))))
(xite (decide (v1 = (4 : Int)))
(xite (decide ((0 : Int) < ((v4).length : Int)))
(some (A.one (C.d (D.v (.int .i64 (4 : Int))))))
(xite (decide (v1 = (1 : Int)))
((Φ i_ref01_within [(A.one (C.d (D.v (.int .i64 v2)))), (A.one (C.d (D.v (.int .i64 (0 : Int))))), (A.one (C.d (D.v (.int .i64 (1 : Int)))))]).bind fun r317 =>
((xAD r317).bind fun d318 =>
((xDI .i64 d318).bind fun n319 =>
(some (A.one (C.d (D.v (.int .i64 n319))))))))
(xite (decide (v1 = (2 : Int)))
((Φ i_ref01_within [(A.one (C.d (D.v (.int .i64 v2)))), (A.one (C.d (D.v (.int .i64 (-1000000 : Int))))), (A.one (C.d (D.v (.int .i64 (1000000 : Int)))))]).bind fun r320 =>
((xAD r320).bind fun d321 =>
((xDI .i64 d321).bind fun n322 =>
(some (A.one (C.d (D.v (.int .i64 n322))))))))
(xite (decide (v1 = (4 : Int)))
((Φ i_ref01_within [(A.one (C.d (D.v (.int .i64 v2)))), (A.one (C.d (D.v (.int .i64 (0 : Int))))), (A.one (C.d (D.v (.int .i64 (255 : Int)))))]).bind fun r323 =>
((xAD r323).bind fun d324 =>
((xDI .i64 d324).bind fun n325 =>
(some (A.one (C.d (D.v (.int .i64 n325))))))))
(xite (decide (v1 = (3 : Int)))
((Φ i_ref01_plain [(A.one (C.d (D.s v3))), (A.one (C.d (D.v (.int .i64 (0 : Int))))), (A.one (C.d (D.v (.int .i64 (64 : Int)))))]).bind fun r326 =>
((xAD r326).bind fun d327 =>
((xDI .i64 d327).bind fun n328 =>
(some (A.one (C.d (D.v (.int .i64 n328))))))))
(xite (decide (v1 = (8 : Int)))
((Φ i_ref01_plain [(A.one (C.d (D.s v3))), (A.one (C.d (D.v (.int .i64 (1 : Int))))), (A.one (C.d (D.v (.int .i64 (40 : Int)))))]).bind fun r329 =>
((xAD r329).bind fun d330 =>
((xDI .i64 d330).bind fun n331 =>
(some (A.one (C.d (D.v (.int .i64 n331))))))))
(xite (decide (v1 = (5 : Int)))
((Φ i_ref01_elements [(A.one (C.d (D.sl v4))), (A.one (C.d (D.v (.int .i64 (2 : Int)))))]).bind fun r332 =>
((xAD r332).bind fun d333 =>
((xDI .i64 d333).bind fun n334 =>
(some (A.one (C.d (D.v (.int .i64 n334))))))))
(xite (decide (v1 = (6 : Int)))
((Φ i_ref01_elements [(A.one (C.d (D.sl v4))), (A.one (C.d (D.v (.int .i64 (3 : Int)))))]).bind fun r335 =>
((xAD r335).bind fun d336 =>
((xDI .i64 d336).bind fun n337 =>
(some (A.one (C.d (D.v (.int .i64 n337))))))))
((Φ i_ref01_rows [(A.one (C.d (D.sl v4)))]).bind fun r338 =>
((xAD r338).bind fun d339 =>
((xDI .i64 d339).bind fun n340 =>
(some (A.one (C.d (D.v (.int .i64 n340))))))))))))))))
(xite (decide (v1 = (8 : Int)))
(xite (decide ((0 : Int) < ((v4).length : Int)))
(some (A.one (C.d (D.v (.int .i64 (4 : Int))))))
(xite (decide (v1 = (1 : Int)))
((Φ i_ref01_within [(A.one (C.d (D.v (.int .i64 v2)))), (A.one (C.d (D.v (.int .i64 (0 : Int))))), (A.one (C.d (D.v (.int .i64 (1 : Int)))))]).bind fun r341 =>
((xAD r341).bind fun d342 =>
((xDI .i64 d342).bind fun n343 =>
(some (A.one (C.d (D.v (.int .i64 n343))))))))
(xite (decide (v1 = (2 : Int)))
((Φ i_ref01_within [(A.one (C.d (D.v (.int .i64 v2)))), (A.one (C.d (D.v (.int .i64 (-1000000 : Int))))), (A.one (C.d (D.v (.int .i64 (1000000 : Int)))))]).bind fun r344 =>
((xAD r344).bind fun d345 =>
((xDI .i64 d345).bind fun n346 =>
(some (A.one (C.d (D.v (.int .i64 n346))))))))
(xite (decide (v1 = (4 : Int)))
((Φ i_ref01_within [(A.one (C.d (D.v (.int .i64 v2)))), (A.one (C.d (D.v (.int .i64 (0 : Int))))), (A.one (C.d (D.v (.int .i64 (255 : Int)))))]).bind fun r347 =>
((xAD r347).bind fun d348 =>
((xDI .i64 d348).bind fun n349 =>
(some (A.one (C.d (D.v (.int .i64 n349))))))))
(xite (decide (v1 = (3 : Int)))
((Φ i_ref01_plain [(A.one (C.d (D.s v3))), (A.one (C.d (D.v (.int .i64 (0 : Int))))), (A.one (C.d (D.v (.int .i64 (64 : Int)))))]).bind fun r350 =>
((xAD r350).bind fun d351 =>
((xDI .i64 d351).bind fun n352 =>
(some (A.one (C.d (D.v (.int .i64 n352))))))))
(xite (decide (v1 = (8 : Int)))
((Φ i_ref01_plain [(A.one (C.d (D.s v3))), (A.one (C.d (D.v (.int .i64 (1 : Int))))), (A.one (C.d (D.v (.int .i64 (40 : Int)))))]).bind fun r353 =>
((xAD r353).bind fun d354 =>
((xDI .i64 d354).bind fun n355 =>
(some (A.one (C.d (D.v (.int .i64 n355))))))))
(xite (decide (v1 = (5 : Int)))
((Φ i_ref01_elements [(A.one (C.d (D.sl v4))), (A.one (C.d (D.v (.int .i64 (2 : Int)))))]).bind fun r356 =>
((xAD r356).bind fun d357 =>
((xDI .i64 d357).bind fun n358 =>
(some (A.one (C.d (D.v (.int .i64 n358))))))))
(xite (decide (v1 = (6 : Int)))
((Φ i_ref01_elements [(A.one (C.d (D.sl v4))), (A.one (C.d (D.v (.int .i64 (3 : Int)))))]).bind fun r359 =>
((xAD r359).bind fun d360 =>
((xDI .i64 d360).bind fun n361 =>
(some (A.one (C.d (D.v (.int .i64 n361))))))))
((Φ i_ref01_rows [(A.one (C.d (D.sl v4)))]).bind fun r362 =>
((xAD r362).bind fun d363 =>
((xDI .i64 d363).bind fun n364 =>
(some (A.one (C.d (D.v (.int .i64 n364))))))))))))))))
(xite (decide (v1 = (1 : Int)))
((Φ i_ref01_within [(A.one (C.d (D.v (.int .i64 v2)))), (A.one (C.d (D.v (.int .i64 (0 : Int))))), (A.one (C.d (D.v (.int .i64 (1 : Int)))))]).bind fun r365 =>
((xAD r365).bind fun d366 =>
((xDI .i64 d366).bind fun n367 =>
(some (A.one (C.d (D.v (.int .i64 n367))))))))
(xite (decide (v1 = (2 : Int)))
((Φ i_ref01_within [(A.one (C.d (D.v (.int .i64 v2)))), (A.one (C.d (D.v (.int .i64 (-1000000 : Int))))), (A.one (C.d (D.v (.int .i64 (1000000 : Int)))))]).bind fun r368 =>
((xAD r368).bind fun d369 =>
((xDI .i64 d369).bind fun n370 =>
(some (A.one (C.d (D.v (.int .i64 n370))))))))
(xite (decide (v1 = (4 : Int)))
((Φ i_ref01_within [(A.one (C.d (D.v (.int .i64 v2)))), (A.one (C.d (D.v (.int .i64 (0 : Int))))), (A.one (C.d (D.v (.int .i64 (255 : Int)))))]).bind fun r371 =>
((xAD r371).bind fun d372 =>
((xDI .i64 d372).bind fun n373 =>
(some (A.one (C.d (D.v (.int .i64 n373))))))))
(xite (decide (v1 = (3 : Int)))
((Φ i_ref01_plain [(A.one (C.d (D.s v3))), (A.one (C.d (D.v (.int .i64 (0 : Int))))), (A.one (C.d (D.v (.int .i64 (64 : Int)))))]).bind fun r374 =>
((xAD r374).bind fun d375 =>
((xDI .i64 d375).bind fun n376 =>
(some (A.one (C.d (D.v (.int .i64 n376))))))))
(xite (decide (v1 = (8 : Int)))
((Φ i_ref01_plain [(A.one (C.d (D.s v3))), (A.one (C.d (D.v (.int .i64 (1 : Int))))), (A.one (C.d (D.v (.int .i64 (40 : Int)))))]).bind fun r377 =>
((xAD r377).bind fun d378 =>
((xDI .i64 d378).bind fun n379 =>
(some (A.one (C.d (D.v (.int .i64 n379))))))))
(xite (decide (v1 = (5 : Int)))
((Φ i_ref01_elements [(A.one (C.d (D.sl v4))), (A.one (C.d (D.v (.int .i64 (2 : Int)))))]).bind fun r380 =>
((xAD r380).bind fun d381 =>
((xDI .i64 d381).bind fun n382 =>
(some (A.one (C.d (D.v (.int .i64 n382))))))))
(xite (decide (v1 = (6 : Int)))
((Φ i_ref01_elements [(A.one (C.d (D.sl v4))), (A.one (C.d (D.v (.int .i64 (3 : Int)))))]).bind fun r383 =>
((xAD r383).bind fun d384 =>
((xDI .i64 d384).bind fun n385 =>
(some (A.one (C.d (D.v (.int .i64 n385))))))))
((Φ i_ref01_rows [(A.one (C.d (D.sl v4)))]).bind fun r386 =>
((xAD r386).bind fun d387 =>
((xDI .i64 d387).bind fun n388 =>
(some (A.one (C.d (D.v (.int .i64 n388)))))))))))))))))))
(xite (!(decide (v1 = (8 : Int))))
(xite (!decide ((v3 : List UInt8) = []))
(some (A.one (C.d (D.v (.int .i64 (4 : Int))))))
(xite (decide (v1 = (4 : Int)))
(xite (decide ((0 : Int) < ((v4).length : Int)))
(some (A.one (C.d (D.v (.int .i64 (4 : Int))))))
(xite (decide (v1 = (1 : Int)))
((Φ i_ref01_within [(A.one (C.d (D.v (.int .i64 v2)))), (A.one (C.d (D.v (.int .i64 (0 : Int))))), (A.one (C.d (D.v (.int .i64 (1 : Int)))))]).bind fun r389 =>
((xAD r389).bind fun d390 =>
((xDI .i64 d390).bind fun n391 =>
(some (A.one (C.d (D.v (.int .i64 n391))))))))
(xite (decide (v1 = (2 : Int)))
((Φ i_ref01_within [(A.one (C.d (D.v (.int .i64 v2)))), (A.one (C.d (D.v (.int .i64 (-1000000 : Int))))), (A.one (C.d (D.v (.int .i64 (1000000 : Int)))))]).bind fun r392 =>
((xAD r392).bind fun d393 =>
((xDI .i64 d393).bind fun n394 =>
(some (A.one (C.d (D.v (.int .i64 n394))))))))
(xite (decide (v1 = (4 : Int)))
((Φ i_ref01_within [(A.one (C.d (D.v (.int .i64 v2)))), (A.one (C.d (D.v (.int .i64 (0 : Int))))), (A.one (C.d (D.v (.int .i64 (255 : Int)))))]).bind fun r395 =>
((xAD r395).bind fun d396 =>
((xDI .i64 d396).bind fun n397 =>
(some (A.one (C.d (D.v (.int .i64 n397))))))))
(xite (decide (v1 = (3 : Int)))
((Φ i_ref01_plain [(A.one (C.d (D.s v3))), (A.one (C.d (D.v (.int .i64 (0 : Int))))), (A.one (C.d (D.v (.int .i64 (64 : Int)))))]).bind fun r398 =>
((xAD r398).bind fun d399 =>
((xDI .i64 d399).bind fun n400 =>
(some (A.one (C.d (D.v (.int .i64 n400))))))))
(xite (decide (v1 = (8 : Int)))
((Φ i_ref01_plain [(A.one (C.d (D.s v3))), (A.one (C.d (D.v (.int .i64 (1 : Int))))), (A.one (C.d (D.v (.int .i64 (40 : Int)))))]).bind fun r401 =>
((xAD r401).bind fun d402 =>
((xDI .i64 d402).bind fun n403 =>
(some (A.one (C.d (D.v (.int .i64 n403))))))))
(xite (decide (v1 = (5 : Int)))
((Φ i_ref01_elements [(A.one (C.d (D.sl v4))), (A.one (C.d (D.v (.int .i64 (2 : Int)))))]).bind fun r404 =>
((xAD r404).bind fun d405 =>
((xDI .i64 d405).bind fun n406 =>
(some (A.one (C.d (D.v (.int .i64 n406))))))))
(xite (decide (v1 = (6 : Int)))
((Φ i_ref01_elements [(A.one (C.d (D.sl v4))), (A.one (C.d (D.v (.int .i64 (3 : Int)))))]).bind fun r407 =>
((xAD r407).bind fun d408 =>
((xDI .i64 d408).bind fun n409 =>
(some (A.one (C.d (D.v (.int .i64 n409))))))))
((Φ i_ref01_rows [(A.one (C.d (D.sl v4)))]).bind fun r410 =>
((xAD r410).bind fun d411 =>
((xDI .i64 d411).bind fun n412 =>
(some (A.one (C.d (D.v (.int .i64 n412))))))))))))))))
(xite (decide (v1 = (8 : Int)))
(xite (decide ((0 : Int) < ((v4).length : Int)))
(some (A.one (C.d (D.v (.int .i64 (4 : Int))))))
(xite (decide (v1 = (1 : Int)))
((Φ i_ref01_within [(A.one (C.d (D.v (.int .i64 v2)))), (A.one (C.d (D.v (.int .i64 (0 : Int))))), (A.one (C.d (D.v (.int .i64 (1 : Int)))))]).bind fun r413 =>
((xAD r413).bind fun d414 =>
((xDI .i64 d414).bind fun n415 =>
(some (A.one (C.d (D.v (.int .i64 n415))))))))
(xite (decide (v1 = (2 : Int)))
((Φ i_ref01_within [(A.one (C.d (D.v (.int .i64 v2)))), (A.one (C.d (D.v (.int .i64 (-1000000 : Int))))), (A.one (C.d (D.v (.int .i64 (1000000 : Int)))))]).bind fun r416 =>
((xAD r416).bind fun d417 =>
((xDI .i64 d417).bind fun n418 =>
(some (A.one (C.d (D.v (.int .i64 n418))))))))
(xite (decide (v1 = (4 : Int)))
((Φ i_ref01_within [(A.one (C.d (D.v (.int .i64 v2)))), (A.one (C.d (D.v (.int .i64 (0 : Int))))), (A.one (C.d (D.v (.int .i64 (255 : Int)))))]).bind fun r419 =>
((xAD r419).bind fun d420 =>
((xDI .i64 d420).bind fun n421 =>
(some (A.one (C.d (D.v (.int .i64 n421))))))))
(xite (decide (v1 = (3 : Int)))
((Φ i_ref01_plain [(A.one (C.d (D.s v3))), (A.one (C.d (D.v (.int .i64 (0 : Int))))), (A.one (C.d (D.v (.int .i64 (64 : Int)))))]).bind fun r422 =>
((xAD r422).bind fun d423 =>
((xDI .i64 d423).bind fun n424 =>
(some (A.one (C.d (D.v (.int .i64 n424))))))))
(xite (decide (v1 = (8 : Int)))
((Φ i_ref01_plain [(A.one (C.d (D.s v3))), (A.one (C.d (D.v (.int .i64 (1 : Int))))), (A.one (C.d (D.v (.int .i64 (40 : Int)))))]).bind fun r425 =>
((xAD r425).bind fun d426 =>
((xDI .i64 d426).bind fun n427 =>
(some (A.one (C.d (D.v (.int .i64 n427))))))))
(xite (decide (v1 = (5 : Int)))
((Φ i_ref01_elements [(A.one (C.d (D.sl v4))), (A.one (C.d (D.v (.int .i64 (2 : Int)))))]).bind fun r428 =>
((xAD r428).bind fun d429 =>
((xDI .i64 d429).bind fun n430 =>
(some (A.one (C.d (D.v (.int .i64 n430))))))))
(xite (decide (v1 = (6 : Int)))
((Φ i_ref01_elements [(A.one (C.d (D.sl v4))), (A.one (C.d (D.v (.int .i64 (3 : Int)))))]).bind fun r431 =>
((xAD r431).bind fun d432 =>
((xDI .i64 d432).bind fun n433 =>
(some (A.one (C.d (D.v (.int .i64 n433))))))))
((Φ i_ref01_rows [(A.one (C.d (D.sl v4)))]).bind fun r434 =>
((xAD r434).bind fun d435 =>
((xDI .i64 d435).bind fun n436 =>
(some (A.one (C.d (D.v (.int .i64 n436))))))))))))))))
(xite (decide (v1 = (1 : Int)))
((Φ i_ref01_within [(A.one (C.d (D.v (.int .i64 v2)))), (A.one (C.d (D.v (.int .i64 (0 : Int))))), (A.one (C.d (D.v (.int .i64 (1 : Int)))))]).bind fun r437 =>
((xAD r437).bind fun d438 =>
((xDI .i64 d438).bind fun n439 =>
(some (A.one (C.d (D.v (.int .i64 n439))))))))
(xite (decide (v1 = (2 : Int)))
((Φ i_ref01_within [(A.one (C.d (D.v (.int .i64 v2)))), (A.one (C.d (D.v (.int .i64 (-1000000 : Int))))), (A.one (C.d (D.v (.int .i64 (1000000 : Int)))))]).bind fun r440 =>
((xAD r440).bind fun d441 =>
((xDI .i64 d441).bind fun n442 =>
(some (A.one (C.d (D.v (.int .i64 n442))))))))
(xite (decide (v1 = (4 : Int)))
((Φ i_ref01_within [(A.one (C.d (D.v (.int .i64 v2)))), (A.one (C.d (D.v (.int .i64 (0 : Int))))), (A.one (C.d (D.v (.int .i64 (255 : Int)))))]).bind fun r443 =>
((xAD r443).bind fun d444 =>
((xDI .i64 d444).bind fun n445 =>
(some (A.one (C.d (D.v (.int .i64 n445))))))))
(xite (decide (v1 = (3 : Int)))
((Φ i_ref01_plain [(A.one (C.d (D.s v3))), (A.one (C.d (D.v (.int .i64 (0 : Int))))), (A.one (C.d (D.v (.int .i64 (64 : Int)))))]).bind fun r446 =>
((xAD r446).bind fun d447 =>
((xDI .i64 d447).bind fun n448 =>
(some (A.one (C.d (D.v (.int .i64 n448))))))))
(xite (decide (v1 = (8 : Int)))
((Φ i_ref01_plain [(A.one (C.d (D.s v3))), (A.one (C.d (D.v (.int .i64 (1 : Int))))), (A.one (C.d (D.v (.int .i64 (40 : Int)))))]).bind fun r449 =>
((xAD r449).bind fun d450 =>
((xDI .i64 d450).bind fun n451 =>
(some (A.one (C.d (D.v (.int .i64 n451))))))))
(xite (decide (v1 = (5 : Int)))
((Φ i_ref01_elements [(A.one (C.d (D.sl v4))), (A.one (C.d (D.v (.int .i64 (2 : Int)))))]).bind fun r452 =>
((xAD r452).bind fun d453 =>
((xDI .i64 d453).bind fun n454 =>
(some (A.one (C.d (D.v (.int .i64 n454))))))))
(xite (decide (v1 = (6 : Int)))
((Φ i_ref01_elements [(A.one (C.d (D.sl v4))), (A.one (C.d (D.v (.int .i64 (3 : Int)))))]).bind fun r455 =>
((xAD r455).bind fun d456 =>
((xDI .i64 d456).bind fun n457 =>
(some (A.one (C.d (D.v (.int .i64 n457))))))))
((Φ i_ref01_rows [(A.one (C.d (D.sl v4)))]).bind fun r458 =>
((xAD r458).bind fun d459 =>
((xDI .i64 d459).bind fun n460 =>
(some (A.one (C.d (D.v (.int .i64 n460))))))))))))))))))
(xite (decide (v1 = (4 : Int)))
(xite (decide ((0 : Int) < ((v4).length : Int)))
(some (A.one (C.d (D.v (.int .i64 (4 : Int))))))
(xite (decide (v1 = (1 : Int)))
((Φ i_ref01_within [(A.one (C.d (D.v (.int .i64 v2)))), (A.one (C.d (D.v (.int .i64 (0 : Int))))), (A.one (C.d (D.v (.int .i64 (1 : Int)))))]).bind fun r461 =>
((xAD r461).bind fun d462 =>
((xDI .i64 d462).bind fun n463 =>
(some (A.one (C.d (D.v (.int .i64 n463))))))))
(xite (decide (v1 = (2 : Int)))
((Φ i_ref01_within [(A.one (C.d (D.v (.int .i64 v2)))), (A.one (C.d (D.v (.int .i64 (-1000000 : Int))))), (A.one (C.d (D.v (.int .i64 (1000000 : Int)))))]).bind fun r464 =>
((xAD r464).bind fun d465 =>
((xDI .i64 d465).bind fun n466 =>
(some (A.one (C.d (D.v (.int .i64 n466))))))))
(xite (decide (v1 = (4 : Int)))
((Φ i_ref01_within [(A.one (C.d (D.v (.int .i64 v2)))), (A.one (C.d (D.v (.int .i64 (0 : Int))))), (A.one (C.d (D.v (.int .i64 (255 : Int)))))]).bind fun r467 =>
((xAD r467).bind fun d468 =>
((xDI .i64 d468).bind fun n469 =>
(some (A.one (C.d (D.v (.int .i64 n469))))))))
(xite (decide (v1 = (3 : Int)))
((Φ i_ref01_plain [(A.one (C.d (D.s v3))), (A.one (C.d (D.v (.int .i64 (0 : Int))))), (A.one (C.d (D.v (.int .i64 (64 : Int)))))]).bind fun r470 =>
((xAD r470).bind fun d471 =>
((xDI .i64 d471).bind fun n472 =>
(some (A.one (C.d (D.v (.int .i64 n472))))))))
(xite (decide (v1 = (8 : Int)))
((Φ i_ref01_plain [(A.one (C.d (D.s v3))), (A.one (C.d (D.v (.int .i64 (1 : Int))))), (A.one (C.d (D.v (.int .i64 (40 : Int)))))]).bind fun r473 =>
((xAD r473).bind fun d474 =>
((xDI .i64 d474).bind fun n475 =>
(some (A.one (C.d (D.v (.int .i64 n475))))))))
(xite (decide (v1 = (5 : Int)))
((Φ i_ref01_elements [(A.one (C.d (D.sl v4))), (A.one (C.d (D.v (.int .i64 (2 : Int)))))]).bind fun r476 =>
((xAD r476).bind fun d477 =>
((xDI .i64 d477).bind fun n478 =>
(some (A.one (C.d (D.v (.int .i64 n478))))))))
(xite (decide (v1 = (6 : Int)))
((Φ i_ref01_elements [(A.one (C.d (D.sl v4))), (A.one (C.d (D.v (.int .i64 (3 : Int)))))]).bind fun r479 =>
((xAD r479).bind fun d480 =>
((xDI .i64 d480).bind fun n481 =>
(some (A.one (C.d (D.v (.int .i64 n481))))))))
((Φ i_ref01_rows [(A.one (C.d (D.sl v4)))]).bind fun r482 =>
((xAD r482).bind fun d483 =>
((xDI .i64 d483).bind fun n484 =>
(some (A.one (C.d (D.v (.int .i64 n484))))))))))))))))
(xite (decide (v1 = (8 : Int)))
(xite (decide ((0 : Int) < ((v4).length : Int)))
(some (A.one (C.d (D.v (.int .i64 (4 : Int))))))
(xite (decide (v1 = (1 : Int)))
((Φ i_ref01_within [(A.one (C.d (D.v (.int .i64 v2)))), (A.one (C.d (D.v (.int .i64 (0 : Int))))), (A.one (C.d (D.v (.int .i64 (1 : Int)))))]).bind fun r485 =>
((xAD r485).bind fun d486 =>
((xDI .i64 d486).bind fun n487 =>
(some (A.one (C.d (D.v (.int .i64 n487))))))))
(xite (decide (v1 = (2 : Int)))
((Φ i_ref01_within [(A.one (C.d (D.v (.int .i64 v2)))), (A.one (C.d (D.v (.int .i64 (-1000000 : Int))))), (A.one (C.d (D.v (.int .i64 (1000000 : Int)))))]).bind fun r488 =>
((xAD r488).bind fun d489 =>
((xDI .i64 d489).bind fun n490 =>
(some (A.one (C.d (D.v (.int .i64 n490))))))))
(xite (decide (v1 = (4 : Int)))
((Φ i_ref01_within [(A.one (C.d (D.v (.int .i64 v2)))), (A.one (C.d (D.v (.int .i64 (0 : Int))))), (A.one (C.d (D.v (.int .i64 (255 : Int)))))]).bind fun r491 =>
((xAD r491).bind fun d492 =>
((xDI .i64 d492).bind fun n493 =>
(some (A.one (C.d (D.v (.int .i64 n493))))))))
(xite (decide (v1 = (3 : Int)))
((Φ i_ref01_plain [(A.one (C.d (D.s v3))), (A.one (C.d (D.v (.int .i64 (0 : Int))))), (A.one (C.d (D.v (.int .i64 (64 : Int)))))]).bind fun r494 =>
((xAD r494).bind fun d495 =>
((xDI .i64 d495).bind fun n496 =>
(some (A.one (C.d (D.v (.int .i64 n496))))))))
(xite (decide (v1 = (8 : Int)))
((Φ i_ref01_plain [(A.one (C.d (D.s v3))), (A.one (C.d (D.v (.int .i64 (1 : Int))))), (A.one (C.d (D.v (.int .i64 (40 : Int)))))]).bind fun r497 =>
((xAD r497).bind fun d498 =>
((xDI .i64 d498).bind fun n499 =>
(some (A.one (C.d (D.v (.int .i64 n499))))))))
(xite (decide (v1 = (5 : Int)))
((Φ i_ref01_elements [(A.one (C.d (D.sl v4))), (A.one (C.d (D.v (.int .i64 (2 : Int)))))]).bind fun r500 =>
((xAD r500).bind fun d501 =>
((xDI .i64 d501).bind fun n502 =>
(some (A.one (C.d (D.v (.int .i64 n502))))))))
(xite (decide (v1 = (6 : Int)))
((Φ i_ref01_elements [(A.one (C.d (D.sl v4))), (A.one (C.d (D.v (.int .i64 (3 : Int)))))]).bind fun r503 =>
((xAD r503).bind fun d504 =>
((xDI .i64 d504).bind fun n505 =>
(some (A.one (C.d (D.v (.int .i64 n505))))))))
((Φ i_ref01_rows [(A.one (C.d (D.sl v4)))]).bind fun r506 =>
((xAD r506).bind fun d507 =>
((xDI .i64 d507).bind fun n508 =>
(some (A.one (C.d (D.v (.int .i64 n508))))))))))))))))
(xite (decide (v1 = (1 : Int)))
((Φ i_ref01_within [(A.one (C.d (D.v (.int .i64 v2)))), (A.one (C.d (D.v (.int .i64 (0 : Int))))), (A.one (C.d (D.v (.int .i64 (1 : Int)))))]).bind fun r509 =>
((xAD r509).bind fun d510 =>
((xDI .i64 d510).bind fun n511 =>
(some (A.one (C.d (D.v (.int .i64 n511))))))))
(xite (decide (v1 = (2 : Int)))
((Φ i_ref01_within [(A.one (C.d (D.v (.int .i64 v2)))), (A.one (C.d (D.v (.int .i64 (-1000000 : Int))))), (A.one (C.d (D.v (.int .i64 (1000000 : Int)))))]).bind fun r512 =>
((xAD r512).bind fun d513 =>
((xDI .i64 d513).bind fun n514 =>
(some (A.one (C.d (D.v (.int .i64 n514))))))))
(xite (decide (v1 = (4 : Int)))
((Φ i_ref01_within [(A.one (C.d (D.v (.int .i64 v2)))), (A.one (C.d (D.v (.int .i64 (0 : Int))))), (A.one (C.d (D.v (.int .i64 (255 : Int)))))]).bind fun r515 =>
((xAD r515).bind fun d516 =>
((xDI .i64 d516).bind fun n517 =>
(some (A.one (C.d (D.v (.int .i64 n517))))))))
(xite (decide (v1 = (3 : Int)))
((Φ i_ref01_plain [(A.one (C.d (D.s v3))), (A.one (C.d (D.v (.int .i64 (0 : Int))))), (A.one (C.d (D.v (.int .i64 (64 : Int)))))]).bind fun r518 =>
((xAD r518).bind fun d519 =>
((xDI .i64 d519).bind fun n520 =>
(some (A.one (C.d (D.v (.int .i64 n520))))))))
(xite (decide (v1 = (8 : Int)))
((Φ i_ref01_plain [(A.one (C.d (D.s v3))), (A.one (C.d (D.v (.int .i64 (1 : Int))))), (A.one (C.d (D.v (.int .i64 (40 : Int)))))]).bind fun r521 =>
((xAD r521).bind fun d522 =>
((xDI .i64 d522).bind fun n523 =>
(some (A.one (C.d (D.v (.int .i64 n523))))))))
(xite (decide (v1 = (5 : Int)))
((Φ i_ref01_elements [(A.one (C.d (D.sl v4))), (A.one (C.d (D.v (.int .i64 (2 : Int)))))]).bind fun r524 =>
((xAD r524).bind fun d525 =>
((xDI .i64 d525).bind fun n526 =>
(some (A.one (C.d (D.v (.int .i64 n526))))))))
(xite (decide (v1 = (6 : Int)))
((Φ i_ref01_elements [(A.one (C.d (D.sl v4))), (A.one (C.d (D.v (.int .i64 (3 : Int)))))]).bind fun r527 =>
((xAD r527).bind fun d528 =>
((xDI .i64 d528).bind fun n529 =>
(some (A.one (C.d (D.v (.int .i64 n529))))))))
((Φ i_ref01_rows [(A.one (C.d (D.sl v4)))]).bind fun r530 =>
((xAD r530).bind fun d531 =>
((xDI .i64 d531).bind fun n532 =>
(some (A.one (C.d (D.v (.int .i64 n532))))))))))))))))))))))))
theorem ref01_Check_eq (Φ : Phi) (fuel : Nat) (v1 : Int) (v2 : Int) (v3 : List UInt8) (v4 : List (List D)) : xbody TT0 Φ fuel sp_ref01_Check Try.f37 [(A.agg [(C.d (D.v (.int .i64 v1))), (C.d (D.v (.int .i64 v2))), (C.d (D.s v3)), (C.d (D.sl v4))])] = ref01_Check Φ fuel v1 v2 v3 v4 := by kernel_rfl
end Go.Av
