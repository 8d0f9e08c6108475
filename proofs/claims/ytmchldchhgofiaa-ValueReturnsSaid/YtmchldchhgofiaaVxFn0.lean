/-
  What each function gives when run. Printed by a program of mine (gen.py).
-/
import Derived.Test.YtmchldchhgofiaaVxTy
set_option linter.all false
set_option linter.unusedVariables false
set_option maxRecDepth 100000
namespace Go.Av
open Go.Proofs
/-! law01_ValueChecks -/
def sp_law01_ValueChecks : List LSpec := []
def law01_ValueChecks (Φ : Phi) (fuel : Nat) (v1 : Int) (v2 : Int) (v3 : List UInt8) (v4 : List (List D)) : Option A :=
((Φ i_ref01_Small [(A.agg [(C.d (D.v (.int .i64 v1))), (C.d (D.v (.int .i64 v2))), (C.d (D.s v3)), (C.d (D.sl v4))])]).bind fun r5 =>
((xAD r5).bind fun d6 =>
((xDB d6).bind fun b7 =>
(xite (!b7)
((Φ i_law01_alive []).bind fun r8 =>
((xAD r8).bind fun d9 =>
((xDB d9).bind fun b10 =>
(some (A.one (C.d (D.v (.bool b10))))))))
((Φ i_value_Check [(A.agg [(C.d (D.v (.int .i64 v1))), (C.d (D.v (.int .i64 v2))), (C.d (D.s v3)), (C.d (D.sl v4))])]).bind fun r11 =>
((xAD r11).bind fun d12 =>
((xDI .i64 d12).bind fun n13 =>
((Φ i_ref01_Check [(A.agg [(C.d (D.v (.int .i64 v1))), (C.d (D.v (.int .i64 v2))), (C.d (D.s v3)), (C.d (D.sl v4))])]).bind fun r14 =>
((xAD r14).bind fun d15 =>
((xDI .i64 d15).bind fun n16 =>
(xite (decide (n13 = n16))
((Φ i_law01_alive []).bind fun r17 =>
((xAD r17).bind fun d18 =>
((xDB d18).bind fun b19 =>
(some (A.one (C.d (D.v (.bool b19))))))))
(some (A.one (C.d (D.v (.bool false))))))))))))))))
theorem law01_ValueChecks_eq (Φ : Phi) (fuel : Nat) (v1 : Int) (v2 : Int) (v3 : List UInt8) (v4 : List (List D)) : xbody TT0 Φ fuel sp_law01_ValueChecks Try.f3 [(A.agg [(C.d (D.v (.int .i64 v1))), (C.d (D.v (.int .i64 v2))), (C.d (D.s v3)), (C.d (D.sl v4))])] = law01_ValueChecks Φ fuel v1 v2 v3 v4 := by kernel_rfl
/-! law01_ValueCompares -/
def sp_law01_ValueCompares : List LSpec := []
def law01_ValueCompares (Φ : Phi) (fuel : Nat) (a1 : Int) (a2 : Int) (a3 : List UInt8) (a4 : List (List D)) (b5 : Int) (b6 : Int) (b7 : List UInt8) (b8 : List (List D)) : Option A :=
((Φ i_ref01_Small [(A.agg [(C.d (D.v (.int .i64 a1))), (C.d (D.v (.int .i64 a2))), (C.d (D.s a3)), (C.d (D.sl a4))])]).bind fun r9 =>
((xAD r9).bind fun d10 =>
((xDB d10).bind fun b11 =>
(xite (!b11)
((Φ i_law01_alive []).bind fun r12 =>
((xAD r12).bind fun d13 =>
((xDB d13).bind fun b14 =>
(some (A.one (C.d (D.v (.bool b14))))))))
((Φ i_ref01_Small [(A.agg [(C.d (D.v (.int .i64 b5))), (C.d (D.v (.int .i64 b6))), (C.d (D.s b7)), (C.d (D.sl b8))])]).bind fun r15 =>
((xAD r15).bind fun d16 =>
((xDB d16).bind fun b17 =>
(xite (!b17)
((Φ i_law01_alive []).bind fun r18 =>
((xAD r18).bind fun d19 =>
((xDB d19).bind fun b20 =>
(some (A.one (C.d (D.v (.bool b20))))))))
((Φ i_ref01_Compare [(A.agg [(C.d (D.v (.int .i64 a1))), (C.d (D.v (.int .i64 a2))), (C.d (D.s a3)), (C.d (D.sl a4))]), (A.agg [(C.d (D.v (.int .i64 b5))), (C.d (D.v (.int .i64 b6))), (C.d (D.s b7)), (C.d (D.sl b8))])]).bind fun r21 =>
((xAD r21).bind fun d22 =>
((xDI .i64 d22).bind fun n23 =>
((Φ i_value_Compare [(A.agg [(C.d (D.v (.int .i64 a1))), (C.d (D.v (.int .i64 a2))), (C.d (D.s a3)), (C.d (D.sl a4))]), (A.agg [(C.d (D.v (.int .i64 b5))), (C.d (D.v (.int .i64 b6))), (C.d (D.s b7)), (C.d (D.sl b8))])]).bind fun r24 =>
((xAD r24).bind fun d25 =>
((xDI .i64 d25).bind fun n26 =>
(xite (decide (n26 = n23))
((Φ i_value_Compare [(A.agg [(C.d (D.v (.int .i64 b5))), (C.d (D.v (.int .i64 b6))), (C.d (D.s b7)), (C.d (D.sl b8))]), (A.agg [(C.d (D.v (.int .i64 a1))), (C.d (D.v (.int .i64 a2))), (C.d (D.s a3)), (C.d (D.sl a4))])]).bind fun r27 =>
((xAD r27).bind fun d28 =>
((xDI .i64 d28).bind fun n29 =>
(xite (decide (n29 = (IntKind.i64.wrap (0 - n23))))
((Φ i_value_Equal [(A.agg [(C.d (D.v (.int .i64 a1))), (C.d (D.v (.int .i64 a2))), (C.d (D.s a3)), (C.d (D.sl a4))]), (A.agg [(C.d (D.v (.int .i64 b5))), (C.d (D.v (.int .i64 b6))), (C.d (D.s b7)), (C.d (D.sl b8))])]).bind fun r30 =>
((xAD r30).bind fun d31 =>
((xDB d31).bind fun b32 =>
(xite (b32 == (decide (n23 = (0 : Int))))
((Φ i_value_Equal [(A.agg [(C.d (D.v (.int .i64 a1))), (C.d (D.v (.int .i64 a2))), (C.d (D.s a3)), (C.d (D.sl a4))]), (A.agg [(C.d (D.v (.int .i64 a1))), (C.d (D.v (.int .i64 a2))), (C.d (D.s a3)), (C.d (D.sl a4))])]).bind fun r33 =>
((xAD r33).bind fun d34 =>
((xDB d34).bind fun b35 =>
(xite b35
((Φ i_law01_alive []).bind fun r36 =>
((xAD r36).bind fun d37 =>
((xDB d37).bind fun b38 =>
(some (A.one (C.d (D.v (.bool b38))))))))
(some (A.one (C.d (D.v (.bool false)))))))))
(some (A.one (C.d (D.v (.bool false)))))))))
(some (A.one (C.d (D.v (.bool false)))))))))
(some (A.one (C.d (D.v (.bool false))))))))))))))))))))
theorem law01_ValueCompares_eq (Φ : Phi) (fuel : Nat) (a1 : Int) (a2 : Int) (a3 : List UInt8) (a4 : List (List D)) (b5 : Int) (b6 : Int) (b7 : List UInt8) (b8 : List (List D)) : xbody TT0 Φ fuel sp_law01_ValueCompares Try.f4 [(A.agg [(C.d (D.v (.int .i64 a1))), (C.d (D.v (.int .i64 a2))), (C.d (D.s a3)), (C.d (D.sl a4))]), (A.agg [(C.d (D.v (.int .i64 b5))), (C.d (D.v (.int .i64 b6))), (C.d (D.s b7)), (C.d (D.sl b8))])] = law01_ValueCompares Φ fuel a1 a2 a3 a4 b5 b6 b7 b8 := by kernel_rfl
/-! law01_ValueOrders -/
def sp_law01_ValueOrders : List LSpec := []
def law01_ValueOrders (Φ : Phi) (fuel : Nat) (a1 : Int) (a2 : Int) (a3 : List UInt8) (a4 : List (List D)) (b5 : Int) (b6 : Int) (b7 : List UInt8) (b8 : List (List D)) (c9 : Int) (c10 : Int) (c11 : List UInt8) (c12 : List (List D)) : Option A :=
((Φ i_ref01_Small [(A.agg [(C.d (D.v (.int .i64 a1))), (C.d (D.v (.int .i64 a2))), (C.d (D.s a3)), (C.d (D.sl a4))])]).bind fun r13 =>
((xAD r13).bind fun d14 =>
((xDB d14).bind fun b15 =>
(xite (!b15)
((Φ i_law01_alive []).bind fun r16 =>
((xAD r16).bind fun d17 =>
((xDB d17).bind fun b18 =>
(some (A.one (C.d (D.v (.bool b18))))))))
((Φ i_ref01_Small [(A.agg [(C.d (D.v (.int .i64 b5))), (C.d (D.v (.int .i64 b6))), (C.d (D.s b7)), (C.d (D.sl b8))])]).bind fun r19 =>
((xAD r19).bind fun d20 =>
((xDB d20).bind fun b21 =>
(xite (!b21)
((Φ i_law01_alive []).bind fun r22 =>
((xAD r22).bind fun d23 =>
((xDB d23).bind fun b24 =>
(some (A.one (C.d (D.v (.bool b24))))))))
((Φ i_ref01_Small [(A.agg [(C.d (D.v (.int .i64 c9))), (C.d (D.v (.int .i64 c10))), (C.d (D.s c11)), (C.d (D.sl c12))])]).bind fun r25 =>
((xAD r25).bind fun d26 =>
((xDB d26).bind fun b27 =>
(xite (!b27)
((Φ i_law01_alive []).bind fun r28 =>
((xAD r28).bind fun d29 =>
((xDB d29).bind fun b30 =>
(some (A.one (C.d (D.v (.bool b30))))))))
((Φ i_value_Compare [(A.agg [(C.d (D.v (.int .i64 a1))), (C.d (D.v (.int .i64 a2))), (C.d (D.s a3)), (C.d (D.sl a4))]), (A.agg [(C.d (D.v (.int .i64 b5))), (C.d (D.v (.int .i64 b6))), (C.d (D.s b7)), (C.d (D.sl b8))])]).bind fun r31 =>
((xAD r31).bind fun d32 =>
((xDI .i64 d32).bind fun n33 =>
((Φ i_value_Compare [(A.agg [(C.d (D.v (.int .i64 b5))), (C.d (D.v (.int .i64 b6))), (C.d (D.s b7)), (C.d (D.sl b8))]), (A.agg [(C.d (D.v (.int .i64 c9))), (C.d (D.v (.int .i64 c10))), (C.d (D.s c11)), (C.d (D.sl c12))])]).bind fun r34 =>
((xAD r34).bind fun d35 =>
((xDI .i64 d35).bind fun n36 =>
((Φ i_value_Compare [(A.agg [(C.d (D.v (.int .i64 a1))), (C.d (D.v (.int .i64 a2))), (C.d (D.s a3)), (C.d (D.sl a4))]), (A.agg [(C.d (D.v (.int .i64 c9))), (C.d (D.v (.int .i64 c10))), (C.d (D.s c11)), (C.d (D.sl c12))])]).bind fun r37 =>
((xAD r37).bind fun d38 =>
((xDI .i64 d38).bind fun n39 =>
(xite (decide (n33 < (-1 : Int)))
(some (A.one (C.d (D.v (.bool false)))))
(xite (decide ((1 : Int) < n33))
(some (A.one (C.d (D.v (.bool false)))))
(xite (decide (n33 ≤ (0 : Int)))
(xite (decide (n36 ≤ (0 : Int)))
(xite (decide ((0 : Int) < n39))
(some (A.one (C.d (D.v (.bool false)))))
(xite (decide ((0 : Int) ≤ n33))
(xite (decide ((0 : Int) ≤ n36))
(xite (decide (n39 < (0 : Int)))
(some (A.one (C.d (D.v (.bool false)))))
((Φ i_value_Equal [(A.agg [(C.d (D.v (.int .i64 a1))), (C.d (D.v (.int .i64 a2))), (C.d (D.s a3)), (C.d (D.sl a4))]), (A.agg [(C.d (D.v (.int .i64 b5))), (C.d (D.v (.int .i64 b6))), (C.d (D.s b7)), (C.d (D.sl b8))])]).bind fun r40 =>
((xAD r40).bind fun d41 =>
((xDB d41).bind fun b42 =>
(xite (!b42)
((Φ i_law01_alive []).bind fun r43 =>
((xAD r43).bind fun d44 =>
((xDB d44).bind fun b45 =>
(some (A.one (C.d (D.v (.bool b45))))))))
(xite (decide (n36 = n39))
((Φ i_law01_alive []).bind fun r46 =>
((xAD r46).bind fun d47 =>
((xDB d47).bind fun b48 =>
(some (A.one (C.d (D.v (.bool b48))))))))
(some (A.one (C.d (D.v (.bool false)))))))))))
((Φ i_value_Equal [(A.agg [(C.d (D.v (.int .i64 a1))), (C.d (D.v (.int .i64 a2))), (C.d (D.s a3)), (C.d (D.sl a4))]), (A.agg [(C.d (D.v (.int .i64 b5))), (C.d (D.v (.int .i64 b6))), (C.d (D.s b7)), (C.d (D.sl b8))])]).bind fun r49 =>
((xAD r49).bind fun d50 =>
((xDB d50).bind fun b51 =>
(xite (!b51)
((Φ i_law01_alive []).bind fun r52 =>
((xAD r52).bind fun d53 =>
((xDB d53).bind fun b54 =>
(some (A.one (C.d (D.v (.bool b54))))))))
(xite (decide (n36 = n39))
((Φ i_law01_alive []).bind fun r55 =>
((xAD r55).bind fun d56 =>
((xDB d56).bind fun b57 =>
(some (A.one (C.d (D.v (.bool b57))))))))
(some (A.one (C.d (D.v (.bool false)))))))))))
((Φ i_value_Equal [(A.agg [(C.d (D.v (.int .i64 a1))), (C.d (D.v (.int .i64 a2))), (C.d (D.s a3)), (C.d (D.sl a4))]), (A.agg [(C.d (D.v (.int .i64 b5))), (C.d (D.v (.int .i64 b6))), (C.d (D.s b7)), (C.d (D.sl b8))])]).bind fun r58 =>
((xAD r58).bind fun d59 =>
((xDB d59).bind fun b60 =>
(xite (!b60)
((Φ i_law01_alive []).bind fun r61 =>
((xAD r61).bind fun d62 =>
((xDB d62).bind fun b63 =>
(some (A.one (C.d (D.v (.bool b63))))))))
(xite (decide (n36 = n39))
((Φ i_law01_alive []).bind fun r64 =>
((xAD r64).bind fun d65 =>
((xDB d65).bind fun b66 =>
(some (A.one (C.d (D.v (.bool b66))))))))
(some (A.one (C.d (D.v (.bool false))))))))))))
(xite (decide ((0 : Int) ≤ n33))
(xite (decide ((0 : Int) ≤ n36))
(xite (decide (n39 < (0 : Int)))
(some (A.one (C.d (D.v (.bool false)))))
((Φ i_value_Equal [(A.agg [(C.d (D.v (.int .i64 a1))), (C.d (D.v (.int .i64 a2))), (C.d (D.s a3)), (C.d (D.sl a4))]), (A.agg [(C.d (D.v (.int .i64 b5))), (C.d (D.v (.int .i64 b6))), (C.d (D.s b7)), (C.d (D.sl b8))])]).bind fun r67 =>
((xAD r67).bind fun d68 =>
((xDB d68).bind fun b69 =>
(xite (!b69)
((Φ i_law01_alive []).bind fun r70 =>
((xAD r70).bind fun d71 =>
((xDB d71).bind fun b72 =>
(some (A.one (C.d (D.v (.bool b72))))))))
(xite (decide (n36 = n39))
((Φ i_law01_alive []).bind fun r73 =>
((xAD r73).bind fun d74 =>
((xDB d74).bind fun b75 =>
(some (A.one (C.d (D.v (.bool b75))))))))
(some (A.one (C.d (D.v (.bool false)))))))))))
((Φ i_value_Equal [(A.agg [(C.d (D.v (.int .i64 a1))), (C.d (D.v (.int .i64 a2))), (C.d (D.s a3)), (C.d (D.sl a4))]), (A.agg [(C.d (D.v (.int .i64 b5))), (C.d (D.v (.int .i64 b6))), (C.d (D.s b7)), (C.d (D.sl b8))])]).bind fun r76 =>
((xAD r76).bind fun d77 =>
((xDB d77).bind fun b78 =>
(xite (!b78)
((Φ i_law01_alive []).bind fun r79 =>
((xAD r79).bind fun d80 =>
((xDB d80).bind fun b81 =>
(some (A.one (C.d (D.v (.bool b81))))))))
(xite (decide (n36 = n39))
((Φ i_law01_alive []).bind fun r82 =>
((xAD r82).bind fun d83 =>
((xDB d83).bind fun b84 =>
(some (A.one (C.d (D.v (.bool b84))))))))
(some (A.one (C.d (D.v (.bool false)))))))))))
((Φ i_value_Equal [(A.agg [(C.d (D.v (.int .i64 a1))), (C.d (D.v (.int .i64 a2))), (C.d (D.s a3)), (C.d (D.sl a4))]), (A.agg [(C.d (D.v (.int .i64 b5))), (C.d (D.v (.int .i64 b6))), (C.d (D.s b7)), (C.d (D.sl b8))])]).bind fun r85 =>
((xAD r85).bind fun d86 =>
((xDB d86).bind fun b87 =>
(xite (!b87)
((Φ i_law01_alive []).bind fun r88 =>
((xAD r88).bind fun d89 =>
((xDB d89).bind fun b90 =>
(some (A.one (C.d (D.v (.bool b90))))))))
(xite (decide (n36 = n39))
((Φ i_law01_alive []).bind fun r91 =>
((xAD r91).bind fun d92 =>
((xDB d92).bind fun b93 =>
(some (A.one (C.d (D.v (.bool b93))))))))
(some (A.one (C.d (D.v (.bool false))))))))))))
(xite (decide ((0 : Int) ≤ n33))
(xite (decide ((0 : Int) ≤ n36))
(xite (decide (n39 < (0 : Int)))
(some (A.one (C.d (D.v (.bool false)))))
((Φ i_value_Equal [(A.agg [(C.d (D.v (.int .i64 a1))), (C.d (D.v (.int .i64 a2))), (C.d (D.s a3)), (C.d (D.sl a4))]), (A.agg [(C.d (D.v (.int .i64 b5))), (C.d (D.v (.int .i64 b6))), (C.d (D.s b7)), (C.d (D.sl b8))])]).bind fun r94 =>
((xAD r94).bind fun d95 =>
((xDB d95).bind fun b96 =>
(xite (!b96)
((Φ i_law01_alive []).bind fun r97 =>
((xAD r97).bind fun d98 =>
((xDB d98).bind fun b99 =>
(some (A.one (C.d (D.v (.bool b99))))))))
(xite (decide (n36 = n39))
((Φ i_law01_alive []).bind fun r100 =>
((xAD r100).bind fun d101 =>
((xDB d101).bind fun b102 =>
(some (A.one (C.d (D.v (.bool b102))))))))
(some (A.one (C.d (D.v (.bool false)))))))))))
((Φ i_value_Equal [(A.agg [(C.d (D.v (.int .i64 a1))), (C.d (D.v (.int .i64 a2))), (C.d (D.s a3)), (C.d (D.sl a4))]), (A.agg [(C.d (D.v (.int .i64 b5))), (C.d (D.v (.int .i64 b6))), (C.d (D.s b7)), (C.d (D.sl b8))])]).bind fun r103 =>
((xAD r103).bind fun d104 =>
((xDB d104).bind fun b105 =>
(xite (!b105)
((Φ i_law01_alive []).bind fun r106 =>
((xAD r106).bind fun d107 =>
((xDB d107).bind fun b108 =>
(some (A.one (C.d (D.v (.bool b108))))))))
(xite (decide (n36 = n39))
((Φ i_law01_alive []).bind fun r109 =>
((xAD r109).bind fun d110 =>
((xDB d110).bind fun b111 =>
(some (A.one (C.d (D.v (.bool b111))))))))
(some (A.one (C.d (D.v (.bool false)))))))))))
((Φ i_value_Equal [(A.agg [(C.d (D.v (.int .i64 a1))), (C.d (D.v (.int .i64 a2))), (C.d (D.s a3)), (C.d (D.sl a4))]), (A.agg [(C.d (D.v (.int .i64 b5))), (C.d (D.v (.int .i64 b6))), (C.d (D.s b7)), (C.d (D.sl b8))])]).bind fun r112 =>
((xAD r112).bind fun d113 =>
((xDB d113).bind fun b114 =>
(xite (!b114)
((Φ i_law01_alive []).bind fun r115 =>
((xAD r115).bind fun d116 =>
((xDB d116).bind fun b117 =>
(some (A.one (C.d (D.v (.bool b117))))))))
(xite (decide (n36 = n39))
((Φ i_law01_alive []).bind fun r118 =>
((xAD r118).bind fun d119 =>
((xDB d119).bind fun b120 =>
(some (A.one (C.d (D.v (.bool b120))))))))
(some (A.one (C.d (D.v (.bool false)))))))))))))))))))))))))))))))))))
theorem law01_ValueOrders_eq (Φ : Phi) (fuel : Nat) (a1 : Int) (a2 : Int) (a3 : List UInt8) (a4 : List (List D)) (b5 : Int) (b6 : Int) (b7 : List UInt8) (b8 : List (List D)) (c9 : Int) (c10 : Int) (c11 : List UInt8) (c12 : List (List D)) : xbody TT0 Φ fuel sp_law01_ValueOrders Try.f5 [(A.agg [(C.d (D.v (.int .i64 a1))), (C.d (D.v (.int .i64 a2))), (C.d (D.s a3)), (C.d (D.sl a4))]), (A.agg [(C.d (D.v (.int .i64 b5))), (C.d (D.v (.int .i64 b6))), (C.d (D.s b7)), (C.d (D.sl b8))]), (A.agg [(C.d (D.v (.int .i64 c9))), (C.d (D.v (.int .i64 c10))), (C.d (D.s c11)), (C.d (D.sl c12))])] = law01_ValueOrders Φ fuel a1 a2 a3 a4 b5 b6 b7 b8 c9 c10 c11 c12 := by kernel_rfl
/-! law01_ValueSizes -/
def sp_law01_ValueSizes : List LSpec := [{ n := 1, m := 38, toks := [], ks := [.slot 1 (.one (.ref 0 0)), .slot 3 (.one (.int .i64)), .slot 4 (.one (.int .i64)), .box 0 (.lit [(.int .i64), (.int .i64), .str, .sl])] }]
def law01_ValueSizes_l0 (Φ : Phi) (fuel : Nat) (k0 : Int → Int → Int → Int → List UInt8 → List (List D) → Option A) (n11 : Int) (i12 : Int) (i13 : Int) (i14 : Int) (s15 : List UInt8) (l16 : List (List D)) : Option A :=
(xite (decide (i12 < ((l16).length : Int)))
((xElem 4 l16 i12).bind fun c17 =>
(xif (decide (4 ≤ (c17).length))
((xDI .i64 (List.getD c17 0 (D.s []))).bind fun n18 =>
((xDI .i64 (List.getD c17 1 (D.s []))).bind fun n19 =>
((xDS (List.getD c17 2 (D.s []))).bind fun s20 =>
((xDL (List.getD c17 3 (D.s []))).bind fun l21 =>
((Φ i_value_Size [(A.agg [(C.d (D.v (.int .i64 n18))), (C.d (D.v (.int .i64 n19))), (C.d (D.s s20)), (C.d (D.sl l21))])]).bind fun r22 =>
((xAD r22).bind fun d23 =>
((xDI .i64 d23).bind fun n24 =>
(k0 (IntKind.i64.wrap (n11 + n24)) (IntKind.i64.wrap (i12 + (1 : Int))) i13 i14 s15 l16))))))))))
((Φ i_value_Size [(A.agg [(C.d (D.v (.int .i64 i13))), (C.d (D.v (.int .i64 i14))), (C.d (D.s s15)), (C.d (D.sl l16))])]).bind fun r25 =>
((xAD r25).bind fun d26 =>
((xDI .i64 d26).bind fun n27 =>
(xite (decide (n27 = n11))
((Φ i_value_Size [(A.agg [(C.d (D.v (.int .i64 i13))), (C.d (D.v (.int .i64 i14))), (C.d (D.s s15)), (C.d (D.sl l16))])]).bind fun r28 =>
((xAD r28).bind fun d29 =>
((xDI .i64 d29).bind fun n30 =>
((Φ i_ref01_Size [(A.agg [(C.d (D.v (.int .i64 i13))), (C.d (D.v (.int .i64 i14))), (C.d (D.s s15)), (C.d (D.sl l16))])]).bind fun r31 =>
((xAD r31).bind fun d32 =>
((xDI .i64 d32).bind fun n33 =>
(xite (decide (n30 = n33))
((Φ i_law01_alive []).bind fun r34 =>
((xAD r34).bind fun d35 =>
((xDB d35).bind fun b36 =>
(some (A.one (C.d (D.v (.bool b36))))))))
(some (A.one (C.d (D.v (.bool false))))))))))))
(some (A.one (C.d (D.v (.bool false))))))))))
def law01_ValueSizes (Φ : Phi) (fuel : Nat) (v1 : Int) (v2 : Int) (v3 : List UInt8) (v4 : List (List D)) : Option A :=
((Φ i_ref01_Small [(A.agg [(C.d (D.v (.int .i64 v1))), (C.d (D.v (.int .i64 v2))), (C.d (D.s v3)), (C.d (D.sl v4))])]).bind fun r5 =>
((xAD r5).bind fun d6 =>
((xDB d6).bind fun b7 =>
(xite (!b7)
((Φ i_law01_alive []).bind fun r8 =>
((xAD r8).bind fun d9 =>
((xDB d9).bind fun b10 =>
(some (A.one (C.d (D.v (.bool b10))))))))
(iter (fun (x : Unit × Int × Int × (Int × Int × List UInt8 × List (List D) × Unit) × Unit) (rec : (Unit × Int × Int × (Int × Int × List UInt8 × List (List D) × Unit) × Unit) → Option A) => law01_ValueSizes_l0 Φ fuel (fun n11 i12 i13 i14 s15 l16 => rec ((), n11, i12, (i13, i14, s15, l16, ()), ())) x.2.1 x.2.2.1 x.2.2.2.1.1 x.2.2.2.1.2.1 x.2.2.2.1.2.2.1 x.2.2.2.1.2.2.2.1) fuel ((), (1 : Int), (0 : Int), (v1, v2, v3, v4, ()), ()))))))
theorem law01_ValueSizes_eq (Φ : Phi) (fuel : Nat) (v1 : Int) (v2 : Int) (v3 : List UInt8) (v4 : List (List D)) : xbody TT0 Φ fuel sp_law01_ValueSizes Try.f6 [(A.agg [(C.d (D.v (.int .i64 v1))), (C.d (D.v (.int .i64 v2))), (C.d (D.s v3)), (C.d (D.sl v4))])] = law01_ValueSizes Φ fuel v1 v2 v3 v4 := by kernel_rfl
/-! law01_ValueLeast -/
def sp_law01_ValueLeast : List LSpec := []
def law01_ValueLeast (Φ : Phi) (fuel : Nat) (v1 : Int) (v2 : Int) (v3 : List UInt8) (v4 : List (List D)) : Option A :=
((Φ i_ref01_Small [(A.agg [(C.d (D.v (.int .i64 v1))), (C.d (D.v (.int .i64 v2))), (C.d (D.s v3)), (C.d (D.sl v4))])]).bind fun r5 =>
((xAD r5).bind fun d6 =>
((xDB d6).bind fun b7 =>
(xite (!b7)
((Φ i_law01_alive []).bind fun r8 =>
((xAD r8).bind fun d9 =>
((xDB d9).bind fun b10 =>
(some (A.one (C.d (D.v (.bool b10))))))))
((Φ i_value_Check [(A.agg [(C.d (D.v (.int .i64 v1))), (C.d (D.v (.int .i64 v2))), (C.d (D.s v3)), (C.d (D.sl v4))])]).bind fun r11 =>
((xAD r11).bind fun d12 =>
((xDI .i64 d12).bind fun n13 =>
(xite (!decide (n13 = (0 : Int)))
((Φ i_law01_alive []).bind fun r14 =>
((xAD r14).bind fun d15 =>
((xDB d15).bind fun b16 =>
(some (A.one (C.d (D.v (.bool b16))))))))
((Φ i_value_Default [(A.one (C.d (D.v (.int .i64 v1))))]).bind fun r17 =>
((xtup r17 0).bind fun r18 =>
((xADs r18).bind fun d19 =>
(xif (decide (d19.length = 4))
((xDI .i64 (List.getD d19 0 (D.s []))).bind fun n20 =>
((xDI .i64 (List.getD d19 1 (D.s []))).bind fun n21 =>
((xDS (List.getD d19 2 (D.s []))).bind fun s22 =>
((xDL (List.getD d19 3 (D.s []))).bind fun l23 =>
((xtup r17 1).bind fun r24 =>
((xAD r24).bind fun d25 =>
((xDI .i64 d25).bind fun n26 =>
(xite (decide (n26 = (0 : Int)))
((Φ i_value_Check [(A.agg [(C.d (D.v (.int .i64 n20))), (C.d (D.v (.int .i64 n21))), (C.d (D.s s22)), (C.d (D.sl l23))])]).bind fun r27 =>
((xAD r27).bind fun d28 =>
((xDI .i64 d28).bind fun n29 =>
(xite (decide (n29 = (0 : Int)))
(xite (decide (n20 = v1))
((Φ i_value_Compare [(A.agg [(C.d (D.v (.int .i64 n20))), (C.d (D.v (.int .i64 n21))), (C.d (D.s s22)), (C.d (D.sl l23))]), (A.agg [(C.d (D.v (.int .i64 v1))), (C.d (D.v (.int .i64 v2))), (C.d (D.s v3)), (C.d (D.sl v4))])]).bind fun r30 =>
((xAD r30).bind fun d31 =>
((xDI .i64 d31).bind fun n32 =>
(xite (decide (n32 ≤ (0 : Int)))
((Φ i_value_Equal [(A.agg [(C.d (D.v (.int .i64 n20))), (C.d (D.v (.int .i64 n21))), (C.d (D.s s22)), (C.d (D.sl l23))]), (A.agg [(C.d (D.v (.int .i64 v1))), (C.d (D.v (.int .i64 v2))), (C.d (D.s v3)), (C.d (D.sl v4))])]).bind fun r33 =>
((xAD r33).bind fun d34 =>
((xDB d34).bind fun b35 =>
((Φ i_value_Compare [(A.agg [(C.d (D.v (.int .i64 v1))), (C.d (D.v (.int .i64 v2))), (C.d (D.s v3)), (C.d (D.sl v4))]), (A.agg [(C.d (D.v (.int .i64 n20))), (C.d (D.v (.int .i64 n21))), (C.d (D.s s22)), (C.d (D.sl l23))])]).bind fun r36 =>
((xAD r36).bind fun d37 =>
((xDI .i64 d37).bind fun n38 =>
(xite (b35 == (decide (n38 ≤ (0 : Int))))
((Φ i_law01_alive []).bind fun r39 =>
((xAD r39).bind fun d40 =>
((xDB d40).bind fun b41 =>
(some (A.one (C.d (D.v (.bool b41))))))))
(some (A.one (C.d (D.v (.bool false))))))))))))
(some (A.one (C.d (D.v (.bool false)))))))))
(some (A.one (C.d (D.v (.bool false))))))
(some (A.one (C.d (D.v (.bool false)))))))))
(some (A.one (C.d (D.v (.bool false)))))))))))))))))))))))))
theorem law01_ValueLeast_eq (Φ : Phi) (fuel : Nat) (v1 : Int) (v2 : Int) (v3 : List UInt8) (v4 : List (List D)) : xbody TT0 Φ fuel sp_law01_ValueLeast Try.f7 [(A.agg [(C.d (D.v (.int .i64 v1))), (C.d (D.v (.int .i64 v2))), (C.d (D.s v3)), (C.d (D.sl v4))])] = law01_ValueLeast Φ fuel v1 v2 v3 v4 := by kernel_rfl
/-! law01_ValueNames -/
def sp_law01_ValueNames : List LSpec := []
def law01_ValueNames (Φ : Phi) (fuel : Nat) (t1 : Int) (s2 : List UInt8) : Option A :=
(xite (decide ((100 : Int) < ((s2).length : Int)))
((Φ i_law01_alive []).bind fun r3 =>
((xAD r3).bind fun d4 =>
((xDB d4).bind fun b5 =>
(some (A.one (C.d (D.v (.bool b5))))))))
((Φ i_value_ParseType [(A.one (C.d (D.s s2)))]).bind fun r6 =>
((xtup r6 0).bind fun r7 =>
((xAD r7).bind fun d8 =>
((xDI .i64 d8).bind fun n9 =>
((xtup r6 1).bind fun r10 =>
((xAD r10).bind fun d11 =>
((xDB d11).bind fun b12 =>
((Φ i_ref01_ParseType [(A.one (C.d (D.s s2)))]).bind fun r13 =>
((xtup r13 0).bind fun r14 =>
((xAD r14).bind fun d15 =>
((xDI .i64 d15).bind fun n16 =>
((xtup r13 1).bind fun r17 =>
((xAD r17).bind fun d18 =>
((xDB d18).bind fun b19 =>
((Φ i_value_Default [(A.one (C.d (D.v (.int .i64 t1))))]).bind fun r20 =>
((xtup r20 0).bind fun r21 =>
((xADs r21).bind fun d22 =>
(xif (decide (d22.length = 4))
((xDI .i64 (List.getD d22 0 (D.s []))).bind fun n23 =>
((xDI .i64 (List.getD d22 1 (D.s []))).bind fun n24 =>
((xDS (List.getD d22 2 (D.s []))).bind fun s25 =>
((xDL (List.getD d22 3 (D.s []))).bind fun l26 =>
((xtup r20 1).bind fun r27 =>
((xAD r27).bind fun d28 =>
((xDI .i64 d28).bind fun n29 =>
((Φ i_ref01_Default [(A.one (C.d (D.v (.int .i64 t1))))]).bind fun r30 =>
((xtup r30 0).bind fun r31 =>
((xADs r31).bind fun d32 =>
(xif (decide (d32.length = 4))
((xDI .i64 (List.getD d32 0 (D.s []))).bind fun n33 =>
((xDI .i64 (List.getD d32 1 (D.s []))).bind fun n34 =>
((xDS (List.getD d32 2 (D.s []))).bind fun s35 =>
((xDL (List.getD d32 3 (D.s []))).bind fun l36 =>
((xtup r30 1).bind fun r37 =>
((xAD r37).bind fun d38 =>
((xDI .i64 d38).bind fun n39 =>
((Φ i_value_TypeName [(A.one (C.d (D.v (.int .i64 t1))))]).bind fun r40 =>
((xAD r40).bind fun d41 =>
((xDS d41).bind fun s42 =>
((Φ i_ref01_TypeName [(A.one (C.d (D.v (.int .i64 t1))))]).bind fun r43 =>
((xAD r43).bind fun d44 =>
((xDS d44).bind fun s45 =>
(xite (decide ((s42 : List UInt8) = s45))
(xite (decide (n9 = n16))
(xite (b12 == b19)
(xite (decide (n29 = n39))
((Φ i_ref01_Equal [(A.agg [(C.d (D.v (.int .i64 n23))), (C.d (D.v (.int .i64 n24))), (C.d (D.s s25)), (C.d (D.sl l26))]), (A.agg [(C.d (D.v (.int .i64 n33))), (C.d (D.v (.int .i64 n34))), (C.d (D.s s35)), (C.d (D.sl l36))])]).bind fun r46 =>
((xAD r46).bind fun d47 =>
((xDB d47).bind fun b48 =>
(xite b48
((Φ i_law01_alive []).bind fun r49 =>
((xAD r49).bind fun d50 =>
((xDB d50).bind fun b51 =>
(some (A.one (C.d (D.v (.bool b51))))))))
(some (A.one (C.d (D.v (.bool false)))))))))
(some (A.one (C.d (D.v (.bool false))))))
(some (A.one (C.d (D.v (.bool false))))))
(some (A.one (C.d (D.v (.bool false))))))
(some (A.one (C.d (D.v (.bool false)))))))))))))))))))))))))))))))))))))))))))))))))
theorem law01_ValueNames_eq (Φ : Phi) (fuel : Nat) (t1 : Int) (s2 : List UInt8) : xbody TT0 Φ fuel sp_law01_ValueNames Try.f8 [(A.one (C.d (D.v (.int .i64 t1)))), (A.one (C.d (D.s s2)))] = law01_ValueNames Φ fuel t1 s2 := by kernel_rfl
/-! law01_ValueBuilds -/
def sp_law01_ValueBuilds : List LSpec := [{ n := 1, m := 111, toks := [], ks := [.slot 1 (.one (.ref 0 0)), .slot 3 (.one (.int .i64)), .box 0 (.lit [.bool, (.int .i64), .str, .sl, .sl, .sl])] }]
def law01_ValueBuilds_l0 (Φ : Phi) (fuel : Nat) (k0 : Int → Bool → Int → List UInt8 → List (List D) → List (List D) → List (List D) → Option A) (i16 : Int) (b17 : Bool) (i18 : Int) (s19 : List UInt8) (l20 : List (List D)) (l21 : List (List D)) (l22 : List (List D)) : Option A :=
(xite (decide (i16 < ((l22).length : Int)))
((xElem 1 l22 i16).bind fun c23 =>
(xif (decide (1 ≤ (c23).length))
((xDL (List.getD c23 0 (D.s []))).bind fun l24 =>
(xite (decide ((40 : Int) < ((l24).length : Int)))
((Φ i_law01_alive []).bind fun r25 =>
((xAD r25).bind fun d26 =>
((xDB d26).bind fun b27 =>
(some (A.one (C.d (D.v (.bool b27))))))))
(k0 (IntKind.i64.wrap (i16 + (1 : Int))) b17 i18 s19 l20 l21 l22)))))
((Φ i_value_OfBool [(A.one (C.d (D.v (.bool b17))))]).bind fun r28 =>
((xADs r28).bind fun d29 =>
(xif (decide (d29.length = 4))
((xDI .i64 (List.getD d29 0 (D.s []))).bind fun n30 =>
((xDI .i64 (List.getD d29 1 (D.s []))).bind fun n31 =>
((xDS (List.getD d29 2 (D.s []))).bind fun s32 =>
((xDL (List.getD d29 3 (D.s []))).bind fun l33 =>
((Φ i_ref01_OfBool [(A.one (C.d (D.v (.bool b17))))]).bind fun r34 =>
((xADs r34).bind fun d35 =>
(xif (decide (d35.length = 4))
((xDI .i64 (List.getD d35 0 (D.s []))).bind fun n36 =>
((xDI .i64 (List.getD d35 1 (D.s []))).bind fun n37 =>
((xDS (List.getD d35 2 (D.s []))).bind fun s38 =>
((xDL (List.getD d35 3 (D.s []))).bind fun l39 =>
((Φ i_ref01_Equal [(A.agg [(C.d (D.v (.int .i64 n30))), (C.d (D.v (.int .i64 n31))), (C.d (D.s s32)), (C.d (D.sl l33))]), (A.agg [(C.d (D.v (.int .i64 n36))), (C.d (D.v (.int .i64 n37))), (C.d (D.s s38)), (C.d (D.sl l39))])]).bind fun r40 =>
((xAD r40).bind fun d41 =>
((xDB d41).bind fun b42 =>
(xite (!b42)
(some (A.one (C.d (D.v (.bool false)))))
((Φ i_value_OfInt [(A.one (C.d (D.v (.int .i64 i18))))]).bind fun r43 =>
((xADs r43).bind fun d44 =>
(xif (decide (d44.length = 4))
((xDI .i64 (List.getD d44 0 (D.s []))).bind fun n45 =>
((xDI .i64 (List.getD d44 1 (D.s []))).bind fun n46 =>
((xDS (List.getD d44 2 (D.s []))).bind fun s47 =>
((xDL (List.getD d44 3 (D.s []))).bind fun l48 =>
((Φ i_ref01_OfInt [(A.one (C.d (D.v (.int .i64 i18))))]).bind fun r49 =>
((xADs r49).bind fun d50 =>
(xif (decide (d50.length = 4))
((xDI .i64 (List.getD d50 0 (D.s []))).bind fun n51 =>
((xDI .i64 (List.getD d50 1 (D.s []))).bind fun n52 =>
((xDS (List.getD d50 2 (D.s []))).bind fun s53 =>
((xDL (List.getD d50 3 (D.s []))).bind fun l54 =>
((Φ i_ref01_Equal [(A.agg [(C.d (D.v (.int .i64 n45))), (C.d (D.v (.int .i64 n46))), (C.d (D.s s47)), (C.d (D.sl l48))]), (A.agg [(C.d (D.v (.int .i64 n51))), (C.d (D.v (.int .i64 n52))), (C.d (D.s s53)), (C.d (D.sl l54))])]).bind fun r55 =>
((xAD r55).bind fun d56 =>
((xDB d56).bind fun b57 =>
(xite (!b57)
(some (A.one (C.d (D.v (.bool false)))))
((Φ i_value_OfBits [(A.one (C.d (D.v (.int .i64 i18))))]).bind fun r58 =>
((xADs r58).bind fun d59 =>
(xif (decide (d59.length = 4))
((xDI .i64 (List.getD d59 0 (D.s []))).bind fun n60 =>
((xDI .i64 (List.getD d59 1 (D.s []))).bind fun n61 =>
((xDS (List.getD d59 2 (D.s []))).bind fun s62 =>
((xDL (List.getD d59 3 (D.s []))).bind fun l63 =>
((Φ i_ref01_OfBits [(A.one (C.d (D.v (.int .i64 i18))))]).bind fun r64 =>
((xADs r64).bind fun d65 =>
(xif (decide (d65.length = 4))
((xDI .i64 (List.getD d65 0 (D.s []))).bind fun n66 =>
((xDI .i64 (List.getD d65 1 (D.s []))).bind fun n67 =>
((xDS (List.getD d65 2 (D.s []))).bind fun s68 =>
((xDL (List.getD d65 3 (D.s []))).bind fun l69 =>
((Φ i_ref01_Equal [(A.agg [(C.d (D.v (.int .i64 n60))), (C.d (D.v (.int .i64 n61))), (C.d (D.s s62)), (C.d (D.sl l63))]), (A.agg [(C.d (D.v (.int .i64 n66))), (C.d (D.v (.int .i64 n67))), (C.d (D.s s68)), (C.d (D.sl l69))])]).bind fun r70 =>
((xAD r70).bind fun d71 =>
((xDB d71).bind fun b72 =>
(xite (!b72)
(some (A.one (C.d (D.v (.bool false)))))
((Φ i_value_OfText [(A.one (C.d (D.s s19)))]).bind fun r73 =>
((xADs r73).bind fun d74 =>
(xif (decide (d74.length = 4))
((xDI .i64 (List.getD d74 0 (D.s []))).bind fun n75 =>
((xDI .i64 (List.getD d74 1 (D.s []))).bind fun n76 =>
((xDS (List.getD d74 2 (D.s []))).bind fun s77 =>
((xDL (List.getD d74 3 (D.s []))).bind fun l78 =>
((Φ i_ref01_OfText [(A.one (C.d (D.s s19)))]).bind fun r79 =>
((xADs r79).bind fun d80 =>
(xif (decide (d80.length = 4))
((xDI .i64 (List.getD d80 0 (D.s []))).bind fun n81 =>
((xDI .i64 (List.getD d80 1 (D.s []))).bind fun n82 =>
((xDS (List.getD d80 2 (D.s []))).bind fun s83 =>
((xDL (List.getD d80 3 (D.s []))).bind fun l84 =>
((Φ i_ref01_Equal [(A.agg [(C.d (D.v (.int .i64 n75))), (C.d (D.v (.int .i64 n76))), (C.d (D.s s77)), (C.d (D.sl l78))]), (A.agg [(C.d (D.v (.int .i64 n81))), (C.d (D.v (.int .i64 n82))), (C.d (D.s s83)), (C.d (D.sl l84))])]).bind fun r85 =>
((xAD r85).bind fun d86 =>
((xDB d86).bind fun b87 =>
(xite (!b87)
(some (A.one (C.d (D.v (.bool false)))))
((Φ i_value_OfPattern [(A.one (C.d (D.s s19)))]).bind fun r88 =>
((xADs r88).bind fun d89 =>
(xif (decide (d89.length = 4))
((xDI .i64 (List.getD d89 0 (D.s []))).bind fun n90 =>
((xDI .i64 (List.getD d89 1 (D.s []))).bind fun n91 =>
((xDS (List.getD d89 2 (D.s []))).bind fun s92 =>
((xDL (List.getD d89 3 (D.s []))).bind fun l93 =>
((Φ i_ref01_OfPattern [(A.one (C.d (D.s s19)))]).bind fun r94 =>
((xADs r94).bind fun d95 =>
(xif (decide (d95.length = 4))
((xDI .i64 (List.getD d95 0 (D.s []))).bind fun n96 =>
((xDI .i64 (List.getD d95 1 (D.s []))).bind fun n97 =>
((xDS (List.getD d95 2 (D.s []))).bind fun s98 =>
((xDL (List.getD d95 3 (D.s []))).bind fun l99 =>
((Φ i_ref01_Equal [(A.agg [(C.d (D.v (.int .i64 n90))), (C.d (D.v (.int .i64 n91))), (C.d (D.s s92)), (C.d (D.sl l93))]), (A.agg [(C.d (D.v (.int .i64 n96))), (C.d (D.v (.int .i64 n97))), (C.d (D.s s98)), (C.d (D.sl l99))])]).bind fun r100 =>
((xAD r100).bind fun d101 =>
((xDB d101).bind fun b102 =>
(xite (!b102)
(some (A.one (C.d (D.v (.bool false)))))
((Φ i_value_OfInts [(A.one (C.d (D.sl l20)))]).bind fun r103 =>
((xADs r103).bind fun d104 =>
(xif (decide (d104.length = 4))
((xDI .i64 (List.getD d104 0 (D.s []))).bind fun n105 =>
((xDI .i64 (List.getD d104 1 (D.s []))).bind fun n106 =>
((xDS (List.getD d104 2 (D.s []))).bind fun s107 =>
((xDL (List.getD d104 3 (D.s []))).bind fun l108 =>
((Φ i_ref01_OfInts [(A.one (C.d (D.sl l20)))]).bind fun r109 =>
((xADs r109).bind fun d110 =>
(xif (decide (d110.length = 4))
((xDI .i64 (List.getD d110 0 (D.s []))).bind fun n111 =>
((xDI .i64 (List.getD d110 1 (D.s []))).bind fun n112 =>
((xDS (List.getD d110 2 (D.s []))).bind fun s113 =>
((xDL (List.getD d110 3 (D.s []))).bind fun l114 =>
((Φ i_ref01_Equal [(A.agg [(C.d (D.v (.int .i64 n105))), (C.d (D.v (.int .i64 n106))), (C.d (D.s s107)), (C.d (D.sl l108))]), (A.agg [(C.d (D.v (.int .i64 n111))), (C.d (D.v (.int .i64 n112))), (C.d (D.s s113)), (C.d (D.sl l114))])]).bind fun r115 =>
((xAD r115).bind fun d116 =>
((xDB d116).bind fun b117 =>
(xite (!b117)
(some (A.one (C.d (D.v (.bool false)))))
((Φ i_value_OfTexts [(A.one (C.d (D.sl l21)))]).bind fun r118 =>
((xADs r118).bind fun d119 =>
(xif (decide (d119.length = 4))
((xDI .i64 (List.getD d119 0 (D.s []))).bind fun n120 =>
((xDI .i64 (List.getD d119 1 (D.s []))).bind fun n121 =>
((xDS (List.getD d119 2 (D.s []))).bind fun s122 =>
((xDL (List.getD d119 3 (D.s []))).bind fun l123 =>
((Φ i_ref01_OfTexts [(A.one (C.d (D.sl l21)))]).bind fun r124 =>
((xADs r124).bind fun d125 =>
(xif (decide (d125.length = 4))
((xDI .i64 (List.getD d125 0 (D.s []))).bind fun n126 =>
((xDI .i64 (List.getD d125 1 (D.s []))).bind fun n127 =>
((xDS (List.getD d125 2 (D.s []))).bind fun s128 =>
((xDL (List.getD d125 3 (D.s []))).bind fun l129 =>
((Φ i_ref01_Equal [(A.agg [(C.d (D.v (.int .i64 n120))), (C.d (D.v (.int .i64 n121))), (C.d (D.s s122)), (C.d (D.sl l123))]), (A.agg [(C.d (D.v (.int .i64 n126))), (C.d (D.v (.int .i64 n127))), (C.d (D.s s128)), (C.d (D.sl l129))])]).bind fun r130 =>
((xAD r130).bind fun d131 =>
((xDB d131).bind fun b132 =>
(xite b132
((Φ i_value_OfTable [(A.one (C.d (D.sl l22)))]).bind fun r133 =>
((xADs r133).bind fun d134 =>
(xif (decide (d134.length = 4))
((xDI .i64 (List.getD d134 0 (D.s []))).bind fun n135 =>
((xDI .i64 (List.getD d134 1 (D.s []))).bind fun n136 =>
((xDS (List.getD d134 2 (D.s []))).bind fun s137 =>
((xDL (List.getD d134 3 (D.s []))).bind fun l138 =>
((Φ i_ref01_OfTable [(A.one (C.d (D.sl l22)))]).bind fun r139 =>
((xADs r139).bind fun d140 =>
(xif (decide (d140.length = 4))
((xDI .i64 (List.getD d140 0 (D.s []))).bind fun n141 =>
((xDI .i64 (List.getD d140 1 (D.s []))).bind fun n142 =>
((xDS (List.getD d140 2 (D.s []))).bind fun s143 =>
((xDL (List.getD d140 3 (D.s []))).bind fun l144 =>
((Φ i_ref01_Equal [(A.agg [(C.d (D.v (.int .i64 n135))), (C.d (D.v (.int .i64 n136))), (C.d (D.s s137)), (C.d (D.sl l138))]), (A.agg [(C.d (D.v (.int .i64 n141))), (C.d (D.v (.int .i64 n142))), (C.d (D.s s143)), (C.d (D.sl l144))])]).bind fun r145 =>
((xAD r145).bind fun d146 =>
((xDB d146).bind fun b147 =>
(xite b147
((Φ i_law01_alive []).bind fun r148 =>
((xAD r148).bind fun d149 =>
((xDB d149).bind fun b150 =>
(some (A.one (C.d (D.v (.bool b150))))))))
(some (A.one (C.d (D.v (.bool false)))))))))))))))))))))))
(some (A.one (C.d (D.v (.bool false))))))))))))))))))))))))))))))))))))))))))))))))))))))))))))))))))))))))))))))))))))))))))))))))))))))))))))))))))))))))))))))))))))
def law01_ValueBuilds (Φ : Phi) (fuel : Nat) (x1 : Bool) (x2 : Int) (x3 : List UInt8) (x4 : List (List D)) (x5 : List (List D)) (x6 : List (List D)) : Option A :=
(xite (decide ((40 : Int) < ((x4).length : Int)))
((Φ i_law01_alive []).bind fun r7 =>
((xAD r7).bind fun d8 =>
((xDB d8).bind fun b9 =>
(some (A.one (C.d (D.v (.bool b9))))))))
(xite (decide ((40 : Int) < ((x5).length : Int)))
((Φ i_law01_alive []).bind fun r10 =>
((xAD r10).bind fun d11 =>
((xDB d11).bind fun b12 =>
(some (A.one (C.d (D.v (.bool b12))))))))
(xite (decide ((40 : Int) < ((x6).length : Int)))
((Φ i_law01_alive []).bind fun r13 =>
((xAD r13).bind fun d14 =>
((xDB d14).bind fun b15 =>
(some (A.one (C.d (D.v (.bool b15))))))))
(iter (fun (x : Unit × Int × (Bool × Int × List UInt8 × List (List D) × List (List D) × List (List D) × Unit) × Unit) (rec : (Unit × Int × (Bool × Int × List UInt8 × List (List D) × List (List D) × List (List D) × Unit) × Unit) → Option A) => law01_ValueBuilds_l0 Φ fuel (fun i16 b17 i18 s19 l20 l21 l22 => rec ((), i16, (b17, i18, s19, l20, l21, l22, ()), ())) x.2.1 x.2.2.1.1 x.2.2.1.2.1 x.2.2.1.2.2.1 x.2.2.1.2.2.2.1 x.2.2.1.2.2.2.2.1 x.2.2.1.2.2.2.2.2.1) fuel ((), (0 : Int), (x1, x2, x3, x4, x5, x6, ()), ())))))
theorem law01_ValueBuilds_eq (Φ : Phi) (fuel : Nat) (x1 : Bool) (x2 : Int) (x3 : List UInt8) (x4 : List (List D)) (x5 : List (List D)) (x6 : List (List D)) : xbody TT0 Φ fuel sp_law01_ValueBuilds Try.f9 [(A.agg [(C.d (D.v (.bool x1))), (C.d (D.v (.int .i64 x2))), (C.d (D.s x3)), (C.d (D.sl x4)), (C.d (D.sl x5)), (C.d (D.sl x6))])] = law01_ValueBuilds Φ fuel x1 x2 x3 x4 x5 x6 := by kernel_rfl
/-! law01_ValueReads -/
def sp_law01_ValueReads : List LSpec := []
def law01_ValueReads (Φ : Phi) (fuel : Nat) (v1 : Int) (v2 : Int) (v3 : List UInt8) (v4 : List (List D)) : Option A :=
((Φ i_ref01_Small [(A.agg [(C.d (D.v (.int .i64 v1))), (C.d (D.v (.int .i64 v2))), (C.d (D.s v3)), (C.d (D.sl v4))])]).bind fun r5 =>
((xAD r5).bind fun d6 =>
((xDB d6).bind fun b7 =>
(xite (!b7)
((Φ i_law01_alive []).bind fun r8 =>
((xAD r8).bind fun d9 =>
((xDB d9).bind fun b10 =>
(some (A.one (C.d (D.v (.bool b10))))))))
((Φ i_value_Ints [(A.agg [(C.d (D.v (.int .i64 v1))), (C.d (D.v (.int .i64 v2))), (C.d (D.s v3)), (C.d (D.sl v4))])]).bind fun r11 =>
((xtup r11 0).bind fun r12 =>
((xAD r12).bind fun d13 =>
((xDL d13).bind fun l14 =>
((xtup r11 1).bind fun r15 =>
((xAD r15).bind fun d16 =>
((xDB d16).bind fun b17 =>
((Φ i_ref01_Ints [(A.agg [(C.d (D.v (.int .i64 v1))), (C.d (D.v (.int .i64 v2))), (C.d (D.s v3)), (C.d (D.sl v4))])]).bind fun r18 =>
((xtup r18 0).bind fun r19 =>
((xAD r19).bind fun d20 =>
((xDL d20).bind fun l21 =>
((xtup r18 1).bind fun r22 =>
((xAD r22).bind fun d23 =>
((xDB d23).bind fun b24 =>
((Φ i_value_Texts [(A.agg [(C.d (D.v (.int .i64 v1))), (C.d (D.v (.int .i64 v2))), (C.d (D.s v3)), (C.d (D.sl v4))])]).bind fun r25 =>
((xtup r25 0).bind fun r26 =>
((xAD r26).bind fun d27 =>
((xDL d27).bind fun l28 =>
((xtup r25 1).bind fun r29 =>
((xAD r29).bind fun d30 =>
((xDB d30).bind fun b31 =>
((Φ i_ref01_Texts [(A.agg [(C.d (D.v (.int .i64 v1))), (C.d (D.v (.int .i64 v2))), (C.d (D.s v3)), (C.d (D.sl v4))])]).bind fun r32 =>
((xtup r32 0).bind fun r33 =>
((xAD r33).bind fun d34 =>
((xDL d34).bind fun l35 =>
((xtup r32 1).bind fun r36 =>
((xAD r36).bind fun d37 =>
((xDB d37).bind fun b38 =>
((Φ i_value_Rows [(A.agg [(C.d (D.v (.int .i64 v1))), (C.d (D.v (.int .i64 v2))), (C.d (D.s v3)), (C.d (D.sl v4))])]).bind fun r39 =>
((xtup r39 0).bind fun r40 =>
((xAD r40).bind fun d41 =>
((xDL d41).bind fun l42 =>
((xtup r39 1).bind fun r43 =>
((xAD r43).bind fun d44 =>
((xDB d44).bind fun b45 =>
((Φ i_ref01_Rows [(A.agg [(C.d (D.v (.int .i64 v1))), (C.d (D.v (.int .i64 v2))), (C.d (D.s v3)), (C.d (D.sl v4))])]).bind fun r46 =>
((xtup r46 0).bind fun r47 =>
((xAD r47).bind fun d48 =>
((xDL d48).bind fun l49 =>
((xtup r46 1).bind fun r50 =>
((xAD r50).bind fun d51 =>
((xDB d51).bind fun b52 =>
(xite (!(b17 == b24))
(some (A.one (C.d (D.v (.bool false)))))
(xite (!(b31 == b38))
(some (A.one (C.d (D.v (.bool false)))))
(xite (!(b45 == b52))
(some (A.one (C.d (D.v (.bool false)))))
(xite (!b17)
(xite (decide ((0 : Int) < ((l14).length : Int)))
(some (A.one (C.d (D.v (.bool false)))))
(xite (!b31)
(xite (decide ((0 : Int) < ((l28).length : Int)))
(some (A.one (C.d (D.v (.bool false)))))
(xite (!b45)
(xite (decide ((0 : Int) < ((l42).length : Int)))
(some (A.one (C.d (D.v (.bool false)))))
(xite (!b17)
(xite (!b31)
(xite (!b45)
((Φ i_law01_alive []).bind fun r53 =>
((xAD r53).bind fun d54 =>
((xDB d54).bind fun b55 =>
(some (A.one (C.d (D.v (.bool b55))))))))
((Φ i_ref01_OfTable [(A.one (C.d (D.sl l42)))]).bind fun r56 =>
((xADs r56).bind fun d57 =>
(xif (decide (d57.length = 4))
((xDI .i64 (List.getD d57 0 (D.s []))).bind fun n58 =>
((xDI .i64 (List.getD d57 1 (D.s []))).bind fun n59 =>
((xDS (List.getD d57 2 (D.s []))).bind fun s60 =>
((xDL (List.getD d57 3 (D.s []))).bind fun l61 =>
((Φ i_ref01_Equal [(A.agg [(C.d (D.v (.int .i64 n58))), (C.d (D.v (.int .i64 n59))), (C.d (D.s s60)), (C.d (D.sl l61))]), (A.agg [(C.d (D.v (.int .i64 v1))), (C.d (D.v (.int .i64 v2))), (C.d (D.s v3)), (C.d (D.sl v4))])]).bind fun r62 =>
((xAD r62).bind fun d63 =>
((xDB d63).bind fun b64 =>
(xite b64
((Φ i_law01_alive []).bind fun r65 =>
((xAD r65).bind fun d66 =>
((xDB d66).bind fun b67 =>
(some (A.one (C.d (D.v (.bool b67))))))))
(some (A.one (C.d (D.v (.bool false)))))))))))))))))
((Φ i_ref01_OfTexts [(A.one (C.d (D.sl l28)))]).bind fun r68 =>
((xADs r68).bind fun d69 =>
(xif (decide (d69.length = 4))
((xDI .i64 (List.getD d69 0 (D.s []))).bind fun n70 =>
((xDI .i64 (List.getD d69 1 (D.s []))).bind fun n71 =>
((xDS (List.getD d69 2 (D.s []))).bind fun s72 =>
((xDL (List.getD d69 3 (D.s []))).bind fun l73 =>
((Φ i_ref01_Equal [(A.agg [(C.d (D.v (.int .i64 n70))), (C.d (D.v (.int .i64 n71))), (C.d (D.s s72)), (C.d (D.sl l73))]), (A.agg [(C.d (D.v (.int .i64 v1))), (C.d (D.v (.int .i64 v2))), (C.d (D.s v3)), (C.d (D.sl v4))])]).bind fun r74 =>
((xAD r74).bind fun d75 =>
((xDB d75).bind fun b76 =>
(xite b76
(xite (!b45)
((Φ i_law01_alive []).bind fun r77 =>
((xAD r77).bind fun d78 =>
((xDB d78).bind fun b79 =>
(some (A.one (C.d (D.v (.bool b79))))))))
((Φ i_ref01_OfTable [(A.one (C.d (D.sl l42)))]).bind fun r80 =>
((xADs r80).bind fun d81 =>
(xif (decide (d81.length = 4))
((xDI .i64 (List.getD d81 0 (D.s []))).bind fun n82 =>
((xDI .i64 (List.getD d81 1 (D.s []))).bind fun n83 =>
((xDS (List.getD d81 2 (D.s []))).bind fun s84 =>
((xDL (List.getD d81 3 (D.s []))).bind fun l85 =>
((Φ i_ref01_Equal [(A.agg [(C.d (D.v (.int .i64 n82))), (C.d (D.v (.int .i64 n83))), (C.d (D.s s84)), (C.d (D.sl l85))]), (A.agg [(C.d (D.v (.int .i64 v1))), (C.d (D.v (.int .i64 v2))), (C.d (D.s v3)), (C.d (D.sl v4))])]).bind fun r86 =>
((xAD r86).bind fun d87 =>
((xDB d87).bind fun b88 =>
(xite b88
((Φ i_law01_alive []).bind fun r89 =>
((xAD r89).bind fun d90 =>
((xDB d90).bind fun b91 =>
(some (A.one (C.d (D.v (.bool b91))))))))
(some (A.one (C.d (D.v (.bool false)))))))))))))))))
(some (A.one (C.d (D.v (.bool false)))))))))))))))))
((Φ i_ref01_OfInts [(A.one (C.d (D.sl l14)))]).bind fun r92 =>
((xADs r92).bind fun d93 =>
(xif (decide (d93.length = 4))
((xDI .i64 (List.getD d93 0 (D.s []))).bind fun n94 =>
((xDI .i64 (List.getD d93 1 (D.s []))).bind fun n95 =>
((xDS (List.getD d93 2 (D.s []))).bind fun s96 =>
((xDL (List.getD d93 3 (D.s []))).bind fun l97 =>
((Φ i_ref01_Equal [(A.agg [(C.d (D.v (.int .i64 n94))), (C.d (D.v (.int .i64 n95))), (C.d (D.s s96)), (C.d (D.sl l97))]), (A.agg [(C.d (D.v (.int .i64 v1))), (C.d (D.v (.int .i64 v2))), (C.d (D.s v3)), (C.d (D.sl v4))])]).bind fun r98 =>
((xAD r98).bind fun d99 =>
((xDB d99).bind fun b100 =>
(xite b100
(xite (!b31)
(xite (!b45)
((Φ i_law01_alive []).bind fun r101 =>
((xAD r101).bind fun d102 =>
((xDB d102).bind fun b103 =>
(some (A.one (C.d (D.v (.bool b103))))))))
((Φ i_ref01_OfTable [(A.one (C.d (D.sl l42)))]).bind fun r104 =>
((xADs r104).bind fun d105 =>
(xif (decide (d105.length = 4))
((xDI .i64 (List.getD d105 0 (D.s []))).bind fun n106 =>
((xDI .i64 (List.getD d105 1 (D.s []))).bind fun n107 =>
((xDS (List.getD d105 2 (D.s []))).bind fun s108 =>
((xDL (List.getD d105 3 (D.s []))).bind fun l109 =>
((Φ i_ref01_Equal [(A.agg [(C.d (D.v (.int .i64 n106))), (C.d (D.v (.int .i64 n107))), (C.d (D.s s108)), (C.d (D.sl l109))]), (A.agg [(C.d (D.v (.int .i64 v1))), (C.d (D.v (.int .i64 v2))), (C.d (D.s v3)), (C.d (D.sl v4))])]).bind fun r110 =>
((xAD r110).bind fun d111 =>
((xDB d111).bind fun b112 =>
(xite b112
((Φ i_law01_alive []).bind fun r113 =>
((xAD r113).bind fun d114 =>
((xDB d114).bind fun b115 =>
(some (A.one (C.d (D.v (.bool b115))))))))
(some (A.one (C.d (D.v (.bool false)))))))))))))))))
((Φ i_ref01_OfTexts [(A.one (C.d (D.sl l28)))]).bind fun r116 =>
((xADs r116).bind fun d117 =>
(xif (decide (d117.length = 4))
((xDI .i64 (List.getD d117 0 (D.s []))).bind fun n118 =>
((xDI .i64 (List.getD d117 1 (D.s []))).bind fun n119 =>
((xDS (List.getD d117 2 (D.s []))).bind fun s120 =>
((xDL (List.getD d117 3 (D.s []))).bind fun l121 =>
((Φ i_ref01_Equal [(A.agg [(C.d (D.v (.int .i64 n118))), (C.d (D.v (.int .i64 n119))), (C.d (D.s s120)), (C.d (D.sl l121))]), (A.agg [(C.d (D.v (.int .i64 v1))), (C.d (D.v (.int .i64 v2))), (C.d (D.s v3)), (C.d (D.sl v4))])]).bind fun r122 =>
((xAD r122).bind fun d123 =>
((xDB d123).bind fun b124 =>
(xite b124
(xite (!b45)
((Φ i_law01_alive []).bind fun r125 =>
((xAD r125).bind fun d126 =>
((xDB d126).bind fun b127 =>
(some (A.one (C.d (D.v (.bool b127))))))))
((Φ i_ref01_OfTable [(A.one (C.d (D.sl l42)))]).bind fun r128 =>
((xADs r128).bind fun d129 =>
(xif (decide (d129.length = 4))
((xDI .i64 (List.getD d129 0 (D.s []))).bind fun n130 =>
((xDI .i64 (List.getD d129 1 (D.s []))).bind fun n131 =>
((xDS (List.getD d129 2 (D.s []))).bind fun s132 =>
((xDL (List.getD d129 3 (D.s []))).bind fun l133 =>
((Φ i_ref01_Equal [(A.agg [(C.d (D.v (.int .i64 n130))), (C.d (D.v (.int .i64 n131))), (C.d (D.s s132)), (C.d (D.sl l133))]), (A.agg [(C.d (D.v (.int .i64 v1))), (C.d (D.v (.int .i64 v2))), (C.d (D.s v3)), (C.d (D.sl v4))])]).bind fun r134 =>
((xAD r134).bind fun d135 =>
((xDB d135).bind fun b136 =>
(xite b136
((Φ i_law01_alive []).bind fun r137 =>
((xAD r137).bind fun d138 =>
((xDB d138).bind fun b139 =>
(some (A.one (C.d (D.v (.bool b139))))))))
(some (A.one (C.d (D.v (.bool false)))))))))))))))))
(some (A.one (C.d (D.v (.bool false)))))))))))))))))
(some (A.one (C.d (D.v (.bool false))))))))))))))))))
(xite (!b17)
(xite (!b31)
(xite (!b45)
((Φ i_law01_alive []).bind fun r140 =>
((xAD r140).bind fun d141 =>
((xDB d141).bind fun b142 =>
(some (A.one (C.d (D.v (.bool b142))))))))
((Φ i_ref01_OfTable [(A.one (C.d (D.sl l42)))]).bind fun r143 =>
((xADs r143).bind fun d144 =>
(xif (decide (d144.length = 4))
((xDI .i64 (List.getD d144 0 (D.s []))).bind fun n145 =>
((xDI .i64 (List.getD d144 1 (D.s []))).bind fun n146 =>
((xDS (List.getD d144 2 (D.s []))).bind fun s147 =>
((xDL (List.getD d144 3 (D.s []))).bind fun l148 =>
((Φ i_ref01_Equal [(A.agg [(C.d (D.v (.int .i64 n145))), (C.d (D.v (.int .i64 n146))), (C.d (D.s s147)), (C.d (D.sl l148))]), (A.agg [(C.d (D.v (.int .i64 v1))), (C.d (D.v (.int .i64 v2))), (C.d (D.s v3)), (C.d (D.sl v4))])]).bind fun r149 =>
((xAD r149).bind fun d150 =>
((xDB d150).bind fun b151 =>
(xite b151
((Φ i_law01_alive []).bind fun r152 =>
((xAD r152).bind fun d153 =>
((xDB d153).bind fun b154 =>
(some (A.one (C.d (D.v (.bool b154))))))))
(some (A.one (C.d (D.v (.bool false)))))))))))))))))
((Φ i_ref01_OfTexts [(A.one (C.d (D.sl l28)))]).bind fun r155 =>
((xADs r155).bind fun d156 =>
(xif (decide (d156.length = 4))
((xDI .i64 (List.getD d156 0 (D.s []))).bind fun n157 =>
((xDI .i64 (List.getD d156 1 (D.s []))).bind fun n158 =>
((xDS (List.getD d156 2 (D.s []))).bind fun s159 =>
((xDL (List.getD d156 3 (D.s []))).bind fun l160 =>
((Φ i_ref01_Equal [(A.agg [(C.d (D.v (.int .i64 n157))), (C.d (D.v (.int .i64 n158))), (C.d (D.s s159)), (C.d (D.sl l160))]), (A.agg [(C.d (D.v (.int .i64 v1))), (C.d (D.v (.int .i64 v2))), (C.d (D.s v3)), (C.d (D.sl v4))])]).bind fun r161 =>
((xAD r161).bind fun d162 =>
((xDB d162).bind fun b163 =>
(xite b163
(xite (!b45)
((Φ i_law01_alive []).bind fun r164 =>
((xAD r164).bind fun d165 =>
((xDB d165).bind fun b166 =>
(some (A.one (C.d (D.v (.bool b166))))))))
((Φ i_ref01_OfTable [(A.one (C.d (D.sl l42)))]).bind fun r167 =>
((xADs r167).bind fun d168 =>
(xif (decide (d168.length = 4))
((xDI .i64 (List.getD d168 0 (D.s []))).bind fun n169 =>
((xDI .i64 (List.getD d168 1 (D.s []))).bind fun n170 =>
((xDS (List.getD d168 2 (D.s []))).bind fun s171 =>
((xDL (List.getD d168 3 (D.s []))).bind fun l172 =>
((Φ i_ref01_Equal [(A.agg [(C.d (D.v (.int .i64 n169))), (C.d (D.v (.int .i64 n170))), (C.d (D.s s171)), (C.d (D.sl l172))]), (A.agg [(C.d (D.v (.int .i64 v1))), (C.d (D.v (.int .i64 v2))), (C.d (D.s v3)), (C.d (D.sl v4))])]).bind fun r173 =>
((xAD r173).bind fun d174 =>
((xDB d174).bind fun b175 =>
(xite b175
((Φ i_law01_alive []).bind fun r176 =>
((xAD r176).bind fun d177 =>
((xDB d177).bind fun b178 =>
(some (A.one (C.d (D.v (.bool b178))))))))
(some (A.one (C.d (D.v (.bool false)))))))))))))))))
(some (A.one (C.d (D.v (.bool false)))))))))))))))))
((Φ i_ref01_OfInts [(A.one (C.d (D.sl l14)))]).bind fun r179 =>
((xADs r179).bind fun d180 =>
(xif (decide (d180.length = 4))
((xDI .i64 (List.getD d180 0 (D.s []))).bind fun n181 =>
((xDI .i64 (List.getD d180 1 (D.s []))).bind fun n182 =>
((xDS (List.getD d180 2 (D.s []))).bind fun s183 =>
((xDL (List.getD d180 3 (D.s []))).bind fun l184 =>
((Φ i_ref01_Equal [(A.agg [(C.d (D.v (.int .i64 n181))), (C.d (D.v (.int .i64 n182))), (C.d (D.s s183)), (C.d (D.sl l184))]), (A.agg [(C.d (D.v (.int .i64 v1))), (C.d (D.v (.int .i64 v2))), (C.d (D.s v3)), (C.d (D.sl v4))])]).bind fun r185 =>
((xAD r185).bind fun d186 =>
((xDB d186).bind fun b187 =>
(xite b187
(xite (!b31)
(xite (!b45)
((Φ i_law01_alive []).bind fun r188 =>
((xAD r188).bind fun d189 =>
((xDB d189).bind fun b190 =>
(some (A.one (C.d (D.v (.bool b190))))))))
((Φ i_ref01_OfTable [(A.one (C.d (D.sl l42)))]).bind fun r191 =>
((xADs r191).bind fun d192 =>
(xif (decide (d192.length = 4))
((xDI .i64 (List.getD d192 0 (D.s []))).bind fun n193 =>
((xDI .i64 (List.getD d192 1 (D.s []))).bind fun n194 =>
((xDS (List.getD d192 2 (D.s []))).bind fun s195 =>
((xDL (List.getD d192 3 (D.s []))).bind fun l196 =>
((Φ i_ref01_Equal [(A.agg [(C.d (D.v (.int .i64 n193))), (C.d (D.v (.int .i64 n194))), (C.d (D.s s195)), (C.d (D.sl l196))]), (A.agg [(C.d (D.v (.int .i64 v1))), (C.d (D.v (.int .i64 v2))), (C.d (D.s v3)), (C.d (D.sl v4))])]).bind fun r197 =>
((xAD r197).bind fun d198 =>
((xDB d198).bind fun b199 =>
(xite b199
((Φ i_law01_alive []).bind fun r200 =>
((xAD r200).bind fun d201 =>
((xDB d201).bind fun b202 =>
(some (A.one (C.d (D.v (.bool b202))))))))
(some (A.one (C.d (D.v (.bool false)))))))))))))))))
((Φ i_ref01_OfTexts [(A.one (C.d (D.sl l28)))]).bind fun r203 =>
((xADs r203).bind fun d204 =>
(xif (decide (d204.length = 4))
((xDI .i64 (List.getD d204 0 (D.s []))).bind fun n205 =>
((xDI .i64 (List.getD d204 1 (D.s []))).bind fun n206 =>
((xDS (List.getD d204 2 (D.s []))).bind fun s207 =>
((xDL (List.getD d204 3 (D.s []))).bind fun l208 =>
((Φ i_ref01_Equal [(A.agg [(C.d (D.v (.int .i64 n205))), (C.d (D.v (.int .i64 n206))), (C.d (D.s s207)), (C.d (D.sl l208))]), (A.agg [(C.d (D.v (.int .i64 v1))), (C.d (D.v (.int .i64 v2))), (C.d (D.s v3)), (C.d (D.sl v4))])]).bind fun r209 =>
((xAD r209).bind fun d210 =>
((xDB d210).bind fun b211 =>
(xite b211
(xite (!b45)
((Φ i_law01_alive []).bind fun r212 =>
((xAD r212).bind fun d213 =>
((xDB d213).bind fun b214 =>
(some (A.one (C.d (D.v (.bool b214))))))))
((Φ i_ref01_OfTable [(A.one (C.d (D.sl l42)))]).bind fun r215 =>
((xADs r215).bind fun d216 =>
(xif (decide (d216.length = 4))
((xDI .i64 (List.getD d216 0 (D.s []))).bind fun n217 =>
((xDI .i64 (List.getD d216 1 (D.s []))).bind fun n218 =>
((xDS (List.getD d216 2 (D.s []))).bind fun s219 =>
((xDL (List.getD d216 3 (D.s []))).bind fun l220 =>
((Φ i_ref01_Equal [(A.agg [(C.d (D.v (.int .i64 n217))), (C.d (D.v (.int .i64 n218))), (C.d (D.s s219)), (C.d (D.sl l220))]), (A.agg [(C.d (D.v (.int .i64 v1))), (C.d (D.v (.int .i64 v2))), (C.d (D.s v3)), (C.d (D.sl v4))])]).bind fun r221 =>
((xAD r221).bind fun d222 =>
((xDB d222).bind fun b223 =>
(xite b223
((Φ i_law01_alive []).bind fun r224 =>
((xAD r224).bind fun d225 =>
((xDB d225).bind fun b226 =>
(some (A.one (C.d (D.v (.bool b226))))))))
(some (A.one (C.d (D.v (.bool false)))))))))))))))))
(some (A.one (C.d (D.v (.bool false)))))))))))))))))
(some (A.one (C.d (D.v (.bool false)))))))))))))))))))
(xite (!b45)
(xite (decide ((0 : Int) < ((l42).length : Int)))
(some (A.one (C.d (D.v (.bool false)))))
(xite (!b17)
(xite (!b31)
(xite (!b45)
((Φ i_law01_alive []).bind fun r227 =>
((xAD r227).bind fun d228 =>
((xDB d228).bind fun b229 =>
(some (A.one (C.d (D.v (.bool b229))))))))
((Φ i_ref01_OfTable [(A.one (C.d (D.sl l42)))]).bind fun r230 =>
((xADs r230).bind fun d231 =>
(xif (decide (d231.length = 4))
((xDI .i64 (List.getD d231 0 (D.s []))).bind fun n232 =>
((xDI .i64 (List.getD d231 1 (D.s []))).bind fun n233 =>
((xDS (List.getD d231 2 (D.s []))).bind fun s234 =>
((xDL (List.getD d231 3 (D.s []))).bind fun l235 =>
((Φ i_ref01_Equal [(A.agg [(C.d (D.v (.int .i64 n232))), (C.d (D.v (.int .i64 n233))), (C.d (D.s s234)), (C.d (D.sl l235))]), (A.agg [(C.d (D.v (.int .i64 v1))), (C.d (D.v (.int .i64 v2))), (C.d (D.s v3)), (C.d (D.sl v4))])]).bind fun r236 =>
((xAD r236).bind fun d237 =>
((xDB d237).bind fun b238 =>
(xite b238
((Φ i_law01_alive []).bind fun r239 =>
((xAD r239).bind fun d240 =>
((xDB d240).bind fun b241 =>
(some (A.one (C.d (D.v (.bool b241))))))))
(some (A.one (C.d (D.v (.bool false)))))))))))))))))
((Φ i_ref01_OfTexts [(A.one (C.d (D.sl l28)))]).bind fun r242 =>
((xADs r242).bind fun d243 =>
(xif (decide (d243.length = 4))
((xDI .i64 (List.getD d243 0 (D.s []))).bind fun n244 =>
((xDI .i64 (List.getD d243 1 (D.s []))).bind fun n245 =>
((xDS (List.getD d243 2 (D.s []))).bind fun s246 =>
((xDL (List.getD d243 3 (D.s []))).bind fun l247 =>
((Φ i_ref01_Equal [(A.agg [(C.d (D.v (.int .i64 n244))), (C.d (D.v (.int .i64 n245))), (C.d (D.s s246)), (C.d (D.sl l247))]), (A.agg [(C.d (D.v (.int .i64 v1))), (C.d (D.v (.int .i64 v2))), (C.d (D.s v3)), (C.d (D.sl v4))])]).bind fun r248 =>
((xAD r248).bind fun d249 =>
((xDB d249).bind fun b250 =>
(xite b250
(xite (!b45)
((Φ i_law01_alive []).bind fun r251 =>
((xAD r251).bind fun d252 =>
((xDB d252).bind fun b253 =>
(some (A.one (C.d (D.v (.bool b253))))))))
((Φ i_ref01_OfTable [(A.one (C.d (D.sl l42)))]).bind fun r254 =>
((xADs r254).bind fun d255 =>
(xif (decide (d255.length = 4))
((xDI .i64 (List.getD d255 0 (D.s []))).bind fun n256 =>
((xDI .i64 (List.getD d255 1 (D.s []))).bind fun n257 =>
((xDS (List.getD d255 2 (D.s []))).bind fun s258 =>
((xDL (List.getD d255 3 (D.s []))).bind fun l259 =>
((Φ i_ref01_Equal [(A.agg [(C.d (D.v (.int .i64 n256))), (C.d (D.v (.int .i64 n257))), (C.d (D.s s258)), (C.d (D.sl l259))]), (A.agg [(C.d (D.v (.int .i64 v1))), (C.d (D.v (.int .i64 v2))), (C.d (D.s v3)), (C.d (D.sl v4))])]).bind fun r260 =>
((xAD r260).bind fun d261 =>
((xDB d261).bind fun b262 =>
(xite b262
((Φ i_law01_alive []).bind fun r263 =>
((xAD r263).bind fun d264 =>
((xDB d264).bind fun b265 =>
(some (A.one (C.d (D.v (.bool b265))))))))
(some (A.one (C.d (D.v (.bool false)))))))))))))))))
(some (A.one (C.d (D.v (.bool false)))))))))))))))))
((Φ i_ref01_OfInts [(A.one (C.d (D.sl l14)))]).bind fun r266 =>
((xADs r266).bind fun d267 =>
(xif (decide (d267.length = 4))
((xDI .i64 (List.getD d267 0 (D.s []))).bind fun n268 =>
((xDI .i64 (List.getD d267 1 (D.s []))).bind fun n269 =>
((xDS (List.getD d267 2 (D.s []))).bind fun s270 =>
((xDL (List.getD d267 3 (D.s []))).bind fun l271 =>
((Φ i_ref01_Equal [(A.agg [(C.d (D.v (.int .i64 n268))), (C.d (D.v (.int .i64 n269))), (C.d (D.s s270)), (C.d (D.sl l271))]), (A.agg [(C.d (D.v (.int .i64 v1))), (C.d (D.v (.int .i64 v2))), (C.d (D.s v3)), (C.d (D.sl v4))])]).bind fun r272 =>
((xAD r272).bind fun d273 =>
((xDB d273).bind fun b274 =>
(xite b274
(xite (!b31)
(xite (!b45)
((Φ i_law01_alive []).bind fun r275 =>
((xAD r275).bind fun d276 =>
((xDB d276).bind fun b277 =>
(some (A.one (C.d (D.v (.bool b277))))))))
((Φ i_ref01_OfTable [(A.one (C.d (D.sl l42)))]).bind fun r278 =>
((xADs r278).bind fun d279 =>
(xif (decide (d279.length = 4))
((xDI .i64 (List.getD d279 0 (D.s []))).bind fun n280 =>
((xDI .i64 (List.getD d279 1 (D.s []))).bind fun n281 =>
((xDS (List.getD d279 2 (D.s []))).bind fun s282 =>
((xDL (List.getD d279 3 (D.s []))).bind fun l283 =>
((Φ i_ref01_Equal [(A.agg [(C.d (D.v (.int .i64 n280))), (C.d (D.v (.int .i64 n281))), (C.d (D.s s282)), (C.d (D.sl l283))]), (A.agg [(C.d (D.v (.int .i64 v1))), (C.d (D.v (.int .i64 v2))), (C.d (D.s v3)), (C.d (D.sl v4))])]).bind fun r284 =>
((xAD r284).bind fun d285 =>
((xDB d285).bind fun b286 =>
(xite b286
((Φ i_law01_alive []).bind fun r287 =>
((xAD r287).bind fun d288 =>
((xDB d288).bind fun b289 =>
(some (A.one (C.d (D.v (.bool b289))))))))
(some (A.one (C.d (D.v (.bool false)))))))))))))))))
((Φ i_ref01_OfTexts [(A.one (C.d (D.sl l28)))]).bind fun r290 =>
((xADs r290).bind fun d291 =>
(xif (decide (d291.length = 4))
((xDI .i64 (List.getD d291 0 (D.s []))).bind fun n292 =>
((xDI .i64 (List.getD d291 1 (D.s []))).bind fun n293 =>
((xDS (List.getD d291 2 (D.s []))).bind fun s294 =>
((xDL (List.getD d291 3 (D.s []))).bind fun l295 =>
((Φ i_ref01_Equal [(A.agg [(C.d (D.v (.int .i64 n292))), (C.d (D.v (.int .i64 n293))), (C.d (D.s s294)), (C.d (D.sl l295))]), (A.agg [(C.d (D.v (.int .i64 v1))), (C.d (D.v (.int .i64 v2))), (C.d (D.s v3)), (C.d (D.sl v4))])]).bind fun r296 =>
((xAD r296).bind fun d297 =>
((xDB d297).bind fun b298 =>
(xite b298
(xite (!b45)
((Φ i_law01_alive []).bind fun r299 =>
((xAD r299).bind fun d300 =>
((xDB d300).bind fun b301 =>
(some (A.one (C.d (D.v (.bool b301))))))))
((Φ i_ref01_OfTable [(A.one (C.d (D.sl l42)))]).bind fun r302 =>
((xADs r302).bind fun d303 =>
(xif (decide (d303.length = 4))
((xDI .i64 (List.getD d303 0 (D.s []))).bind fun n304 =>
((xDI .i64 (List.getD d303 1 (D.s []))).bind fun n305 =>
((xDS (List.getD d303 2 (D.s []))).bind fun s306 =>
((xDL (List.getD d303 3 (D.s []))).bind fun l307 =>
((Φ i_ref01_Equal [(A.agg [(C.d (D.v (.int .i64 n304))), (C.d (D.v (.int .i64 n305))), (C.d (D.s s306)), (C.d (D.sl l307))]), (A.agg [(C.d (D.v (.int .i64 v1))), (C.d (D.v (.int .i64 v2))), (C.d (D.s v3)), (C.d (D.sl v4))])]).bind fun r308 =>
((xAD r308).bind fun d309 =>
((xDB d309).bind fun b310 =>
(xite b310
((Φ i_law01_alive []).bind fun r311 =>
((xAD r311).bind fun d312 =>
((xDB d312).bind fun b313 =>
(some (A.one (C.d (D.v (.bool b313))))))))
(some (A.one (C.d (D.v (.bool false)))))))))))))))))
(some (A.one (C.d (D.v (.bool false)))))))))))))))))
(some (A.one (C.d (D.v (.bool false))))))))))))))))))
(xite (!b17)
(xite (!b31)
(xite (!b45)
((Φ i_law01_alive []).bind fun r314 =>
((xAD r314).bind fun d315 =>
((xDB d315).bind fun b316 =>
(some (A.one (C.d (D.v (.bool b316))))))))
((Φ i_ref01_OfTable [(A.one (C.d (D.sl l42)))]).bind fun r317 =>
((xADs r317).bind fun d318 =>
(xif (decide (d318.length = 4))
((xDI .i64 (List.getD d318 0 (D.s []))).bind fun n319 =>
((xDI .i64 (List.getD d318 1 (D.s []))).bind fun n320 =>
((xDS (List.getD d318 2 (D.s []))).bind fun s321 =>
((xDL (List.getD d318 3 (D.s []))).bind fun l322 =>
((Φ i_ref01_Equal [(A.agg [(C.d (D.v (.int .i64 n319))), (C.d (D.v (.int .i64 n320))), (C.d (D.s s321)), (C.d (D.sl l322))]), (A.agg [(C.d (D.v (.int .i64 v1))), (C.d (D.v (.int .i64 v2))), (C.d (D.s v3)), (C.d (D.sl v4))])]).bind fun r323 =>
((xAD r323).bind fun d324 =>
((xDB d324).bind fun b325 =>
(xite b325
((Φ i_law01_alive []).bind fun r326 =>
((xAD r326).bind fun d327 =>
((xDB d327).bind fun b328 =>
(some (A.one (C.d (D.v (.bool b328))))))))
(some (A.one (C.d (D.v (.bool false)))))))))))))))))
((Φ i_ref01_OfTexts [(A.one (C.d (D.sl l28)))]).bind fun r329 =>
((xADs r329).bind fun d330 =>
(xif (decide (d330.length = 4))
((xDI .i64 (List.getD d330 0 (D.s []))).bind fun n331 =>
((xDI .i64 (List.getD d330 1 (D.s []))).bind fun n332 =>
((xDS (List.getD d330 2 (D.s []))).bind fun s333 =>
((xDL (List.getD d330 3 (D.s []))).bind fun l334 =>
((Φ i_ref01_Equal [(A.agg [(C.d (D.v (.int .i64 n331))), (C.d (D.v (.int .i64 n332))), (C.d (D.s s333)), (C.d (D.sl l334))]), (A.agg [(C.d (D.v (.int .i64 v1))), (C.d (D.v (.int .i64 v2))), (C.d (D.s v3)), (C.d (D.sl v4))])]).bind fun r335 =>
((xAD r335).bind fun d336 =>
((xDB d336).bind fun b337 =>
(xite b337
(xite (!b45)
((Φ i_law01_alive []).bind fun r338 =>
((xAD r338).bind fun d339 =>
((xDB d339).bind fun b340 =>
(some (A.one (C.d (D.v (.bool b340))))))))
((Φ i_ref01_OfTable [(A.one (C.d (D.sl l42)))]).bind fun r341 =>
((xADs r341).bind fun d342 =>
(xif (decide (d342.length = 4))
((xDI .i64 (List.getD d342 0 (D.s []))).bind fun n343 =>
((xDI .i64 (List.getD d342 1 (D.s []))).bind fun n344 =>
((xDS (List.getD d342 2 (D.s []))).bind fun s345 =>
((xDL (List.getD d342 3 (D.s []))).bind fun l346 =>
((Φ i_ref01_Equal [(A.agg [(C.d (D.v (.int .i64 n343))), (C.d (D.v (.int .i64 n344))), (C.d (D.s s345)), (C.d (D.sl l346))]), (A.agg [(C.d (D.v (.int .i64 v1))), (C.d (D.v (.int .i64 v2))), (C.d (D.s v3)), (C.d (D.sl v4))])]).bind fun r347 =>
((xAD r347).bind fun d348 =>
((xDB d348).bind fun b349 =>
(xite b349
((Φ i_law01_alive []).bind fun r350 =>
((xAD r350).bind fun d351 =>
((xDB d351).bind fun b352 =>
(some (A.one (C.d (D.v (.bool b352))))))))
(some (A.one (C.d (D.v (.bool false)))))))))))))))))
(some (A.one (C.d (D.v (.bool false)))))))))))))))))
((Φ i_ref01_OfInts [(A.one (C.d (D.sl l14)))]).bind fun r353 =>
((xADs r353).bind fun d354 =>
(xif (decide (d354.length = 4))
((xDI .i64 (List.getD d354 0 (D.s []))).bind fun n355 =>
((xDI .i64 (List.getD d354 1 (D.s []))).bind fun n356 =>
((xDS (List.getD d354 2 (D.s []))).bind fun s357 =>
((xDL (List.getD d354 3 (D.s []))).bind fun l358 =>
((Φ i_ref01_Equal [(A.agg [(C.d (D.v (.int .i64 n355))), (C.d (D.v (.int .i64 n356))), (C.d (D.s s357)), (C.d (D.sl l358))]), (A.agg [(C.d (D.v (.int .i64 v1))), (C.d (D.v (.int .i64 v2))), (C.d (D.s v3)), (C.d (D.sl v4))])]).bind fun r359 =>
((xAD r359).bind fun d360 =>
((xDB d360).bind fun b361 =>
(xite b361
(xite (!b31)
(xite (!b45)
((Φ i_law01_alive []).bind fun r362 =>
((xAD r362).bind fun d363 =>
((xDB d363).bind fun b364 =>
(some (A.one (C.d (D.v (.bool b364))))))))
((Φ i_ref01_OfTable [(A.one (C.d (D.sl l42)))]).bind fun r365 =>
((xADs r365).bind fun d366 =>
(xif (decide (d366.length = 4))
((xDI .i64 (List.getD d366 0 (D.s []))).bind fun n367 =>
((xDI .i64 (List.getD d366 1 (D.s []))).bind fun n368 =>
((xDS (List.getD d366 2 (D.s []))).bind fun s369 =>
((xDL (List.getD d366 3 (D.s []))).bind fun l370 =>
((Φ i_ref01_Equal [(A.agg [(C.d (D.v (.int .i64 n367))), (C.d (D.v (.int .i64 n368))), (C.d (D.s s369)), (C.d (D.sl l370))]), (A.agg [(C.d (D.v (.int .i64 v1))), (C.d (D.v (.int .i64 v2))), (C.d (D.s v3)), (C.d (D.sl v4))])]).bind fun r371 =>
((xAD r371).bind fun d372 =>
((xDB d372).bind fun b373 =>
(xite b373
((Φ i_law01_alive []).bind fun r374 =>
((xAD r374).bind fun d375 =>
((xDB d375).bind fun b376 =>
(some (A.one (C.d (D.v (.bool b376))))))))
(some (A.one (C.d (D.v (.bool false)))))))))))))))))
((Φ i_ref01_OfTexts [(A.one (C.d (D.sl l28)))]).bind fun r377 =>
((xADs r377).bind fun d378 =>
(xif (decide (d378.length = 4))
((xDI .i64 (List.getD d378 0 (D.s []))).bind fun n379 =>
((xDI .i64 (List.getD d378 1 (D.s []))).bind fun n380 =>
((xDS (List.getD d378 2 (D.s []))).bind fun s381 =>
((xDL (List.getD d378 3 (D.s []))).bind fun l382 =>
((Φ i_ref01_Equal [(A.agg [(C.d (D.v (.int .i64 n379))), (C.d (D.v (.int .i64 n380))), (C.d (D.s s381)), (C.d (D.sl l382))]), (A.agg [(C.d (D.v (.int .i64 v1))), (C.d (D.v (.int .i64 v2))), (C.d (D.s v3)), (C.d (D.sl v4))])]).bind fun r383 =>
((xAD r383).bind fun d384 =>
((xDB d384).bind fun b385 =>
(xite b385
(xite (!b45)
((Φ i_law01_alive []).bind fun r386 =>
((xAD r386).bind fun d387 =>
((xDB d387).bind fun b388 =>
(some (A.one (C.d (D.v (.bool b388))))))))
((Φ i_ref01_OfTable [(A.one (C.d (D.sl l42)))]).bind fun r389 =>
((xADs r389).bind fun d390 =>
(xif (decide (d390.length = 4))
((xDI .i64 (List.getD d390 0 (D.s []))).bind fun n391 =>
((xDI .i64 (List.getD d390 1 (D.s []))).bind fun n392 =>
((xDS (List.getD d390 2 (D.s []))).bind fun s393 =>
((xDL (List.getD d390 3 (D.s []))).bind fun l394 =>
((Φ i_ref01_Equal [(A.agg [(C.d (D.v (.int .i64 n391))), (C.d (D.v (.int .i64 n392))), (C.d (D.s s393)), (C.d (D.sl l394))]), (A.agg [(C.d (D.v (.int .i64 v1))), (C.d (D.v (.int .i64 v2))), (C.d (D.s v3)), (C.d (D.sl v4))])]).bind fun r395 =>
((xAD r395).bind fun d396 =>
((xDB d396).bind fun b397 =>
(xite b397
((Φ i_law01_alive []).bind fun r398 =>
((xAD r398).bind fun d399 =>
((xDB d399).bind fun b400 =>
(some (A.one (C.d (D.v (.bool b400))))))))
(some (A.one (C.d (D.v (.bool false)))))))))))))))))
(some (A.one (C.d (D.v (.bool false)))))))))))))))))
(some (A.one (C.d (D.v (.bool false))))))))))))))))))))
(xite (!b31)
(xite (decide ((0 : Int) < ((l28).length : Int)))
(some (A.one (C.d (D.v (.bool false)))))
(xite (!b45)
(xite (decide ((0 : Int) < ((l42).length : Int)))
(some (A.one (C.d (D.v (.bool false)))))
(xite (!b17)
(xite (!b31)
(xite (!b45)
((Φ i_law01_alive []).bind fun r401 =>
((xAD r401).bind fun d402 =>
((xDB d402).bind fun b403 =>
(some (A.one (C.d (D.v (.bool b403))))))))
((Φ i_ref01_OfTable [(A.one (C.d (D.sl l42)))]).bind fun r404 =>
((xADs r404).bind fun d405 =>
(xif (decide (d405.length = 4))
((xDI .i64 (List.getD d405 0 (D.s []))).bind fun n406 =>
((xDI .i64 (List.getD d405 1 (D.s []))).bind fun n407 =>
((xDS (List.getD d405 2 (D.s []))).bind fun s408 =>
((xDL (List.getD d405 3 (D.s []))).bind fun l409 =>
((Φ i_ref01_Equal [(A.agg [(C.d (D.v (.int .i64 n406))), (C.d (D.v (.int .i64 n407))), (C.d (D.s s408)), (C.d (D.sl l409))]), (A.agg [(C.d (D.v (.int .i64 v1))), (C.d (D.v (.int .i64 v2))), (C.d (D.s v3)), (C.d (D.sl v4))])]).bind fun r410 =>
((xAD r410).bind fun d411 =>
((xDB d411).bind fun b412 =>
(xite b412
((Φ i_law01_alive []).bind fun r413 =>
((xAD r413).bind fun d414 =>
((xDB d414).bind fun b415 =>
(some (A.one (C.d (D.v (.bool b415))))))))
(some (A.one (C.d (D.v (.bool false)))))))))))))))))
((Φ i_ref01_OfTexts [(A.one (C.d (D.sl l28)))]).bind fun r416 =>
((xADs r416).bind fun d417 =>
(xif (decide (d417.length = 4))
((xDI .i64 (List.getD d417 0 (D.s []))).bind fun n418 =>
((xDI .i64 (List.getD d417 1 (D.s []))).bind fun n419 =>
((xDS (List.getD d417 2 (D.s []))).bind fun s420 =>
((xDL (List.getD d417 3 (D.s []))).bind fun l421 =>
((Φ i_ref01_Equal [(A.agg [(C.d (D.v (.int .i64 n418))), (C.d (D.v (.int .i64 n419))), (C.d (D.s s420)), (C.d (D.sl l421))]), (A.agg [(C.d (D.v (.int .i64 v1))), (C.d (D.v (.int .i64 v2))), (C.d (D.s v3)), (C.d (D.sl v4))])]).bind fun r422 =>
((xAD r422).bind fun d423 =>
((xDB d423).bind fun b424 =>
(xite b424
(xite (!b45)
((Φ i_law01_alive []).bind fun r425 =>
((xAD r425).bind fun d426 =>
((xDB d426).bind fun b427 =>
(some (A.one (C.d (D.v (.bool b427))))))))
((Φ i_ref01_OfTable [(A.one (C.d (D.sl l42)))]).bind fun r428 =>
((xADs r428).bind fun d429 =>
(xif (decide (d429.length = 4))
((xDI .i64 (List.getD d429 0 (D.s []))).bind fun n430 =>
((xDI .i64 (List.getD d429 1 (D.s []))).bind fun n431 =>
((xDS (List.getD d429 2 (D.s []))).bind fun s432 =>
((xDL (List.getD d429 3 (D.s []))).bind fun l433 =>
((Φ i_ref01_Equal [(A.agg [(C.d (D.v (.int .i64 n430))), (C.d (D.v (.int .i64 n431))), (C.d (D.s s432)), (C.d (D.sl l433))]), (A.agg [(C.d (D.v (.int .i64 v1))), (C.d (D.v (.int .i64 v2))), (C.d (D.s v3)), (C.d (D.sl v4))])]).bind fun r434 =>
((xAD r434).bind fun d435 =>
((xDB d435).bind fun b436 =>
(xite b436
((Φ i_law01_alive []).bind fun r437 =>
((xAD r437).bind fun d438 =>
((xDB d438).bind fun b439 =>
(some (A.one (C.d (D.v (.bool b439))))))))
(some (A.one (C.d (D.v (.bool false)))))))))))))))))
(some (A.one (C.d (D.v (.bool false)))))))))))))))))
((Φ i_ref01_OfInts [(A.one (C.d (D.sl l14)))]).bind fun r440 =>
((xADs r440).bind fun d441 =>
(xif (decide (d441.length = 4))
((xDI .i64 (List.getD d441 0 (D.s []))).bind fun n442 =>
((xDI .i64 (List.getD d441 1 (D.s []))).bind fun n443 =>
((xDS (List.getD d441 2 (D.s []))).bind fun s444 =>
((xDL (List.getD d441 3 (D.s []))).bind fun l445 =>
((Φ i_ref01_Equal [(A.agg [(C.d (D.v (.int .i64 n442))), (C.d (D.v (.int .i64 n443))), (C.d (D.s s444)), (C.d (D.sl l445))]), (A.agg [(C.d (D.v (.int .i64 v1))), (C.d (D.v (.int .i64 v2))), (C.d (D.s v3)), (C.d (D.sl v4))])]).bind fun r446 =>
((xAD r446).bind fun d447 =>
((xDB d447).bind fun b448 =>
(xite b448
(xite (!b31)
(xite (!b45)
((Φ i_law01_alive []).bind fun r449 =>
((xAD r449).bind fun d450 =>
((xDB d450).bind fun b451 =>
(some (A.one (C.d (D.v (.bool b451))))))))
((Φ i_ref01_OfTable [(A.one (C.d (D.sl l42)))]).bind fun r452 =>
((xADs r452).bind fun d453 =>
(xif (decide (d453.length = 4))
((xDI .i64 (List.getD d453 0 (D.s []))).bind fun n454 =>
((xDI .i64 (List.getD d453 1 (D.s []))).bind fun n455 =>
((xDS (List.getD d453 2 (D.s []))).bind fun s456 =>
((xDL (List.getD d453 3 (D.s []))).bind fun l457 =>
((Φ i_ref01_Equal [(A.agg [(C.d (D.v (.int .i64 n454))), (C.d (D.v (.int .i64 n455))), (C.d (D.s s456)), (C.d (D.sl l457))]), (A.agg [(C.d (D.v (.int .i64 v1))), (C.d (D.v (.int .i64 v2))), (C.d (D.s v3)), (C.d (D.sl v4))])]).bind fun r458 =>
((xAD r458).bind fun d459 =>
((xDB d459).bind fun b460 =>
(xite b460
((Φ i_law01_alive []).bind fun r461 =>
((xAD r461).bind fun d462 =>
((xDB d462).bind fun b463 =>
(some (A.one (C.d (D.v (.bool b463))))))))
(some (A.one (C.d (D.v (.bool false)))))))))))))))))
((Φ i_ref01_OfTexts [(A.one (C.d (D.sl l28)))]).bind fun r464 =>
((xADs r464).bind fun d465 =>
(xif (decide (d465.length = 4))
((xDI .i64 (List.getD d465 0 (D.s []))).bind fun n466 =>
((xDI .i64 (List.getD d465 1 (D.s []))).bind fun n467 =>
((xDS (List.getD d465 2 (D.s []))).bind fun s468 =>
((xDL (List.getD d465 3 (D.s []))).bind fun l469 =>
((Φ i_ref01_Equal [(A.agg [(C.d (D.v (.int .i64 n466))), (C.d (D.v (.int .i64 n467))), (C.d (D.s s468)), (C.d (D.sl l469))]), (A.agg [(C.d (D.v (.int .i64 v1))), (C.d (D.v (.int .i64 v2))), (C.d (D.s v3)), (C.d (D.sl v4))])]).bind fun r470 =>
((xAD r470).bind fun d471 =>
((xDB d471).bind fun b472 =>
(xite b472
(xite (!b45)
((Φ i_law01_alive []).bind fun r473 =>
((xAD r473).bind fun d474 =>
((xDB d474).bind fun b475 =>
(some (A.one (C.d (D.v (.bool b475))))))))
((Φ i_ref01_OfTable [(A.one (C.d (D.sl l42)))]).bind fun r476 =>
((xADs r476).bind fun d477 =>
(xif (decide (d477.length = 4))
((xDI .i64 (List.getD d477 0 (D.s []))).bind fun n478 =>
((xDI .i64 (List.getD d477 1 (D.s []))).bind fun n479 =>
((xDS (List.getD d477 2 (D.s []))).bind fun s480 =>
((xDL (List.getD d477 3 (D.s []))).bind fun l481 =>
((Φ i_ref01_Equal [(A.agg [(C.d (D.v (.int .i64 n478))), (C.d (D.v (.int .i64 n479))), (C.d (D.s s480)), (C.d (D.sl l481))]), (A.agg [(C.d (D.v (.int .i64 v1))), (C.d (D.v (.int .i64 v2))), (C.d (D.s v3)), (C.d (D.sl v4))])]).bind fun r482 =>
((xAD r482).bind fun d483 =>
((xDB d483).bind fun b484 =>
(xite b484
((Φ i_law01_alive []).bind fun r485 =>
((xAD r485).bind fun d486 =>
((xDB d486).bind fun b487 =>
(some (A.one (C.d (D.v (.bool b487))))))))
(some (A.one (C.d (D.v (.bool false)))))))))))))))))
(some (A.one (C.d (D.v (.bool false)))))))))))))))))
(some (A.one (C.d (D.v (.bool false))))))))))))))))))
(xite (!b17)
(xite (!b31)
(xite (!b45)
((Φ i_law01_alive []).bind fun r488 =>
((xAD r488).bind fun d489 =>
((xDB d489).bind fun b490 =>
(some (A.one (C.d (D.v (.bool b490))))))))
((Φ i_ref01_OfTable [(A.one (C.d (D.sl l42)))]).bind fun r491 =>
((xADs r491).bind fun d492 =>
(xif (decide (d492.length = 4))
((xDI .i64 (List.getD d492 0 (D.s []))).bind fun n493 =>
((xDI .i64 (List.getD d492 1 (D.s []))).bind fun n494 =>
((xDS (List.getD d492 2 (D.s []))).bind fun s495 =>
((xDL (List.getD d492 3 (D.s []))).bind fun l496 =>
((Φ i_ref01_Equal [(A.agg [(C.d (D.v (.int .i64 n493))), (C.d (D.v (.int .i64 n494))), (C.d (D.s s495)), (C.d (D.sl l496))]), (A.agg [(C.d (D.v (.int .i64 v1))), (C.d (D.v (.int .i64 v2))), (C.d (D.s v3)), (C.d (D.sl v4))])]).bind fun r497 =>
((xAD r497).bind fun d498 =>
((xDB d498).bind fun b499 =>
(xite b499
((Φ i_law01_alive []).bind fun r500 =>
((xAD r500).bind fun d501 =>
((xDB d501).bind fun b502 =>
(some (A.one (C.d (D.v (.bool b502))))))))
(some (A.one (C.d (D.v (.bool false)))))))))))))))))
((Φ i_ref01_OfTexts [(A.one (C.d (D.sl l28)))]).bind fun r503 =>
((xADs r503).bind fun d504 =>
(xif (decide (d504.length = 4))
((xDI .i64 (List.getD d504 0 (D.s []))).bind fun n505 =>
((xDI .i64 (List.getD d504 1 (D.s []))).bind fun n506 =>
((xDS (List.getD d504 2 (D.s []))).bind fun s507 =>
((xDL (List.getD d504 3 (D.s []))).bind fun l508 =>
((Φ i_ref01_Equal [(A.agg [(C.d (D.v (.int .i64 n505))), (C.d (D.v (.int .i64 n506))), (C.d (D.s s507)), (C.d (D.sl l508))]), (A.agg [(C.d (D.v (.int .i64 v1))), (C.d (D.v (.int .i64 v2))), (C.d (D.s v3)), (C.d (D.sl v4))])]).bind fun r509 =>
((xAD r509).bind fun d510 =>
((xDB d510).bind fun b511 =>
(xite b511
(xite (!b45)
((Φ i_law01_alive []).bind fun r512 =>
((xAD r512).bind fun d513 =>
((xDB d513).bind fun b514 =>
(some (A.one (C.d (D.v (.bool b514))))))))
((Φ i_ref01_OfTable [(A.one (C.d (D.sl l42)))]).bind fun r515 =>
((xADs r515).bind fun d516 =>
(xif (decide (d516.length = 4))
((xDI .i64 (List.getD d516 0 (D.s []))).bind fun n517 =>
((xDI .i64 (List.getD d516 1 (D.s []))).bind fun n518 =>
((xDS (List.getD d516 2 (D.s []))).bind fun s519 =>
((xDL (List.getD d516 3 (D.s []))).bind fun l520 =>
((Φ i_ref01_Equal [(A.agg [(C.d (D.v (.int .i64 n517))), (C.d (D.v (.int .i64 n518))), (C.d (D.s s519)), (C.d (D.sl l520))]), (A.agg [(C.d (D.v (.int .i64 v1))), (C.d (D.v (.int .i64 v2))), (C.d (D.s v3)), (C.d (D.sl v4))])]).bind fun r521 =>
((xAD r521).bind fun d522 =>
((xDB d522).bind fun b523 =>
(xite b523
((Φ i_law01_alive []).bind fun r524 =>
((xAD r524).bind fun d525 =>
((xDB d525).bind fun b526 =>
(some (A.one (C.d (D.v (.bool b526))))))))
(some (A.one (C.d (D.v (.bool false)))))))))))))))))
(some (A.one (C.d (D.v (.bool false)))))))))))))))))
((Φ i_ref01_OfInts [(A.one (C.d (D.sl l14)))]).bind fun r527 =>
((xADs r527).bind fun d528 =>
(xif (decide (d528.length = 4))
((xDI .i64 (List.getD d528 0 (D.s []))).bind fun n529 =>
((xDI .i64 (List.getD d528 1 (D.s []))).bind fun n530 =>
((xDS (List.getD d528 2 (D.s []))).bind fun s531 =>
((xDL (List.getD d528 3 (D.s []))).bind fun l532 =>
((Φ i_ref01_Equal [(A.agg [(C.d (D.v (.int .i64 n529))), (C.d (D.v (.int .i64 n530))), (C.d (D.s s531)), (C.d (D.sl l532))]), (A.agg [(C.d (D.v (.int .i64 v1))), (C.d (D.v (.int .i64 v2))), (C.d (D.s v3)), (C.d (D.sl v4))])]).bind fun r533 =>
((xAD r533).bind fun d534 =>
((xDB d534).bind fun b535 =>
(xite b535
(xite (!b31)
(xite (!b45)
((Φ i_law01_alive []).bind fun r536 =>
((xAD r536).bind fun d537 =>
((xDB d537).bind fun b538 =>
(some (A.one (C.d (D.v (.bool b538))))))))
((Φ i_ref01_OfTable [(A.one (C.d (D.sl l42)))]).bind fun r539 =>
((xADs r539).bind fun d540 =>
(xif (decide (d540.length = 4))
((xDI .i64 (List.getD d540 0 (D.s []))).bind fun n541 =>
((xDI .i64 (List.getD d540 1 (D.s []))).bind fun n542 =>
((xDS (List.getD d540 2 (D.s []))).bind fun s543 =>
((xDL (List.getD d540 3 (D.s []))).bind fun l544 =>
((Φ i_ref01_Equal [(A.agg [(C.d (D.v (.int .i64 n541))), (C.d (D.v (.int .i64 n542))), (C.d (D.s s543)), (C.d (D.sl l544))]), (A.agg [(C.d (D.v (.int .i64 v1))), (C.d (D.v (.int .i64 v2))), (C.d (D.s v3)), (C.d (D.sl v4))])]).bind fun r545 =>
((xAD r545).bind fun d546 =>
((xDB d546).bind fun b547 =>
(xite b547
((Φ i_law01_alive []).bind fun r548 =>
((xAD r548).bind fun d549 =>
((xDB d549).bind fun b550 =>
(some (A.one (C.d (D.v (.bool b550))))))))
(some (A.one (C.d (D.v (.bool false)))))))))))))))))
((Φ i_ref01_OfTexts [(A.one (C.d (D.sl l28)))]).bind fun r551 =>
((xADs r551).bind fun d552 =>
(xif (decide (d552.length = 4))
((xDI .i64 (List.getD d552 0 (D.s []))).bind fun n553 =>
((xDI .i64 (List.getD d552 1 (D.s []))).bind fun n554 =>
((xDS (List.getD d552 2 (D.s []))).bind fun s555 =>
((xDL (List.getD d552 3 (D.s []))).bind fun l556 =>
((Φ i_ref01_Equal [(A.agg [(C.d (D.v (.int .i64 n553))), (C.d (D.v (.int .i64 n554))), (C.d (D.s s555)), (C.d (D.sl l556))]), (A.agg [(C.d (D.v (.int .i64 v1))), (C.d (D.v (.int .i64 v2))), (C.d (D.s v3)), (C.d (D.sl v4))])]).bind fun r557 =>
((xAD r557).bind fun d558 =>
((xDB d558).bind fun b559 =>
(xite b559
(xite (!b45)
((Φ i_law01_alive []).bind fun r560 =>
((xAD r560).bind fun d561 =>
((xDB d561).bind fun b562 =>
(some (A.one (C.d (D.v (.bool b562))))))))
((Φ i_ref01_OfTable [(A.one (C.d (D.sl l42)))]).bind fun r563 =>
((xADs r563).bind fun d564 =>
(xif (decide (d564.length = 4))
((xDI .i64 (List.getD d564 0 (D.s []))).bind fun n565 =>
((xDI .i64 (List.getD d564 1 (D.s []))).bind fun n566 =>
((xDS (List.getD d564 2 (D.s []))).bind fun s567 =>
((xDL (List.getD d564 3 (D.s []))).bind fun l568 =>
((Φ i_ref01_Equal [(A.agg [(C.d (D.v (.int .i64 n565))), (C.d (D.v (.int .i64 n566))), (C.d (D.s s567)), (C.d (D.sl l568))]), (A.agg [(C.d (D.v (.int .i64 v1))), (C.d (D.v (.int .i64 v2))), (C.d (D.s v3)), (C.d (D.sl v4))])]).bind fun r569 =>
((xAD r569).bind fun d570 =>
((xDB d570).bind fun b571 =>
(xite b571
((Φ i_law01_alive []).bind fun r572 =>
((xAD r572).bind fun d573 =>
((xDB d573).bind fun b574 =>
(some (A.one (C.d (D.v (.bool b574))))))))
(some (A.one (C.d (D.v (.bool false)))))))))))))))))
(some (A.one (C.d (D.v (.bool false)))))))))))))))))
(some (A.one (C.d (D.v (.bool false)))))))))))))))))))
(xite (!b45)
(xite (decide ((0 : Int) < ((l42).length : Int)))
(some (A.one (C.d (D.v (.bool false)))))
(xite (!b17)
(xite (!b31)
(xite (!b45)
((Φ i_law01_alive []).bind fun r575 =>
((xAD r575).bind fun d576 =>
((xDB d576).bind fun b577 =>
(some (A.one (C.d (D.v (.bool b577))))))))
((Φ i_ref01_OfTable [(A.one (C.d (D.sl l42)))]).bind fun r578 =>
((xADs r578).bind fun d579 =>
(xif (decide (d579.length = 4))
((xDI .i64 (List.getD d579 0 (D.s []))).bind fun n580 =>
((xDI .i64 (List.getD d579 1 (D.s []))).bind fun n581 =>
((xDS (List.getD d579 2 (D.s []))).bind fun s582 =>
((xDL (List.getD d579 3 (D.s []))).bind fun l583 =>
((Φ i_ref01_Equal [(A.agg [(C.d (D.v (.int .i64 n580))), (C.d (D.v (.int .i64 n581))), (C.d (D.s s582)), (C.d (D.sl l583))]), (A.agg [(C.d (D.v (.int .i64 v1))), (C.d (D.v (.int .i64 v2))), (C.d (D.s v3)), (C.d (D.sl v4))])]).bind fun r584 =>
((xAD r584).bind fun d585 =>
((xDB d585).bind fun b586 =>
(xite b586
((Φ i_law01_alive []).bind fun r587 =>
((xAD r587).bind fun d588 =>
((xDB d588).bind fun b589 =>
(some (A.one (C.d (D.v (.bool b589))))))))
(some (A.one (C.d (D.v (.bool false)))))))))))))))))
((Φ i_ref01_OfTexts [(A.one (C.d (D.sl l28)))]).bind fun r590 =>
((xADs r590).bind fun d591 =>
(xif (decide (d591.length = 4))
((xDI .i64 (List.getD d591 0 (D.s []))).bind fun n592 =>
((xDI .i64 (List.getD d591 1 (D.s []))).bind fun n593 =>
((xDS (List.getD d591 2 (D.s []))).bind fun s594 =>
((xDL (List.getD d591 3 (D.s []))).bind fun l595 =>
((Φ i_ref01_Equal [(A.agg [(C.d (D.v (.int .i64 n592))), (C.d (D.v (.int .i64 n593))), (C.d (D.s s594)), (C.d (D.sl l595))]), (A.agg [(C.d (D.v (.int .i64 v1))), (C.d (D.v (.int .i64 v2))), (C.d (D.s v3)), (C.d (D.sl v4))])]).bind fun r596 =>
((xAD r596).bind fun d597 =>
((xDB d597).bind fun b598 =>
(xite b598
(xite (!b45)
((Φ i_law01_alive []).bind fun r599 =>
((xAD r599).bind fun d600 =>
((xDB d600).bind fun b601 =>
(some (A.one (C.d (D.v (.bool b601))))))))
((Φ i_ref01_OfTable [(A.one (C.d (D.sl l42)))]).bind fun r602 =>
((xADs r602).bind fun d603 =>
(xif (decide (d603.length = 4))
((xDI .i64 (List.getD d603 0 (D.s []))).bind fun n604 =>
((xDI .i64 (List.getD d603 1 (D.s []))).bind fun n605 =>
((xDS (List.getD d603 2 (D.s []))).bind fun s606 =>
((xDL (List.getD d603 3 (D.s []))).bind fun l607 =>
((Φ i_ref01_Equal [(A.agg [(C.d (D.v (.int .i64 n604))), (C.d (D.v (.int .i64 n605))), (C.d (D.s s606)), (C.d (D.sl l607))]), (A.agg [(C.d (D.v (.int .i64 v1))), (C.d (D.v (.int .i64 v2))), (C.d (D.s v3)), (C.d (D.sl v4))])]).bind fun r608 =>
((xAD r608).bind fun d609 =>
((xDB d609).bind fun b610 =>
(xite b610
((Φ i_law01_alive []).bind fun r611 =>
((xAD r611).bind fun d612 =>
((xDB d612).bind fun b613 =>
(some (A.one (C.d (D.v (.bool b613))))))))
(some (A.one (C.d (D.v (.bool false)))))))))))))))))
(some (A.one (C.d (D.v (.bool false)))))))))))))))))
((Φ i_ref01_OfInts [(A.one (C.d (D.sl l14)))]).bind fun r614 =>
((xADs r614).bind fun d615 =>
(xif (decide (d615.length = 4))
((xDI .i64 (List.getD d615 0 (D.s []))).bind fun n616 =>
((xDI .i64 (List.getD d615 1 (D.s []))).bind fun n617 =>
((xDS (List.getD d615 2 (D.s []))).bind fun s618 =>
((xDL (List.getD d615 3 (D.s []))).bind fun l619 =>
((Φ i_ref01_Equal [(A.agg [(C.d (D.v (.int .i64 n616))), (C.d (D.v (.int .i64 n617))), (C.d (D.s s618)), (C.d (D.sl l619))]), (A.agg [(C.d (D.v (.int .i64 v1))), (C.d (D.v (.int .i64 v2))), (C.d (D.s v3)), (C.d (D.sl v4))])]).bind fun r620 =>
((xAD r620).bind fun d621 =>
((xDB d621).bind fun b622 =>
(xite b622
(xite (!b31)
(xite (!b45)
((Φ i_law01_alive []).bind fun r623 =>
((xAD r623).bind fun d624 =>
((xDB d624).bind fun b625 =>
(some (A.one (C.d (D.v (.bool b625))))))))
((Φ i_ref01_OfTable [(A.one (C.d (D.sl l42)))]).bind fun r626 =>
((xADs r626).bind fun d627 =>
(xif (decide (d627.length = 4))
((xDI .i64 (List.getD d627 0 (D.s []))).bind fun n628 =>
((xDI .i64 (List.getD d627 1 (D.s []))).bind fun n629 =>
((xDS (List.getD d627 2 (D.s []))).bind fun s630 =>
((xDL (List.getD d627 3 (D.s []))).bind fun l631 =>
((Φ i_ref01_Equal [(A.agg [(C.d (D.v (.int .i64 n628))), (C.d (D.v (.int .i64 n629))), (C.d (D.s s630)), (C.d (D.sl l631))]), (A.agg [(C.d (D.v (.int .i64 v1))), (C.d (D.v (.int .i64 v2))), (C.d (D.s v3)), (C.d (D.sl v4))])]).bind fun r632 =>
((xAD r632).bind fun d633 =>
((xDB d633).bind fun b634 =>
(xite b634
((Φ i_law01_alive []).bind fun r635 =>
((xAD r635).bind fun d636 =>
((xDB d636).bind fun b637 =>
(some (A.one (C.d (D.v (.bool b637))))))))
(some (A.one (C.d (D.v (.bool false)))))))))))))))))
((Φ i_ref01_OfTexts [(A.one (C.d (D.sl l28)))]).bind fun r638 =>
((xADs r638).bind fun d639 =>
(xif (decide (d639.length = 4))
((xDI .i64 (List.getD d639 0 (D.s []))).bind fun n640 =>
((xDI .i64 (List.getD d639 1 (D.s []))).bind fun n641 =>
((xDS (List.getD d639 2 (D.s []))).bind fun s642 =>
((xDL (List.getD d639 3 (D.s []))).bind fun l643 =>
((Φ i_ref01_Equal [(A.agg [(C.d (D.v (.int .i64 n640))), (C.d (D.v (.int .i64 n641))), (C.d (D.s s642)), (C.d (D.sl l643))]), (A.agg [(C.d (D.v (.int .i64 v1))), (C.d (D.v (.int .i64 v2))), (C.d (D.s v3)), (C.d (D.sl v4))])]).bind fun r644 =>
((xAD r644).bind fun d645 =>
((xDB d645).bind fun b646 =>
(xite b646
(xite (!b45)
((Φ i_law01_alive []).bind fun r647 =>
((xAD r647).bind fun d648 =>
((xDB d648).bind fun b649 =>
(some (A.one (C.d (D.v (.bool b649))))))))
((Φ i_ref01_OfTable [(A.one (C.d (D.sl l42)))]).bind fun r650 =>
((xADs r650).bind fun d651 =>
(xif (decide (d651.length = 4))
((xDI .i64 (List.getD d651 0 (D.s []))).bind fun n652 =>
((xDI .i64 (List.getD d651 1 (D.s []))).bind fun n653 =>
((xDS (List.getD d651 2 (D.s []))).bind fun s654 =>
((xDL (List.getD d651 3 (D.s []))).bind fun l655 =>
((Φ i_ref01_Equal [(A.agg [(C.d (D.v (.int .i64 n652))), (C.d (D.v (.int .i64 n653))), (C.d (D.s s654)), (C.d (D.sl l655))]), (A.agg [(C.d (D.v (.int .i64 v1))), (C.d (D.v (.int .i64 v2))), (C.d (D.s v3)), (C.d (D.sl v4))])]).bind fun r656 =>
((xAD r656).bind fun d657 =>
((xDB d657).bind fun b658 =>
(xite b658
((Φ i_law01_alive []).bind fun r659 =>
((xAD r659).bind fun d660 =>
((xDB d660).bind fun b661 =>
(some (A.one (C.d (D.v (.bool b661))))))))
(some (A.one (C.d (D.v (.bool false)))))))))))))))))
(some (A.one (C.d (D.v (.bool false)))))))))))))))))
(some (A.one (C.d (D.v (.bool false))))))))))))))))))
(xite (!b17)
(xite (!b31)
(xite (!b45)
((Φ i_law01_alive []).bind fun r662 =>
((xAD r662).bind fun d663 =>
((xDB d663).bind fun b664 =>
(some (A.one (C.d (D.v (.bool b664))))))))
((Φ i_ref01_OfTable [(A.one (C.d (D.sl l42)))]).bind fun r665 =>
((xADs r665).bind fun d666 =>
(xif (decide (d666.length = 4))
((xDI .i64 (List.getD d666 0 (D.s []))).bind fun n667 =>
((xDI .i64 (List.getD d666 1 (D.s []))).bind fun n668 =>
((xDS (List.getD d666 2 (D.s []))).bind fun s669 =>
((xDL (List.getD d666 3 (D.s []))).bind fun l670 =>
((Φ i_ref01_Equal [(A.agg [(C.d (D.v (.int .i64 n667))), (C.d (D.v (.int .i64 n668))), (C.d (D.s s669)), (C.d (D.sl l670))]), (A.agg [(C.d (D.v (.int .i64 v1))), (C.d (D.v (.int .i64 v2))), (C.d (D.s v3)), (C.d (D.sl v4))])]).bind fun r671 =>
((xAD r671).bind fun d672 =>
((xDB d672).bind fun b673 =>
(xite b673
((Φ i_law01_alive []).bind fun r674 =>
((xAD r674).bind fun d675 =>
((xDB d675).bind fun b676 =>
(some (A.one (C.d (D.v (.bool b676))))))))
(some (A.one (C.d (D.v (.bool false)))))))))))))))))
((Φ i_ref01_OfTexts [(A.one (C.d (D.sl l28)))]).bind fun r677 =>
((xADs r677).bind fun d678 =>
(xif (decide (d678.length = 4))
((xDI .i64 (List.getD d678 0 (D.s []))).bind fun n679 =>
((xDI .i64 (List.getD d678 1 (D.s []))).bind fun n680 =>
((xDS (List.getD d678 2 (D.s []))).bind fun s681 =>
((xDL (List.getD d678 3 (D.s []))).bind fun l682 =>
((Φ i_ref01_Equal [(A.agg [(C.d (D.v (.int .i64 n679))), (C.d (D.v (.int .i64 n680))), (C.d (D.s s681)), (C.d (D.sl l682))]), (A.agg [(C.d (D.v (.int .i64 v1))), (C.d (D.v (.int .i64 v2))), (C.d (D.s v3)), (C.d (D.sl v4))])]).bind fun r683 =>
((xAD r683).bind fun d684 =>
((xDB d684).bind fun b685 =>
(xite b685
(xite (!b45)
((Φ i_law01_alive []).bind fun r686 =>
((xAD r686).bind fun d687 =>
((xDB d687).bind fun b688 =>
(some (A.one (C.d (D.v (.bool b688))))))))
((Φ i_ref01_OfTable [(A.one (C.d (D.sl l42)))]).bind fun r689 =>
((xADs r689).bind fun d690 =>
(xif (decide (d690.length = 4))
((xDI .i64 (List.getD d690 0 (D.s []))).bind fun n691 =>
((xDI .i64 (List.getD d690 1 (D.s []))).bind fun n692 =>
((xDS (List.getD d690 2 (D.s []))).bind fun s693 =>
((xDL (List.getD d690 3 (D.s []))).bind fun l694 =>
((Φ i_ref01_Equal [(A.agg [(C.d (D.v (.int .i64 n691))), (C.d (D.v (.int .i64 n692))), (C.d (D.s s693)), (C.d (D.sl l694))]), (A.agg [(C.d (D.v (.int .i64 v1))), (C.d (D.v (.int .i64 v2))), (C.d (D.s v3)), (C.d (D.sl v4))])]).bind fun r695 =>
((xAD r695).bind fun d696 =>
((xDB d696).bind fun b697 =>
(xite b697
((Φ i_law01_alive []).bind fun r698 =>
((xAD r698).bind fun d699 =>
((xDB d699).bind fun b700 =>
(some (A.one (C.d (D.v (.bool b700))))))))
(some (A.one (C.d (D.v (.bool false)))))))))))))))))
(some (A.one (C.d (D.v (.bool false)))))))))))))))))
((Φ i_ref01_OfInts [(A.one (C.d (D.sl l14)))]).bind fun r701 =>
((xADs r701).bind fun d702 =>
(xif (decide (d702.length = 4))
((xDI .i64 (List.getD d702 0 (D.s []))).bind fun n703 =>
((xDI .i64 (List.getD d702 1 (D.s []))).bind fun n704 =>
((xDS (List.getD d702 2 (D.s []))).bind fun s705 =>
((xDL (List.getD d702 3 (D.s []))).bind fun l706 =>
((Φ i_ref01_Equal [(A.agg [(C.d (D.v (.int .i64 n703))), (C.d (D.v (.int .i64 n704))), (C.d (D.s s705)), (C.d (D.sl l706))]), (A.agg [(C.d (D.v (.int .i64 v1))), (C.d (D.v (.int .i64 v2))), (C.d (D.s v3)), (C.d (D.sl v4))])]).bind fun r707 =>
((xAD r707).bind fun d708 =>
((xDB d708).bind fun b709 =>
(xite b709
(xite (!b31)
(xite (!b45)
((Φ i_law01_alive []).bind fun r710 =>
((xAD r710).bind fun d711 =>
((xDB d711).bind fun b712 =>
(some (A.one (C.d (D.v (.bool b712))))))))
((Φ i_ref01_OfTable [(A.one (C.d (D.sl l42)))]).bind fun r713 =>
((xADs r713).bind fun d714 =>
(xif (decide (d714.length = 4))
((xDI .i64 (List.getD d714 0 (D.s []))).bind fun n715 =>
((xDI .i64 (List.getD d714 1 (D.s []))).bind fun n716 =>
((xDS (List.getD d714 2 (D.s []))).bind fun s717 =>
((xDL (List.getD d714 3 (D.s []))).bind fun l718 =>
((Φ i_ref01_Equal [(A.agg [(C.d (D.v (.int .i64 n715))), (C.d (D.v (.int .i64 n716))), (C.d (D.s s717)), (C.d (D.sl l718))]), (A.agg [(C.d (D.v (.int .i64 v1))), (C.d (D.v (.int .i64 v2))), (C.d (D.s v3)), (C.d (D.sl v4))])]).bind fun r719 =>
((xAD r719).bind fun d720 =>
((xDB d720).bind fun b721 =>
(xite b721
((Φ i_law01_alive []).bind fun r722 =>
((xAD r722).bind fun d723 =>
((xDB d723).bind fun b724 =>
(some (A.one (C.d (D.v (.bool b724))))))))
(some (A.one (C.d (D.v (.bool false)))))))))))))))))
((Φ i_ref01_OfTexts [(A.one (C.d (D.sl l28)))]).bind fun r725 =>
((xADs r725).bind fun d726 =>
(xif (decide (d726.length = 4))
((xDI .i64 (List.getD d726 0 (D.s []))).bind fun n727 =>
((xDI .i64 (List.getD d726 1 (D.s []))).bind fun n728 =>
((xDS (List.getD d726 2 (D.s []))).bind fun s729 =>
((xDL (List.getD d726 3 (D.s []))).bind fun l730 =>
((Φ i_ref01_Equal [(A.agg [(C.d (D.v (.int .i64 n727))), (C.d (D.v (.int .i64 n728))), (C.d (D.s s729)), (C.d (D.sl l730))]), (A.agg [(C.d (D.v (.int .i64 v1))), (C.d (D.v (.int .i64 v2))), (C.d (D.s v3)), (C.d (D.sl v4))])]).bind fun r731 =>
((xAD r731).bind fun d732 =>
((xDB d732).bind fun b733 =>
(xite b733
(xite (!b45)
((Φ i_law01_alive []).bind fun r734 =>
((xAD r734).bind fun d735 =>
((xDB d735).bind fun b736 =>
(some (A.one (C.d (D.v (.bool b736))))))))
((Φ i_ref01_OfTable [(A.one (C.d (D.sl l42)))]).bind fun r737 =>
((xADs r737).bind fun d738 =>
(xif (decide (d738.length = 4))
((xDI .i64 (List.getD d738 0 (D.s []))).bind fun n739 =>
((xDI .i64 (List.getD d738 1 (D.s []))).bind fun n740 =>
((xDS (List.getD d738 2 (D.s []))).bind fun s741 =>
((xDL (List.getD d738 3 (D.s []))).bind fun l742 =>
((Φ i_ref01_Equal [(A.agg [(C.d (D.v (.int .i64 n739))), (C.d (D.v (.int .i64 n740))), (C.d (D.s s741)), (C.d (D.sl l742))]), (A.agg [(C.d (D.v (.int .i64 v1))), (C.d (D.v (.int .i64 v2))), (C.d (D.s v3)), (C.d (D.sl v4))])]).bind fun r743 =>
((xAD r743).bind fun d744 =>
((xDB d744).bind fun b745 =>
(xite b745
((Φ i_law01_alive []).bind fun r746 =>
((xAD r746).bind fun d747 =>
((xDB d747).bind fun b748 =>
(some (A.one (C.d (D.v (.bool b748))))))))
(some (A.one (C.d (D.v (.bool false)))))))))))))))))
(some (A.one (C.d (D.v (.bool false)))))))))))))))))
(some (A.one (C.d (D.v (.bool false)))))))))))))))))))))))))))))))))))))))))))))))))))))))))))))))))))))
theorem law01_ValueReads_eq (Φ : Phi) (fuel : Nat) (v1 : Int) (v2 : Int) (v3 : List UInt8) (v4 : List (List D)) : xbody TT0 Φ fuel sp_law01_ValueReads Try.f10 [(A.agg [(C.d (D.v (.int .i64 v1))), (C.d (D.v (.int .i64 v2))), (C.d (D.s v3)), (C.d (D.sl v4))])] = law01_ValueReads Φ fuel v1 v2 v3 v4 := by kernel_rfl
end Go.Av
