/-
  What each function gives when run. Printed by a program of mine (gen.py).
-/
import Derived.Test.YtmchldchhgofiaaVxTy
set_option linter.all false
set_option linter.unusedVariables false
set_option maxRecDepth 100000
namespace Go.Av
open Go.Proofs
/-! law01_alive -/
def sp_law01_alive : List LSpec := []
def law01_alive (Φ : Phi) (fuel : Nat) : Option A :=
((Φ i_value_Compare [(A.agg [(C.d (D.v (.int .i64 (2 : Int)))), (C.d (D.v (.int .i64 (-1 : Int)))), (C.d (D.s [])), (C.d (D.sl []))]), (A.agg [(C.d (D.v (.int .i64 (2 : Int)))), (C.d (D.v (.int .i64 (1 : Int)))), (C.d (D.s [])), (C.d (D.sl []))])]).bind fun r1 =>
((xAD r1).bind fun d2 =>
((xDI .i64 d2).bind fun n3 =>
(xite (decide (n3 = (-1 : Int)))
((Φ i_value_Check [(A.agg [(C.d (D.v (.int .i64 (4 : Int)))), (C.d (D.v (.int .i64 (-1 : Int)))), (C.d (D.s [])), (C.d (D.sl []))])]).bind fun r4 =>
((xAD r4).bind fun d5 =>
((xDI .i64 d5).bind fun n6 =>
(xite (decide (n6 = (1 : Int)))
((Φ i_value_TypeName [(A.one (C.d (D.v (.int .i64 (2 : Int)))))]).bind fun r7 =>
((xAD r7).bind fun d8 =>
((xDS d8).bind fun s9 =>
(some (A.one (C.d (D.v (.bool (decide ((s9 : List UInt8) = [105, 110, 116]))))))))))
(some (A.one (C.d (D.v (.bool false)))))))))
(some (A.one (C.d (D.v (.bool false)))))))))
theorem law01_alive_eq (Φ : Phi) (fuel : Nat) : xbody TT0 Φ fuel sp_law01_alive Try.f15 [] = law01_alive Φ fuel := by kernel_rfl
/-! ref01_Compare -/
def sp_ref01_Compare : List LSpec := []
def ref01_Compare (Φ : Phi) (fuel : Nat) (a1 : Int) (a2 : Int) (a3 : List UInt8) (a4 : List (List D)) (b5 : Int) (b6 : Int) (b7 : List UInt8) (b8 : List (List D)) : Option A :=
(xite (!decide (a1 = b5))
((Φ i_ref01_sign [(A.one (C.d (D.v (.bool (decide (a1 < b5))))))]).bind fun r9 =>
((xAD r9).bind fun d10 =>
((xDI .i64 d10).bind fun n11 =>
(some (A.one (C.d (D.v (.int .i64 n11))))))))
(xite (!decide (a2 = b6))
((Φ i_ref01_sign [(A.one (C.d (D.v (.bool (decide (a2 < b6))))))]).bind fun r12 =>
((xAD r12).bind fun d13 =>
((xDI .i64 d13).bind fun n14 =>
(some (A.one (C.d (D.v (.int .i64 n14))))))))
(xite (!decide ((a3 : List UInt8) = b7))
((Φ i_ref01_sign [(A.one (C.d (D.v (.bool (Op.bytesLess a3 b7)))))]).bind fun r15 =>
((xAD r15).bind fun d16 =>
((xDI .i64 d16).bind fun n17 =>
(some (A.one (C.d (D.v (.int .i64 n17))))))))
((Φ i_ref01_CompareAll [(A.one (C.d (D.sl a4))), (A.one (C.d (D.sl b8)))]).bind fun r18 =>
((xAD r18).bind fun d19 =>
((xDI .i64 d19).bind fun n20 =>
(some (A.one (C.d (D.v (.int .i64 n20)))))))))))
theorem ref01_Compare_eq (Φ : Phi) (fuel : Nat) (a1 : Int) (a2 : Int) (a3 : List UInt8) (a4 : List (List D)) (b5 : Int) (b6 : Int) (b7 : List UInt8) (b8 : List (List D)) : xbody TT0 Φ fuel sp_ref01_Compare Try.f16 [(A.agg [(C.d (D.v (.int .i64 a1))), (C.d (D.v (.int .i64 a2))), (C.d (D.s a3)), (C.d (D.sl a4))]), (A.agg [(C.d (D.v (.int .i64 b5))), (C.d (D.v (.int .i64 b6))), (C.d (D.s b7)), (C.d (D.sl b8))])] = ref01_Compare Φ fuel a1 a2 a3 a4 b5 b6 b7 b8 := by kernel_rfl
/-! value_Compare -/
def sp_value_Compare : List LSpec := [{ n := 2, m := 75, toks := [], ks := [.slot 2 (.one (.ref 0 0)), .slot 3 (.one (.ref 1 0)), .slot 45 (.one .sl), .slot 46 (.one (.int .i64)), .slot 47 (.one (.int .i64)), .box 0 (.lit [(.int .i64), (.int .i64), .str, .sl]), .box 1 (.lit [(.int .i64), (.int .i64), .str, .sl])] }]
def value_Compare_l0 (Φ : Phi) (fuel : Nat) (k0 : List (List D) → Int → Int → Int → Int → List UInt8 → List (List D) → Int → Int → List UInt8 → List (List D) → Option A) (l9 : List (List D)) (i10 : Int) (i11 : Int) (i12 : Int) (i13 : Int) (s14 : List UInt8) (l15 : List (List D)) (i16 : Int) (i17 : Int) (s18 : List UInt8) (l19 : List (List D)) : Option A :=
(xite (decide (i11 < i10))
((xElem 4 l9 i11).bind fun c20 =>
(xif (decide (4 ≤ (c20).length))
((xDI .i64 (List.getD c20 0 (D.s []))).bind fun n21 =>
((xDI .i64 (List.getD c20 1 (D.s []))).bind fun n22 =>
((xDS (List.getD c20 2 (D.s []))).bind fun s23 =>
((xDL (List.getD c20 3 (D.s []))).bind fun l24 =>
(xite (decide (i11 = ((l19).length : Int)))
(some (A.one (C.d (D.v (.int .i64 (1 : Int))))))
((xElem 4 l19 i11).bind fun c25 =>
(xif (decide (4 ≤ (c25).length))
((xDI .i64 (List.getD c25 0 (D.s []))).bind fun n26 =>
((xDI .i64 (List.getD c25 1 (D.s []))).bind fun n27 =>
((xDS (List.getD c25 2 (D.s []))).bind fun s28 =>
((xDL (List.getD c25 3 (D.s []))).bind fun l29 =>
((Φ i_value_Compare [(A.agg [(C.d (D.v (.int .i64 n21))), (C.d (D.v (.int .i64 n22))), (C.d (D.s s23)), (C.d (D.sl l24))]), (A.agg [(C.d (D.v (.int .i64 n26))), (C.d (D.v (.int .i64 n27))), (C.d (D.s s28)), (C.d (D.sl l29))])]).bind fun r30 =>
((xAD r30).bind fun d31 =>
((xDI .i64 d31).bind fun n32 =>
(xite (!decide (n32 = (0 : Int)))
(some (A.one (C.d (D.v (.int .i64 n32)))))
(k0 l9 i10 (IntKind.i64.wrap (i11 + (1 : Int))) i12 i13 s14 l15 i16 i17 s18 l19))))))))))))))))))
(xite (decide (((l15).length : Int) < ((l19).length : Int)))
(some (A.one (C.d (D.v (.int .i64 (-1 : Int))))))
(some (A.one (C.d (D.v (.int .i64 (0 : Int))))))))
def value_Compare (Φ : Phi) (fuel : Nat) (a1 : Int) (a2 : Int) (a3 : List UInt8) (a4 : List (List D)) (b5 : Int) (b6 : Int) (b7 : List UInt8) (b8 : List (List D)) : Option A :=
(xite (decide (a1 < b5))
(some (A.one (C.d (D.v (.int .i64 (-1 : Int))))))
(xite (decide (b5 < a1))
(some (A.one (C.d (D.v (.int .i64 (1 : Int))))))
(xite (decide (a2 < b6))
(some (A.one (C.d (D.v (.int .i64 (-1 : Int))))))
(xite (decide (b6 < a2))
(some (A.one (C.d (D.v (.int .i64 (1 : Int))))))
(xite (Op.bytesLess a3 b7)
(some (A.one (C.d (D.v (.int .i64 (-1 : Int))))))
(xite (!(Op.bytesLess a3 b7 || decide ((a3 : List UInt8) = b7)))
(some (A.one (C.d (D.v (.int .i64 (1 : Int))))))
(iter (fun (x : Unit × Unit × List (List D) × Int × Int × (Int × Int × List UInt8 × List (List D) × Unit) × (Int × Int × List UInt8 × List (List D) × Unit) × Unit) (rec : (Unit × Unit × List (List D) × Int × Int × (Int × Int × List UInt8 × List (List D) × Unit) × (Int × Int × List UInt8 × List (List D) × Unit) × Unit) → Option A) => value_Compare_l0 Φ fuel (fun l9 i10 i11 i12 i13 s14 l15 i16 i17 s18 l19 => rec ((), (), l9, i10, i11, (i12, i13, s14, l15, ()), (i16, i17, s18, l19, ()), ())) x.2.2.1 x.2.2.2.1 x.2.2.2.2.1 x.2.2.2.2.2.1.1 x.2.2.2.2.2.1.2.1 x.2.2.2.2.2.1.2.2.1 x.2.2.2.2.2.1.2.2.2.1 x.2.2.2.2.2.2.1.1 x.2.2.2.2.2.2.1.2.1 x.2.2.2.2.2.2.1.2.2.1 x.2.2.2.2.2.2.1.2.2.2.1) fuel ((), (), a4, ((a4).length : Int), (0 : Int), (a1, a2, a3, a4, ()), (b5, b6, b7, b8, ()), ()))))))))
theorem value_Compare_eq (Φ : Phi) (fuel : Nat) (a1 : Int) (a2 : Int) (a3 : List UInt8) (a4 : List (List D)) (b5 : Int) (b6 : Int) (b7 : List UInt8) (b8 : List (List D)) : xbody TT0 Φ fuel sp_value_Compare Try.f17 [(A.agg [(C.d (D.v (.int .i64 a1))), (C.d (D.v (.int .i64 a2))), (C.d (D.s a3)), (C.d (D.sl a4))]), (A.agg [(C.d (D.v (.int .i64 b5))), (C.d (D.v (.int .i64 b6))), (C.d (D.s b7)), (C.d (D.sl b8))])] = value_Compare Φ fuel a1 a2 a3 a4 b5 b6 b7 b8 := by kernel_rfl
/-! value_Equal -/
def sp_value_Equal : List LSpec := []
def value_Equal (Φ : Phi) (fuel : Nat) (a1 : Int) (a2 : Int) (a3 : List UInt8) (a4 : List (List D)) (b5 : Int) (b6 : Int) (b7 : List UInt8) (b8 : List (List D)) : Option A :=
((Φ i_value_Compare [(A.agg [(C.d (D.v (.int .i64 a1))), (C.d (D.v (.int .i64 a2))), (C.d (D.s a3)), (C.d (D.sl a4))]), (A.agg [(C.d (D.v (.int .i64 b5))), (C.d (D.v (.int .i64 b6))), (C.d (D.s b7)), (C.d (D.sl b8))])]).bind fun r9 =>
((xAD r9).bind fun d10 =>
((xDI .i64 d10).bind fun n11 =>
(some (A.one (C.d (D.v (.bool (decide (n11 = (0 : Int)))))))))))
theorem value_Equal_eq (Φ : Phi) (fuel : Nat) (a1 : Int) (a2 : Int) (a3 : List UInt8) (a4 : List (List D)) (b5 : Int) (b6 : Int) (b7 : List UInt8) (b8 : List (List D)) : xbody TT0 Φ fuel sp_value_Equal Try.f18 [(A.agg [(C.d (D.v (.int .i64 a1))), (C.d (D.v (.int .i64 a2))), (C.d (D.s a3)), (C.d (D.sl a4))]), (A.agg [(C.d (D.v (.int .i64 b5))), (C.d (D.v (.int .i64 b6))), (C.d (D.s b7)), (C.d (D.sl b8))])] = value_Equal Φ fuel a1 a2 a3 a4 b5 b6 b7 b8 := by kernel_rfl
/-! value_Size -/
def sp_value_Size : List LSpec := [{ n := 1, m := 19, toks := [], ks := [.slot 3 (.one (.int .i64)), .slot 7 (.one .sl), .slot 8 (.one (.int .i64)), .slot 9 (.one (.int .i64))] }]
def value_Size_l0 (Φ : Phi) (fuel : Nat) (k0 : Int → List (List D) → Int → Int → Option A) (n5 : Int) (l6 : List (List D)) (i7 : Int) (i8 : Int) : Option A :=
(xite (decide (i8 < i7))
((xElem 4 l6 i8).bind fun c9 =>
(xif (decide (4 ≤ (c9).length))
((xDI .i64 (List.getD c9 0 (D.s []))).bind fun n10 =>
((xDI .i64 (List.getD c9 1 (D.s []))).bind fun n11 =>
((xDS (List.getD c9 2 (D.s []))).bind fun s12 =>
((xDL (List.getD c9 3 (D.s []))).bind fun l13 =>
((Φ i_value_Size [(A.agg [(C.d (D.v (.int .i64 n10))), (C.d (D.v (.int .i64 n11))), (C.d (D.s s12)), (C.d (D.sl l13))])]).bind fun r14 =>
((xAD r14).bind fun d15 =>
((xDI .i64 d15).bind fun n16 =>
(k0 (IntKind.i64.wrap (n5 + n16)) l6 i7 (IntKind.i64.wrap (i8 + (1 : Int)))))))))))))
(some (A.one (C.d (D.v (.int .i64 n5))))))
def value_Size (Φ : Phi) (fuel : Nat) (v1 : Int) (v2 : Int) (v3 : List UInt8) (v4 : List (List D)) : Option A :=
(iter (fun (x : Int × List (List D) × Int × Int × Unit) (rec : (Int × List (List D) × Int × Int × Unit) → Option A) => value_Size_l0 Φ fuel (fun n5 l6 i7 i8 => rec (n5, l6, i7, i8, ())) x.1 x.2.1 x.2.2.1 x.2.2.2.1) fuel ((1 : Int), v4, ((v4).length : Int), (0 : Int), ()))
theorem value_Size_eq (Φ : Phi) (fuel : Nat) (v1 : Int) (v2 : Int) (v3 : List UInt8) (v4 : List (List D)) : xbody TT0 Φ fuel sp_value_Size Try.f19 [(A.agg [(C.d (D.v (.int .i64 v1))), (C.d (D.v (.int .i64 v2))), (C.d (D.s v3)), (C.d (D.sl v4))])] = value_Size Φ fuel v1 v2 v3 v4 := by kernel_rfl
/-! ref01_Size -/
def sp_ref01_Size : List LSpec := [{ n := 1, m := 21, toks := [], ks := [.slot 1 (.one (.ref 0 0)), .slot 3 (.one (.int .i64)), .slot 4 (.one (.int .i64)), .box 0 (.lit [(.int .i64), (.int .i64), .str, .sl])] }]
def ref01_Size_l0 (Φ : Phi) (fuel : Nat) (k0 : Int → Int → Int → Int → List UInt8 → List (List D) → Option A) (n5 : Int) (i6 : Int) (i7 : Int) (i8 : Int) (s9 : List UInt8) (l10 : List (List D)) : Option A :=
(xite (decide (i6 < ((l10).length : Int)))
((xElem 4 l10 i6).bind fun c11 =>
(xif (decide (4 ≤ (c11).length))
((xDI .i64 (List.getD c11 0 (D.s []))).bind fun n12 =>
((xDI .i64 (List.getD c11 1 (D.s []))).bind fun n13 =>
((xDS (List.getD c11 2 (D.s []))).bind fun s14 =>
((xDL (List.getD c11 3 (D.s []))).bind fun l15 =>
((Φ i_ref01_Size [(A.agg [(C.d (D.v (.int .i64 n12))), (C.d (D.v (.int .i64 n13))), (C.d (D.s s14)), (C.d (D.sl l15))])]).bind fun r16 =>
((xAD r16).bind fun d17 =>
((xDI .i64 d17).bind fun n18 =>
(k0 (IntKind.i64.wrap (n5 + n18)) (IntKind.i64.wrap (i6 + (1 : Int))) i7 i8 s9 l10))))))))))
(some (A.one (C.d (D.v (.int .i64 n5))))))
def ref01_Size (Φ : Phi) (fuel : Nat) (v1 : Int) (v2 : Int) (v3 : List UInt8) (v4 : List (List D)) : Option A :=
(iter (fun (x : Unit × Int × Int × (Int × Int × List UInt8 × List (List D) × Unit) × Unit) (rec : (Unit × Int × Int × (Int × Int × List UInt8 × List (List D) × Unit) × Unit) → Option A) => ref01_Size_l0 Φ fuel (fun n5 i6 i7 i8 s9 l10 => rec ((), n5, i6, (i7, i8, s9, l10, ()), ())) x.2.1 x.2.2.1 x.2.2.2.1.1 x.2.2.2.1.2.1 x.2.2.2.1.2.2.1 x.2.2.2.1.2.2.2.1) fuel ((), (1 : Int), (0 : Int), (v1, v2, v3, v4, ()), ()))
theorem ref01_Size_eq (Φ : Phi) (fuel : Nat) (v1 : Int) (v2 : Int) (v3 : List UInt8) (v4 : List (List D)) : xbody TT0 Φ fuel sp_ref01_Size Try.f20 [(A.agg [(C.d (D.v (.int .i64 v1))), (C.d (D.v (.int .i64 v2))), (C.d (D.s v3)), (C.d (D.sl v4))])] = ref01_Size Φ fuel v1 v2 v3 v4 := by kernel_rfl
/-! value_Default -/
def sp_value_Default : List LSpec := []
def value_Default (Φ : Phi) (fuel : Nat) (t1 : Int) : Option A :=
(xite (decide (t1 < (1 : Int)))
(some (A.tup [(A.agg [(C.d (D.v (.int .i64 0))), (C.d (D.v (.int .i64 0))), (C.d (D.s [])), (C.d (D.sl []))]), (A.one (C.d (D.v (.int .i64 (3 : Int)))))]))
(xite (decide ((8 : Int) < t1))
(some (A.tup [(A.agg [(C.d (D.v (.int .i64 0))), (C.d (D.v (.int .i64 0))), (C.d (D.s [])), (C.d (D.sl []))]), (A.one (C.d (D.v (.int .i64 (3 : Int)))))]))
(xite (decide (t1 = (2 : Int)))
((Φ i_value_OfInt [(A.one (C.d (D.v (.int .i64 (-1000000 : Int)))))]).bind fun r2 =>
((xADs r2).bind fun d3 =>
(xif (decide (d3.length = 4))
((xDI .i64 (List.getD d3 0 (D.s []))).bind fun n4 =>
((xDI .i64 (List.getD d3 1 (D.s []))).bind fun n5 =>
((xDS (List.getD d3 2 (D.s []))).bind fun s6 =>
((xDL (List.getD d3 3 (D.s []))).bind fun l7 =>
(some (A.tup [(A.agg [(C.d (D.v (.int .i64 n4))), (C.d (D.v (.int .i64 n5))), (C.d (D.s s6)), (C.d (D.sl l7))]), (A.one (C.d (D.v (.int .i64 (0 : Int)))))])))))))))
(xite (decide (t1 = (8 : Int)))
((Φ i_value_OfPattern [(A.one (C.d (D.s [32])))]).bind fun r8 =>
((xADs r8).bind fun d9 =>
(xif (decide (d9.length = 4))
((xDI .i64 (List.getD d9 0 (D.s []))).bind fun n10 =>
((xDI .i64 (List.getD d9 1 (D.s []))).bind fun n11 =>
((xDS (List.getD d9 2 (D.s []))).bind fun s12 =>
((xDL (List.getD d9 3 (D.s []))).bind fun l13 =>
(some (A.tup [(A.agg [(C.d (D.v (.int .i64 n10))), (C.d (D.v (.int .i64 n11))), (C.d (D.s s12)), (C.d (D.sl l13))]), (A.one (C.d (D.v (.int .i64 (0 : Int)))))])))))))))
(some (A.tup [(A.agg [(C.d (D.v (.int .i64 t1))), (C.d (D.v (.int .i64 0))), (C.d (D.s [])), (C.d (D.sl []))]), (A.one (C.d (D.v (.int .i64 (0 : Int)))))]))))))
theorem value_Default_eq (Φ : Phi) (fuel : Nat) (t1 : Int) : xbody TT0 Φ fuel sp_value_Default Try.f21 [(A.one (C.d (D.v (.int .i64 t1))))] = value_Default Φ fuel t1 := by kernel_rfl
/-! value_ParseType -/
def sp_value_ParseType : List LSpec := [{ n := 0, m := 14, toks := [], ks := [.slot 0 (.one .str), .slot 4 (.one (.int .i64))] }]
def value_ParseType_l0 (Φ : Phi) (fuel : Nat) (k0 : List UInt8 → Int → Option A) (s2 : List UInt8) (t3 : Int) : Option A :=
(xite (decide (t3 ≤ (8 : Int)))
((Φ i_value_TypeName [(A.one (C.d (D.v (.int .i64 t3))))]).bind fun r4 =>
((xAD r4).bind fun d5 =>
((xDS d5).bind fun s6 =>
(xite (decide ((s6 : List UInt8) = s2))
(some (A.tup [(A.one (C.d (D.v (.int .i64 t3)))), (A.one (C.d (D.v (.bool true))))]))
(k0 s2 (IntKind.i64.wrap (t3 + (1 : Int))))))))
(some (A.tup [(A.one (C.d (D.v (.int .i64 (0 : Int))))), (A.one (C.d (D.v (.bool false))))])))
def value_ParseType (Φ : Phi) (fuel : Nat) (s1 : List UInt8) : Option A :=
(iter (fun (x : List UInt8 × Int × Unit) (rec : (List UInt8 × Int × Unit) → Option A) => value_ParseType_l0 Φ fuel (fun s2 t3 => rec (s2, t3, ())) x.1 x.2.1) fuel (s1, (1 : Int), ()))
theorem value_ParseType_eq (Φ : Phi) (fuel : Nat) (s1 : List UInt8) : xbody TT0 Φ fuel sp_value_ParseType Try.f22 [(A.one (C.d (D.s s1)))] = value_ParseType Φ fuel s1 := by kernel_rfl
/-! ref01_ParseType -/
def sp_ref01_ParseType : List LSpec := [{ n := 0, m := 14, toks := [], ks := [.slot 0 (.one .str), .slot 4 (.one (.int .i64))] }]
def ref01_ParseType_l0 (Φ : Phi) (fuel : Nat) (k0 : List UInt8 → Int → Option A) (s2 : List UInt8) (t3 : Int) : Option A :=
(xite (decide (t3 ≤ (8 : Int)))
((Φ i_ref01_TypeName [(A.one (C.d (D.v (.int .i64 t3))))]).bind fun r4 =>
((xAD r4).bind fun d5 =>
((xDS d5).bind fun s6 =>
(xite (decide ((s6 : List UInt8) = s2))
(some (A.tup [(A.one (C.d (D.v (.int .i64 t3)))), (A.one (C.d (D.v (.bool true))))]))
(k0 s2 (IntKind.i64.wrap (t3 + (1 : Int))))))))
(some (A.tup [(A.one (C.d (D.v (.int .i64 (0 : Int))))), (A.one (C.d (D.v (.bool false))))])))
def ref01_ParseType (Φ : Phi) (fuel : Nat) (s1 : List UInt8) : Option A :=
(iter (fun (x : List UInt8 × Int × Unit) (rec : (List UInt8 × Int × Unit) → Option A) => ref01_ParseType_l0 Φ fuel (fun s2 t3 => rec (s2, t3, ())) x.1 x.2.1) fuel (s1, (1 : Int), ()))
theorem ref01_ParseType_eq (Φ : Phi) (fuel : Nat) (s1 : List UInt8) : xbody TT0 Φ fuel sp_ref01_ParseType Try.f23 [(A.one (C.d (D.s s1)))] = ref01_ParseType Φ fuel s1 := by kernel_rfl
/-! ref01_Default -/
def sp_ref01_Default : List LSpec := []
def ref01_Default (Φ : Phi) (fuel : Nat) (t1 : Int) : Option A :=
(xite (decide (t1 < (1 : Int)))
(some (A.tup [(A.agg [(C.d (D.v (.int .i64 0))), (C.d (D.v (.int .i64 0))), (C.d (D.s [])), (C.d (D.sl []))]), (A.one (C.d (D.v (.int .i64 (3 : Int)))))]))
(xite (decide ((8 : Int) < t1))
(some (A.tup [(A.agg [(C.d (D.v (.int .i64 0))), (C.d (D.v (.int .i64 0))), (C.d (D.s [])), (C.d (D.sl []))]), (A.one (C.d (D.v (.int .i64 (3 : Int)))))]))
(xite (decide (t1 = (2 : Int)))
((Φ i_ref01_OfInt [(A.one (C.d (D.v (.int .i64 (-1000000 : Int)))))]).bind fun r2 =>
((xADs r2).bind fun d3 =>
(xif (decide (d3.length = 4))
((xDI .i64 (List.getD d3 0 (D.s []))).bind fun n4 =>
((xDI .i64 (List.getD d3 1 (D.s []))).bind fun n5 =>
((xDS (List.getD d3 2 (D.s []))).bind fun s6 =>
((xDL (List.getD d3 3 (D.s []))).bind fun l7 =>
(some (A.tup [(A.agg [(C.d (D.v (.int .i64 n4))), (C.d (D.v (.int .i64 n5))), (C.d (D.s s6)), (C.d (D.sl l7))]), (A.one (C.d (D.v (.int .i64 (0 : Int)))))])))))))))
(xite (decide (t1 = (8 : Int)))
((Φ i_ref01_OfPattern [(A.one (C.d (D.s [32])))]).bind fun r8 =>
((xADs r8).bind fun d9 =>
(xif (decide (d9.length = 4))
((xDI .i64 (List.getD d9 0 (D.s []))).bind fun n10 =>
((xDI .i64 (List.getD d9 1 (D.s []))).bind fun n11 =>
((xDS (List.getD d9 2 (D.s []))).bind fun s12 =>
((xDL (List.getD d9 3 (D.s []))).bind fun l13 =>
(some (A.tup [(A.agg [(C.d (D.v (.int .i64 n10))), (C.d (D.v (.int .i64 n11))), (C.d (D.s s12)), (C.d (D.sl l13))]), (A.one (C.d (D.v (.int .i64 (0 : Int)))))])))))))))
(some (A.tup [(A.agg [(C.d (D.v (.int .i64 t1))), (C.d (D.v (.int .i64 0))), (C.d (D.s [])), (C.d (D.sl []))]), (A.one (C.d (D.v (.int .i64 (0 : Int)))))]))))))
theorem ref01_Default_eq (Φ : Phi) (fuel : Nat) (t1 : Int) : xbody TT0 Φ fuel sp_ref01_Default Try.f24 [(A.one (C.d (D.v (.int .i64 t1))))] = ref01_Default Φ fuel t1 := by kernel_rfl
/-! value_TypeName -/
def sp_value_TypeName : List LSpec := []
def value_TypeName (Φ : Phi) (fuel : Nat) (t1 : Int) : Option A :=
(xite (decide (t1 < (0 : Int)))
(some (A.one (C.d (D.s []))))
(xite (decide ((9 : Int) ≤ t1))
(some (A.one (C.d (D.s []))))
(xif (decide (0 ≤ t1) && decide (t1 < (9 : Int)))
(xif (decide ((0 + (t1).toNat * 1) + 1 ≤ ([(C.d (D.s [])), (C.d (D.s [98, 111, 111, 108])), (C.d (D.s [105, 110, 116])), (C.d (D.s [116, 101, 120, 116])), (C.d (D.s [98, 105, 116, 115])), (C.d (D.s [105, 110, 116, 115])), (C.d (D.s [116, 101, 120, 116, 115])), (C.d (D.s [116, 97, 98, 108, 101])), (C.d (D.s [112, 97, 116, 116, 101, 114, 110]))]).length))
((xS (A.one (List.getD [(C.d (D.s [])), (C.d (D.s [98, 111, 111, 108])), (C.d (D.s [105, 110, 116])), (C.d (D.s [116, 101, 120, 116])), (C.d (D.s [98, 105, 116, 115])), (C.d (D.s [105, 110, 116, 115])), (C.d (D.s [116, 101, 120, 116, 115])), (C.d (D.s [116, 97, 98, 108, 101])), (C.d (D.s [112, 97, 116, 116, 101, 114, 110]))] (0 + (t1).toNat * 1) C.any))).bind fun s2 =>
(some (A.one (C.d (D.s s2)))))))))
theorem value_TypeName_eq (Φ : Phi) (fuel : Nat) (t1 : Int) : xbody TT0 Φ fuel sp_value_TypeName Try.f25 [(A.one (C.d (D.v (.int .i64 t1))))] = value_TypeName Φ fuel t1 := by kernel_rfl
/-! ref01_TypeName -/
def sp_ref01_TypeName : List LSpec := []
def ref01_TypeName (Φ : Phi) (fuel : Nat) (t1 : Int) : Option A :=
(xite (decide (t1 < (1 : Int)))
(some (A.one (C.d (D.s []))))
(xite (decide ((8 : Int) < t1))
(some (A.one (C.d (D.s []))))
((Φ i_ref01_names []).bind fun r2 =>
((xAD r2).bind fun d3 =>
((xDL d3).bind fun l4 =>
((xElem 1 l4 (IntKind.i64.wrap (t1 - (1 : Int)))).bind fun c5 =>
(xif (decide (1 ≤ (c5).length))
((xDS (List.getD c5 0 (D.s []))).bind fun s6 =>
(some (A.one (C.d (D.s s6))))))))))))
theorem ref01_TypeName_eq (Φ : Phi) (fuel : Nat) (t1 : Int) : xbody TT0 Φ fuel sp_ref01_TypeName Try.f26 [(A.one (C.d (D.v (.int .i64 t1))))] = ref01_TypeName Φ fuel t1 := by kernel_rfl
/-! ref01_Equal -/
def sp_ref01_Equal : List LSpec := []
def ref01_Equal (Φ : Phi) (fuel : Nat) (a1 : Int) (a2 : Int) (a3 : List UInt8) (a4 : List (List D)) (b5 : Int) (b6 : Int) (b7 : List UInt8) (b8 : List (List D)) : Option A :=
((Φ i_ref01_Compare [(A.agg [(C.d (D.v (.int .i64 a1))), (C.d (D.v (.int .i64 a2))), (C.d (D.s a3)), (C.d (D.sl a4))]), (A.agg [(C.d (D.v (.int .i64 b5))), (C.d (D.v (.int .i64 b6))), (C.d (D.s b7)), (C.d (D.sl b8))])]).bind fun r9 =>
((xAD r9).bind fun d10 =>
((xDI .i64 d10).bind fun n11 =>
(some (A.one (C.d (D.v (.bool (decide (n11 = (0 : Int)))))))))))
theorem ref01_Equal_eq (Φ : Phi) (fuel : Nat) (a1 : Int) (a2 : Int) (a3 : List UInt8) (a4 : List (List D)) (b5 : Int) (b6 : Int) (b7 : List UInt8) (b8 : List (List D)) : xbody TT0 Φ fuel sp_ref01_Equal Try.f27 [(A.agg [(C.d (D.v (.int .i64 a1))), (C.d (D.v (.int .i64 a2))), (C.d (D.s a3)), (C.d (D.sl a4))]), (A.agg [(C.d (D.v (.int .i64 b5))), (C.d (D.v (.int .i64 b6))), (C.d (D.s b7)), (C.d (D.sl b8))])] = ref01_Equal Φ fuel a1 a2 a3 a4 b5 b6 b7 b8 := by kernel_rfl
/-! value_OfBool -/
def sp_value_OfBool : List LSpec := []
def value_OfBool (Φ : Phi) (fuel : Nat) (b1 : Bool) : Option A :=
(xite b1
(some (A.agg [(C.d (D.v (.int .i64 (1 : Int)))), (C.d (D.v (.int .i64 (1 : Int)))), (C.d (D.s [])), (C.d (D.sl []))]))
(some (A.agg [(C.d (D.v (.int .i64 (1 : Int)))), (C.d (D.v (.int .i64 0))), (C.d (D.s [])), (C.d (D.sl []))])))
theorem value_OfBool_eq (Φ : Phi) (fuel : Nat) (b1 : Bool) : xbody TT0 Φ fuel sp_value_OfBool Try.f28 [(A.one (C.d (D.v (.bool b1))))] = value_OfBool Φ fuel b1 := by kernel_rfl
/-! ref01_OfBool -/
def sp_ref01_OfBool : List LSpec := []
def ref01_OfBool (Φ : Phi) (fuel : Nat) (b1 : Bool) : Option A :=
(xite b1
(some (A.agg [(C.d (D.v (.int .i64 (1 : Int)))), (C.d (D.v (.int .i64 (1 : Int)))), (C.d (D.s [])), (C.d (D.sl []))]))
(some (A.agg [(C.d (D.v (.int .i64 (1 : Int)))), (C.d (D.v (.int .i64 0))), (C.d (D.s [])), (C.d (D.sl []))])))
theorem ref01_OfBool_eq (Φ : Phi) (fuel : Nat) (b1 : Bool) : xbody TT0 Φ fuel sp_ref01_OfBool Try.f29 [(A.one (C.d (D.v (.bool b1))))] = ref01_OfBool Φ fuel b1 := by kernel_rfl
/-! value_OfInt -/
def sp_value_OfInt : List LSpec := []
def value_OfInt (Φ : Phi) (fuel : Nat) (n1 : Int) : Option A :=
(some (A.agg [(C.d (D.v (.int .i64 (2 : Int)))), (C.d (D.v (.int .i64 n1))), (C.d (D.s [])), (C.d (D.sl []))]))
theorem value_OfInt_eq (Φ : Phi) (fuel : Nat) (n1 : Int) : xbody TT0 Φ fuel sp_value_OfInt Try.f30 [(A.one (C.d (D.v (.int .i64 n1))))] = value_OfInt Φ fuel n1 := by kernel_rfl
/-! ref01_OfInt -/
def sp_ref01_OfInt : List LSpec := []
def ref01_OfInt (Φ : Phi) (fuel : Nat) (n1 : Int) : Option A :=
(some (A.agg [(C.d (D.v (.int .i64 (2 : Int)))), (C.d (D.v (.int .i64 n1))), (C.d (D.s [])), (C.d (D.sl []))]))
theorem ref01_OfInt_eq (Φ : Phi) (fuel : Nat) (n1 : Int) : xbody TT0 Φ fuel sp_ref01_OfInt Try.f31 [(A.one (C.d (D.v (.int .i64 n1))))] = ref01_OfInt Φ fuel n1 := by kernel_rfl
/-! value_OfBits -/
def sp_value_OfBits : List LSpec := []
def value_OfBits (Φ : Phi) (fuel : Nat) (n1 : Int) : Option A :=
(some (A.agg [(C.d (D.v (.int .i64 (4 : Int)))), (C.d (D.v (.int .i64 n1))), (C.d (D.s [])), (C.d (D.sl []))]))
theorem value_OfBits_eq (Φ : Phi) (fuel : Nat) (n1 : Int) : xbody TT0 Φ fuel sp_value_OfBits Try.f32 [(A.one (C.d (D.v (.int .i64 n1))))] = value_OfBits Φ fuel n1 := by kernel_rfl
/-! ref01_OfBits -/
def sp_ref01_OfBits : List LSpec := []
def ref01_OfBits (Φ : Phi) (fuel : Nat) (n1 : Int) : Option A :=
(some (A.agg [(C.d (D.v (.int .i64 (4 : Int)))), (C.d (D.v (.int .i64 n1))), (C.d (D.s [])), (C.d (D.sl []))]))
theorem ref01_OfBits_eq (Φ : Phi) (fuel : Nat) (n1 : Int) : xbody TT0 Φ fuel sp_ref01_OfBits Try.f33 [(A.one (C.d (D.v (.int .i64 n1))))] = ref01_OfBits Φ fuel n1 := by kernel_rfl
/-! value_OfText -/
def sp_value_OfText : List LSpec := []
def value_OfText (Φ : Phi) (fuel : Nat) (s1 : List UInt8) : Option A :=
(some (A.agg [(C.d (D.v (.int .i64 (3 : Int)))), (C.d (D.v (.int .i64 0))), (C.d (D.s s1)), (C.d (D.sl []))]))
theorem value_OfText_eq (Φ : Phi) (fuel : Nat) (s1 : List UInt8) : xbody TT0 Φ fuel sp_value_OfText Try.f34 [(A.one (C.d (D.s s1)))] = value_OfText Φ fuel s1 := by kernel_rfl
/-! ref01_OfText -/
def sp_ref01_OfText : List LSpec := []
def ref01_OfText (Φ : Phi) (fuel : Nat) (s1 : List UInt8) : Option A :=
(some (A.agg [(C.d (D.v (.int .i64 (3 : Int)))), (C.d (D.v (.int .i64 0))), (C.d (D.s s1)), (C.d (D.sl []))]))
theorem ref01_OfText_eq (Φ : Phi) (fuel : Nat) (s1 : List UInt8) : xbody TT0 Φ fuel sp_ref01_OfText Try.f35 [(A.one (C.d (D.s s1)))] = ref01_OfText Φ fuel s1 := by kernel_rfl
/-! value_OfPattern -/
def sp_value_OfPattern : List LSpec := []
def value_OfPattern (Φ : Phi) (fuel : Nat) (s1 : List UInt8) : Option A :=
(some (A.agg [(C.d (D.v (.int .i64 (8 : Int)))), (C.d (D.v (.int .i64 0))), (C.d (D.s s1)), (C.d (D.sl []))]))
theorem value_OfPattern_eq (Φ : Phi) (fuel : Nat) (s1 : List UInt8) : xbody TT0 Φ fuel sp_value_OfPattern Try.f36 [(A.one (C.d (D.s s1)))] = value_OfPattern Φ fuel s1 := by kernel_rfl
/-! ref01_OfPattern -/
def sp_ref01_OfPattern : List LSpec := []
def ref01_OfPattern (Φ : Phi) (fuel : Nat) (s1 : List UInt8) : Option A :=
(some (A.agg [(C.d (D.v (.int .i64 (8 : Int)))), (C.d (D.v (.int .i64 0))), (C.d (D.s s1)), (C.d (D.sl []))]))
theorem ref01_OfPattern_eq (Φ : Phi) (fuel : Nat) (s1 : List UInt8) : xbody TT0 Φ fuel sp_ref01_OfPattern Try.f37 [(A.one (C.d (D.s s1)))] = ref01_OfPattern Φ fuel s1 := by kernel_rfl
/-! value_OfInts -/
def sp_value_OfInts : List LSpec := [{ n := 3, m := 22, toks := [(24, .cell 1 3)], ks := [.slot 2 (.one (.ref 0 0)), .slot 3 (.one (.ref 1 0)), .slot 7 (.one .sl), .slot 8 (.one (.int .i64)), .slot 9 (.one (.int .i64)), .box 0 (.lit [(.int .i64), (.int .i64), .str, .full]), .box 1 (.lit [(.int .i64), (.int .i64), .str, (.app 2 24)])] }]
def value_OfInts_l0 (Φ : Phi) (fuel : Nat) (k0 : List (List D) → Int → Int → Int → Int → List UInt8 → List (List D) → Int → Int → List UInt8 → List (List D) → Option A) (l13 : List (List D)) (i14 : Int) (i15 : Int) (i16 : Int) (i17 : Int) (s18 : List UInt8) (l19 : List (List D)) (i20 : Int) (i21 : Int) (s22 : List UInt8) (l23 : List (List D)) : Option A :=
(xite (decide (i15 < i14))
((xElem 1 l13 i15).bind fun c24 =>
(xif (decide (1 ≤ (c24).length))
((xDI .i64 (List.getD c24 0 (D.s []))).bind fun n25 =>
((Φ i_value_OfInt [(A.one (C.d (D.v (.int .i64 n25))))]).bind fun r26 =>
((xADs r26).bind fun d27 =>
(xif (decide (d27.length = 4))
((xDI .i64 (List.getD d27 0 (D.s []))).bind fun n28 =>
((xDI .i64 (List.getD d27 1 (D.s []))).bind fun n29 =>
((xDS (List.getD d27 2 (D.s []))).bind fun s30 =>
((xDL (List.getD d27 3 (D.s []))).bind fun l31 =>
((xApp 4 56 (l23.length) l23 ([[(D.v (.int .i64 n28)), (D.v (.int .i64 n29)), (D.s s30), (D.sl l31)]] : List (List D))).bind fun l32 =>
(xif (decide (l32.length = (l32 : List (List D)).length))
(k0 l13 i14 (IntKind.i64.wrap (i15 + (1 : Int))) i16 i17 s18 l19 i20 i21 s22 l32)))))))))))))
(some (A.agg [(C.d (D.v (.int .i64 i20))), (C.d (D.v (.int .i64 i21))), (C.d (D.s s22)), (C.d (D.sl l23))])))
def value_OfInts (Φ : Phi) (fuel : Nat) (l1 : List (List D)) : Option A :=
(xif (decide (([] : List (List D)).length = ([] : List (List D)).length))
(iter (fun (x : Unit × Unit × List (List D) × Int × Int × (Int × Int × List UInt8 × List (List D) × Unit) × (Int × Int × List UInt8 × List (List D) × Unit) × Unit) (rec : (Unit × Unit × List (List D) × Int × Int × (Int × Int × List UInt8 × List (List D) × Unit) × (Int × Int × List UInt8 × List (List D) × Unit) × Unit) → Option A) => value_OfInts_l0 Φ fuel (fun l13 i14 i15 i16 i17 s18 l19 i20 i21 s22 l23 => rec ((), (), l13, i14, i15, (i16, i17, s18, l19, ()), (i20, i21, s22, l23, ()), ())) x.2.2.1 x.2.2.2.1 x.2.2.2.2.1 x.2.2.2.2.2.1.1 x.2.2.2.2.2.1.2.1 x.2.2.2.2.2.1.2.2.1 x.2.2.2.2.2.1.2.2.2.1 x.2.2.2.2.2.2.1.1 x.2.2.2.2.2.2.1.2.1 x.2.2.2.2.2.2.1.2.2.1 x.2.2.2.2.2.2.1.2.2.2.1) fuel ((), (), l1, ((l1).length : Int), (0 : Int), (0, 0, [], [], ()), ((5 : Int), 0, [], [], ()), ())))
theorem value_OfInts_eq (Φ : Phi) (fuel : Nat) (l1 : List (List D)) : xbody TT0 Φ fuel sp_value_OfInts Try.f38 [(A.one (C.d (D.sl l1)))] = value_OfInts Φ fuel l1 := by kernel_rfl
/-! ref01_OfInts -/
def sp_ref01_OfInts : List LSpec := [{ n := 3, m := 23, toks := [(24, .cell 1 3)], ks := [.slot 0 (.one .sl), .slot 2 (.one (.ref 0 0)), .slot 3 (.one (.ref 1 0)), .slot 4 (.one (.int .i64)), .box 0 (.lit [(.int .i64), (.int .i64), .str, .full]), .box 1 (.lit [(.int .i64), (.int .i64), .str, (.app 2 24)])] }]
def ref01_OfInts_l0 (Φ : Phi) (fuel : Nat) (k0 : List (List D) → Int → Int → Int → List UInt8 → List (List D) → Int → Int → List UInt8 → List (List D) → Option A) (l12 : List (List D)) (i13 : Int) (i14 : Int) (i15 : Int) (s16 : List UInt8) (l17 : List (List D)) (i18 : Int) (i19 : Int) (s20 : List UInt8) (l21 : List (List D)) : Option A :=
(xite (decide (i13 < ((l12).length : Int)))
((xElem 1 l12 i13).bind fun c22 =>
(xif (decide (1 ≤ (c22).length))
((xDI .i64 (List.getD c22 0 (D.s []))).bind fun n23 =>
((Φ i_ref01_OfInt [(A.one (C.d (D.v (.int .i64 n23))))]).bind fun r24 =>
((xADs r24).bind fun d25 =>
(xif (decide (d25.length = 4))
((xDI .i64 (List.getD d25 0 (D.s []))).bind fun n26 =>
((xDI .i64 (List.getD d25 1 (D.s []))).bind fun n27 =>
((xDS (List.getD d25 2 (D.s []))).bind fun s28 =>
((xDL (List.getD d25 3 (D.s []))).bind fun l29 =>
((xApp 4 56 (l21.length) l21 ([[(D.v (.int .i64 n26)), (D.v (.int .i64 n27)), (D.s s28), (D.sl l29)]] : List (List D))).bind fun l30 =>
(xif (decide (l30.length = (l30 : List (List D)).length))
(k0 l12 (IntKind.i64.wrap (i13 + (1 : Int))) i14 i15 s16 l17 i18 i19 s20 l30)))))))))))))
(some (A.agg [(C.d (D.v (.int .i64 i18))), (C.d (D.v (.int .i64 i19))), (C.d (D.s s20)), (C.d (D.sl l21))])))
def ref01_OfInts (Φ : Phi) (fuel : Nat) (l1 : List (List D)) : Option A :=
(xif (decide (([] : List (List D)).length = ([] : List (List D)).length))
(iter (fun (x : List (List D) × Unit × Unit × Int × (Int × Int × List UInt8 × List (List D) × Unit) × (Int × Int × List UInt8 × List (List D) × Unit) × Unit) (rec : (List (List D) × Unit × Unit × Int × (Int × Int × List UInt8 × List (List D) × Unit) × (Int × Int × List UInt8 × List (List D) × Unit) × Unit) → Option A) => ref01_OfInts_l0 Φ fuel (fun l12 i13 i14 i15 s16 l17 i18 i19 s20 l21 => rec (l12, (), (), i13, (i14, i15, s16, l17, ()), (i18, i19, s20, l21, ()), ())) x.1 x.2.2.2.1 x.2.2.2.2.1.1 x.2.2.2.2.1.2.1 x.2.2.2.2.1.2.2.1 x.2.2.2.2.1.2.2.2.1 x.2.2.2.2.2.1.1 x.2.2.2.2.2.1.2.1 x.2.2.2.2.2.1.2.2.1 x.2.2.2.2.2.1.2.2.2.1) fuel (l1, (), (), (0 : Int), (0, 0, [], [], ()), ((5 : Int), 0, [], [], ()), ())))
theorem ref01_OfInts_eq (Φ : Phi) (fuel : Nat) (l1 : List (List D)) : xbody TT0 Φ fuel sp_ref01_OfInts Try.f39 [(A.one (C.d (D.sl l1)))] = ref01_OfInts Φ fuel l1 := by kernel_rfl
/-! value_OfTexts -/
def sp_value_OfTexts : List LSpec := [{ n := 3, m := 22, toks := [(24, .cell 1 3)], ks := [.slot 2 (.one (.ref 0 0)), .slot 3 (.one (.ref 1 0)), .slot 7 (.one .sl), .slot 8 (.one (.int .i64)), .slot 9 (.one (.int .i64)), .box 0 (.lit [(.int .i64), (.int .i64), .str, .full]), .box 1 (.lit [(.int .i64), (.int .i64), .str, (.app 2 24)])] }]
def value_OfTexts_l0 (Φ : Phi) (fuel : Nat) (k0 : List (List D) → Int → Int → Int → Int → List UInt8 → List (List D) → Int → Int → List UInt8 → List (List D) → Option A) (l13 : List (List D)) (i14 : Int) (i15 : Int) (i16 : Int) (i17 : Int) (s18 : List UInt8) (l19 : List (List D)) (i20 : Int) (i21 : Int) (s22 : List UInt8) (l23 : List (List D)) : Option A :=
(xite (decide (i15 < i14))
((xElem 1 l13 i15).bind fun c24 =>
(xif (decide (1 ≤ (c24).length))
((xDS (List.getD c24 0 (D.s []))).bind fun s25 =>
((Φ i_value_OfText [(A.one (C.d (D.s s25)))]).bind fun r26 =>
((xADs r26).bind fun d27 =>
(xif (decide (d27.length = 4))
((xDI .i64 (List.getD d27 0 (D.s []))).bind fun n28 =>
((xDI .i64 (List.getD d27 1 (D.s []))).bind fun n29 =>
((xDS (List.getD d27 2 (D.s []))).bind fun s30 =>
((xDL (List.getD d27 3 (D.s []))).bind fun l31 =>
((xApp 4 56 (l23.length) l23 ([[(D.v (.int .i64 n28)), (D.v (.int .i64 n29)), (D.s s30), (D.sl l31)]] : List (List D))).bind fun l32 =>
(xif (decide (l32.length = (l32 : List (List D)).length))
(k0 l13 i14 (IntKind.i64.wrap (i15 + (1 : Int))) i16 i17 s18 l19 i20 i21 s22 l32)))))))))))))
(some (A.agg [(C.d (D.v (.int .i64 i20))), (C.d (D.v (.int .i64 i21))), (C.d (D.s s22)), (C.d (D.sl l23))])))
def value_OfTexts (Φ : Phi) (fuel : Nat) (l1 : List (List D)) : Option A :=
(xif (decide (([] : List (List D)).length = ([] : List (List D)).length))
(iter (fun (x : Unit × Unit × List (List D) × Int × Int × (Int × Int × List UInt8 × List (List D) × Unit) × (Int × Int × List UInt8 × List (List D) × Unit) × Unit) (rec : (Unit × Unit × List (List D) × Int × Int × (Int × Int × List UInt8 × List (List D) × Unit) × (Int × Int × List UInt8 × List (List D) × Unit) × Unit) → Option A) => value_OfTexts_l0 Φ fuel (fun l13 i14 i15 i16 i17 s18 l19 i20 i21 s22 l23 => rec ((), (), l13, i14, i15, (i16, i17, s18, l19, ()), (i20, i21, s22, l23, ()), ())) x.2.2.1 x.2.2.2.1 x.2.2.2.2.1 x.2.2.2.2.2.1.1 x.2.2.2.2.2.1.2.1 x.2.2.2.2.2.1.2.2.1 x.2.2.2.2.2.1.2.2.2.1 x.2.2.2.2.2.2.1.1 x.2.2.2.2.2.2.1.2.1 x.2.2.2.2.2.2.1.2.2.1 x.2.2.2.2.2.2.1.2.2.2.1) fuel ((), (), l1, ((l1).length : Int), (0 : Int), (0, 0, [], [], ()), ((6 : Int), 0, [], [], ()), ())))
theorem value_OfTexts_eq (Φ : Phi) (fuel : Nat) (l1 : List (List D)) : xbody TT0 Φ fuel sp_value_OfTexts Try.f40 [(A.one (C.d (D.sl l1)))] = value_OfTexts Φ fuel l1 := by kernel_rfl
/-! ref01_OfTexts -/
def sp_ref01_OfTexts : List LSpec := [{ n := 3, m := 23, toks := [(24, .cell 1 3)], ks := [.slot 0 (.one .sl), .slot 2 (.one (.ref 0 0)), .slot 3 (.one (.ref 1 0)), .slot 4 (.one (.int .i64)), .box 0 (.lit [(.int .i64), (.int .i64), .str, .full]), .box 1 (.lit [(.int .i64), (.int .i64), .str, (.app 2 24)])] }]
def ref01_OfTexts_l0 (Φ : Phi) (fuel : Nat) (k0 : List (List D) → Int → Int → Int → List UInt8 → List (List D) → Int → Int → List UInt8 → List (List D) → Option A) (l12 : List (List D)) (i13 : Int) (i14 : Int) (i15 : Int) (s16 : List UInt8) (l17 : List (List D)) (i18 : Int) (i19 : Int) (s20 : List UInt8) (l21 : List (List D)) : Option A :=
(xite (decide (i13 < ((l12).length : Int)))
((xElem 1 l12 i13).bind fun c22 =>
(xif (decide (1 ≤ (c22).length))
((xDS (List.getD c22 0 (D.s []))).bind fun s23 =>
((Φ i_ref01_OfText [(A.one (C.d (D.s s23)))]).bind fun r24 =>
((xADs r24).bind fun d25 =>
(xif (decide (d25.length = 4))
((xDI .i64 (List.getD d25 0 (D.s []))).bind fun n26 =>
((xDI .i64 (List.getD d25 1 (D.s []))).bind fun n27 =>
((xDS (List.getD d25 2 (D.s []))).bind fun s28 =>
((xDL (List.getD d25 3 (D.s []))).bind fun l29 =>
((xApp 4 56 (l21.length) l21 ([[(D.v (.int .i64 n26)), (D.v (.int .i64 n27)), (D.s s28), (D.sl l29)]] : List (List D))).bind fun l30 =>
(xif (decide (l30.length = (l30 : List (List D)).length))
(k0 l12 (IntKind.i64.wrap (i13 + (1 : Int))) i14 i15 s16 l17 i18 i19 s20 l30)))))))))))))
(some (A.agg [(C.d (D.v (.int .i64 i18))), (C.d (D.v (.int .i64 i19))), (C.d (D.s s20)), (C.d (D.sl l21))])))
def ref01_OfTexts (Φ : Phi) (fuel : Nat) (l1 : List (List D)) : Option A :=
(xif (decide (([] : List (List D)).length = ([] : List (List D)).length))
(iter (fun (x : List (List D) × Unit × Unit × Int × (Int × Int × List UInt8 × List (List D) × Unit) × (Int × Int × List UInt8 × List (List D) × Unit) × Unit) (rec : (List (List D) × Unit × Unit × Int × (Int × Int × List UInt8 × List (List D) × Unit) × (Int × Int × List UInt8 × List (List D) × Unit) × Unit) → Option A) => ref01_OfTexts_l0 Φ fuel (fun l12 i13 i14 i15 s16 l17 i18 i19 s20 l21 => rec (l12, (), (), i13, (i14, i15, s16, l17, ()), (i18, i19, s20, l21, ()), ())) x.1 x.2.2.2.1 x.2.2.2.2.1.1 x.2.2.2.2.1.2.1 x.2.2.2.2.1.2.2.1 x.2.2.2.2.1.2.2.2.1 x.2.2.2.2.2.1.1 x.2.2.2.2.2.1.2.1 x.2.2.2.2.2.1.2.2.1 x.2.2.2.2.2.1.2.2.2.1) fuel (l1, (), (), (0 : Int), (0, 0, [], [], ()), ((6 : Int), 0, [], [], ()), ())))
theorem ref01_OfTexts_eq (Φ : Phi) (fuel : Nat) (l1 : List (List D)) : xbody TT0 Φ fuel sp_ref01_OfTexts Try.f41 [(A.one (C.d (D.sl l1)))] = ref01_OfTexts Φ fuel l1 := by kernel_rfl
/-! value_OfTable -/
def sp_value_OfTable : List LSpec := [{ n := 3, m := 22, toks := [(24, .cell 1 3)], ks := [.slot 2 (.one (.ref 0 0)), .slot 3 (.one (.ref 1 0)), .slot 7 (.one .sl), .slot 8 (.one (.int .i64)), .slot 9 (.one (.int .i64)), .box 0 (.lit [(.int .i64), (.int .i64), .str, .full]), .box 1 (.lit [(.int .i64), (.int .i64), .str, (.app 2 24)])] }]
def value_OfTable_l0 (Φ : Phi) (fuel : Nat) (k0 : List (List D) → Int → Int → Int → Int → List UInt8 → List (List D) → Int → Int → List UInt8 → List (List D) → Option A) (l13 : List (List D)) (i14 : Int) (i15 : Int) (i16 : Int) (i17 : Int) (s18 : List UInt8) (l19 : List (List D)) (i20 : Int) (i21 : Int) (s22 : List UInt8) (l23 : List (List D)) : Option A :=
(xite (decide (i15 < i14))
((xElem 1 l13 i15).bind fun c24 =>
(xif (decide (1 ≤ (c24).length))
((xDL (List.getD c24 0 (D.s []))).bind fun l25 =>
((Φ i_value_OfTexts [(A.one (C.d (D.sl l25)))]).bind fun r26 =>
((xADs r26).bind fun d27 =>
(xif (decide (d27.length = 4))
((xDI .i64 (List.getD d27 0 (D.s []))).bind fun n28 =>
((xDI .i64 (List.getD d27 1 (D.s []))).bind fun n29 =>
((xDS (List.getD d27 2 (D.s []))).bind fun s30 =>
((xDL (List.getD d27 3 (D.s []))).bind fun l31 =>
((xApp 4 56 (l23.length) l23 ([[(D.v (.int .i64 n28)), (D.v (.int .i64 n29)), (D.s s30), (D.sl l31)]] : List (List D))).bind fun l32 =>
(xif (decide (l32.length = (l32 : List (List D)).length))
(k0 l13 i14 (IntKind.i64.wrap (i15 + (1 : Int))) i16 i17 s18 l19 i20 i21 s22 l32)))))))))))))
(some (A.agg [(C.d (D.v (.int .i64 i20))), (C.d (D.v (.int .i64 i21))), (C.d (D.s s22)), (C.d (D.sl l23))])))
def value_OfTable (Φ : Phi) (fuel : Nat) (rows1 : List (List D)) : Option A :=
(xif (decide (([] : List (List D)).length = ([] : List (List D)).length))
(iter (fun (x : Unit × Unit × List (List D) × Int × Int × (Int × Int × List UInt8 × List (List D) × Unit) × (Int × Int × List UInt8 × List (List D) × Unit) × Unit) (rec : (Unit × Unit × List (List D) × Int × Int × (Int × Int × List UInt8 × List (List D) × Unit) × (Int × Int × List UInt8 × List (List D) × Unit) × Unit) → Option A) => value_OfTable_l0 Φ fuel (fun l13 i14 i15 i16 i17 s18 l19 i20 i21 s22 l23 => rec ((), (), l13, i14, i15, (i16, i17, s18, l19, ()), (i20, i21, s22, l23, ()), ())) x.2.2.1 x.2.2.2.1 x.2.2.2.2.1 x.2.2.2.2.2.1.1 x.2.2.2.2.2.1.2.1 x.2.2.2.2.2.1.2.2.1 x.2.2.2.2.2.1.2.2.2.1 x.2.2.2.2.2.2.1.1 x.2.2.2.2.2.2.1.2.1 x.2.2.2.2.2.2.1.2.2.1 x.2.2.2.2.2.2.1.2.2.2.1) fuel ((), (), rows1, ((rows1).length : Int), (0 : Int), (0, 0, [], [], ()), ((7 : Int), 0, [], [], ()), ())))
theorem value_OfTable_eq (Φ : Phi) (fuel : Nat) (rows1 : List (List D)) : xbody TT0 Φ fuel sp_value_OfTable Try.f42 [(A.one (C.d (D.sl rows1)))] = value_OfTable Φ fuel rows1 := by kernel_rfl
/-! ref01_OfTable -/
def sp_ref01_OfTable : List LSpec := [{ n := 3, m := 23, toks := [(24, .cell 1 3)], ks := [.slot 0 (.one .sl), .slot 2 (.one (.ref 0 0)), .slot 3 (.one (.ref 1 0)), .slot 4 (.one (.int .i64)), .box 0 (.lit [(.int .i64), (.int .i64), .str, .full]), .box 1 (.lit [(.int .i64), (.int .i64), .str, (.app 2 24)])] }]
def ref01_OfTable_l0 (Φ : Phi) (fuel : Nat) (k0 : List (List D) → Int → Int → Int → List UInt8 → List (List D) → Int → Int → List UInt8 → List (List D) → Option A) (l12 : List (List D)) (i13 : Int) (i14 : Int) (i15 : Int) (s16 : List UInt8) (l17 : List (List D)) (i18 : Int) (i19 : Int) (s20 : List UInt8) (l21 : List (List D)) : Option A :=
(xite (decide (i13 < ((l12).length : Int)))
((xElem 1 l12 i13).bind fun c22 =>
(xif (decide (1 ≤ (c22).length))
((xDL (List.getD c22 0 (D.s []))).bind fun l23 =>
((Φ i_ref01_OfTexts [(A.one (C.d (D.sl l23)))]).bind fun r24 =>
((xADs r24).bind fun d25 =>
(xif (decide (d25.length = 4))
((xDI .i64 (List.getD d25 0 (D.s []))).bind fun n26 =>
((xDI .i64 (List.getD d25 1 (D.s []))).bind fun n27 =>
((xDS (List.getD d25 2 (D.s []))).bind fun s28 =>
((xDL (List.getD d25 3 (D.s []))).bind fun l29 =>
((xApp 4 56 (l21.length) l21 ([[(D.v (.int .i64 n26)), (D.v (.int .i64 n27)), (D.s s28), (D.sl l29)]] : List (List D))).bind fun l30 =>
(xif (decide (l30.length = (l30 : List (List D)).length))
(k0 l12 (IntKind.i64.wrap (i13 + (1 : Int))) i14 i15 s16 l17 i18 i19 s20 l30)))))))))))))
(some (A.agg [(C.d (D.v (.int .i64 i18))), (C.d (D.v (.int .i64 i19))), (C.d (D.s s20)), (C.d (D.sl l21))])))
def ref01_OfTable (Φ : Phi) (fuel : Nat) (l1 : List (List D)) : Option A :=
(xif (decide (([] : List (List D)).length = ([] : List (List D)).length))
(iter (fun (x : List (List D) × Unit × Unit × Int × (Int × Int × List UInt8 × List (List D) × Unit) × (Int × Int × List UInt8 × List (List D) × Unit) × Unit) (rec : (List (List D) × Unit × Unit × Int × (Int × Int × List UInt8 × List (List D) × Unit) × (Int × Int × List UInt8 × List (List D) × Unit) × Unit) → Option A) => ref01_OfTable_l0 Φ fuel (fun l12 i13 i14 i15 s16 l17 i18 i19 s20 l21 => rec (l12, (), (), i13, (i14, i15, s16, l17, ()), (i18, i19, s20, l21, ()), ())) x.1 x.2.2.2.1 x.2.2.2.2.1.1 x.2.2.2.2.1.2.1 x.2.2.2.2.1.2.2.1 x.2.2.2.2.1.2.2.2.1 x.2.2.2.2.2.1.1 x.2.2.2.2.2.1.2.1 x.2.2.2.2.2.1.2.2.1 x.2.2.2.2.2.1.2.2.2.1) fuel (l1, (), (), (0 : Int), (0, 0, [], [], ()), ((7 : Int), 0, [], [], ()), ())))
theorem ref01_OfTable_eq (Φ : Phi) (fuel : Nat) (l1 : List (List D)) : xbody TT0 Φ fuel sp_ref01_OfTable Try.f43 [(A.one (C.d (D.sl l1)))] = ref01_OfTable Φ fuel l1 := by kernel_rfl
/-! value_Ints -/
def sp_value_Ints : List LSpec := [{ n := 2, m := 29, toks := [(2, .slot 4)], ks := [.slot 4 (.one (.app 1 2)), .slot 16 (.one .sl), .slot 17 (.one (.int .i64)), .slot 18 (.one (.int .i64))] }]
def value_Ints_l0 (Φ : Phi) (fuel : Nat) (k0 : List (List D) → List (List D) → Int → Int → Option A) (out12 : List (List D)) (l13 : List (List D)) (i14 : Int) (i15 : Int) : Option A :=
(xite (decide (i15 < i14))
((xElem 4 l13 i15).bind fun c16 =>
(xif (decide (4 ≤ (c16).length))
((xDI .i64 (List.getD c16 0 (D.s []))).bind fun n17 =>
((xDI .i64 (List.getD c16 1 (D.s []))).bind fun n18 =>
((xDS (List.getD c16 2 (D.s []))).bind fun s19 =>
((xDL (List.getD c16 3 (D.s []))).bind fun l20 =>
((xApp 1 8 (out12.length) out12 ([[(D.v (.int .i64 n18))]] : List (List D))).bind fun l21 =>
(xif (decide (l21.length = (l21 : List (List D)).length))
(k0 l21 l13 i14 (IntKind.i64.wrap (i15 + (1 : Int))))))))))))
(some (A.tup [(A.one (C.d (D.sl out12))), (A.one (C.d (D.v (.bool true))))])))
def value_Ints (Φ : Phi) (fuel : Nat) (v1 : Int) (v2 : Int) (v3 : List UInt8) (v4 : List (List D)) : Option A :=
(xite (!decide (v1 = (5 : Int)))
(some (A.tup [(A.one (C.d (D.sl []))), (A.one (C.d (D.v (.bool false))))]))
((Φ i_value_Check [(A.agg [(C.d (D.v (.int .i64 v1))), (C.d (D.v (.int .i64 v2))), (C.d (D.s v3)), (C.d (D.sl v4))])]).bind fun r5 =>
((xAD r5).bind fun d6 =>
((xDI .i64 d6).bind fun n7 =>
(xite (!decide (n7 = (0 : Int)))
(some (A.tup [(A.one (C.d (D.sl []))), (A.one (C.d (D.v (.bool false))))]))
(xif (decide (([] : List (List D)).length = ([] : List (List D)).length))
(iter (fun (x : List (List D) × List (List D) × Int × Int × Unit) (rec : (List (List D) × List (List D) × Int × Int × Unit) → Option A) => value_Ints_l0 Φ fuel (fun out12 l13 i14 i15 => rec (out12, l13, i14, i15, ())) x.1 x.2.1 x.2.2.1 x.2.2.2.1) fuel ([], v4, ((v4).length : Int), (0 : Int), ()))))))))
theorem value_Ints_eq (Φ : Phi) (fuel : Nat) (v1 : Int) (v2 : Int) (v3 : List UInt8) (v4 : List (List D)) : xbody TT0 Φ fuel sp_value_Ints Try.f44 [(A.agg [(C.d (D.v (.int .i64 v1))), (C.d (D.v (.int .i64 v2))), (C.d (D.s v3)), (C.d (D.sl v4))])] = value_Ints Φ fuel v1 v2 v3 v4 := by kernel_rfl
/-! ref01_Ints -/
def sp_ref01_Ints : List LSpec := [{ n := 2, m := 31, toks := [(2, .slot 4)], ks := [.slot 1 (.one (.ref 0 0)), .slot 4 (.one (.app 1 2)), .slot 5 (.one (.int .i64)), .box 0 (.lit [(.int .i64), (.int .i64), .str, .sl])] }]
def ref01_Ints_l0 (Φ : Phi) (fuel : Nat) (k0 : List (List D) → Int → Int → Int → List UInt8 → List (List D) → Option A) (out14 : List (List D)) (i15 : Int) (i16 : Int) (i17 : Int) (s18 : List UInt8) (l19 : List (List D)) : Option A :=
(xite (decide (i15 < ((l19).length : Int)))
((xElem 4 l19 i15).bind fun c20 =>
(xif (decide (1 ≤ ((List.drop 1 c20)).length))
((xDI .i64 (List.getD (List.drop 1 c20) 0 (D.s []))).bind fun n21 =>
((xApp 1 8 (out14.length) out14 ([[(D.v (.int .i64 n21))]] : List (List D))).bind fun l22 =>
(xif (decide (l22.length = (l22 : List (List D)).length))
(k0 l22 (IntKind.i64.wrap (i15 + (1 : Int))) i16 i17 s18 l19))))))
(some (A.tup [(A.one (C.d (D.sl out14))), (A.one (C.d (D.v (.bool true))))])))
def ref01_Ints (Φ : Phi) (fuel : Nat) (v1 : Int) (v2 : Int) (v3 : List UInt8) (v4 : List (List D)) : Option A :=
(xite (!decide (v1 = (5 : Int)))
(some (A.tup [(A.one (C.d (D.sl []))), (A.one (C.d (D.v (.bool false))))]))
((Φ i_ref01_Check [(A.agg [(C.d (D.v (.int .i64 v1))), (C.d (D.v (.int .i64 v2))), (C.d (D.s v3)), (C.d (D.sl v4))])]).bind fun r5 =>
((xAD r5).bind fun d6 =>
((xDI .i64 d6).bind fun n7 =>
(xite (!decide (n7 = (0 : Int)))
(some (A.tup [(A.one (C.d (D.sl []))), (A.one (C.d (D.v (.bool false))))]))
(xif (decide (([] : List (List D)).length = ([] : List (List D)).length))
(iter (fun (x : Unit × List (List D) × Int × (Int × Int × List UInt8 × List (List D) × Unit) × Unit) (rec : (Unit × List (List D) × Int × (Int × Int × List UInt8 × List (List D) × Unit) × Unit) → Option A) => ref01_Ints_l0 Φ fuel (fun out14 i15 i16 i17 s18 l19 => rec ((), out14, i15, (i16, i17, s18, l19, ()), ())) x.2.1 x.2.2.1 x.2.2.2.1.1 x.2.2.2.1.2.1 x.2.2.2.1.2.2.1 x.2.2.2.1.2.2.2.1) fuel ((), [], (0 : Int), (v1, v2, v3, v4, ()), ()))))))))
theorem ref01_Ints_eq (Φ : Phi) (fuel : Nat) (v1 : Int) (v2 : Int) (v3 : List UInt8) (v4 : List (List D)) : xbody TT0 Φ fuel sp_ref01_Ints Try.f45 [(A.agg [(C.d (D.v (.int .i64 v1))), (C.d (D.v (.int .i64 v2))), (C.d (D.s v3)), (C.d (D.sl v4))])] = ref01_Ints Φ fuel v1 v2 v3 v4 := by kernel_rfl
/-! value_Texts -/
def sp_value_Texts : List LSpec := [{ n := 2, m := 29, toks := [(9, .slot 4)], ks := [.slot 4 (.one (.app 1 9)), .slot 16 (.one .sl), .slot 17 (.one (.int .i64)), .slot 18 (.one (.int .i64))] }]
def value_Texts_l0 (Φ : Phi) (fuel : Nat) (k0 : List (List D) → List (List D) → Int → Int → Option A) (out12 : List (List D)) (l13 : List (List D)) (i14 : Int) (i15 : Int) : Option A :=
(xite (decide (i15 < i14))
((xElem 4 l13 i15).bind fun c16 =>
(xif (decide (4 ≤ (c16).length))
((xDI .i64 (List.getD c16 0 (D.s []))).bind fun n17 =>
((xDI .i64 (List.getD c16 1 (D.s []))).bind fun n18 =>
((xDS (List.getD c16 2 (D.s []))).bind fun s19 =>
((xDL (List.getD c16 3 (D.s []))).bind fun l20 =>
((xApp 1 16 (out12.length) out12 ([[(D.s s19)]] : List (List D))).bind fun l21 =>
(xif (decide (l21.length = (l21 : List (List D)).length))
(k0 l21 l13 i14 (IntKind.i64.wrap (i15 + (1 : Int))))))))))))
(some (A.tup [(A.one (C.d (D.sl out12))), (A.one (C.d (D.v (.bool true))))])))
def value_Texts (Φ : Phi) (fuel : Nat) (v1 : Int) (v2 : Int) (v3 : List UInt8) (v4 : List (List D)) : Option A :=
(xite (!decide (v1 = (6 : Int)))
(some (A.tup [(A.one (C.d (D.sl []))), (A.one (C.d (D.v (.bool false))))]))
((Φ i_value_Check [(A.agg [(C.d (D.v (.int .i64 v1))), (C.d (D.v (.int .i64 v2))), (C.d (D.s v3)), (C.d (D.sl v4))])]).bind fun r5 =>
((xAD r5).bind fun d6 =>
((xDI .i64 d6).bind fun n7 =>
(xite (!decide (n7 = (0 : Int)))
(some (A.tup [(A.one (C.d (D.sl []))), (A.one (C.d (D.v (.bool false))))]))
(xif (decide (([] : List (List D)).length = ([] : List (List D)).length))
(iter (fun (x : List (List D) × List (List D) × Int × Int × Unit) (rec : (List (List D) × List (List D) × Int × Int × Unit) → Option A) => value_Texts_l0 Φ fuel (fun out12 l13 i14 i15 => rec (out12, l13, i14, i15, ())) x.1 x.2.1 x.2.2.1 x.2.2.2.1) fuel ([], v4, ((v4).length : Int), (0 : Int), ()))))))))
theorem value_Texts_eq (Φ : Phi) (fuel : Nat) (v1 : Int) (v2 : Int) (v3 : List UInt8) (v4 : List (List D)) : xbody TT0 Φ fuel sp_value_Texts Try.f46 [(A.agg [(C.d (D.v (.int .i64 v1))), (C.d (D.v (.int .i64 v2))), (C.d (D.s v3)), (C.d (D.sl v4))])] = value_Texts Φ fuel v1 v2 v3 v4 := by kernel_rfl
/-! ref01_Texts -/
def sp_ref01_Texts : List LSpec := [{ n := 2, m := 31, toks := [(9, .slot 4)], ks := [.slot 1 (.one (.ref 0 0)), .slot 4 (.one (.app 1 9)), .slot 5 (.one (.int .i64)), .box 0 (.lit [(.int .i64), (.int .i64), .str, .sl])] }]
def ref01_Texts_l0 (Φ : Phi) (fuel : Nat) (k0 : List (List D) → Int → Int → Int → List UInt8 → List (List D) → Option A) (out14 : List (List D)) (i15 : Int) (i16 : Int) (i17 : Int) (s18 : List UInt8) (l19 : List (List D)) : Option A :=
(xite (decide (i15 < ((l19).length : Int)))
((xElem 4 l19 i15).bind fun c20 =>
(xif (decide (1 ≤ ((List.drop 2 c20)).length))
((xDS (List.getD (List.drop 2 c20) 0 (D.s []))).bind fun s21 =>
((xApp 1 16 (out14.length) out14 ([[(D.s s21)]] : List (List D))).bind fun l22 =>
(xif (decide (l22.length = (l22 : List (List D)).length))
(k0 l22 (IntKind.i64.wrap (i15 + (1 : Int))) i16 i17 s18 l19))))))
(some (A.tup [(A.one (C.d (D.sl out14))), (A.one (C.d (D.v (.bool true))))])))
def ref01_Texts (Φ : Phi) (fuel : Nat) (v1 : Int) (v2 : Int) (v3 : List UInt8) (v4 : List (List D)) : Option A :=
(xite (!decide (v1 = (6 : Int)))
(some (A.tup [(A.one (C.d (D.sl []))), (A.one (C.d (D.v (.bool false))))]))
((Φ i_ref01_Check [(A.agg [(C.d (D.v (.int .i64 v1))), (C.d (D.v (.int .i64 v2))), (C.d (D.s v3)), (C.d (D.sl v4))])]).bind fun r5 =>
((xAD r5).bind fun d6 =>
((xDI .i64 d6).bind fun n7 =>
(xite (!decide (n7 = (0 : Int)))
(some (A.tup [(A.one (C.d (D.sl []))), (A.one (C.d (D.v (.bool false))))]))
(xif (decide (([] : List (List D)).length = ([] : List (List D)).length))
(iter (fun (x : Unit × List (List D) × Int × (Int × Int × List UInt8 × List (List D) × Unit) × Unit) (rec : (Unit × List (List D) × Int × (Int × Int × List UInt8 × List (List D) × Unit) × Unit) → Option A) => ref01_Texts_l0 Φ fuel (fun out14 i15 i16 i17 s18 l19 => rec ((), out14, i15, (i16, i17, s18, l19, ()), ())) x.2.1 x.2.2.1 x.2.2.2.1.1 x.2.2.2.1.2.1 x.2.2.2.1.2.2.1 x.2.2.2.1.2.2.2.1) fuel ((), [], (0 : Int), (v1, v2, v3, v4, ()), ()))))))))
theorem ref01_Texts_eq (Φ : Phi) (fuel : Nat) (v1 : Int) (v2 : Int) (v3 : List UInt8) (v4 : List (List D)) : xbody TT0 Φ fuel sp_ref01_Texts Try.f47 [(A.agg [(C.d (D.v (.int .i64 v1))), (C.d (D.v (.int .i64 v2))), (C.d (D.s v3)), (C.d (D.sl v4))])] = ref01_Texts Φ fuel v1 v2 v3 v4 := by kernel_rfl
/-! value_Rows -/
def sp_value_Rows : List LSpec := [{ n := 2, m := 35, toks := [(40, .slot 4)], ks := [.slot 4 (.one (.app 1 40)), .slot 18 (.one .sl), .slot 19 (.one (.int .i64)), .slot 20 (.one (.int .i64))] }]
def value_Rows_l0 (Φ : Phi) (fuel : Nat) (k0 : List (List D) → List (List D) → Int → Int → Option A) (out12 : List (List D)) (l13 : List (List D)) (i14 : Int) (i15 : Int) : Option A :=
(xite (decide (i15 < i14))
((xElem 4 l13 i15).bind fun c16 =>
(xif (decide (4 ≤ (c16).length))
((xDI .i64 (List.getD c16 0 (D.s []))).bind fun n17 =>
((xDI .i64 (List.getD c16 1 (D.s []))).bind fun n18 =>
((xDS (List.getD c16 2 (D.s []))).bind fun s19 =>
((xDL (List.getD c16 3 (D.s []))).bind fun l20 =>
((Φ i_value_Texts [(A.agg [(C.d (D.v (.int .i64 n17))), (C.d (D.v (.int .i64 n18))), (C.d (D.s s19)), (C.d (D.sl l20))])]).bind fun r21 =>
((xtup r21 0).bind fun r22 =>
((xAD r22).bind fun d23 =>
((xDL d23).bind fun l24 =>
((xtup r21 1).bind fun r25 =>
((xAD r25).bind fun d26 =>
((xDB d26).bind fun b27 =>
((xApp 1 24 (out12.length) out12 ([[(D.sl l24)]] : List (List D))).bind fun l28 =>
(xif (decide (l28.length = (l28 : List (List D)).length))
(k0 l28 l13 i14 (IntKind.i64.wrap (i15 + (1 : Int)))))))))))))))))))
(some (A.tup [(A.one (C.d (D.sl out12))), (A.one (C.d (D.v (.bool true))))])))
def value_Rows (Φ : Phi) (fuel : Nat) (v1 : Int) (v2 : Int) (v3 : List UInt8) (v4 : List (List D)) : Option A :=
(xite (!decide (v1 = (7 : Int)))
(some (A.tup [(A.one (C.d (D.sl []))), (A.one (C.d (D.v (.bool false))))]))
((Φ i_value_Check [(A.agg [(C.d (D.v (.int .i64 v1))), (C.d (D.v (.int .i64 v2))), (C.d (D.s v3)), (C.d (D.sl v4))])]).bind fun r5 =>
((xAD r5).bind fun d6 =>
((xDI .i64 d6).bind fun n7 =>
(xite (!decide (n7 = (0 : Int)))
(some (A.tup [(A.one (C.d (D.sl []))), (A.one (C.d (D.v (.bool false))))]))
(xif (decide (([] : List (List D)).length = ([] : List (List D)).length))
(iter (fun (x : List (List D) × List (List D) × Int × Int × Unit) (rec : (List (List D) × List (List D) × Int × Int × Unit) → Option A) => value_Rows_l0 Φ fuel (fun out12 l13 i14 i15 => rec (out12, l13, i14, i15, ())) x.1 x.2.1 x.2.2.1 x.2.2.2.1) fuel ([], v4, ((v4).length : Int), (0 : Int), ()))))))))
theorem value_Rows_eq (Φ : Phi) (fuel : Nat) (v1 : Int) (v2 : Int) (v3 : List UInt8) (v4 : List (List D)) : xbody TT0 Φ fuel sp_value_Rows Try.f48 [(A.agg [(C.d (D.v (.int .i64 v1))), (C.d (D.v (.int .i64 v2))), (C.d (D.s v3)), (C.d (D.sl v4))])] = value_Rows Φ fuel v1 v2 v3 v4 := by kernel_rfl
/-! ref01_Rows -/
def sp_ref01_Rows : List LSpec := [{ n := 2, m := 37, toks := [(40, .slot 4)], ks := [.slot 1 (.one (.ref 0 0)), .slot 4 (.one (.app 1 40)), .slot 5 (.one (.int .i64)), .box 0 (.lit [(.int .i64), (.int .i64), .str, .sl])] }]
def ref01_Rows_l0 (Φ : Phi) (fuel : Nat) (k0 : List (List D) → Int → Int → Int → List UInt8 → List (List D) → Option A) (out14 : List (List D)) (i15 : Int) (i16 : Int) (i17 : Int) (s18 : List UInt8) (l19 : List (List D)) : Option A :=
(xite (decide (i15 < ((l19).length : Int)))
((xElem 4 l19 i15).bind fun c20 =>
(xif (decide (4 ≤ (c20).length))
((xDI .i64 (List.getD c20 0 (D.s []))).bind fun n21 =>
((xDI .i64 (List.getD c20 1 (D.s []))).bind fun n22 =>
((xDS (List.getD c20 2 (D.s []))).bind fun s23 =>
((xDL (List.getD c20 3 (D.s []))).bind fun l24 =>
((Φ i_ref01_Texts [(A.agg [(C.d (D.v (.int .i64 n21))), (C.d (D.v (.int .i64 n22))), (C.d (D.s s23)), (C.d (D.sl l24))])]).bind fun r25 =>
((xtup r25 0).bind fun r26 =>
((xAD r26).bind fun d27 =>
((xDL d27).bind fun l28 =>
((xtup r25 1).bind fun r29 =>
((xAD r29).bind fun d30 =>
((xDB d30).bind fun b31 =>
((xApp 1 24 (out14.length) out14 ([[(D.sl l28)]] : List (List D))).bind fun l32 =>
(xif (decide (l32.length = (l32 : List (List D)).length))
(k0 l32 (IntKind.i64.wrap (i15 + (1 : Int))) i16 i17 s18 l19))))))))))))))))
(some (A.tup [(A.one (C.d (D.sl out14))), (A.one (C.d (D.v (.bool true))))])))
def ref01_Rows (Φ : Phi) (fuel : Nat) (v1 : Int) (v2 : Int) (v3 : List UInt8) (v4 : List (List D)) : Option A :=
(xite (!decide (v1 = (7 : Int)))
(some (A.tup [(A.one (C.d (D.sl []))), (A.one (C.d (D.v (.bool false))))]))
((Φ i_ref01_Check [(A.agg [(C.d (D.v (.int .i64 v1))), (C.d (D.v (.int .i64 v2))), (C.d (D.s v3)), (C.d (D.sl v4))])]).bind fun r5 =>
((xAD r5).bind fun d6 =>
((xDI .i64 d6).bind fun n7 =>
(xite (!decide (n7 = (0 : Int)))
(some (A.tup [(A.one (C.d (D.sl []))), (A.one (C.d (D.v (.bool false))))]))
(xif (decide (([] : List (List D)).length = ([] : List (List D)).length))
(iter (fun (x : Unit × List (List D) × Int × (Int × Int × List UInt8 × List (List D) × Unit) × Unit) (rec : (Unit × List (List D) × Int × (Int × Int × List UInt8 × List (List D) × Unit) × Unit) → Option A) => ref01_Rows_l0 Φ fuel (fun out14 i15 i16 i17 s18 l19 => rec ((), out14, i15, (i16, i17, s18, l19, ()), ())) x.2.1 x.2.2.1 x.2.2.2.1.1 x.2.2.2.1.2.1 x.2.2.2.1.2.2.1 x.2.2.2.1.2.2.2.1) fuel ((), [], (0 : Int), (v1, v2, v3, v4, ()), ()))))))))
theorem ref01_Rows_eq (Φ : Phi) (fuel : Nat) (v1 : Int) (v2 : Int) (v3 : List UInt8) (v4 : List (List D)) : xbody TT0 Φ fuel sp_ref01_Rows Try.f49 [(A.agg [(C.d (D.v (.int .i64 v1))), (C.d (D.v (.int .i64 v2))), (C.d (D.s v3)), (C.d (D.sl v4))])] = ref01_Rows Φ fuel v1 v2 v3 v4 := by kernel_rfl
/-! ref01_Count -/
def sp_ref01_Count : List LSpec := [{ n := 0, m := 31, toks := [], ks := [.slot 0 (.one .sl), .slot 1 (.one (.int .i64)), .slot 5 (.one (.int .i64)), .slot 6 (.one (.int .i64))] }]
def ref01_Count_l0 (Φ : Phi) (fuel : Nat) (k0 : List (List D) → Int → Int → Int → Option A) (l3 : List (List D)) (most4 : Int) (n5 : Int) (i6 : Int) : Option A :=
(xite (decide (i6 < ((l3).length : Int)))
(xite (decide (n5 ≤ most4))
((xElem 4 l3 i6).bind fun c7 =>
(xif (decide (1 ≤ ((List.drop 3 c7)).length))
((xDL (List.getD (List.drop 3 c7) 0 (D.s []))).bind fun l8 =>
((Φ i_ref01_Count [(A.one (C.d (D.sl l8))), (A.one (C.d (D.v (.int .i64 (IntKind.i64.wrap (most4 - n5))))))]).bind fun r9 =>
((xAD r9).bind fun d10 =>
((xDI .i64 d10).bind fun n11 =>
(k0 l3 most4 (IntKind.i64.wrap (n5 + (IntKind.i64.wrap ((1 : Int) + n11)))) (IntKind.i64.wrap (i6 + (1 : Int))))))))))
(some (A.one (C.d (D.v (.int .i64 n5))))))
(some (A.one (C.d (D.v (.int .i64 n5))))))
def ref01_Count (Φ : Phi) (fuel : Nat) (l1 : List (List D)) (most2 : Int) : Option A :=
(iter (fun (x : List (List D) × Int × Int × Int × Unit) (rec : (List (List D) × Int × Int × Int × Unit) → Option A) => ref01_Count_l0 Φ fuel (fun l3 most4 n5 i6 => rec (l3, most4, n5, i6, ())) x.1 x.2.1 x.2.2.1 x.2.2.2.1) fuel (l1, most2, (0 : Int), (0 : Int), ()))
theorem ref01_Count_eq (Φ : Phi) (fuel : Nat) (l1 : List (List D)) (most2 : Int) : xbody TT0 Φ fuel sp_ref01_Count Try.f50 [(A.one (C.d (D.sl l1))), (A.one (C.d (D.v (.int .i64 most2))))] = ref01_Count Φ fuel l1 most2 := by kernel_rfl
/-! ref01_shallow -/
def sp_ref01_shallow : List LSpec := [{ n := 1, m := 30, toks := [], ks := [.slot 1 (.one (.int .i64)), .slot 2 (.one (.ref 0 0)), .slot 5 (.one (.int .i64)), .box 0 (.lit [(.int .i64), (.int .i64), .str, .sl])] }]
def ref01_shallow_l0 (Φ : Phi) (fuel : Nat) (k0 : Int → Int → Int → Int → List UInt8 → List (List D) → Option A) (levels6 : Int) (i7 : Int) (i8 : Int) (i9 : Int) (s10 : List UInt8) (l11 : List (List D)) : Option A :=
(xite (decide (i7 < ((l11).length : Int)))
((xElem 4 l11 i7).bind fun c12 =>
(xif (decide (4 ≤ (c12).length))
((xDI .i64 (List.getD c12 0 (D.s []))).bind fun n13 =>
((xDI .i64 (List.getD c12 1 (D.s []))).bind fun n14 =>
((xDS (List.getD c12 2 (D.s []))).bind fun s15 =>
((xDL (List.getD c12 3 (D.s []))).bind fun l16 =>
((Φ i_ref01_shallow [(A.agg [(C.d (D.v (.int .i64 n13))), (C.d (D.v (.int .i64 n14))), (C.d (D.s s15)), (C.d (D.sl l16))]), (A.one (C.d (D.v (.int .i64 (IntKind.i64.wrap (levels6 - (1 : Int)))))))]).bind fun r17 =>
((xAD r17).bind fun d18 =>
((xDB d18).bind fun b19 =>
(xite (!b19)
(some (A.one (C.d (D.v (.bool false)))))
(k0 levels6 (IntKind.i64.wrap (i7 + (1 : Int))) i8 i9 s10 l11)))))))))))
(some (A.one (C.d (D.v (.bool true))))))
def ref01_shallow (Φ : Phi) (fuel : Nat) (v1 : Int) (v2 : Int) (v3 : List UInt8) (v4 : List (List D)) (levels5 : Int) : Option A :=
(xite (decide (levels5 = (0 : Int)))
(some (A.one (C.d (D.v (.bool false)))))
(xite (decide ((100 : Int) < ((v3).length : Int)))
(some (A.one (C.d (D.v (.bool false)))))
(iter (fun (x : Int × Unit × Int × (Int × Int × List UInt8 × List (List D) × Unit) × Unit) (rec : (Int × Unit × Int × (Int × Int × List UInt8 × List (List D) × Unit) × Unit) → Option A) => ref01_shallow_l0 Φ fuel (fun levels6 i7 i8 i9 s10 l11 => rec (levels6, (), i7, (i8, i9, s10, l11, ()), ())) x.1 x.2.2.1 x.2.2.2.1.1 x.2.2.2.1.2.1 x.2.2.2.1.2.2.1 x.2.2.2.1.2.2.2.1) fuel (levels5, (), (0 : Int), (v1, v2, v3, v4, ()), ()))))
theorem ref01_shallow_eq (Φ : Phi) (fuel : Nat) (v1 : Int) (v2 : Int) (v3 : List UInt8) (v4 : List (List D)) (levels5 : Int) : xbody TT0 Φ fuel sp_ref01_shallow Try.f51 [(A.agg [(C.d (D.v (.int .i64 v1))), (C.d (D.v (.int .i64 v2))), (C.d (D.s v3)), (C.d (D.sl v4))]), (A.one (C.d (D.v (.int .i64 levels5))))] = ref01_shallow Φ fuel v1 v2 v3 v4 levels5 := by kernel_rfl
/-! value_unused -/
def sp_value_unused : List LSpec := []
def value_unused (Φ : Phi) (fuel : Nat) (v1 : Int) (v2 : Int) (v3 : List UInt8) (v4 : List (List D)) : Option A :=
(xite (decide (v1 = (1 : Int)))
(xite (decide (v1 = (1 : Int)))
(xite (decide ((v3 : List UInt8) = []))
(some (A.one (C.d (D.v (.bool (decide (((v4).length : Int) = (0 : Int))))))))
(some (A.one (C.d (D.v (.bool false))))))
(xite (decide (v1 = (3 : Int)))
(xite (decide (v1 = (3 : Int)))
(xite (decide (v2 = (0 : Int)))
(some (A.one (C.d (D.v (.bool (decide (((v4).length : Int) = (0 : Int))))))))
(some (A.one (C.d (D.v (.bool false))))))
(xite (decide (v2 = (0 : Int)))
(some (A.one (C.d (D.v (.bool (decide ((v3 : List UInt8) = [])))))))
(some (A.one (C.d (D.v (.bool false)))))))
(xite (decide (v1 = (8 : Int)))
(xite (decide (v2 = (0 : Int)))
(some (A.one (C.d (D.v (.bool (decide (((v4).length : Int) = (0 : Int))))))))
(some (A.one (C.d (D.v (.bool false))))))
(xite (decide (v2 = (0 : Int)))
(some (A.one (C.d (D.v (.bool (decide ((v3 : List UInt8) = [])))))))
(some (A.one (C.d (D.v (.bool false)))))))))
(xite (decide (v1 = (2 : Int)))
(xite (decide (v1 = (2 : Int)))
(xite (decide ((v3 : List UInt8) = []))
(some (A.one (C.d (D.v (.bool (decide (((v4).length : Int) = (0 : Int))))))))
(some (A.one (C.d (D.v (.bool false))))))
(xite (decide (v1 = (3 : Int)))
(xite (decide (v1 = (3 : Int)))
(xite (decide (v2 = (0 : Int)))
(some (A.one (C.d (D.v (.bool (decide (((v4).length : Int) = (0 : Int))))))))
(some (A.one (C.d (D.v (.bool false))))))
(xite (decide (v2 = (0 : Int)))
(some (A.one (C.d (D.v (.bool (decide ((v3 : List UInt8) = [])))))))
(some (A.one (C.d (D.v (.bool false)))))))
(xite (decide (v1 = (8 : Int)))
(xite (decide (v2 = (0 : Int)))
(some (A.one (C.d (D.v (.bool (decide (((v4).length : Int) = (0 : Int))))))))
(some (A.one (C.d (D.v (.bool false))))))
(xite (decide (v2 = (0 : Int)))
(some (A.one (C.d (D.v (.bool (decide ((v3 : List UInt8) = [])))))))
(some (A.one (C.d (D.v (.bool false)))))))))
(xite (decide (v1 = (4 : Int)))
(xite (decide ((v3 : List UInt8) = []))
(some (A.one (C.d (D.v (.bool (decide (((v4).length : Int) = (0 : Int))))))))
(some (A.one (C.d (D.v (.bool false))))))
(xite (decide (v1 = (3 : Int)))
(xite (decide (v1 = (3 : Int)))
(xite (decide (v2 = (0 : Int)))
(some (A.one (C.d (D.v (.bool (decide (((v4).length : Int) = (0 : Int))))))))
(some (A.one (C.d (D.v (.bool false))))))
(xite (decide (v2 = (0 : Int)))
(some (A.one (C.d (D.v (.bool (decide ((v3 : List UInt8) = [])))))))
(some (A.one (C.d (D.v (.bool false)))))))
(xite (decide (v1 = (8 : Int)))
(xite (decide (v2 = (0 : Int)))
(some (A.one (C.d (D.v (.bool (decide (((v4).length : Int) = (0 : Int))))))))
(some (A.one (C.d (D.v (.bool false))))))
(xite (decide (v2 = (0 : Int)))
(some (A.one (C.d (D.v (.bool (decide ((v3 : List UInt8) = [])))))))
(some (A.one (C.d (D.v (.bool false)))))))))))
theorem value_unused_eq (Φ : Phi) (fuel : Nat) (v1 : Int) (v2 : Int) (v3 : List UInt8) (v4 : List (List D)) : xbody TT0 Φ fuel sp_value_unused Try.f52 [(A.agg [(C.d (D.v (.int .i64 v1))), (C.d (D.v (.int .i64 v2))), (C.d (D.s v3)), (C.d (D.sl v4))])] = value_unused Φ fuel v1 v2 v3 v4 := by kernel_rfl
end Go.Av
