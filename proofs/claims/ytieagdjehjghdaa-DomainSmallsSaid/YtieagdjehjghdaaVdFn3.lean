/-
  What each function gives when run. Printed by a program of mine (gen.py).
-/
import Derived.Test.YtieagdjehjghdaaVdTy
set_option linter.all false
set_option linter.unusedVariables false
set_option maxRecDepth 100000
namespace Go.Av
open Go.Proofs
/-! value_Compare -/
def sp_value_Compare : List LSpec := [{ n := 2, m := 75, toks := [], ks := [.slot 2 (.one (.ref 0 0)), .slot 3 (.one (.ref 1 0)), .slot 45 (.one .sl), .slot 46 (.one (.int .i64)), .slot 47 (.one (.int .i64)), .box 0 (.lit [(.int .i64), (.int .i64), .str, .sl]), .box 1 (.lit [(.int .i64), (.int .i64), .str, .sl])] }]
def value_Compare_l0 (Φ : Phi) (fuel : Nat) (k0 : List (List D) → Int → Int → Int → Int → List UInt8 → List (List D) → Int → Int → List UInt8 → List (List D) → Option A) (l9 : List (List D)) (i10 : Int) (i11 : Int) (i12 : Int) (i13 : Int) (s14 : List UInt8) (l15 : List (List D)) (i16 : Int) (i17 : Int) (s18 : List UInt8) (l19 : List (List D)) : Option A :=
(xite (decide (i11 < i10))
((xElem 4 l9 i11).bind fun c20 =>
(xif (decide (4 ≤ (c20).length))
((xDI .i64 (List.getD c20 0 (D.s []))).bind fun n21 =>
((xDI .i64 (List.getD c20 1 (D.s []))).bind fun n22 =>
((xDS (List.getD c20 2 (D.s []))).bind fun s23 =>
((xDL (List.getD c20 3 (D.s []))).bind fun l24 =>
(xite (decide (i11 = ((l19).length : Int)))
(some (A.one (C.d (D.v (.int .i64 (1 : Int))))))
((xElem 4 l19 i11).bind fun c25 =>
(xif (decide (4 ≤ (c25).length))
((xDI .i64 (List.getD c25 0 (D.s []))).bind fun n26 =>
((xDI .i64 (List.getD c25 1 (D.s []))).bind fun n27 =>
((xDS (List.getD c25 2 (D.s []))).bind fun s28 =>
((xDL (List.getD c25 3 (D.s []))).bind fun l29 =>
((Φ i_value_Compare [(A.agg [(C.d (D.v (.int .i64 n21))), (C.d (D.v (.int .i64 n22))), (C.d (D.s s23)), (C.d (D.sl l24))]), (A.agg [(C.d (D.v (.int .i64 n26))), (C.d (D.v (.int .i64 n27))), (C.d (D.s s28)), (C.d (D.sl l29))])]).bind fun r30 =>
((xAD r30).bind fun d31 =>
((xDI .i64 d31).bind fun n32 =>
(xite (!decide (n32 = (0 : Int)))
(some (A.one (C.d (D.v (.int .i64 n32)))))
(k0 l9 i10 (IntKind.i64.wrap (i11 + (1 : Int))) i12 i13 s14 l15 i16 i17 s18 l19))))))))))))))))))
(xite (decide (((l15).length : Int) < ((l19).length : Int)))
(some (A.one (C.d (D.v (.int .i64 (-1 : Int))))))
(some (A.one (C.d (D.v (.int .i64 (0 : Int))))))))
def value_Compare (Φ : Phi) (fuel : Nat) (a1 : Int) (a2 : Int) (a3 : List UInt8) (a4 : List (List D)) (b5 : Int) (b6 : Int) (b7 : List UInt8) (b8 : List (List D)) : Option A :=
(xite (decide (a1 < b5))
(some (A.one (C.d (D.v (.int .i64 (-1 : Int))))))
(xite (decide (b5 < a1))
(some (A.one (C.d (D.v (.int .i64 (1 : Int))))))
(xite (decide (a2 < b6))
(some (A.one (C.d (D.v (.int .i64 (-1 : Int))))))
(xite (decide (b6 < a2))
(some (A.one (C.d (D.v (.int .i64 (1 : Int))))))
(xite (Op.bytesLess a3 b7)
(some (A.one (C.d (D.v (.int .i64 (-1 : Int))))))
(xite (!(Op.bytesLess a3 b7 || decide ((a3 : List UInt8) = b7)))
(some (A.one (C.d (D.v (.int .i64 (1 : Int))))))
(iter (fun (x : Unit × Unit × List (List D) × Int × Int × (Int × Int × List UInt8 × List (List D) × Unit) × (Int × Int × List UInt8 × List (List D) × Unit) × Unit) (rec : (Unit × Unit × List (List D) × Int × Int × (Int × Int × List UInt8 × List (List D) × Unit) × (Int × Int × List UInt8 × List (List D) × Unit) × Unit) → Option A) => value_Compare_l0 Φ fuel (fun l9 i10 i11 i12 i13 s14 l15 i16 i17 s18 l19 => rec ((), (), l9, i10, i11, (i12, i13, s14, l15, ()), (i16, i17, s18, l19, ()), ())) x.2.2.1 x.2.2.2.1 x.2.2.2.2.1 x.2.2.2.2.2.1.1 x.2.2.2.2.2.1.2.1 x.2.2.2.2.2.1.2.2.1 x.2.2.2.2.2.1.2.2.2.1 x.2.2.2.2.2.2.1.1 x.2.2.2.2.2.2.1.2.1 x.2.2.2.2.2.2.1.2.2.1 x.2.2.2.2.2.2.1.2.2.2.1) fuel ((), (), a4, ((a4).length : Int), (0 : Int), (a1, a2, a3, a4, ()), (b5, b6, b7, b8, ()), ()))))))))
theorem value_Compare_eq (Φ : Phi) (fuel : Nat) (a1 : Int) (a2 : Int) (a3 : List UInt8) (a4 : List (List D)) (b5 : Int) (b6 : Int) (b7 : List UInt8) (b8 : List (List D)) : xbody TT0 Φ fuel sp_value_Compare Try.f71 [(A.agg [(C.d (D.v (.int .i64 a1))), (C.d (D.v (.int .i64 a2))), (C.d (D.s a3)), (C.d (D.sl a4))]), (A.agg [(C.d (D.v (.int .i64 b5))), (C.d (D.v (.int .i64 b6))), (C.d (D.s b7)), (C.d (D.sl b8))])] = value_Compare Φ fuel a1 a2 a3 a4 b5 b6 b7 b8 := by kernel_rfl
/-! value_printed -/
def sp_value_printed : List LSpec := [{ n := 0, m := 20, toks := [], ks := [.slot 0 (.one .str), .slot 3 (.one (.int .i64))] }]
def value_printed_l0 (Φ : Phi) (fuel : Nat) (k0 : List UInt8 → Int → Option A) (s2 : List UInt8) (i3 : Int) : Option A :=
(xite (decide (i3 < ((s2).length : Int)))
((xIdxS s2 i3).bind fun c4 =>
(xite (decide ((c4.toNat : Int) < (32 : Int)))
(some (A.one (C.d (D.v (.bool false)))))
((xIdxS s2 i3).bind fun c5 =>
(xite (decide ((126 : Int) < (c5.toNat : Int)))
(some (A.one (C.d (D.v (.bool false)))))
(k0 s2 (IntKind.i64.wrap (i3 + (1 : Int))))))))
(some (A.one (C.d (D.v (.bool true))))))
def value_printed (Φ : Phi) (fuel : Nat) (s1 : List UInt8) : Option A :=
(iter (fun (x : List UInt8 × Int × Unit) (rec : (List UInt8 × Int × Unit) → Option A) => value_printed_l0 Φ fuel (fun s2 i3 => rec (s2, i3, ())) x.1 x.2.1) fuel (s1, (0 : Int), ()))
theorem value_printed_eq (Φ : Phi) (fuel : Nat) (s1 : List UInt8) : xbody TT0 Φ fuel sp_value_printed Try.f72 [(A.one (C.d (D.s s1)))] = value_printed Φ fuel s1 := by kernel_rfl
/-! value_OfText -/
def sp_value_OfText : List LSpec := []
def value_OfText (Φ : Phi) (fuel : Nat) (s1 : List UInt8) : Option A :=
(some (A.agg [(C.d (D.v (.int .i64 (3 : Int)))), (C.d (D.v (.int .i64 0))), (C.d (D.s s1)), (C.d (D.sl []))]))
theorem value_OfText_eq (Φ : Phi) (fuel : Nat) (s1 : List UInt8) : xbody TT0 Φ fuel sp_value_OfText Try.f73 [(A.one (C.d (D.s s1)))] = value_OfText Φ fuel s1 := by kernel_rfl
/-! value_OfPattern -/
def sp_value_OfPattern : List LSpec := []
def value_OfPattern (Φ : Phi) (fuel : Nat) (s1 : List UInt8) : Option A :=
(some (A.agg [(C.d (D.v (.int .i64 (8 : Int)))), (C.d (D.v (.int .i64 0))), (C.d (D.s s1)), (C.d (D.sl []))]))
theorem value_OfPattern_eq (Φ : Phi) (fuel : Nat) (s1 : List UInt8) : xbody TT0 Φ fuel sp_value_OfPattern Try.f74 [(A.one (C.d (D.s s1)))] = value_OfPattern Φ fuel s1 := by kernel_rfl
end Go.Av
