/-
  What each function gives when run. Printed by a program of mine (gen.py).
-/
import Derived.Test.YtmchldchhgofiaaVxTy
set_option linter.all false
set_option linter.unusedVariables false
set_option maxRecDepth 100000
namespace Go.Av
open Go.Proofs
/-! value_ranged -/
def sp_value_ranged : List LSpec := []
def value_ranged (Φ : Phi) (fuel : Nat) (n1 : Int) (low2 : Int) (high3 : Int) : Option A :=
(xite (decide (n1 < low2))
(some (A.one (C.d (D.v (.int .i64 (1 : Int))))))
(xite (decide (high3 < n1))
(some (A.one (C.d (D.v (.int .i64 (1 : Int))))))
(some (A.one (C.d (D.v (.int .i64 (0 : Int))))))))
theorem value_ranged_eq (Φ : Phi) (fuel : Nat) (n1 : Int) (low2 : Int) (high3 : Int) : xbody TT0 Φ fuel sp_value_ranged Try.f53 [(A.one (C.d (D.v (.int .i64 n1)))), (A.one (C.d (D.v (.int .i64 low2)))), (A.one (C.d (D.v (.int .i64 high3))))] = value_ranged Φ fuel n1 low2 high3 := by kernel_rfl
/-! value_sized -/
def sp_value_sized : List LSpec := []
def value_sized (Φ : Phi) (fuel : Nat) (s1 : List UInt8) (least2 : Int) (most3 : Int) : Option A :=
(xite (decide (((s1).length : Int) < least2))
(some (A.one (C.d (D.v (.int .i64 (2 : Int))))))
(xite (decide (most3 < ((s1).length : Int)))
(some (A.one (C.d (D.v (.int .i64 (2 : Int))))))
((Φ i_value_printed [(A.one (C.d (D.s s1)))]).bind fun r4 =>
((xAD r4).bind fun d5 =>
((xDB d5).bind fun b6 =>
(xite (!b6)
(some (A.one (C.d (D.v (.int .i64 (1 : Int))))))
(some (A.one (C.d (D.v (.int .i64 (0 : Int))))))))))))
theorem value_sized_eq (Φ : Phi) (fuel : Nat) (s1 : List UInt8) (least2 : Int) (most3 : Int) : xbody TT0 Φ fuel sp_value_sized Try.f54 [(A.one (C.d (D.s s1))), (A.one (C.d (D.v (.int .i64 least2)))), (A.one (C.d (D.v (.int .i64 most3))))] = value_sized Φ fuel s1 least2 most3 := by kernel_rfl
/-! value_elements -/
def sp_value_elements : List LSpec := [{ n := 0, m := 27, toks := [], ks := [.slot 1 (.one (.int .i64)), .slot 11 (.one .sl), .slot 12 (.one (.int .i64)), .slot 13 (.one (.int .i64))] }]
def value_elements_l0 (Φ : Phi) (fuel : Nat) (k0 : Int → List (List D) → Int → Int → Option A) (t3 : Int) (l4 : List (List D)) (i5 : Int) (i6 : Int) : Option A :=
(xite (decide (i6 < i5))
((xElem 4 l4 i6).bind fun c7 =>
(xif (decide (4 ≤ (c7).length))
((xDI .i64 (List.getD c7 0 (D.s []))).bind fun n8 =>
((xDI .i64 (List.getD c7 1 (D.s []))).bind fun n9 =>
((xDS (List.getD c7 2 (D.s []))).bind fun s10 =>
((xDL (List.getD c7 3 (D.s []))).bind fun l11 =>
(xite (!decide (n8 = t3))
(some (A.one (C.d (D.v (.int .i64 (3 : Int))))))
((Φ i_value_Check [(A.agg [(C.d (D.v (.int .i64 n8))), (C.d (D.v (.int .i64 n9))), (C.d (D.s s10)), (C.d (D.sl l11))])]).bind fun r12 =>
((xAD r12).bind fun d13 =>
((xDI .i64 d13).bind fun n14 =>
(xite (!decide (n14 = (0 : Int)))
(some (A.one (C.d (D.v (.int .i64 n14)))))
(k0 t3 l4 i5 (IntKind.i64.wrap (i6 + (1 : Int)))))))))))))))
(some (A.one (C.d (D.v (.int .i64 (0 : Int)))))))
def value_elements (Φ : Phi) (fuel : Nat) (list1 : List (List D)) (t2 : Int) : Option A :=
(xite (decide ((16 : Int) < ((list1).length : Int)))
(some (A.one (C.d (D.v (.int .i64 (2 : Int))))))
(iter (fun (x : Int × List (List D) × Int × Int × Unit) (rec : (Int × List (List D) × Int × Int × Unit) → Option A) => value_elements_l0 Φ fuel (fun t3 l4 i5 i6 => rec (t3, l4, i5, i6, ())) x.1 x.2.1 x.2.2.1 x.2.2.2.1) fuel (t2, list1, ((list1).length : Int), (0 : Int), ())))
theorem value_elements_eq (Φ : Phi) (fuel : Nat) (list1 : List (List D)) (t2 : Int) : xbody TT0 Φ fuel sp_value_elements Try.f55 [(A.one (C.d (D.sl list1))), (A.one (C.d (D.v (.int .i64 t2))))] = value_elements Φ fuel list1 t2 := by kernel_rfl
/-! value_rows -/
def sp_value_rows : List LSpec := [{ n := 0, m := 45, toks := [], ks := [.slot 0 (.one .sl), .slot 9 (.one .sl), .slot 10 (.one (.int .i64)), .slot 11 (.one (.int .i64))] }]
def value_rows_l0 (Φ : Phi) (fuel : Nat) (k0 : List (List D) → List (List D) → Int → Int → Option A) (list2 : List (List D)) (l3 : List (List D)) (i4 : Int) (i5 : Int) : Option A :=
(xite (decide (i5 < i4))
((xElem 4 l3 i5).bind fun c6 =>
(xif (decide (4 ≤ (c6).length))
((xDI .i64 (List.getD c6 0 (D.s []))).bind fun n7 =>
((xDI .i64 (List.getD c6 1 (D.s []))).bind fun n8 =>
((xDS (List.getD c6 2 (D.s []))).bind fun s9 =>
((xDL (List.getD c6 3 (D.s []))).bind fun l10 =>
(xite (!decide (n7 = (6 : Int)))
(some (A.one (C.d (D.v (.int .i64 (3 : Int))))))
(xite (decide (((l10).length : Int) < (1 : Int)))
(some (A.one (C.d (D.v (.int .i64 (2 : Int))))))
(xite (decide ((8 : Int) < ((l10).length : Int)))
(some (A.one (C.d (D.v (.int .i64 (2 : Int))))))
((xElem 4 list2 (0 : Int)).bind fun c11 =>
(xif (decide (1 ≤ ((List.drop 3 c11)).length))
((xDL (List.getD (List.drop 3 c11) 0 (D.s []))).bind fun l12 =>
(xite (!decide (((l10).length : Int) = ((l12).length : Int)))
(some (A.one (C.d (D.v (.int .i64 (2 : Int))))))
((Φ i_value_Check [(A.agg [(C.d (D.v (.int .i64 n7))), (C.d (D.v (.int .i64 n8))), (C.d (D.s s9)), (C.d (D.sl l10))])]).bind fun r13 =>
((xAD r13).bind fun d14 =>
((xDI .i64 d14).bind fun n15 =>
(xite (!decide (n15 = (0 : Int)))
(some (A.one (C.d (D.v (.int .i64 n15)))))
(k0 list2 l3 i4 (IntKind.i64.wrap (i5 + (1 : Int)))))))))))))))))))))
(some (A.one (C.d (D.v (.int .i64 (0 : Int)))))))
def value_rows (Φ : Phi) (fuel : Nat) (list1 : List (List D)) : Option A :=
(xite (decide ((8 : Int) < ((list1).length : Int)))
(some (A.one (C.d (D.v (.int .i64 (2 : Int))))))
(iter (fun (x : List (List D) × List (List D) × Int × Int × Unit) (rec : (List (List D) × List (List D) × Int × Int × Unit) → Option A) => value_rows_l0 Φ fuel (fun list2 l3 i4 i5 => rec (list2, l3, i4, i5, ())) x.1 x.2.1 x.2.2.1 x.2.2.2.1) fuel (list1, list1, ((list1).length : Int), (0 : Int), ())))
theorem value_rows_eq (Φ : Phi) (fuel : Nat) (list1 : List (List D)) : xbody TT0 Φ fuel sp_value_rows Try.f56 [(A.one (C.d (D.sl list1)))] = value_rows Φ fuel list1 := by kernel_rfl
/-! ref01_within -/
def sp_ref01_within : List LSpec := []
def ref01_within (Φ : Phi) (fuel : Nat) (n1 : Int) (lo2 : Int) (hi3 : Int) : Option A :=
(xite (decide (n1 < lo2))
(some (A.one (C.d (D.v (.int .i64 (1 : Int))))))
(xite (decide (hi3 < n1))
(some (A.one (C.d (D.v (.int .i64 (1 : Int))))))
(some (A.one (C.d (D.v (.int .i64 (0 : Int))))))))
theorem ref01_within_eq (Φ : Phi) (fuel : Nat) (n1 : Int) (lo2 : Int) (hi3 : Int) : xbody TT0 Φ fuel sp_ref01_within Try.f57 [(A.one (C.d (D.v (.int .i64 n1)))), (A.one (C.d (D.v (.int .i64 lo2)))), (A.one (C.d (D.v (.int .i64 hi3))))] = ref01_within Φ fuel n1 lo2 hi3 := by kernel_rfl
/-! ref01_plain -/
def sp_ref01_plain : List LSpec := [{ n := 0, m := 34, toks := [], ks := [.slot 0 (.one .str), .slot 7 (.one (.int .i64))] }]
def ref01_plain_l0 (Φ : Phi) (fuel : Nat) (k0 : List UInt8 → Int → Option A) (s4 : List UInt8) (i5 : Int) : Option A :=
(xite (decide (i5 < ((s4).length : Int)))
((xIdxS s4 i5).bind fun c6 =>
(xite (decide ((c6.toNat : Int) < (32 : Int)))
(some (A.one (C.d (D.v (.int .i64 (1 : Int))))))
((xIdxS s4 i5).bind fun c7 =>
(xite (decide ((126 : Int) < (c7.toNat : Int)))
(some (A.one (C.d (D.v (.int .i64 (1 : Int))))))
(k0 s4 (IntKind.i64.wrap (i5 + (1 : Int))))))))
(some (A.one (C.d (D.v (.int .i64 (0 : Int)))))))
def ref01_plain (Φ : Phi) (fuel : Nat) (s1 : List UInt8) (least2 : Int) (most3 : Int) : Option A :=
(xite (decide (((s1).length : Int) < least2))
(some (A.one (C.d (D.v (.int .i64 (2 : Int))))))
(xite (decide (most3 < ((s1).length : Int)))
(some (A.one (C.d (D.v (.int .i64 (2 : Int))))))
(iter (fun (x : List UInt8 × Int × Unit) (rec : (List UInt8 × Int × Unit) → Option A) => ref01_plain_l0 Φ fuel (fun s4 i5 => rec (s4, i5, ())) x.1 x.2.1) fuel (s1, (0 : Int), ()))))
theorem ref01_plain_eq (Φ : Phi) (fuel : Nat) (s1 : List UInt8) (least2 : Int) (most3 : Int) : xbody TT0 Φ fuel sp_ref01_plain Try.f58 [(A.one (C.d (D.s s1))), (A.one (C.d (D.v (.int .i64 least2)))), (A.one (C.d (D.v (.int .i64 most3))))] = ref01_plain Φ fuel s1 least2 most3 := by kernel_rfl
/-! ref01_elements -/
def sp_ref01_elements : List LSpec := [{ n := 0, m := 31, toks := [], ks := [.slot 0 (.one .sl), .slot 1 (.one (.int .i64)), .slot 5 (.one (.int .i64))] }]
def ref01_elements_l0 (Φ : Phi) (fuel : Nat) (k0 : List (List D) → Int → Int → Option A) (l3 : List (List D)) (t4 : Int) (i5 : Int) : Option A :=
(xite (decide (i5 < ((l3).length : Int)))
((xElem 4 l3 i5).bind fun c6 =>
(xif (decide (1 ≤ (c6).length))
((xDI .i64 (List.getD c6 0 (D.s []))).bind fun n7 =>
(xite (!decide (n7 = t4))
(some (A.one (C.d (D.v (.int .i64 (3 : Int))))))
((xElem 4 l3 i5).bind fun c8 =>
(xif (decide (4 ≤ (c8).length))
((xDI .i64 (List.getD c8 0 (D.s []))).bind fun n9 =>
((xDI .i64 (List.getD c8 1 (D.s []))).bind fun n10 =>
((xDS (List.getD c8 2 (D.s []))).bind fun s11 =>
((xDL (List.getD c8 3 (D.s []))).bind fun l12 =>
((Φ i_ref01_Check [(A.agg [(C.d (D.v (.int .i64 n9))), (C.d (D.v (.int .i64 n10))), (C.d (D.s s11)), (C.d (D.sl l12))])]).bind fun r13 =>
((xAD r13).bind fun d14 =>
((xDI .i64 d14).bind fun n15 =>
(xite (!decide (n15 = (0 : Int)))
(some (A.one (C.d (D.v (.int .i64 n15)))))
(k0 l3 t4 (IntKind.i64.wrap (i5 + (1 : Int))))))))))))))))))
(some (A.one (C.d (D.v (.int .i64 (0 : Int)))))))
def ref01_elements (Φ : Phi) (fuel : Nat) (l1 : List (List D)) (t2 : Int) : Option A :=
(xite (decide ((16 : Int) < ((l1).length : Int)))
(some (A.one (C.d (D.v (.int .i64 (2 : Int))))))
(iter (fun (x : List (List D) × Int × Int × Unit) (rec : (List (List D) × Int × Int × Unit) → Option A) => ref01_elements_l0 Φ fuel (fun l3 t4 i5 => rec (l3, t4, i5, ())) x.1 x.2.1 x.2.2.1) fuel (l1, t2, (0 : Int), ())))
theorem ref01_elements_eq (Φ : Phi) (fuel : Nat) (l1 : List (List D)) (t2 : Int) : xbody TT0 Φ fuel sp_ref01_elements Try.f59 [(A.one (C.d (D.sl l1))), (A.one (C.d (D.v (.int .i64 t2))))] = ref01_elements Φ fuel l1 t2 := by kernel_rfl
/-! ref01_rows -/
def sp_ref01_rows : List LSpec := [{ n := 0, m := 50, toks := [], ks := [.slot 0 (.one .sl), .slot 3 (.one (.int .i64))] }]
def ref01_rows_l0 (Φ : Phi) (fuel : Nat) (k0 : List (List D) → Int → Option A) (l2 : List (List D)) (i3 : Int) : Option A :=
(xite (decide (i3 < ((l2).length : Int)))
((xElem 4 l2 i3).bind fun c4 =>
(xif (decide (1 ≤ (c4).length))
((xDI .i64 (List.getD c4 0 (D.s []))).bind fun n5 =>
(xite (!decide (n5 = (6 : Int)))
(some (A.one (C.d (D.v (.int .i64 (3 : Int))))))
((xElem 4 l2 i3).bind fun c6 =>
(xif (decide (1 ≤ ((List.drop 3 c6)).length))
((xDL (List.getD (List.drop 3 c6) 0 (D.s []))).bind fun l7 =>
(xite (decide (((l7).length : Int) < (1 : Int)))
(some (A.one (C.d (D.v (.int .i64 (2 : Int))))))
(xite (decide ((8 : Int) < ((l7).length : Int)))
(some (A.one (C.d (D.v (.int .i64 (2 : Int))))))
((xElem 4 l2 (0 : Int)).bind fun c8 =>
(xif (decide (1 ≤ ((List.drop 3 c8)).length))
((xDL (List.getD (List.drop 3 c8) 0 (D.s []))).bind fun l9 =>
(xite (!decide (((l7).length : Int) = ((l9).length : Int)))
(some (A.one (C.d (D.v (.int .i64 (2 : Int))))))
((xElem 4 l2 i3).bind fun c10 =>
(xif (decide (4 ≤ (c10).length))
((xDI .i64 (List.getD c10 0 (D.s []))).bind fun n11 =>
((xDI .i64 (List.getD c10 1 (D.s []))).bind fun n12 =>
((xDS (List.getD c10 2 (D.s []))).bind fun s13 =>
((xDL (List.getD c10 3 (D.s []))).bind fun l14 =>
((Φ i_ref01_Check [(A.agg [(C.d (D.v (.int .i64 n11))), (C.d (D.v (.int .i64 n12))), (C.d (D.s s13)), (C.d (D.sl l14))])]).bind fun r15 =>
((xAD r15).bind fun d16 =>
((xDI .i64 d16).bind fun n17 =>
(xite (!decide (n17 = (0 : Int)))
(some (A.one (C.d (D.v (.int .i64 n17)))))
(k0 l2 (IntKind.i64.wrap (i3 + (1 : Int)))))))))))))))))))))))))))
(some (A.one (C.d (D.v (.int .i64 (0 : Int)))))))
def ref01_rows (Φ : Phi) (fuel : Nat) (l1 : List (List D)) : Option A :=
(xite (decide ((8 : Int) < ((l1).length : Int)))
(some (A.one (C.d (D.v (.int .i64 (2 : Int))))))
(iter (fun (x : List (List D) × Int × Unit) (rec : (List (List D) × Int × Unit) → Option A) => ref01_rows_l0 Φ fuel (fun l2 i3 => rec (l2, i3, ())) x.1 x.2.1) fuel (l1, (0 : Int), ())))
theorem ref01_rows_eq (Φ : Phi) (fuel : Nat) (l1 : List (List D)) : xbody TT0 Φ fuel sp_ref01_rows Try.f60 [(A.one (C.d (D.sl l1)))] = ref01_rows Φ fuel l1 := by kernel_rfl
/-! ref01_sign -/
def sp_ref01_sign : List LSpec := []
def ref01_sign (Φ : Phi) (fuel : Nat) (less1 : Bool) : Option A :=
(xite less1
(some (A.one (C.d (D.v (.int .i64 (-1 : Int))))))
(some (A.one (C.d (D.v (.int .i64 (1 : Int)))))))
theorem ref01_sign_eq (Φ : Phi) (fuel : Nat) (less1 : Bool) : xbody TT0 Φ fuel sp_ref01_sign Try.f61 [(A.one (C.d (D.v (.bool less1))))] = ref01_sign Φ fuel less1 := by kernel_rfl
/-! ref01_CompareAll -/
def sp_ref01_CompareAll : List LSpec := [{ n := 0, m := 42, toks := [], ks := [.slot 0 (.one .sl), .slot 1 (.one .sl), .slot 5 (.one (.int .i64))] }]
def ref01_CompareAll_l0 (Φ : Phi) (fuel : Nat) (k0 : List (List D) → List (List D) → Int → Option A) (a3 : List (List D)) (b4 : List (List D)) (i5 : Int) : Option A :=
(xite (decide (i5 < ((a3).length : Int)))
(xite (decide (i5 < ((b4).length : Int)))
((xElem 4 a3 i5).bind fun c6 =>
(xif (decide (4 ≤ (c6).length))
((xDI .i64 (List.getD c6 0 (D.s []))).bind fun n7 =>
((xDI .i64 (List.getD c6 1 (D.s []))).bind fun n8 =>
((xDS (List.getD c6 2 (D.s []))).bind fun s9 =>
((xDL (List.getD c6 3 (D.s []))).bind fun l10 =>
((xElem 4 b4 i5).bind fun c11 =>
(xif (decide (4 ≤ (c11).length))
((xDI .i64 (List.getD c11 0 (D.s []))).bind fun n12 =>
((xDI .i64 (List.getD c11 1 (D.s []))).bind fun n13 =>
((xDS (List.getD c11 2 (D.s []))).bind fun s14 =>
((xDL (List.getD c11 3 (D.s []))).bind fun l15 =>
((Φ i_ref01_Compare [(A.agg [(C.d (D.v (.int .i64 n7))), (C.d (D.v (.int .i64 n8))), (C.d (D.s s9)), (C.d (D.sl l10))]), (A.agg [(C.d (D.v (.int .i64 n12))), (C.d (D.v (.int .i64 n13))), (C.d (D.s s14)), (C.d (D.sl l15))])]).bind fun r16 =>
((xAD r16).bind fun d17 =>
((xDI .i64 d17).bind fun n18 =>
(xite (!decide (n18 = (0 : Int)))
(some (A.one (C.d (D.v (.int .i64 n18)))))
(k0 a3 b4 (IntKind.i64.wrap (i5 + (1 : Int))))))))))))))))))))
(xite (decide (((a3).length : Int) = ((b4).length : Int)))
(some (A.one (C.d (D.v (.int .i64 (0 : Int))))))
((Φ i_ref01_sign [(A.one (C.d (D.v (.bool (decide (((a3).length : Int) < ((b4).length : Int)))))))]).bind fun r19 =>
((xAD r19).bind fun d20 =>
((xDI .i64 d20).bind fun n21 =>
(some (A.one (C.d (D.v (.int .i64 n21))))))))))
(xite (decide (((a3).length : Int) = ((b4).length : Int)))
(some (A.one (C.d (D.v (.int .i64 (0 : Int))))))
((Φ i_ref01_sign [(A.one (C.d (D.v (.bool (decide (((a3).length : Int) < ((b4).length : Int)))))))]).bind fun r22 =>
((xAD r22).bind fun d23 =>
((xDI .i64 d23).bind fun n24 =>
(some (A.one (C.d (D.v (.int .i64 n24))))))))))
def ref01_CompareAll (Φ : Phi) (fuel : Nat) (a1 : List (List D)) (b2 : List (List D)) : Option A :=
(iter (fun (x : List (List D) × List (List D) × Int × Unit) (rec : (List (List D) × List (List D) × Int × Unit) → Option A) => ref01_CompareAll_l0 Φ fuel (fun a3 b4 i5 => rec (a3, b4, i5, ())) x.1 x.2.1 x.2.2.1) fuel (a1, b2, (0 : Int), ()))
theorem ref01_CompareAll_eq (Φ : Phi) (fuel : Nat) (a1 : List (List D)) (b2 : List (List D)) : xbody TT0 Φ fuel sp_ref01_CompareAll Try.f62 [(A.one (C.d (D.sl a1))), (A.one (C.d (D.sl b2)))] = ref01_CompareAll Φ fuel a1 b2 := by kernel_rfl
/-! ref01_names -/
def sp_ref01_names : List LSpec := []
def ref01_names (Φ : Phi) (fuel : Nat) : Option A :=
(some (A.one (C.d (D.sl ([[(D.s [98, 111, 111, 108])], [(D.s [105, 110, 116])], [(D.s [116, 101, 120, 116])], [(D.s [98, 105, 116, 115])], [(D.s [105, 110, 116, 115])], [(D.s [116, 101, 120, 116, 115])], [(D.s [116, 97, 98, 108, 101])], [(D.s [112, 97, 116, 116, 101, 114, 110])]] : List (List D))))))
theorem ref01_names_eq (Φ : Phi) (fuel : Nat) : xbody TT0 Φ fuel sp_ref01_names Try.f63 [] = ref01_names Φ fuel := by kernel_rfl
/-! value_printed -/
def sp_value_printed : List LSpec := [{ n := 0, m := 20, toks := [], ks := [.slot 0 (.one .str), .slot 3 (.one (.int .i64))] }]
def value_printed_l0 (Φ : Phi) (fuel : Nat) (k0 : List UInt8 → Int → Option A) (s2 : List UInt8) (i3 : Int) : Option A :=
(xite (decide (i3 < ((s2).length : Int)))
((xIdxS s2 i3).bind fun c4 =>
(xite (decide ((c4.toNat : Int) < (32 : Int)))
(some (A.one (C.d (D.v (.bool false)))))
((xIdxS s2 i3).bind fun c5 =>
(xite (decide ((126 : Int) < (c5.toNat : Int)))
(some (A.one (C.d (D.v (.bool false)))))
(k0 s2 (IntKind.i64.wrap (i3 + (1 : Int))))))))
(some (A.one (C.d (D.v (.bool true))))))
def value_printed (Φ : Phi) (fuel : Nat) (s1 : List UInt8) : Option A :=
(iter (fun (x : List UInt8 × Int × Unit) (rec : (List UInt8 × Int × Unit) → Option A) => value_printed_l0 Φ fuel (fun s2 i3 => rec (s2, i3, ())) x.1 x.2.1) fuel (s1, (0 : Int), ()))
theorem value_printed_eq (Φ : Phi) (fuel : Nat) (s1 : List UInt8) : xbody TT0 Φ fuel sp_value_printed Try.f64 [(A.one (C.d (D.s s1)))] = value_printed Φ fuel s1 := by kernel_rfl
end Go.Av
