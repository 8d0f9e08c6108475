/-
  What each function gives when run. Printed by a program of mine (gen.py).
-/
import Derived.Test.YtnfbgleaodkjpaaHtTy
set_option linter.all false
set_option linter.unusedVariables false
set_option maxRecDepth 100000
namespace Go.Av
open Go.Proofs
/-! ref08_place -/
def sp_ref08_place : List LSpec := [{ n := 0, m := 19, toks := [], ks := [.slot 0 (.one .sl), .slot 1 (.one .str), .slot 5 (.one (.int .i64))] }]
def ref08_place_l0 (Φ : Phi) (fuel : Nat) (k0 : List (List D) → List UInt8 → Int → Option A) (l3 : List (List D)) (s4 : List UInt8) (i5 : Int) : Option A :=
(xite (decide (i5 < ((l3).length : Int)))
((xElem 1 l3 i5).bind fun c6 =>
(xif (decide (1 ≤ (c6).length))
((xDS (List.getD c6 0 (D.s []))).bind fun s7 =>
(xite (decide ((s7 : List UInt8) = s4))
(some (A.one (C.d (D.v (.int .i64 i5)))))
(k0 l3 s4 (IntKind.i64.wrap (i5 + (1 : Int))))))))
(some (A.one (C.d (D.v (.int .i64 (-1 : Int)))))))
def ref08_place (Φ : Phi) (fuel : Nat) (l1 : List (List D)) (s2 : List UInt8) : Option A :=
(iter (fun (x : List (List D) × List UInt8 × Int × Unit) (rec : (List (List D) × List UInt8 × Int × Unit) → Option A) => ref08_place_l0 Φ fuel (fun l3 s4 i5 => rec (l3, s4, i5, ())) x.1 x.2.1 x.2.2.1) fuel (l1, s2, (0 : Int), ()))
theorem ref08_place_eq (Φ : Phi) (fuel : Nat) (l1 : List (List D)) (s2 : List UInt8) : xbody TT0 Φ fuel sp_ref08_place Try.f69 [(A.one (C.d (D.sl l1))), (A.one (C.d (D.s s2)))] = ref08_place Φ fuel l1 s2 := by kernel_rfl
/-! internal_stringslite_Cut -/
def sp_internal_stringslite_Cut : List LSpec := []
def internal_stringslite_Cut (Φ : Phi) (fuel : Nat) (s1 : List UInt8) (sep2 : List UInt8) : Option A :=
((Φ i_internal_stringslite_Index [(A.one (C.d (D.s s1))), (A.one (C.d (D.s sep2)))]).bind fun r3 =>
((xAD r3).bind fun d4 =>
((xDI .i64 d4).bind fun n5 =>
(xite (decide ((0 : Int) ≤ n5))
((xSubS s1 (0 : Int) n5).bind fun s6 =>
((xSubS s1 (IntKind.i64.wrap (n5 + ((sep2).length : Int))) ((s1).length : Int)).bind fun s7 =>
(some (A.tup [(A.one (C.d (D.s s6))), (A.one (C.d (D.s s7))), (A.one (C.d (D.v (.bool true))))]))))
(some (A.tup [(A.one (C.d (D.s s1))), (A.one (C.d (D.s []))), (A.one (C.d (D.v (.bool false))))]))))))
theorem internal_stringslite_Cut_eq (Φ : Phi) (fuel : Nat) (s1 : List UInt8) (sep2 : List UInt8) : xbody TT0 Φ fuel sp_internal_stringslite_Cut Try.f70 [(A.one (C.d (D.s s1))), (A.one (C.d (D.s sep2)))] = internal_stringslite_Cut Φ fuel s1 sep2 := by kernel_rfl
/-! slices_stableCmpFunc_string -/
def sp_slices_stableCmpFunc_string : List LSpec := [{ n := 0, m := 63, toks := [], ks := [.hp, .slot 0 (.one .rc), .slot 1 (.one (.int .i64)), .slot 2 (.one (.hcl 66)), .slot 6 (.one (.int .i64)), .slot 7 (.one (.int .i64)), .slot 8 (.one (.int .i64))] }, { n := 0, m := 63, toks := [], ks := [.hp, .slot 0 (.one .rc), .slot 1 (.one (.int .i64)), .slot 2 (.one (.hcl 66)), .slot 6 (.one (.int .i64))] }, { n := 0, m := 63, toks := [], ks := [.hp, .slot 0 (.one .rc), .slot 1 (.one (.int .i64)), .slot 2 (.one (.hcl 66)), .slot 6 (.one (.int .i64)), .slot 7 (.one (.int .i64)), .slot 8 (.one (.int .i64))] }]
noncomputable def slices_stableCmpFunc_string_l2 (Φ : Phi) (Ψ : Psi) (fuel : Nat) (k1 : Hp → C → Int → Nat → Int → Option (A × Hp)) (k2 : Hp → C → Int → Nat → Int → Int → Int → Option (A × Hp)) (H18 : Hp) (data19 : C) (n20 : Int) (k21 : Nat) (blockSize22 : Int) (a23 : Int) (b24 : Int) : Option (A × Hp) :=
(xite (decide (b24 ≤ n20))
none
(xite (decide ((IntKind.i64.wrap (a23 + blockSize22)) < n20))
none
(xif (C.hok data19)
(k1 H18 data19 n20 k21 (IntKind.i64.wrap (blockSize22 * (2 : Int)))))))
noncomputable def slices_stableCmpFunc_string_l1 (Φ : Phi) (Ψ : Psi) (fuel : Nat) (k1 : Hp → C → Int → Nat → Int → Option (A × Hp)) (H13 : Hp) (data14 : C) (n15 : Int) (k16 : Nat) (blockSize17 : Int) : Option (A × Hp) :=
(xite (decide (blockSize17 < n15))
(xif (C.hok data14)
(iter (fun (x : Hp × C × Int × Nat × Int × Int × Int × Unit) (rec : (Hp × C × Int × Nat × Int × Int × Int × Unit) → Option (A × Hp)) => slices_stableCmpFunc_string_l2 Φ Ψ fuel k1 (fun H18 data19 n20 k21 blockSize22 a23 b24 => rec (H18, data19, n20, k21, blockSize22, a23, b24, ())) x.1 x.2.1 x.2.2.1 x.2.2.2.1 x.2.2.2.2.1 x.2.2.2.2.2.1 x.2.2.2.2.2.2.1) fuel (H13, data14, n15, k16, blockSize17, (0 : Int), (IntKind.i64.wrap ((2 : Int) * blockSize17)), ())))
(xif (xokR (A.tup []))
(some ((A.tup []), H13))))
noncomputable def slices_stableCmpFunc_string_l0 (Φ : Phi) (Ψ : Psi) (fuel : Nat) (k0 : Hp → C → Int → Nat → Int → Int → Int → Option (A × Hp)) (H4 : Hp) (data5 : C) (n6 : Int) (k7 : Nat) (blockSize8 : Int) (a9 : Int) (b10 : Int) : Option (A × Hp) :=
(xite (decide (b10 ≤ n6))
(xif (C.hok data5)
((Ψ i_slices_insertionSortCmpFunc_string [(A.one data5), (A.one (C.d (D.v (.int .i64 a9)))), (A.one (C.d (D.v (.int .i64 b10)))), (A.one (C.hclo 66 [k7]))] H4).bind fun q11 =>
(xif (C.hok data5)
(k0 q11.2 data5 n6 k7 blockSize8 b10 (IntKind.i64.wrap (b10 + blockSize8))))))
(xif (C.hok data5)
((Ψ i_slices_insertionSortCmpFunc_string [(A.one data5), (A.one (C.d (D.v (.int .i64 a9)))), (A.one (C.d (D.v (.int .i64 n6)))), (A.one (C.hclo 66 [k7]))] H4).bind fun q12 =>
(xif (C.hok data5)
(iter (fun (x : Hp × C × Int × Nat × Int × Unit) (rec : (Hp × C × Int × Nat × Int × Unit) → Option (A × Hp)) => slices_stableCmpFunc_string_l1 Φ Ψ fuel (fun H13 data14 n15 k16 blockSize17 => rec (H13, data14, n15, k16, blockSize17, ())) x.1 x.2.1 x.2.2.1 x.2.2.2.1 x.2.2.2.2.1) fuel (q12.2, data5, n6, k7, blockSize8, ()))))))
noncomputable def slices_stableCmpFunc_string (Φ : Phi) (Ψ : Psi) (fuel : Nat) (data1 : C) (n2 : Int) (k3 : Nat) (H : Hp) : Option (A × Hp) :=
(xif (C.hok data1)
(iter (fun (x : Hp × C × Int × Nat × Int × Int × Int × Unit) (rec : (Hp × C × Int × Nat × Int × Int × Int × Unit) → Option (A × Hp)) => slices_stableCmpFunc_string_l0 Φ Ψ fuel (fun H4 data5 n6 k7 blockSize8 a9 b10 => rec (H4, data5, n6, k7, blockSize8, a9, b10, ())) x.1 x.2.1 x.2.2.1 x.2.2.2.1 x.2.2.2.2.1 x.2.2.2.2.2.1 x.2.2.2.2.2.2.1) fuel (H, data1, n2, k3, (20 : Int), (0 : Int), (20 : Int), ())))
theorem slices_stableCmpFunc_string_eq (Φ : Phi) (Ψ : Psi) (fuel : Nat) (data1 : C) (n2 : Int) (k3 : Nat) (H : Hp) : xbodyH TT0 Φ Ψ sel_slices_stableCmpFunc_string fuel sp_slices_stableCmpFunc_string Try.f75 [(A.one data1), (A.one (C.d (D.v (.int .i64 n2)))), (A.one (C.hclo 66 [k3]))] H = slices_stableCmpFunc_string Φ Ψ fuel data1 n2 k3 H := by kernel_rfl
/-! internal_stringslite_Index -/
def sp_internal_stringslite_Index : List LSpec := []
def internal_stringslite_Index (Φ : Phi) (fuel : Nat) (s1 : List UInt8) (substr2 : List UInt8) : Option A :=
(xite (decide (((substr2).length : Int) = (0 : Int)))
(some (A.one (C.d (D.v (.int .i64 (0 : Int))))))
(xite (decide ((substr2 : List UInt8) = s1))
(some (A.one (C.d (D.v (.int .i64 (0 : Int))))))
(xite (decide (((substr2).length : Int) = (1 : Int)))
((xIdxS substr2 (0 : Int)).bind fun c3 =>
((Φ i_internal_stringslite_IndexByte [(A.one (C.d (D.s s1))), (A.one (C.d (D.v (.int .u8 (c3.toNat : Int)))))]).bind fun r4 =>
((xAD r4).bind fun d5 =>
((xDI .i64 d5).bind fun n6 =>
(some (A.one (C.d (D.v (.int .i64 n6)))))))))
(xite (decide (((s1).length : Int) ≤ ((substr2).length : Int)))
(some (A.one (C.d (D.v (.int .i64 (-1 : Int))))))
none))))
theorem internal_stringslite_Index_eq (Φ : Phi) (fuel : Nat) (s1 : List UInt8) (substr2 : List UInt8) : xbody TT0 Φ fuel sp_internal_stringslite_Index Try.f77 [(A.one (C.d (D.s s1))), (A.one (C.d (D.s substr2)))] = internal_stringslite_Index Φ fuel s1 substr2 := by kernel_rfl
/-! slices_insertionSortCmpFunc_string -/
def sp_slices_insertionSortCmpFunc_string : List LSpec := [{ n := 0, m := 53, toks := [], ks := [.hp, .slot 0 (.one .rc), .slot 1 (.one (.int .i64)), .slot 2 (.one (.int .i64)), .slot 3 (.one (.hcl 66)), .slot 8 (.one (.int .i64))] }, { n := 0, m := 53, toks := [], ks := [.hp, .slot 0 (.one .rc), .slot 1 (.one (.int .i64)), .slot 2 (.one (.int .i64)), .slot 3 (.one (.hcl 66)), .slot 8 (.one (.int .i64)), .slot 9 (.one (.int .i64))] }]
noncomputable def slices_insertionSortCmpFunc_string_l1 (Φ : Phi) (Ψ : Psi) (fuel : Nat) (k0 : Hp → C → Int → Int → Nat → Int → Option (A × Hp)) (k1 : Hp → C → Int → Int → Nat → Int → Int → Option (A × Hp)) (H11 : Hp) (data12 : C) (a13 : Int) (b14 : Int) (k15 : Nat) (i16 : Int) (j17 : Int) : Option (A × Hp) :=
(xite (decide (a13 < j17))
((hAddr data12 j17).bind fun p18 =>
((hLoad H11 p18).bind fun c19 =>
((hAddr data12 (IntKind.i64.wrap (j17 - (1 : Int)))).bind fun p20 =>
((hLoad H11 p20).bind fun c21 =>
(xif (C.hok c19)
(xif (C.hok c21)
((Ψ i_tables_Sort_1 [(A.one c19), (A.one c21), (A.one (C.hp k15 0))] H11).bind fun q22 =>
((xone q22.1).bind fun c23 =>
((xI .i64 (A.one c23)).bind fun n24 =>
(xite (decide (n24 < (0 : Int)))
((hAddr data12 (IntKind.i64.wrap (j17 - (1 : Int)))).bind fun p25 =>
((hLoad q22.2 p25).bind fun c26 =>
((hAddr data12 j17).bind fun p27 =>
((hLoad q22.2 p27).bind fun c28 =>
((hAddr data12 j17).bind fun p29 =>
((hStore q22.2 p29 c26).bind fun H30 =>
((hAddr data12 (IntKind.i64.wrap (j17 - (1 : Int)))).bind fun p31 =>
((hStore H30 p31 c28).bind fun H32 =>
(xif (C.hok data12)
(k1 H32 data12 a13 b14 k15 i16 (IntKind.i64.wrap (j17 - (1 : Int)))))))))))))
(xif (C.hok data12)
(k0 q22.2 data12 a13 b14 k15 (IntKind.i64.wrap (i16 + (1 : Int)))))))))))))))
(xif (C.hok data12)
(k0 H11 data12 a13 b14 k15 (IntKind.i64.wrap (i16 + (1 : Int))))))
noncomputable def slices_insertionSortCmpFunc_string_l0 (Φ : Phi) (Ψ : Psi) (fuel : Nat) (k0 : Hp → C → Int → Int → Nat → Int → Option (A × Hp)) (H5 : Hp) (data6 : C) (a7 : Int) (b8 : Int) (k9 : Nat) (i10 : Int) : Option (A × Hp) :=
(xite (decide (i10 < b8))
(xif (C.hok data6)
(iter (fun (x : Hp × C × Int × Int × Nat × Int × Int × Unit) (rec : (Hp × C × Int × Int × Nat × Int × Int × Unit) → Option (A × Hp)) => slices_insertionSortCmpFunc_string_l1 Φ Ψ fuel k0 (fun H11 data12 a13 b14 k15 i16 j17 => rec (H11, data12, a13, b14, k15, i16, j17, ())) x.1 x.2.1 x.2.2.1 x.2.2.2.1 x.2.2.2.2.1 x.2.2.2.2.2.1 x.2.2.2.2.2.2.1) fuel (H5, data6, a7, b8, k9, i10, i10, ())))
(xif (xokR (A.tup []))
(some ((A.tup []), H5))))
noncomputable def slices_insertionSortCmpFunc_string (Φ : Phi) (Ψ : Psi) (fuel : Nat) (data1 : C) (a2 : Int) (b3 : Int) (k4 : Nat) (H : Hp) : Option (A × Hp) :=
(xif (C.hok data1)
(iter (fun (x : Hp × C × Int × Int × Nat × Int × Unit) (rec : (Hp × C × Int × Int × Nat × Int × Unit) → Option (A × Hp)) => slices_insertionSortCmpFunc_string_l0 Φ Ψ fuel (fun H5 data6 a7 b8 k9 i10 => rec (H5, data6, a7, b8, k9, i10, ())) x.1 x.2.1 x.2.2.1 x.2.2.2.1 x.2.2.2.2.1 x.2.2.2.2.2.1) fuel (H, data1, a2, b3, k4, (IntKind.i64.wrap (a2 + (1 : Int))), ())))
theorem slices_insertionSortCmpFunc_string_eq (Φ : Phi) (Ψ : Psi) (fuel : Nat) (data1 : C) (a2 : Int) (b3 : Int) (k4 : Nat) (H : Hp) : xbodyH TT0 Φ Ψ sel_slices_insertionSortCmpFunc_string fuel sp_slices_insertionSortCmpFunc_string Try.f79 [(A.one data1), (A.one (C.d (D.v (.int .i64 a2)))), (A.one (C.d (D.v (.int .i64 b3)))), (A.one (C.hclo 66 [k4]))] H = slices_insertionSortCmpFunc_string Φ Ψ fuel data1 a2 b3 k4 H := by kernel_rfl
end Go.Av
