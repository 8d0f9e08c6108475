/-
  What each function gives when run. Printed by a program of mine (gen.py).
-/
import Derived.Test.YtnfbgleaodkjpaaHtTy
set_option linter.all false
set_option linter.unusedVariables false
set_option maxRecDepth 100000
namespace Go.Av
open Go.Proofs
/-! ref08_DropColumn -/
def sp_ref08_DropColumn : List LSpec := []
def ref08_DropColumn (Φ : Phi) (fuel : Nat) (t1 : List (List D)) (i2 : Int) : Option A :=
((Φ i_ref08_Check [(A.one (C.d (D.sl t1)))]).bind fun r3 =>
((xAD r3).bind fun d4 =>
((xDI .i64 d4).bind fun n5 =>
(xite (!decide (n5 = (0 : Int)))
(some (A.tup [(A.one (C.d (D.sl []))), (A.one (C.d (D.v (.int .i64 n5))))]))
((Φ i_ref08_Columns [(A.one (C.d (D.sl t1)))]).bind fun r6 =>
((xAD r6).bind fun d7 =>
((xDI .i64 d7).bind fun n8 =>
((Φ i_ref08_index [(A.one (C.d (D.v (.int .i64 i2)))), (A.one (C.d (D.v (.int .i64 n8))))]).bind fun r9 =>
((xAD r9).bind fun d10 =>
((xDI .i64 d10).bind fun n11 =>
(xite (decide (n11 < (0 : Int)))
(some (A.tup [(A.one (C.d (D.sl []))), (A.one (C.d (D.v (.int .i64 (7 : Int)))))]))
((Φ i_ref08_Columns [(A.one (C.d (D.sl t1)))]).bind fun r12 =>
((xAD r12).bind fun d13 =>
((xDI .i64 d13).bind fun n14 =>
(xite (decide (n14 = (1 : Int)))
(some (A.tup [(A.one (C.d (D.sl []))), (A.one (C.d (D.v (.int .i64 (2 : Int)))))]))
((Φ i_ref08_Transpose [(A.one (C.d (D.sl t1)))]).bind fun r15 =>
((xAD r15).bind fun d16 =>
((xDL d16).bind fun l17 =>
((Φ i_ref08_without [(A.one (C.d (D.sl l17))), (A.one (C.d (D.v (.int .i64 n11))))]).bind fun r18 =>
((xAD r18).bind fun d19 =>
((xDL d19).bind fun l20 =>
((Φ i_ref08_Transpose [(A.one (C.d (D.sl l20)))]).bind fun r21 =>
((xAD r21).bind fun d22 =>
((xDL d22).bind fun l23 =>
(some (A.tup [(A.one (C.d (D.sl l23))), (A.one (C.d (D.v (.int .i64 (0 : Int)))))]))))))))))))))))))))))))))
theorem ref08_DropColumn_eq (Φ : Phi) (fuel : Nat) (t1 : List (List D)) (i2 : Int) : xbody TT0 Φ fuel sp_ref08_DropColumn Try.f41 [(A.one (C.d (D.sl t1))), (A.one (C.d (D.v (.int .i64 i2))))] = ref08_DropColumn Φ fuel t1 i2 := by kernel_rfl
/-! tables_Sort -/
def sp_tables_Sort : List LSpec := []
noncomputable def tables_Sort (Φ : Phi) (Ψ : Psi) (fuel : Nat) (t1 : List (List D)) (column2 : Int) (H : Hp) : Option (A × Hp) :=
((hPush H ⟨[(C.d (D.v (.int .i64 column2)))], true⟩).bind fun H3 =>
((Φ i_tables_Check [(A.one (C.d (D.sl t1)))]).bind fun r4 =>
((xAD r4).bind fun d5 =>
((xDI .i64 d5).bind fun n6 =>
(xite (!decide (n6 = (0 : Int)))
(xif (xokR (A.tup [(A.one (C.full [])), (A.one (C.d (D.v (.int .i64 n6))))]))
(some ((A.tup [(A.one (C.full [])), (A.one (C.d (D.v (.int .i64 n6))))]), H3)))
((hLoad H3 (C.hp H.length 0)).bind fun c7 =>
((xI .i64 (A.one c7)).bind fun n8 =>
((Φ i_tables_columns [(A.one (C.d (D.sl t1)))]).bind fun r9 =>
((xAD r9).bind fun d10 =>
((xDI .i64 d10).bind fun n11 =>
((Φ i_tables_place [(A.one (C.d (D.v (.int .i64 n8)))), (A.one (C.d (D.v (.int .i64 n11))))]).bind fun r12 =>
((xAD r12).bind fun d13 =>
((xDI .i64 d13).bind fun n14 =>
((hStore H3 (C.hp H.length 0) (C.d (D.v (.int .i64 n14)))).bind fun H15 =>
((hLoad H15 (C.hp H.length 0)).bind fun c16 =>
((xI .i64 (A.one c16)).bind fun n17 =>
(xite (decide (n17 < (0 : Int)))
(xif (xokR (A.tup [(A.one (C.full [])), (A.one (C.d (D.v (.int .i64 (7 : Int)))))]))
(some ((A.tup [(A.one (C.full [])), (A.one (C.d (D.v (.int .i64 (7 : Int)))))]), H15)))
((Ψ i_tables_clone [(A.one (C.d (D.sl t1)))] H15).bind fun q18 =>
((xone q18.1).bind fun c19 =>
(xif (C.hok c19)
((Ψ i_slices_SortStableFunc_string_string [(A.one c19), (A.one (C.hclo 66 [H.length]))] q18.2).bind fun q20 =>
(xif (xokR (A.tup [(A.one c19), (A.one (C.d (D.v (.int .i64 (0 : Int)))))]))
(some ((A.tup [(A.one c19), (A.one (C.d (D.v (.int .i64 (0 : Int)))))]), q20.2))))))))))))))))))))))))
theorem tables_Sort_eq (Φ : Phi) (Ψ : Psi) (fuel : Nat) (t1 : List (List D)) (column2 : Int) (H : Hp) : xbodyH TT0 Φ Ψ sel_tables_Sort fuel sp_tables_Sort Try.f42 [(A.one (C.d (D.sl t1))), (A.one (C.d (D.v (.int .i64 column2))))] H = tables_Sort Φ Ψ fuel t1 column2 H := by kernel_rfl
/-! ref08_Sort -/
def sp_ref08_Sort : List LSpec := [{ n := 0, m := 69, toks := [], ks := [.hp, .slot 7 (.one (.int .i64)), .slot 8 (.one .rc), .slot 9 (.one (.int .i64))] }, { n := 0, m := 69, toks := [], ks := [.hp, .slot 7 (.one (.int .i64)), .slot 8 (.one .rc), .slot 9 (.one (.int .i64)), .slot 10 (.one (.int .i64))] }]
noncomputable def ref08_Sort_l1 (Φ : Phi) (Ψ : Psi) (fuel : Nat) (k0 : Hp → Int → C → Int → Option (A × Hp)) (k1 : Hp → Int → C → Int → Int → Option (A × Hp)) (H19 : Hp) (k20 : Int) (out21 : C) (n22 : Int) (i23 : Int) : Option (A × Hp) :=
((hLen out21).bind fun n24 =>
(xite (decide (i23 < ((n24 : Nat) : Int)))
((hAddr out21 (IntKind.i64.wrap (i23 - (1 : Int)))).bind fun p25 =>
((hLoad H19 p25).bind fun c26 =>
((hAddr c26 k20).bind fun p27 =>
((hLoad H19 p27).bind fun c28 =>
((xS (A.one c28)).bind fun s29 =>
((hAddr out21 i23).bind fun p30 =>
((hLoad H19 p30).bind fun c31 =>
((hAddr c31 k20).bind fun p32 =>
((hLoad H19 p32).bind fun c33 =>
((xS (A.one c33)).bind fun s34 =>
(xite (!(Op.bytesLess s29 s34 || decide ((s29 : List UInt8) = s34)))
((hAddr out21 i23).bind fun p35 =>
((hLoad H19 p35).bind fun c36 =>
((hAddr out21 (IntKind.i64.wrap (i23 - (1 : Int)))).bind fun p37 =>
((hLoad H19 p37).bind fun c38 =>
((hAddr out21 (IntKind.i64.wrap (i23 - (1 : Int)))).bind fun p39 =>
((hStore H19 p39 c36).bind fun H40 =>
((hAddr out21 i23).bind fun p41 =>
((hStore H40 p41 c38).bind fun H42 =>
(xif (C.hok out21)
(k1 H42 k20 out21 n22 (IntKind.i64.wrap (i23 + (1 : Int)))))))))))))
(xif (C.hok out21)
(k1 H19 k20 out21 n22 (IntKind.i64.wrap (i23 + (1 : Int))))))))))))))))
(xif (C.hok out21)
(k0 H19 k20 out21 (IntKind.i64.wrap (n22 + (1 : Int)))))))
noncomputable def ref08_Sort_l0 (Φ : Phi) (Ψ : Psi) (fuel : Nat) (k0 : Hp → Int → C → Int → Option (A × Hp)) (H14 : Hp) (k15 : Int) (out16 : C) (n17 : Int) : Option (A × Hp) :=
((hLen out16).bind fun n18 =>
(xite (decide (n17 < ((n18 : Nat) : Int)))
(xif (C.hok out16)
(iter (fun (x : Hp × Int × C × Int × Int × Unit) (rec : (Hp × Int × C × Int × Int × Unit) → Option (A × Hp)) => ref08_Sort_l1 Φ Ψ fuel k0 (fun H19 k20 out21 n22 i23 => rec (H19, k20, out21, n22, i23, ())) x.1 x.2.1 x.2.2.1 x.2.2.2.1 x.2.2.2.2.1) fuel (H14, k15, out16, n17, (1 : Int), ())))
(xif (xokR (A.tup [(A.one out16), (A.one (C.d (D.v (.int .i64 (0 : Int)))))]))
(some ((A.tup [(A.one out16), (A.one (C.d (D.v (.int .i64 (0 : Int)))))]), H14)))))
noncomputable def ref08_Sort (Φ : Phi) (Ψ : Psi) (fuel : Nat) (t1 : List (List D)) (column2 : Int) (H : Hp) : Option (A × Hp) :=
((Φ i_ref08_Check [(A.one (C.d (D.sl t1)))]).bind fun r3 =>
((xAD r3).bind fun d4 =>
((xDI .i64 d4).bind fun n5 =>
(xite (!decide (n5 = (0 : Int)))
(xif (xokR (A.tup [(A.one (C.full [])), (A.one (C.d (D.v (.int .i64 n5))))]))
(some ((A.tup [(A.one (C.full [])), (A.one (C.d (D.v (.int .i64 n5))))]), H)))
((Φ i_ref08_Columns [(A.one (C.d (D.sl t1)))]).bind fun r6 =>
((xAD r6).bind fun d7 =>
((xDI .i64 d7).bind fun n8 =>
((Φ i_ref08_index [(A.one (C.d (D.v (.int .i64 column2)))), (A.one (C.d (D.v (.int .i64 n8))))]).bind fun r9 =>
((xAD r9).bind fun d10 =>
((xDI .i64 d10).bind fun n11 =>
(xite (decide (n11 < (0 : Int)))
(xif (xokR (A.tup [(A.one (C.full [])), (A.one (C.d (D.v (.int .i64 (7 : Int)))))]))
(some ((A.tup [(A.one (C.full [])), (A.one (C.d (D.v (.int .i64 (7 : Int)))))]), H)))
((Ψ i_ref08_table [(A.one (C.d (D.sl t1)))] H).bind fun q12 =>
((xone q12.1).bind fun c13 =>
(xif (C.hok c13)
(iter (fun (x : Hp × Int × C × Int × Unit) (rec : (Hp × Int × C × Int × Unit) → Option (A × Hp)) => ref08_Sort_l0 Φ Ψ fuel (fun H14 k15 out16 n17 => rec (H14, k15, out16, n17, ())) x.1 x.2.1 x.2.2.1 x.2.2.2.1) fuel (q12.2, n11, c13, (0 : Int), ()))))))))))))))))
theorem ref08_Sort_eq (Φ : Phi) (Ψ : Psi) (fuel : Nat) (t1 : List (List D)) (column2 : Int) (H : Hp) : xbodyH TT0 Φ Ψ sel_ref08_Sort fuel sp_ref08_Sort Try.f43 [(A.one (C.d (D.sl t1))), (A.one (C.d (D.v (.int .i64 column2))))] H = ref08_Sort Φ Ψ fuel t1 column2 H := by kernel_rfl
/-! law08_count -/
def sp_law08_count : List LSpec := [{ n := 0, m := 22, toks := [], ks := [.slot 0 (.one .sl), .slot 1 (.one .sl), .slot 5 (.one (.int .i64)), .slot 6 (.one (.int .i64))] }]
def law08_count_l0 (Φ : Phi) (fuel : Nat) (k0 : List (List D) → List (List D) → Int → Int → Option A) (t3 : List (List D)) (row4 : List (List D)) (n5 : Int) (i6 : Int) : Option A :=
(xite (decide (i6 < ((t3).length : Int)))
((xElem 1 t3 i6).bind fun c7 =>
(xif (decide (1 ≤ (c7).length))
((xDL (List.getD c7 0 (D.s []))).bind fun l8 =>
((Φ i_ref08_Texts [(A.one (C.d (D.sl l8))), (A.one (C.d (D.sl row4)))]).bind fun r9 =>
((xAD r9).bind fun d10 =>
((xDB d10).bind fun b11 =>
(xite b11
(k0 t3 row4 (IntKind.i64.wrap (n5 + (1 : Int))) (IntKind.i64.wrap (i6 + (1 : Int))))
(k0 t3 row4 n5 (IntKind.i64.wrap (i6 + (1 : Int)))))))))))
(some (A.one (C.d (D.v (.int .i64 n5))))))
def law08_count (Φ : Phi) (fuel : Nat) (t1 : List (List D)) (row2 : List (List D)) : Option A :=
(iter (fun (x : List (List D) × List (List D) × Int × Int × Unit) (rec : (List (List D) × List (List D) × Int × Int × Unit) → Option A) => law08_count_l0 Φ fuel (fun t3 row4 n5 i6 => rec (t3, row4, n5, i6, ())) x.1 x.2.1 x.2.2.1 x.2.2.2.1) fuel (t1, row2, (0 : Int), (0 : Int), ()))
theorem law08_count_eq (Φ : Phi) (fuel : Nat) (t1 : List (List D)) (row2 : List (List D)) : xbody TT0 Φ fuel sp_law08_count Try.f44 [(A.one (C.d (D.sl t1))), (A.one (C.d (D.sl row2)))] = law08_count Φ fuel t1 row2 := by kernel_rfl
/-! tables_columns -/
def sp_tables_columns : List LSpec := []
def tables_columns (Φ : Phi) (fuel : Nat) (t1 : List (List D)) : Option A :=
(xite (decide (((t1).length : Int) = (0 : Int)))
(some (A.one (C.d (D.v (.int .i64 (0 : Int))))))
((xElem 1 t1 (0 : Int)).bind fun c2 =>
(xif (decide (1 ≤ (c2).length))
((xDL (List.getD c2 0 (D.s []))).bind fun l3 =>
(some (A.one (C.d (D.v (.int .i64 ((l3).length : Int))))))))))
theorem tables_columns_eq (Φ : Phi) (fuel : Nat) (t1 : List (List D)) : xbody TT0 Φ fuel sp_tables_columns Try.f45 [(A.one (C.d (D.sl t1)))] = tables_columns Φ fuel t1 := by kernel_rfl
/-! slices_Clone_string_string -/
def sp_slices_Clone_string_string : List LSpec := []
noncomputable def slices_Clone_string_string (Φ : Phi) (Ψ : Psi) (fuel : Nat) (s1 : C) (H : Hp) : Option (A × Hp) :=
((hLen s1).bind fun n2 =>
(xnil n2
(xif (xokR (A.one (C.full [])))
(some ((A.one (C.full [])), H)))
((hCells H s1).bind fun ys3 =>
(xif (decide (((([] : List (List D)) : List (List D)).length + ys3.length) * 16 ≤ 140737488355328))
((hApp H (C.full ([] : List (List D))) ys3).bind fun q4 =>
(xif (xokR (A.one q4.1))
(some ((A.one q4.1), q4.2))))))))
theorem slices_Clone_string_string_eq (Φ : Phi) (Ψ : Psi) (fuel : Nat) (s1 : C) (H : Hp) : xbodyH TT0 Φ Ψ sel_slices_Clone_string_string fuel sp_slices_Clone_string_string Try.f46 [(A.one s1)] H = slices_Clone_string_string Φ Ψ fuel s1 H := by kernel_rfl
/-! ref08_Columns -/
def sp_ref08_Columns : List LSpec := []
def ref08_Columns (Φ : Phi) (fuel : Nat) (t1 : List (List D)) : Option A :=
(xite (decide (((t1).length : Int) = (0 : Int)))
(some (A.one (C.d (D.v (.int .i64 (0 : Int))))))
((xElem 1 t1 (0 : Int)).bind fun c2 =>
(xif (decide (1 ≤ (c2).length))
((xDL (List.getD c2 0 (D.s []))).bind fun l3 =>
(some (A.one (C.d (D.v (.int .i64 ((l3).length : Int))))))))))
theorem ref08_Columns_eq (Φ : Phi) (fuel : Nat) (t1 : List (List D)) : xbody TT0 Φ fuel sp_ref08_Columns Try.f47 [(A.one (C.d (D.sl t1)))] = ref08_Columns Φ fuel t1 := by kernel_rfl
/-! ref08_list -/
def sp_ref08_list : List LSpec := []
noncomputable def ref08_list (Φ : Phi) (Ψ : Psi) (fuel : Nat) (l1 : C) (H : Hp) : Option (A × Hp) :=
((hCells H l1).bind fun ys2 =>
(xif (decide (((([] : List (List D)) : List (List D)).length + ys2.length) * 16 ≤ 140737488355328))
((hApp H (C.full ([] : List (List D))) ys2).bind fun q3 =>
(xif (xokR (A.one q3.1))
(some ((A.one q3.1), q3.2))))))
theorem ref08_list_eq (Φ : Phi) (Ψ : Psi) (fuel : Nat) (l1 : C) (H : Hp) : xbodyH TT0 Φ Ψ sel_ref08_list fuel sp_ref08_list Try.f48 [(A.one l1)] H = ref08_list Φ Ψ fuel l1 H := by kernel_rfl
/-! tables_entry -/
def sp_tables_entry : List LSpec := []
noncomputable def tables_entry (Φ : Phi) (Ψ : Psi) (fuel : Nat) (l1 : C) (s2 : List UInt8) (H : Hp) : Option (A × Hp) :=
((hNilC l1).bind fun p3 =>
((hLoad H p3).bind fun c4 =>
((hLow H 3 c4).bind fun d5 =>
((Φ i_slices_Index_string_string [(A.one (C.d d5)), (A.one (C.d (D.s s2)))]).bind fun r6 =>
((xAD r6).bind fun d7 =>
((xDI .i64 d7).bind fun n8 =>
(xite (decide (n8 < (0 : Int)))
((hNilC l1).bind fun p9 =>
((hLoad H p9).bind fun c10 =>
((hLen c10).bind fun n11 =>
((hNilC l1).bind fun p12 =>
((hLoad H p12).bind fun c13 =>
((hLen c13).bind fun n14 =>
((hCells H (C.full ([[(D.s s2)]] : List (List D)))).bind fun ys15 =>
(xif (decide ((n14 + ys15.length) * 16 ≤ 140737488355328))
((hApp H c13 ys15).bind fun q16 =>
((hNilC l1).bind fun p17 =>
((hStore q16.2 p17 q16.1).bind fun H18 =>
(xif (xokR (A.one (C.d (D.v (.int .i64 ((n11 : Nat) : Int))))))
(some ((A.one (C.d (D.v (.int .i64 ((n11 : Nat) : Int))))), H18))))))))))))))
(xif (xokR (A.one (C.d (D.v (.int .i64 n8)))))
(some ((A.one (C.d (D.v (.int .i64 n8)))), H))))))))))
theorem tables_entry_eq (Φ : Phi) (Ψ : Psi) (fuel : Nat) (l1 : C) (s2 : List UInt8) (H : Hp) : xbodyH TT0 Φ Ψ sel_tables_entry fuel sp_tables_entry Try.f49 [(A.one l1), (A.one (C.d (D.s s2)))] H = tables_entry Φ Ψ fuel l1 s2 H := by kernel_rfl
/-! ref08_distinct -/
def sp_ref08_distinct : List LSpec := [{ n := 1, m := 26, toks := [(9, .slot 3)], ks := [.slot 0 (.one .sl), .slot 3 (.one (.app 0 9)), .slot 4 (.one (.int .i64))] }]
def ref08_distinct_l0 (Φ : Phi) (fuel : Nat) (k0 : List (List D) → List (List D) → Int → Option A) (l5 : List (List D)) (out6 : List (List D)) (i7 : Int) : Option A :=
(xite (decide (i7 < ((l5).length : Int)))
((xElem 1 l5 i7).bind fun c8 =>
(xif (decide (1 ≤ (c8).length))
((xDS (List.getD c8 0 (D.s []))).bind fun s9 =>
((Φ i_ref08_place [(A.one (C.d (D.sl out6))), (A.one (C.d (D.s s9)))]).bind fun r10 =>
((xAD r10).bind fun d11 =>
((xDI .i64 d11).bind fun n12 =>
(xite (decide (n12 < (0 : Int)))
((xElem 1 l5 i7).bind fun c13 =>
(xif (decide (1 ≤ (c13).length))
((xDS (List.getD c13 0 (D.s []))).bind fun s14 =>
((xApp 1 16 (out6.length) out6 ([[(D.s s14)]] : List (List D))).bind fun l15 =>
(xif (decide (l15.length = (l15 : List (List D)).length))
(k0 l5 l15 (IntKind.i64.wrap (i7 + (1 : Int)))))))))
(xif (decide (out6.length = (out6 : List (List D)).length))
(k0 l5 out6 (IntKind.i64.wrap (i7 + (1 : Int))))))))))))
(some (A.one (C.d (D.sl out6)))))
def ref08_distinct (Φ : Phi) (fuel : Nat) (l1 : List (List D)) : Option A :=
(xif (decide (([] : List (List D)).length = ([] : List (List D)).length))
(iter (fun (x : List (List D) × List (List D) × Int × Unit) (rec : (List (List D) × List (List D) × Int × Unit) → Option A) => ref08_distinct_l0 Φ fuel (fun l5 out6 i7 => rec (l5, out6, i7, ())) x.1 x.2.1 x.2.2.1) fuel (l1, [], (0 : Int), ())))
theorem ref08_distinct_eq (Φ : Phi) (fuel : Nat) (l1 : List (List D)) : xbody TT0 Φ fuel sp_ref08_distinct Try.f50 [(A.one (C.d (D.sl l1)))] = ref08_distinct Φ fuel l1 := by kernel_rfl
/-! ref08_column -/
def sp_ref08_column : List LSpec := [{ n := 0, m := 24, toks := [], ks := [.hp, .slot 0 (.one .rc), .slot 1 (.one (.int .i64)), .slot 5 (.one .rc), .slot 6 (.one (.int .i64))] }]
noncomputable def ref08_column_l0 (Φ : Phi) (Ψ : Psi) (fuel : Nat) (k0 : Hp → C → Int → C → Int → Option (A × Hp)) (H8 : Hp) (t9 : C) (k10 : Int) (out11 : C) (i12 : Int) : Option (A × Hp) :=
((hLen t9).bind fun n13 =>
(xite (decide (i12 < ((n13 : Nat) : Int)))
((hAddr t9 i12).bind fun p14 =>
((hLoad H8 p14).bind fun c15 =>
((hAddr c15 k10).bind fun p16 =>
((hLoad H8 p16).bind fun c17 =>
((xS (A.one c17)).bind fun s18 =>
((hLen out11).bind fun n19 =>
((hCells H8 (C.full ([[(D.s s18)]] : List (List D)))).bind fun ys20 =>
(xif (decide ((n19 + ys20.length) * 16 ≤ 140737488355328))
((hApp H8 out11 ys20).bind fun q21 =>
(xif (C.hok t9)
(xif (C.hok q21.1)
(k0 q21.2 t9 k10 q21.1 (IntKind.i64.wrap (i12 + (1 : Int)))))))))))))))
(xif (xokR (A.one out11))
(some ((A.one out11), H8)))))
noncomputable def ref08_column (Φ : Phi) (Ψ : Psi) (fuel : Nat) (t1 : C) (k2 : Int) (H : Hp) : Option (A × Hp) :=
(xif (C.hok t1)
(iter (fun (x : Hp × C × Int × C × Int × Unit) (rec : (Hp × C × Int × C × Int × Unit) → Option (A × Hp)) => ref08_column_l0 Φ Ψ fuel (fun H8 t9 k10 out11 i12 => rec (H8, t9, k10, out11, i12, ())) x.1 x.2.1 x.2.2.1 x.2.2.2.1 x.2.2.2.2.1) fuel (H, t1, k2, (C.full []), (0 : Int), ())))
theorem ref08_column_eq (Φ : Phi) (Ψ : Psi) (fuel : Nat) (t1 : C) (k2 : Int) (H : Hp) : xbodyH TT0 Φ Ψ sel_ref08_column fuel sp_ref08_column Try.f51 [(A.one t1), (A.one (C.d (D.v (.int .i64 k2))))] H = ref08_column Φ Ψ fuel t1 k2 H := by kernel_rfl
/-! ref08_value -/
def sp_ref08_value : List LSpec := [{ n := 0, m := 38, toks := [], ks := [.slot 0 (.one .sl), .slot 1 (.one .str), .slot 2 (.one .str), .slot 7 (.one (.int .i64))] }]
def ref08_value_l0 (Φ : Phi) (fuel : Nat) (k0 : List (List D) → List UInt8 → List UInt8 → Int → Option A) (t4 : List (List D)) (key5 : List UInt8) (name6 : List UInt8) (i7 : Int) : Option A :=
(xite (decide (i7 < ((t4).length : Int)))
((xElem 1 t4 i7).bind fun c8 =>
(xif (decide (1 ≤ (c8).length))
((xDL (List.getD c8 0 (D.s []))).bind fun l9 =>
((xElem 1 l9 (0 : Int)).bind fun c10 =>
(xif (decide (1 ≤ (c10).length))
((xDS (List.getD c10 0 (D.s []))).bind fun s11 =>
(xite (decide ((s11 : List UInt8) = key5))
((xElem 1 t4 i7).bind fun c12 =>
(xif (decide (1 ≤ (c12).length))
((xDL (List.getD c12 0 (D.s []))).bind fun l13 =>
((xElem 1 l13 (1 : Int)).bind fun c14 =>
(xif (decide (1 ≤ (c14).length))
((xDS (List.getD c14 0 (D.s []))).bind fun s15 =>
(xite (decide ((s15 : List UInt8) = name6))
((xElem 1 t4 i7).bind fun c16 =>
(xif (decide (1 ≤ (c16).length))
((xDL (List.getD c16 0 (D.s []))).bind fun l17 =>
((xElem 1 l17 (2 : Int)).bind fun c18 =>
(xif (decide (1 ≤ (c18).length))
((xDS (List.getD c18 0 (D.s []))).bind fun s19 =>
(some (A.one (C.d (D.s s19))))))))))
(k0 t4 key5 name6 (IntKind.i64.wrap (i7 + (1 : Int)))))))))))
(k0 t4 key5 name6 (IntKind.i64.wrap (i7 + (1 : Int)))))))))))
(some (A.one (C.d (D.s [])))))
def ref08_value (Φ : Phi) (fuel : Nat) (t1 : List (List D)) (key2 : List UInt8) (name3 : List UInt8) : Option A :=
(iter (fun (x : List (List D) × List UInt8 × List UInt8 × Int × Unit) (rec : (List (List D) × List UInt8 × List UInt8 × Int × Unit) → Option A) => ref08_value_l0 Φ fuel (fun t4 key5 name6 i7 => rec (t4, key5, name6, i7, ())) x.1 x.2.1 x.2.2.1 x.2.2.2.1) fuel (t1, key2, name3, (0 : Int), ()))
theorem ref08_value_eq (Φ : Phi) (fuel : Nat) (t1 : List (List D)) (key2 : List UInt8) (name3 : List UInt8) : xbody TT0 Φ fuel sp_ref08_value Try.f52 [(A.one (C.d (D.sl t1))), (A.one (C.d (D.s key2))), (A.one (C.d (D.s name3)))] = ref08_value Φ fuel t1 key2 name3 := by kernel_rfl
/-! tables_place -/
def sp_tables_place : List LSpec := []
def tables_place (Φ : Phi) (fuel : Nat) (i1 : Int) (n2 : Int) : Option A :=
(xite (decide ((0 : Int) ≤ i1))
(xite (decide (i1 < n2))
(some (A.one (C.d (D.v (.int .i64 i1)))))
(xite (decide (i1 < (0 : Int)))
(xite (decide ((IntKind.i64.wrap (0 - n2)) ≤ i1))
(some (A.one (C.d (D.v (.int .i64 (IntKind.i64.wrap (n2 + i1)))))))
(some (A.one (C.d (D.v (.int .i64 (-1 : Int)))))))
(some (A.one (C.d (D.v (.int .i64 (-1 : Int))))))))
(xite (decide (i1 < (0 : Int)))
(xite (decide ((IntKind.i64.wrap (0 - n2)) ≤ i1))
(some (A.one (C.d (D.v (.int .i64 (IntKind.i64.wrap (n2 + i1)))))))
(some (A.one (C.d (D.v (.int .i64 (-1 : Int)))))))
(some (A.one (C.d (D.v (.int .i64 (-1 : Int))))))))
theorem tables_place_eq (Φ : Phi) (fuel : Nat) (i1 : Int) (n2 : Int) : xbody TT0 Φ fuel sp_tables_place Try.f53 [(A.one (C.d (D.v (.int .i64 i1)))), (A.one (C.d (D.v (.int .i64 n2))))] = tables_place Φ fuel i1 n2 := by kernel_rfl
/-! tables_clone -/
def sp_tables_clone : List LSpec := [{ n := 0, m := 30, toks := [], ks := [.hp, .slot 3 (.one .rc), .slot 9 (.one .sl), .slot 10 (.one (.int .i64)), .slot 11 (.one (.int .i64))] }]
noncomputable def tables_clone_l0 (Φ : Phi) (Ψ : Psi) (fuel : Nat) (k0 : Hp → C → List (List D) → Int → Int → Option (A × Hp)) (H3 : Hp) (out4 : C) (l5 : List (List D)) (i6 : Int) (i7 : Int) : Option (A × Hp) :=
(xite (decide (i7 < i6))
((hAddr (C.d (D.sl l5)) i7).bind fun p8 =>
((hLoad H3 p8).bind fun c9 =>
((hLen c9).bind fun n10 =>
(xif (decide (((n10 : Nat) : Int) = ((n10 : Nat) : Int)) && (decide (0 ≤ ((n10 : Nat) : Int)) && (decide (((n10 : Nat) : Int) ≤ 9223372036854775807) && decide (16 * ((n10 : Nat) : Int) ≤ 281474976710656))))
((hPush H3 ⟨List.replicate (((n10 : Nat) : Int)).toNat (C.d (D.s [])), true⟩).bind fun H11 =>
((hAddr out4 i7).bind fun p12 =>
((hStore H11 p12 (C.hs H3.length 0 ((((n10 : Nat) : Int)).toNat))).bind fun H13 =>
((hAddr out4 i7).bind fun p14 =>
((hLoad H13 p14).bind fun c15 =>
((hCells H13 c9).bind fun ys16 =>
((hCopy H13 c15 ys16).bind fun q17 =>
(xif (C.hok out4)
(k0 q17.2 out4 l5 i6 (IntKind.i64.wrap (i7 + (1 : Int))))))))))))))))
(xif (xokR (A.one out4))
(some ((A.one out4), H3))))
noncomputable def tables_clone (Φ : Phi) (Ψ : Psi) (fuel : Nat) (t1 : List (List D)) (H : Hp) : Option (A × Hp) :=
(xif (decide ((((t1 : List (List D)).length : Nat) : Int) = (((t1 : List (List D)).length : Nat) : Int)) && (decide (0 ≤ (((t1 : List (List D)).length : Nat) : Int)) && (decide ((((t1 : List (List D)).length : Nat) : Int) ≤ 9223372036854775807) && decide (24 * (((t1 : List (List D)).length : Nat) : Int) ≤ 281474976710656))))
((hPush H ⟨List.replicate ((((t1 : List (List D)).length : Nat) : Int)).toNat (C.full []), true⟩).bind fun H2 =>
(iter (fun (x : Hp × C × List (List D) × Int × Int × Unit) (rec : (Hp × C × List (List D) × Int × Int × Unit) → Option (A × Hp)) => tables_clone_l0 Φ Ψ fuel (fun H3 out4 l5 i6 i7 => rec (H3, out4, l5, i6, i7, ())) x.1 x.2.1 x.2.2.1 x.2.2.2.1 x.2.2.2.2.1) fuel (H2, (C.hs H.length 0 (((((t1 : List (List D)).length : Nat) : Int)).toNat)), t1, (((t1 : List (List D)).length : Nat) : Int), (0 : Int), ()))))
theorem tables_clone_eq (Φ : Phi) (Ψ : Psi) (fuel : Nat) (t1 : List (List D)) (H : Hp) : xbodyH TT0 Φ Ψ sel_tables_clone fuel sp_tables_clone Try.f54 [(A.one (C.d (D.sl t1)))] H = tables_clone Φ Ψ fuel t1 H := by kernel_rfl
/-! strings_Cut -/
def sp_strings_Cut : List LSpec := []
def strings_Cut (Φ : Phi) (fuel : Nat) (s1 : List UInt8) (sep2 : List UInt8) : Option A :=
((Φ i_internal_stringslite_Cut [(A.one (C.d (D.s s1))), (A.one (C.d (D.s sep2)))]).bind fun r3 =>
((xtup r3 0).bind fun r4 =>
((xAD r4).bind fun d5 =>
((xDS d5).bind fun s6 =>
((xtup r3 1).bind fun r7 =>
((xAD r7).bind fun d8 =>
((xDS d8).bind fun s9 =>
((xtup r3 2).bind fun r10 =>
((xAD r10).bind fun d11 =>
((xDB d11).bind fun b12 =>
(some (A.tup [(A.one (C.d (D.s s6))), (A.one (C.d (D.s s9))), (A.one (C.d (D.v (.bool b12))))]))))))))))))
theorem strings_Cut_eq (Φ : Phi) (fuel : Nat) (s1 : List UInt8) (sep2 : List UInt8) : xbody TT0 Φ fuel sp_strings_Cut Try.f55 [(A.one (C.d (D.s s1))), (A.one (C.d (D.s sep2)))] = strings_Cut Φ fuel s1 sep2 := by kernel_rfl
/-! slices_Replace_string_string -/
def sp_slices_Replace_string_string : List LSpec := []
noncomputable def slices_Replace_string_string (Φ : Phi) (Ψ : Psi) (fuel : Nat) (s1 : C) (i2 : Int) (j3 : Int) (v4 : C) (H : Hp) : Option (A × Hp) :=
((hLen s1).bind fun n5 =>
((hSub s1 i2 j3).bind fun c6 =>
(xite (decide (i2 = j3))
none
((hLen s1).bind fun n7 =>
(xite (decide (j3 = ((n7 : Nat) : Int)))
((hLen s1).bind fun n8 =>
((hSub s1 (0 : Int) i2).bind fun c9 =>
((hLen c9).bind fun n10 =>
((hCells H v4).bind fun ys11 =>
(xif (decide ((n10 + ys11.length) * 16 ≤ 140737488355328))
((hApp H c9 ys11).bind fun q12 =>
((hLen q12.1).bind fun n13 =>
((hLen s1).bind fun n14 =>
(xite (decide (((n13 : Nat) : Int) < ((n14 : Nat) : Int)))
((hLen q12.1).bind fun n15 =>
((hLen s1).bind fun n16 =>
((hSub s1 ((n15 : Nat) : Int) ((n16 : Nat) : Int)).bind fun c17 =>
((hClear q12.2 (C.d (D.s [])) c17).bind fun H18 =>
(xif (xokR (A.one q12.1))
(some ((A.one q12.1), H18)))))))
(xif (xokR (A.one q12.1))
(some ((A.one q12.1), q12.2))))))))))))
((hLen s1).bind fun n19 =>
((hSub s1 (0 : Int) i2).bind fun c20 =>
((hLen c20).bind fun n21 =>
((hLen v4).bind fun n22 =>
((hLen s1).bind fun n23 =>
((hSub s1 j3 ((n23 : Nat) : Int)).bind fun c24 =>
((hLen c24).bind fun n25 =>
((hCap H s1).bind fun n26 =>
(xite (decide (((n26 : Nat) : Int) < (IntKind.i64.wrap ((IntKind.i64.wrap (((n21 : Nat) : Int) + ((n22 : Nat) : Int))) + ((n25 : Nat) : Int)))))
((hLen s1).bind fun n27 =>
((hSub s1 (0 : Int) i2).bind fun c28 =>
((hLen c28).bind fun n29 =>
(xif (decide (0 ≤ (IntKind.i64.wrap ((IntKind.i64.wrap ((IntKind.i64.wrap (((n21 : Nat) : Int) + ((n22 : Nat) : Int))) + ((n25 : Nat) : Int))) - i2))) && decide ((n29 + ((IntKind.i64.wrap ((IntKind.i64.wrap ((IntKind.i64.wrap (((n21 : Nat) : Int) + ((n22 : Nat) : Int))) + ((n25 : Nat) : Int))) - i2))).toNat) * 16 ≤ 140737488355328))
((hAppZ H c28 ((IntKind.i64.wrap ((IntKind.i64.wrap ((IntKind.i64.wrap (((n21 : Nat) : Int) + ((n22 : Nat) : Int))) + ((n25 : Nat) : Int))) - i2))).toNat (C.d (D.s []))).bind fun q30 =>
((hLen q30.1).bind fun n31 =>
((hSub q30.1 i2 ((n31 : Nat) : Int)).bind fun c32 =>
((hCells q30.2 v4).bind fun ys33 =>
((hCopy q30.2 c32 ys33).bind fun q34 =>
((hLen v4).bind fun n35 =>
((hLen q30.1).bind fun n36 =>
((hSub q30.1 (IntKind.i64.wrap (i2 + ((n35 : Nat) : Int))) ((n36 : Nat) : Int)).bind fun c37 =>
((hLen s1).bind fun n38 =>
((hSub s1 j3 ((n38 : Nat) : Int)).bind fun c39 =>
((hCells q34.2 c39).bind fun ys40 =>
((hCopy q34.2 c37 ys40).bind fun q41 =>
(xif (xokR (A.one q30.1))
(some ((A.one q30.1), q41.2)))))))))))))))))))
((hLen s1).bind fun n42 =>
((hSub s1 (0 : Int) (IntKind.i64.wrap ((IntKind.i64.wrap (((n21 : Nat) : Int) + ((n22 : Nat) : Int))) + ((n25 : Nat) : Int)))).bind fun c43 =>
((hLen v4).bind fun n44 =>
(xite (decide ((IntKind.i64.wrap (i2 + ((n44 : Nat) : Int))) ≤ j3))
((hLen c43).bind fun n45 =>
((hSub c43 i2 ((n45 : Nat) : Int)).bind fun c46 =>
((hCells H v4).bind fun ys47 =>
((hCopy H c46 ys47).bind fun q48 =>
((hLen v4).bind fun n49 =>
((hLen c43).bind fun n50 =>
((hSub c43 (IntKind.i64.wrap (i2 + ((n49 : Nat) : Int))) ((n50 : Nat) : Int)).bind fun c51 =>
((hLen s1).bind fun n52 =>
((hSub s1 j3 ((n52 : Nat) : Int)).bind fun c53 =>
((hCells q48.2 c53).bind fun ys54 =>
((hCopy q48.2 c51 ys54).bind fun q55 =>
((hLen s1).bind fun n56 =>
((hSub s1 (IntKind.i64.wrap ((IntKind.i64.wrap (((n21 : Nat) : Int) + ((n22 : Nat) : Int))) + ((n25 : Nat) : Int))) ((n56 : Nat) : Int)).bind fun c57 =>
((hClear q55.2 (C.d (D.s [])) c57).bind fun H58 =>
(xif (xokR (A.one c43))
(some ((A.one c43), H58)))))))))))))))))
((hLen v4).bind fun n59 =>
((hLen c43).bind fun n60 =>
((hSub c43 (IntKind.i64.wrap (i2 + ((n59 : Nat) : Int))) ((n60 : Nat) : Int)).bind fun c61 =>
none)))))))))))))))))))))
theorem slices_Replace_string_string_eq (Φ : Phi) (Ψ : Psi) (fuel : Nat) (s1 : C) (i2 : Int) (j3 : Int) (v4 : C) (H : Hp) : xbodyH TT0 Φ Ψ sel_slices_Replace_string_string fuel sp_slices_Replace_string_string Try.f56 [(A.one s1), (A.one (C.d (D.v (.int .i64 i2)))), (A.one (C.d (D.v (.int .i64 j3)))), (A.one v4)] H = slices_Replace_string_string Φ Ψ fuel s1 i2 j3 v4 H := by kernel_rfl
/-! ref08_index -/
def sp_ref08_index : List LSpec := []
def ref08_index (Φ : Phi) (fuel : Nat) (i1 : Int) (n2 : Int) : Option A :=
(xite (decide (i1 < (IntKind.i64.wrap (0 - n2))))
(some (A.one (C.d (D.v (.int .i64 (-1 : Int))))))
(xite (decide (n2 ≤ i1))
(some (A.one (C.d (D.v (.int .i64 (-1 : Int))))))
(xif (!decide (n2 = 0))
(some (A.one (C.d (D.v (.int .i64 (Int.tmod (IntKind.i64.wrap (i1 + n2)) n2)))))))))
theorem ref08_index_eq (Φ : Phi) (fuel : Nat) (i1 : Int) (n2 : Int) : xbody TT0 Φ fuel sp_ref08_index Try.f57 [(A.one (C.d (D.v (.int .i64 i1)))), (A.one (C.d (D.v (.int .i64 n2))))] = ref08_index Φ fuel i1 n2 := by kernel_rfl
/-! ref08_cut -/
def sp_ref08_cut : List LSpec := [{ n := 0, m := 35, toks := [], ks := [.slot 0 (.one .str), .slot 1 (.one .str), .slot 6 (.one (.int .i64))] }]
def ref08_cut_l0 (Φ : Phi) (fuel : Nat) (k0 : List UInt8 → List UInt8 → Int → Option A) (s3 : List UInt8) (by4 : List UInt8) (i5 : Int) : Option A :=
(xite (decide ((IntKind.i64.wrap (i5 + ((by4).length : Int))) ≤ ((s3).length : Int)))
((xSubS s3 i5 (IntKind.i64.wrap (i5 + ((by4).length : Int)))).bind fun s6 =>
(xite (decide ((s6 : List UInt8) = by4))
((xSubS s3 (0 : Int) i5).bind fun s7 =>
((xSubS s3 (IntKind.i64.wrap (i5 + ((by4).length : Int))) ((s3).length : Int)).bind fun s8 =>
(some (A.tup [(A.one (C.d (D.s s7))), (A.one (C.d (D.s s8)))]))))
(k0 s3 by4 (IntKind.i64.wrap (i5 + (1 : Int))))))
(some (A.tup [(A.one (C.d (D.s s3))), (A.one (C.d (D.s [])))])))
def ref08_cut (Φ : Phi) (fuel : Nat) (s1 : List UInt8) (by2 : List UInt8) : Option A :=
(iter (fun (x : List UInt8 × List UInt8 × Int × Unit) (rec : (List UInt8 × List UInt8 × Int × Unit) → Option A) => ref08_cut_l0 Φ fuel (fun s3 by4 i5 => rec (s3, by4, i5, ())) x.1 x.2.1 x.2.2.1) fuel (s1, by2, (0 : Int), ()))
theorem ref08_cut_eq (Φ : Phi) (fuel : Nat) (s1 : List UInt8) (by2 : List UInt8) : xbody TT0 Φ fuel sp_ref08_cut Try.f58 [(A.one (C.d (D.s s1))), (A.one (C.d (D.s by2)))] = ref08_cut Φ fuel s1 by2 := by kernel_rfl
/-! ref08_table -/
def sp_ref08_table : List LSpec := [{ n := 0, m := 20, toks := [], ks := [.hp, .slot 0 (.one .rc), .slot 3 (.one .rc), .slot 4 (.one (.int .i64))] }]
noncomputable def ref08_table_l0 (Φ : Phi) (Ψ : Psi) (fuel : Nat) (k0 : Hp → C → C → Int → Option (A × Hp)) (H6 : Hp) (t7 : C) (out8 : C) (i9 : Int) : Option (A × Hp) :=
((hLen t7).bind fun n10 =>
(xite (decide (i9 < ((n10 : Nat) : Int)))
((hAddr t7 i9).bind fun p11 =>
((hLoad H6 p11).bind fun c12 =>
(xif (C.hok c12)
((Ψ i_ref08_list [(A.one c12)] H6).bind fun q13 =>
((xone q13.1).bind fun c14 =>
((oneCs [(A.one c14)]).bind fun cs15 =>
((hPush q13.2 ⟨cs15, true⟩).bind fun H16 =>
((hLen out8).bind fun n17 =>
((hCells H16 (C.hs q13.2.length 0 1)).bind fun ys18 =>
(xif (decide ((n17 + ys18.length) * 24 ≤ 140737488355328))
((hApp H16 out8 ys18).bind fun q19 =>
(xif (C.hok t7)
(xif (C.hok q19.1)
(k0 q19.2 t7 q19.1 (IntKind.i64.wrap (i9 + (1 : Int)))))))))))))))))
(xif (xokR (A.one out8))
(some ((A.one out8), H6)))))
noncomputable def ref08_table (Φ : Phi) (Ψ : Psi) (fuel : Nat) (t1 : C) (H : Hp) : Option (A × Hp) :=
(xif (C.hok t1)
(iter (fun (x : Hp × C × C × Int × Unit) (rec : (Hp × C × C × Int × Unit) → Option (A × Hp)) => ref08_table_l0 Φ Ψ fuel (fun H6 t7 out8 i9 => rec (H6, t7, out8, i9, ())) x.1 x.2.1 x.2.2.1 x.2.2.2.1) fuel (H, t1, (C.full []), (0 : Int), ())))
theorem ref08_table_eq (Φ : Phi) (Ψ : Psi) (fuel : Nat) (t1 : C) (H : Hp) : xbodyH TT0 Φ Ψ sel_ref08_table fuel sp_ref08_table Try.f59 [(A.one t1)] H = ref08_table Φ Ψ fuel t1 H := by kernel_rfl
/-! tables_checkAll -/
def sp_tables_checkAll : List LSpec := [{ n := 0, m := 18, toks := [], ks := [.slot 6 (.one .sl), .slot 7 (.one (.int .i64)), .slot 8 (.one (.int .i64))] }]
def tables_checkAll_l0 (Φ : Phi) (fuel : Nat) (k0 : List (List D) → Int → Int → Option A) (l2 : List (List D)) (i3 : Int) (i4 : Int) : Option A :=
(xite (decide (i4 < i3))
((xElem 1 l2 i4).bind fun c5 =>
(xif (decide (1 ≤ (c5).length))
((xDL (List.getD c5 0 (D.s []))).bind fun l6 =>
((Φ i_tables_Check [(A.one (C.d (D.sl l6)))]).bind fun r7 =>
((xAD r7).bind fun d8 =>
((xDI .i64 d8).bind fun n9 =>
(xite (!decide (n9 = (0 : Int)))
(some (A.one (C.d (D.v (.int .i64 n9)))))
(k0 l2 i3 (IntKind.i64.wrap (i4 + (1 : Int)))))))))))
(some (A.one (C.d (D.v (.int .i64 (0 : Int)))))))
def tables_checkAll (Φ : Phi) (fuel : Nat) (l1 : List (List D)) : Option A :=
(iter (fun (x : List (List D) × Int × Int × Unit) (rec : (List (List D) × Int × Int × Unit) → Option A) => tables_checkAll_l0 Φ fuel (fun l2 i3 i4 => rec (l2, i3, i4, ())) x.1 x.2.1 x.2.2.1) fuel (l1, ((l1).length : Int), (0 : Int), ()))
theorem tables_checkAll_eq (Φ : Phi) (fuel : Nat) (l1 : List (List D)) : xbody TT0 Φ fuel sp_tables_checkAll Try.f60 [(A.one (C.d (D.sl l1)))] = tables_checkAll Φ fuel l1 := by kernel_rfl
/-! ref08_both -/
def sp_ref08_both : List LSpec := []
def ref08_both (Φ : Phi) (fuel : Nat) (a1 : List (List D)) (b2 : List (List D)) : Option A :=
((Φ i_ref08_Check [(A.one (C.d (D.sl a1)))]).bind fun r3 =>
((xAD r3).bind fun d4 =>
((xDI .i64 d4).bind fun n5 =>
(xite (!decide (n5 = (0 : Int)))
(some (A.one (C.d (D.v (.int .i64 n5)))))
((Φ i_ref08_Check [(A.one (C.d (D.sl b2)))]).bind fun r6 =>
((xAD r6).bind fun d7 =>
((xDI .i64 d7).bind fun n8 =>
(some (A.one (C.d (D.v (.int .i64 n8))))))))))))
theorem ref08_both_eq (Φ : Phi) (fuel : Nat) (a1 : List (List D)) (b2 : List (List D)) : xbody TT0 Φ fuel sp_ref08_both Try.f61 [(A.one (C.d (D.sl a1))), (A.one (C.d (D.sl b2)))] = ref08_both Φ fuel a1 b2 := by kernel_rfl
/-! slices_Delete_string_string -/
def sp_slices_Delete_string_string : List LSpec := []
noncomputable def slices_Delete_string_string (Φ : Phi) (Ψ : Psi) (fuel : Nat) (s1 : C) (i2 : Int) (j3 : Int) (H : Hp) : Option (A × Hp) :=
((hLen s1).bind fun n4 =>
((hLen s1).bind fun n5 =>
(xif (true && (decide (0 ≤ i2) && (decide (i2 ≤ j3) && (decide (j3 ≤ ((n4 : Nat) : Int)) && decide (((n4 : Nat) : Int) ≤ (n5 : Int))))))
(xite (decide (i2 = j3))
(xif (xokR (A.one s1))
(some ((A.one s1), H)))
((hLen s1).bind fun n6 =>
((hLen s1).bind fun n7 =>
((hSub s1 (0 : Int) i2).bind fun c8 =>
((hLen s1).bind fun n9 =>
((hSub s1 j3 ((n9 : Nat) : Int)).bind fun c10 =>
((hLen c8).bind fun n11 =>
((hCells H c10).bind fun ys12 =>
(xif (decide ((n11 + ys12.length) * 24 ≤ 140737488355328))
((hApp H c8 ys12).bind fun q13 =>
((hLen q13.1).bind fun n14 =>
((hLen q13.1).bind fun n15 =>
((hSub q13.1 ((n14 : Nat) : Int) ((n6 : Nat) : Int)).bind fun c16 =>
((hClear q13.2 (C.full []) c16).bind fun H17 =>
(xif (xokR (A.one q13.1))
(some ((A.one q13.1), H17))))))))))))))))))))
theorem slices_Delete_string_string_eq (Φ : Phi) (Ψ : Psi) (fuel : Nat) (s1 : C) (i2 : Int) (j3 : Int) (H : Hp) : xbodyH TT0 Φ Ψ sel_slices_Delete_string_string fuel sp_slices_Delete_string_string Try.f62 [(A.one s1), (A.one (C.d (D.v (.int .i64 i2)))), (A.one (C.d (D.v (.int .i64 j3))))] H = slices_Delete_string_string Φ Ψ fuel s1 i2 j3 H := by kernel_rfl
/-! ref08_without -/
def sp_ref08_without : List LSpec := []
noncomputable def ref08_without (Φ : Phi) (Ψ : Psi) (fuel : Nat) (t1 : List (List D)) (i2 : Int) (H : Hp) : Option (A × Hp) :=
((hSub (C.d (D.sl t1)) (0 : Int) i2).bind fun c3 =>
((hSub (C.d (D.sl t1)) (IntKind.i64.wrap (i2 + (1 : Int))) (((t1 : List (List D)).length : Nat) : Int)).bind fun c4 =>
(xif (C.hok c3)
((Ψ i_ref08_table [(A.one c3)] H).bind fun q5 =>
((xone q5.1).bind fun c6 =>
(xif (C.hok c4)
((Ψ i_ref08_table [(A.one c4)] q5.2).bind fun q7 =>
((xone q7.1).bind fun c8 =>
((hLen c6).bind fun n9 =>
((hCells q7.2 c8).bind fun ys10 =>
(xif (decide ((n9 + ys10.length) * 24 ≤ 140737488355328))
((hApp q7.2 c6 ys10).bind fun q11 =>
(xif (xokR (A.one q11.1))
(some ((A.one q11.1), q11.2)))))))))))))))
theorem ref08_without_eq (Φ : Phi) (Ψ : Psi) (fuel : Nat) (t1 : List (List D)) (i2 : Int) (H : Hp) : xbodyH TT0 Φ Ψ sel_ref08_without fuel sp_ref08_without Try.f63 [(A.one (C.d (D.sl t1))), (A.one (C.d (D.v (.int .i64 i2))))] H = ref08_without Φ Ψ fuel t1 i2 H := by kernel_rfl
/-! slices_Delete_string_string_64 -/
def sp_slices_Delete_string_string_64 : List LSpec := []
noncomputable def slices_Delete_string_string_64 (Φ : Phi) (Ψ : Psi) (fuel : Nat) (s1 : C) (i2 : Int) (j3 : Int) (H : Hp) : Option (A × Hp) :=
((hLen s1).bind fun n4 =>
((hLen s1).bind fun n5 =>
(xif (true && (decide (0 ≤ i2) && (decide (i2 ≤ j3) && (decide (j3 ≤ ((n4 : Nat) : Int)) && decide (((n4 : Nat) : Int) ≤ (n5 : Int))))))
(xite (decide (i2 = j3))
(xif (xokR (A.one s1))
(some ((A.one s1), H)))
((hLen s1).bind fun n6 =>
((hLen s1).bind fun n7 =>
((hSub s1 (0 : Int) i2).bind fun c8 =>
((hLen s1).bind fun n9 =>
((hSub s1 j3 ((n9 : Nat) : Int)).bind fun c10 =>
((hLen c8).bind fun n11 =>
((hCells H c10).bind fun ys12 =>
(xif (decide ((n11 + ys12.length) * 16 ≤ 140737488355328))
((hApp H c8 ys12).bind fun q13 =>
((hLen q13.1).bind fun n14 =>
((hLen q13.1).bind fun n15 =>
((hSub q13.1 ((n14 : Nat) : Int) ((n6 : Nat) : Int)).bind fun c16 =>
((hClear q13.2 (C.d (D.s [])) c16).bind fun H17 =>
(xif (xokR (A.one q13.1))
(some ((A.one q13.1), H17))))))))))))))))))))
theorem slices_Delete_string_string_64_eq (Φ : Phi) (Ψ : Psi) (fuel : Nat) (s1 : C) (i2 : Int) (j3 : Int) (H : Hp) : xbodyH TT0 Φ Ψ sel_slices_Delete_string_string_64 fuel sp_slices_Delete_string_string_64 Try.f64 [(A.one s1), (A.one (C.d (D.v (.int .i64 i2)))), (A.one (C.d (D.v (.int .i64 j3))))] H = slices_Delete_string_string_64 Φ Ψ fuel s1 i2 j3 H := by kernel_rfl
/-! slices_SortStableFunc_string_string -/
def sp_slices_SortStableFunc_string_string : List LSpec := []
noncomputable def slices_SortStableFunc_string_string (Φ : Phi) (Ψ : Psi) (fuel : Nat) (x1 : C) (k2 : Nat) (H : Hp) : Option (A × Hp) :=
((hLen x1).bind fun n3 =>
(xif (C.hok x1)
((Ψ i_slices_stableCmpFunc_string [(A.one x1), (A.one (C.d (D.v (.int .i64 ((n3 : Nat) : Int))))), (A.one (C.hclo 66 [k2]))] H).bind fun q4 =>
(xif (xokR (A.tup []))
(some ((A.tup []), q4.2))))))
theorem slices_SortStableFunc_string_string_eq (Φ : Phi) (Ψ : Psi) (fuel : Nat) (x1 : C) (k2 : Nat) (H : Hp) : xbodyH TT0 Φ Ψ sel_slices_SortStableFunc_string_string fuel sp_slices_SortStableFunc_string_string Try.f65 [(A.one x1), (A.one (C.hclo 66 [k2]))] H = slices_SortStableFunc_string_string Φ Ψ fuel x1 k2 H := by kernel_rfl
/-! tables_Sort_1 -/
def sp_tables_Sort_1 : List LSpec := []
noncomputable def tables_Sort_1 (Φ : Phi) (Ψ : Psi) (fuel : Nat) (a1 : C) (b2 : C) (k3 : Nat) (H : Hp) : Option (A × Hp) :=
((hLoad H (C.hp k3 0)).bind fun c4 =>
((xI .i64 (A.one c4)).bind fun n5 =>
((hAddr a1 n5).bind fun p6 =>
((hLoad H p6).bind fun c7 =>
((xS (A.one c7)).bind fun s8 =>
((hLoad H (C.hp k3 0)).bind fun c9 =>
((xI .i64 (A.one c9)).bind fun n10 =>
((hAddr b2 n10).bind fun p11 =>
((hLoad H p11).bind fun c12 =>
((xS (A.one c12)).bind fun s13 =>
((Φ i_strings_Compare [(A.one (C.d (D.s s8))), (A.one (C.d (D.s s13)))]).bind fun r14 =>
((xAD r14).bind fun d15 =>
((xDI .i64 d15).bind fun n16 =>
(xif (xokR (A.one (C.d (D.v (.int .i64 n16)))))
(some ((A.one (C.d (D.v (.int .i64 n16)))), H))))))))))))))))
theorem tables_Sort_1_eq (Φ : Phi) (Ψ : Psi) (fuel : Nat) (a1 : C) (b2 : C) (k3 : Nat) (H : Hp) : xbodyH TT0 Φ Ψ sel_tables_Sort_1 fuel sp_tables_Sort_1 Try.f66 [(A.one a1), (A.one b2), (A.one (C.hp k3 0))] H = tables_Sort_1 Φ Ψ fuel a1 b2 k3 H := by kernel_rfl
/-! strings_Compare -/
def sp_strings_Compare : List LSpec := []
def strings_Compare (Φ : Phi) (fuel : Nat) (a1 : List UInt8) (b2 : List UInt8) : Option A :=
((Φ i_internal_bytealg_CompareString [(A.one (C.d (D.s a1))), (A.one (C.d (D.s b2)))]).bind fun r3 =>
((xAD r3).bind fun d4 =>
((xDI .i64 d4).bind fun n5 =>
(some (A.one (C.d (D.v (.int .i64 n5))))))))
theorem strings_Compare_eq (Φ : Phi) (fuel : Nat) (a1 : List UInt8) (b2 : List UInt8) : xbody TT0 Φ fuel sp_strings_Compare Try.f67 [(A.one (C.d (D.s a1))), (A.one (C.d (D.s b2)))] = strings_Compare Φ fuel a1 b2 := by kernel_rfl
/-! slices_Index_string_string -/
def sp_slices_Index_string_string : List LSpec := [{ n := 0, m := 19, toks := [], ks := [.slot 0 (.one .sl), .slot 1 (.one .str), .slot 7 (.one (.int .i64)), .slot 8 (.one (.int .i64))] }]
def slices_Index_string_string_l0 (Φ : Phi) (fuel : Nat) (k0 : List (List D) → List UInt8 → Int → Int → Option A) (s3 : List (List D)) (v4 : List UInt8) (i5 : Int) (i6 : Int) : Option A :=
(xite (decide (i6 < i5))
((xElem 1 s3 i6).bind fun c7 =>
(xif (decide (1 ≤ (c7).length))
((xDS (List.getD c7 0 (D.s []))).bind fun s8 =>
(xite (decide ((v4 : List UInt8) = s8))
(some (A.one (C.d (D.v (.int .i64 i6)))))
(k0 s3 v4 i5 (IntKind.i64.wrap (i6 + (1 : Int))))))))
(some (A.one (C.d (D.v (.int .i64 (-1 : Int)))))))
def slices_Index_string_string (Φ : Phi) (fuel : Nat) (s1 : List (List D)) (v2 : List UInt8) : Option A :=
(iter (fun (x : List (List D) × List UInt8 × Int × Int × Unit) (rec : (List (List D) × List UInt8 × Int × Int × Unit) → Option A) => slices_Index_string_string_l0 Φ fuel (fun s3 v4 i5 i6 => rec (s3, v4, i5, i6, ())) x.1 x.2.1 x.2.2.1 x.2.2.2.1) fuel (s1, v2, ((s1).length : Int), (0 : Int), ()))
theorem slices_Index_string_string_eq (Φ : Phi) (fuel : Nat) (s1 : List (List D)) (v2 : List UInt8) : xbody TT0 Φ fuel sp_slices_Index_string_string Try.f68 [(A.one (C.d (D.sl s1))), (A.one (C.d (D.s v2)))] = slices_Index_string_string Φ fuel s1 v2 := by kernel_rfl
end Go.Av
