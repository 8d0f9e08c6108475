/-
  What each function gives when run. Printed by a program of mine (gen.py).
-/
import Derived.Test.YtnfbgleaodkjpaaHtTy
set_option linter.all false
set_option linter.unusedVariables false
set_option maxRecDepth 100000
namespace Go.Av
open Go.Proofs
/-! ref08_Unpivot -/
def sp_ref08_Unpivot : List LSpec := [{ n := 0, m := 76, toks := [], ks := [.hp, .slot 0 (.one .sl), .slot 1 (.one (.int .i64)), .slot 7 (.one .rc), .slot 8 (.one (.int .i64))] }, { n := 0, m := 76, toks := [], ks := [.hp, .slot 0 (.one .sl), .slot 1 (.one (.int .i64)), .slot 7 (.one .rc), .slot 8 (.one (.int .i64)), .slot 9 (.one (.int .i64))] }]
noncomputable def ref08_Unpivot_l1 (Φ : Phi) (Ψ : Psi) (fuel : Nat) (k0 : Hp → List (List D) → Int → C → Int → Option (A × Hp)) (k1 : Hp → List (List D) → Int → C → Int → Int → Option (A × Hp)) (H19 : Hp) (t20 : List (List D)) (keep21 : Int) (out22 : C) (i23 : Int) (k24 : Int) : Option (A × Hp) :=
((hAddr (C.d (D.sl t20)) i23).bind fun p25 =>
((hLoad H19 p25).bind fun c26 =>
((hLen c26).bind fun n27 =>
(xite (decide (k24 < ((n27 : Nat) : Int)))
((hAddr (C.d (D.sl t20)) i23).bind fun p28 =>
((hLoad [] p28).bind fun c29 =>
((hLen c29).bind fun n30 =>
((hSub c29 (0 : Int) keep21).bind fun c31 =>
((hAddr (C.d (D.sl t20)) (0 : Int)).bind fun p32 =>
((hLoad [] p32).bind fun c33 =>
((hAddr c33 k24).bind fun p34 =>
((hLoad [] p34).bind fun c35 =>
((xS (A.one c35)).bind fun s36 =>
((hAddr (C.d (D.sl t20)) i23).bind fun p37 =>
((hLoad [] p37).bind fun c38 =>
((hAddr c38 k24).bind fun p39 =>
((hLoad [] p39).bind fun c40 =>
((xS (A.one c40)).bind fun s41 =>
(xif (C.hok c31)
((Ψ i_ref08_list [(A.one c31)] H19).bind fun q42 =>
((xone q42.1).bind fun c43 =>
((hLen c43).bind fun n44 =>
((hCells q42.2 (C.full ([[(D.s s36)], [(D.s s41)]] : List (List D)))).bind fun ys45 =>
(xif (decide ((n44 + ys45.length) * 16 ≤ 140737488355328))
((hApp q42.2 c43 ys45).bind fun q46 =>
((oneCs [(A.one q46.1)]).bind fun cs47 =>
((hPush q46.2 ⟨cs47, true⟩).bind fun H48 =>
((hLen out22).bind fun n49 =>
((hCells H48 (C.hs q46.2.length 0 1)).bind fun ys50 =>
(xif (decide ((n49 + ys50.length) * 24 ≤ 140737488355328))
((hApp H48 out22 ys50).bind fun q51 =>
(xif (C.hok q51.1)
(k1 q51.2 t20 keep21 q51.1 i23 (IntKind.i64.wrap (k24 + (1 : Int))))))))))))))))))))))))))))))))
(xif (C.hok out22)
(k0 H19 t20 keep21 out22 (IntKind.i64.wrap (i23 + (1 : Int)))))))))
noncomputable def ref08_Unpivot_l0 (Φ : Phi) (Ψ : Psi) (fuel : Nat) (k0 : Hp → List (List D) → Int → C → Int → Option (A × Hp)) (H14 : Hp) (t15 : List (List D)) (keep16 : Int) (out17 : C) (i18 : Int) : Option (A × Hp) :=
(xite (decide (i18 < (((t15 : List (List D)).length : Nat) : Int)))
(xif (C.hok out17)
(iter (fun (x : Hp × List (List D) × Int × C × Int × Int × Unit) (rec : (Hp × List (List D) × Int × C × Int × Int × Unit) → Option (A × Hp)) => ref08_Unpivot_l1 Φ Ψ fuel k0 (fun H19 t20 keep21 out22 i23 k24 => rec (H19, t20, keep21, out22, i23, k24, ())) x.1 x.2.1 x.2.2.1 x.2.2.2.1 x.2.2.2.2.1 x.2.2.2.2.2.1) fuel (H14, t15, keep16, out17, i18, keep16, ())))
(xite (decide ((8 : Int) < (IntKind.i64.wrap (keep16 + (2 : Int)))))
(xif (xokR (A.tup [(A.one (C.full [])), (A.one (C.d (D.v (.int .i64 (2 : Int)))))]))
(some ((A.tup [(A.one (C.full [])), (A.one (C.d (D.v (.int .i64 (2 : Int)))))]), H14)))
((hLen out17).bind fun n52 =>
(xite (decide ((8 : Int) < ((n52 : Nat) : Int)))
(xif (xokR (A.tup [(A.one (C.full [])), (A.one (C.d (D.v (.int .i64 (2 : Int)))))]))
(some ((A.tup [(A.one (C.full [])), (A.one (C.d (D.v (.int .i64 (2 : Int)))))]), H14)))
(xif (xokR (A.tup [(A.one out17), (A.one (C.d (D.v (.int .i64 (0 : Int)))))]))
(some ((A.tup [(A.one out17), (A.one (C.d (D.v (.int .i64 (0 : Int)))))]), H14)))))))
noncomputable def ref08_Unpivot (Φ : Phi) (Ψ : Psi) (fuel : Nat) (t1 : List (List D)) (keep2 : Int) (H : Hp) : Option (A × Hp) :=
((Φ i_ref08_Check [(A.one (C.d (D.sl t1)))]).bind fun r3 =>
((xAD r3).bind fun d4 =>
((xDI .i64 d4).bind fun n5 =>
(xite (!decide (n5 = (0 : Int)))
(xif (xokR (A.tup [(A.one (C.full [])), (A.one (C.d (D.v (.int .i64 n5))))]))
(some ((A.tup [(A.one (C.full [])), (A.one (C.d (D.v (.int .i64 n5))))]), H)))
(xite (decide ((((t1 : List (List D)).length : Nat) : Int) = (0 : Int)))
(xif (xokR (A.tup [(A.one (C.full [])), (A.one (C.d (D.v (.int .i64 (7 : Int)))))]))
(some ((A.tup [(A.one (C.full [])), (A.one (C.d (D.v (.int .i64 (7 : Int)))))]), H)))
(xite (decide (keep2 < (0 : Int)))
(xif (xokR (A.tup [(A.one (C.full [])), (A.one (C.d (D.v (.int .i64 (1 : Int)))))]))
(some ((A.tup [(A.one (C.full [])), (A.one (C.d (D.v (.int .i64 (1 : Int)))))]), H)))
((Φ i_ref08_Columns [(A.one (C.d (D.sl t1)))]).bind fun r6 =>
((xAD r6).bind fun d7 =>
((xDI .i64 d7).bind fun n8 =>
(xite (decide (n8 ≤ keep2))
(xif (xokR (A.tup [(A.one (C.full [])), (A.one (C.d (D.v (.int .i64 (1 : Int)))))]))
(some ((A.tup [(A.one (C.full [])), (A.one (C.d (D.v (.int .i64 (1 : Int)))))]), H)))
(iter (fun (x : Hp × List (List D) × Int × C × Int × Unit) (rec : (Hp × List (List D) × Int × C × Int × Unit) → Option (A × Hp)) => ref08_Unpivot_l0 Φ Ψ fuel (fun H14 t15 keep16 out17 i18 => rec (H14, t15, keep16, out17, i18, ())) x.1 x.2.1 x.2.2.1 x.2.2.2.1 x.2.2.2.2.1) fuel (H, t1, keep2, (C.full []), (1 : Int), ()))))))))))))
theorem ref08_Unpivot_eq (Φ : Phi) (Ψ : Psi) (fuel : Nat) (t1 : List (List D)) (keep2 : Int) (H : Hp) : xbodyH TT0 Φ Ψ sel_ref08_Unpivot fuel sp_ref08_Unpivot Try.f14 [(A.one (C.d (D.sl t1))), (A.one (C.d (D.v (.int .i64 keep2))))] H = ref08_Unpivot Φ Ψ fuel t1 keep2 H := by kernel_rfl
/-! tables_Pivot -/
def sp_tables_Pivot : List LSpec := [{ n := 1, m := 101, toks := [], ks := [.hp, .slot 5 (.one .rc), .slot 6 (.one .rc), .slot 7 (.one (.mp 0)), .slot 30 (.one .sl), .slot 31 (.one (.int .i64)), .slot 32 (.one (.int .i64)), .mp 0] }, { n := 1, m := 101, toks := [], ks := [.hp, .slot 6 (.one .rc), .slot 7 (.one (.mp 0)), .slot 13 (.one .rc), .slot 72 (.one .rc), .slot 73 (.one (.int .i64)), .slot 74 (.one (.int .i64)), .mp 0] }, { n := 1, m := 101, toks := [], ks := [.hp, .slot 6 (.one .rc), .slot 7 (.one (.mp 0)), .slot 13 (.one .rc), .slot 14 (.one (.int .i64)), .slot 16 (.one .rc), .slot 72 (.one .rc), .slot 73 (.one (.int .i64)), .slot 74 (.one (.int .i64)), .slot 82 (.one (.int .i64)), .slot 83 (.one (.int .i64)), .mp 0] }]
noncomputable def tables_Pivot_l2 (Φ : Phi) (Ψ : Psi) (fuel : Nat) (k1 : Hp → C → C → C → Int → Int → List ((Int × Int) × List UInt8) → Option (A × Hp)) (k2 : Hp → C → C → Int → C → C → Int → Int → Int → Int → List ((Int × Int) × List UInt8) → Option (A × Hp)) (H68 : Hp) (names69 : C) (out70 : C) (i71 : Int) (row72 : C) (c73 : C) (i74 : Int) (i75 : Int) (i76 : Int) (i77 : Int) (m78 : List ((Int × Int) × List UInt8)) : Option (A × Hp) :=
(xite (decide (i77 < i76))
((hLen row72).bind fun n79 =>
((hCells H68 (C.full ([[(D.s ((mfind (i71, i77) m78).getD []))]] : List (List D)))).bind fun ys80 =>
(xif (decide ((n79 + ys80.length) * 16 ≤ 140737488355328))
((hApp H68 row72 ys80).bind fun q81 =>
(xif (C.hok names69)
(xif (C.hok out70)
(xif (C.hok q81.1)
(xif (C.hok c73)
(k2 q81.2 names69 out70 i71 q81.1 c73 i74 i75 i76 (IntKind.i64.wrap (i77 + (1 : Int))) m78)))))))))
((oneCs [(A.one row72)]).bind fun cs82 =>
((hPush H68 ⟨cs82, true⟩).bind fun H83 =>
((hLen out70).bind fun n84 =>
((hCells H83 (C.hs H68.length 0 1)).bind fun ys85 =>
(xif (decide ((n84 + ys85.length) * 24 ≤ 140737488355328))
((hApp H83 out70 ys85).bind fun q86 =>
(xif (C.hok names69)
(xif (C.hok q86.1)
(xif (C.hok c73)
(k1 q86.2 names69 q86.1 c73 i74 (IntKind.i64.wrap (i75 + (1 : Int))) m78)))))))))))
noncomputable def tables_Pivot_l1 (Φ : Phi) (Ψ : Psi) (fuel : Nat) (k1 : Hp → C → C → C → Int → Int → List ((Int × Int) × List UInt8) → Option (A × Hp)) (H45 : Hp) (names46 : C) (out47 : C) (c48 : C) (i49 : Int) (i50 : Int) (m51 : List ((Int × Int) × List UInt8)) : Option (A × Hp) :=
(xite (decide (i50 < i49))
((hAddr c48 i50).bind fun p52 =>
((hLoad H45 p52).bind fun c53 =>
((xS (A.one c53)).bind fun s54 =>
((hLoad H45 names46).bind fun c55 =>
((hLen c55).bind fun n56 =>
(xif (C.hok names46)
(xif (C.hok out47)
(xif (C.hok c48)
(iter (fun (x : Hp × C × Unit × C × Int × C × C × Int × Int × Int × Int × (List ((Int × Int) × List UInt8)) × Unit) (rec : (Hp × C × Unit × C × Int × C × C × Int × Int × Int × Int × (List ((Int × Int) × List UInt8)) × Unit) → Option (A × Hp)) => tables_Pivot_l2 Φ Ψ fuel k1 (fun H68 names69 out70 i71 row72 c73 i74 i75 i76 i77 m78 => rec (H68, names69, (), out70, i71, row72, c73, i74, i75, i76, i77, m78, ())) x.1 x.2.1 x.2.2.2.1 x.2.2.2.2.1 x.2.2.2.2.2.1 x.2.2.2.2.2.2.1 x.2.2.2.2.2.2.2.1 x.2.2.2.2.2.2.2.2.1 x.2.2.2.2.2.2.2.2.2.1 x.2.2.2.2.2.2.2.2.2.2.1 x.2.2.2.2.2.2.2.2.2.2.2.1) fuel (H45, names46, (), out47, i50, (C.full ([[(D.s s54)]] : List (List D))), c48, i49, i50, ((n56 : Nat) : Int), (0 : Int), m51, ()))))))))))
(xif (xokR (A.tup [(A.one out47), (A.one (C.d (D.v (.int .i64 (0 : Int)))))]))
(some ((A.tup [(A.one out47), (A.one (C.d (D.v (.int .i64 (0 : Int)))))]), H45))))
noncomputable def tables_Pivot_l0 (Φ : Phi) (Ψ : Psi) (fuel : Nat) (k0 : Hp → C → C → List (List D) → Int → Int → List ((Int × Int) × List UInt8) → Option (A × Hp)) (H10 : Hp) (keys11 : C) (names12 : C) (l13 : List (List D)) (i14 : Int) (i15 : Int) (m16 : List ((Int × Int) × List UInt8)) : Option (A × Hp) :=
(xite (decide (i15 < i14))
((hAddr (C.d (D.sl l13)) i15).bind fun p17 =>
((hLoad H10 p17).bind fun c18 =>
((hAddr c18 (0 : Int)).bind fun p19 =>
((hLoad [] p19).bind fun c20 =>
((xS (A.one c20)).bind fun s21 =>
((hAddr c18 (1 : Int)).bind fun p22 =>
((hLoad [] p22).bind fun c23 =>
((xS (A.one c23)).bind fun s24 =>
(xif (C.hok keys11)
((Ψ i_tables_entry [(A.one keys11), (A.one (C.d (D.s s21)))] H10).bind fun q25 =>
((xone q25.1).bind fun c26 =>
((xI .i64 (A.one c26)).bind fun n27 =>
(xif (C.hok names12)
((Ψ i_tables_entry [(A.one names12), (A.one (C.d (D.s s24)))] q25.2).bind fun q28 =>
((xone q28.1).bind fun c29 =>
((xI .i64 (A.one c29)).bind fun n30 =>
(xite ((mfind (n27, n30) m16).isSome)
(xif (xokR (A.tup [(A.one (C.full [])), (A.one (C.d (D.v (.int .i64 (6 : Int)))))]))
(some ((A.tup [(A.one (C.full [])), (A.one (C.d (D.v (.int .i64 (6 : Int)))))]), q28.2)))
((hAddr c18 (2 : Int)).bind fun p31 =>
((hLoad q28.2 p31).bind fun c32 =>
((xS (A.one c32)).bind fun s33 =>
(xif ((mfind (n27, n30) m16).isNone)
(xif (C.hok keys11)
(xif (C.hok names12)
(k0 q28.2 keys11 names12 l13 i14 (IntKind.i64.wrap (i15 + (1 : Int))) (m16 ++ [((n27, n30), s33)])))))))))))))))))))))))))
((hLoad H10 keys11).bind fun c34 =>
((hLen c34).bind fun n35 =>
(xite (decide ((8 : Int) < (IntKind.i64.wrap (((n35 : Nat) : Int) + (1 : Int)))))
(xif (xokR (A.tup [(A.one (C.full [])), (A.one (C.d (D.v (.int .i64 (2 : Int)))))]))
(some ((A.tup [(A.one (C.full [])), (A.one (C.d (D.v (.int .i64 (2 : Int)))))]), H10)))
((hLoad H10 names12).bind fun c36 =>
((hLen c36).bind fun n37 =>
(xite (decide ((8 : Int) < (IntKind.i64.wrap (((n37 : Nat) : Int) + (1 : Int)))))
(xif (xokR (A.tup [(A.one (C.full [])), (A.one (C.d (D.v (.int .i64 (2 : Int)))))]))
(some ((A.tup [(A.one (C.full [])), (A.one (C.d (D.v (.int .i64 (2 : Int)))))]), H10)))
((hLoad H10 names12).bind fun c38 =>
((hCells H10 c38).bind fun ys39 =>
(xif (decide (((([[(D.s [])]] : List (List D)) : List (List D)).length + ys39.length) * 16 ≤ 140737488355328))
((hApp H10 (C.full ([[(D.s [])]] : List (List D))) ys39).bind fun q40 =>
((oneCs [(A.one q40.1)]).bind fun cs41 =>
((hPush q40.2 ⟨cs41, true⟩).bind fun H42 =>
((hLoad H42 keys11).bind fun c43 =>
((hLen c43).bind fun n44 =>
(xif (C.hok names12)
(xif (C.hok c43)
(iter (fun (x : Hp × C × Unit × C × C × Int × Int × (List ((Int × Int) × List UInt8)) × Unit) (rec : (Hp × C × Unit × C × C × Int × Int × (List ((Int × Int) × List UInt8)) × Unit) → Option (A × Hp)) => tables_Pivot_l1 Φ Ψ fuel (fun H45 names46 out47 c48 i49 i50 m51 => rec (H45, names46, (), out47, c48, i49, i50, m51, ())) x.1 x.2.1 x.2.2.2.1 x.2.2.2.2.1 x.2.2.2.2.2.1 x.2.2.2.2.2.2.1 x.2.2.2.2.2.2.2.1) fuel (H42, names12, (), (C.hs q40.2.length 0 1), c43, ((n44 : Nat) : Int), (0 : Int), m16, ())))))))))))))))))))
noncomputable def tables_Pivot (Φ : Phi) (Ψ : Psi) (fuel : Nat) (t1 : List (List D)) (H : Hp) : Option (A × Hp) :=
((Φ i_tables_Check [(A.one (C.d (D.sl t1)))]).bind fun r2 =>
((xAD r2).bind fun d3 =>
((xDI .i64 d3).bind fun n4 =>
(xite (!decide (n4 = (0 : Int)))
(xif (xokR (A.tup [(A.one (C.full [])), (A.one (C.d (D.v (.int .i64 n4))))]))
(some ((A.tup [(A.one (C.full [])), (A.one (C.d (D.v (.int .i64 n4))))]), H)))
(xite (decide ((((t1 : List (List D)).length : Nat) : Int) = (0 : Int)))
(xif (xokR (A.tup [(A.one (C.full [])), (A.one (C.d (D.v (.int .i64 (7 : Int)))))]))
(some ((A.tup [(A.one (C.full [])), (A.one (C.d (D.v (.int .i64 (7 : Int)))))]), H)))
((Φ i_tables_columns [(A.one (C.d (D.sl t1)))]).bind fun r5 =>
((xAD r5).bind fun d6 =>
((xDI .i64 d6).bind fun n7 =>
(xite (!decide (n7 = (3 : Int)))
(xif (xokR (A.tup [(A.one (C.full [])), (A.one (C.d (D.v (.int .i64 (4 : Int)))))]))
(some ((A.tup [(A.one (C.full [])), (A.one (C.d (D.v (.int .i64 (4 : Int)))))]), H)))
((hPush H ⟨[(C.full [])], true⟩).bind fun H8 =>
((hPush H8 ⟨[(C.full [])], true⟩).bind fun H9 =>
(iter (fun (x : Hp × C × C × Unit × List (List D) × Int × Int × (List ((Int × Int) × List UInt8)) × Unit) (rec : (Hp × C × C × Unit × List (List D) × Int × Int × (List ((Int × Int) × List UInt8)) × Unit) → Option (A × Hp)) => tables_Pivot_l0 Φ Ψ fuel (fun H10 keys11 names12 l13 i14 i15 m16 => rec (H10, keys11, names12, (), l13, i14, i15, m16, ())) x.1 x.2.1 x.2.2.1 x.2.2.2.2.1 x.2.2.2.2.2.1 x.2.2.2.2.2.2.1 x.2.2.2.2.2.2.2.1) fuel (H9, (C.hp H.length 0), (C.hp H8.length 0), (), t1, (((t1 : List (List D)).length : Nat) : Int), (0 : Int), [], ())))))))))))))
theorem tables_Pivot_eq (Φ : Phi) (Ψ : Psi) (fuel : Nat) (t1 : List (List D)) (H : Hp) : xbodyH TT0 Φ Ψ sel_tables_Pivot fuel sp_tables_Pivot Try.f15 [(A.one (C.d (D.sl t1)))] H = tables_Pivot Φ Ψ fuel t1 H := by kernel_rfl
/-! ref08_Pivot -/
def sp_ref08_Pivot : List LSpec := [{ n := 0, m := 116, toks := [], ks := [.slot 0 (.one .sl), .slot 5 (.one (.int .i64))] }, { n := 0, m := 116, toks := [], ks := [.slot 0 (.one .sl), .slot 5 (.one (.int .i64)), .slot 6 (.one (.int .i64))] }, { n := 2, m := 116, toks := [(33, .slot 9)], ks := [.slot 0 (.one .sl), .slot 7 (.one .sl), .slot 8 (.one .sl), .slot 9 (.one (.app 1 33)), .slot 10 (.one (.int .i64))] }, { n := 3, m := 116, toks := [(9, .slot 11)], ks := [.slot 0 (.one .sl), .slot 7 (.one .sl), .slot 8 (.one .sl), .slot 9 (.one (.app 1 33)), .slot 10 (.one (.int .i64)), .slot 11 (.one (.app 2 9)), .slot 12 (.one (.int .i64))] }]
def ref08_Pivot_l3 (Φ : Phi) (fuel : Nat) (k2 : List (List D) → List (List D) → List (List D) → List (List D) → Int → Option A) (k3 : List (List D) → List (List D) → List (List D) → List (List D) → Int → List (List D) → Int → Option A) (t61 : List (List D)) (keys62 : List (List D)) (names63 : List (List D)) (out64 : List (List D)) (i65 : Int) (row66 : List (List D)) (k67 : Int) : Option A :=
(xite (decide (k67 < ((names63).length : Int)))
((xElem 1 keys62 i65).bind fun c68 =>
(xif (decide (1 ≤ (c68).length))
((xDS (List.getD c68 0 (D.s []))).bind fun s69 =>
((xElem 1 names63 k67).bind fun c70 =>
(xif (decide (1 ≤ (c70).length))
((xDS (List.getD c70 0 (D.s []))).bind fun s71 =>
((Φ i_ref08_value [(A.one (C.d (D.sl t61))), (A.one (C.d (D.s s69))), (A.one (C.d (D.s s71)))]).bind fun r72 =>
((xAD r72).bind fun d73 =>
((xDS d73).bind fun s74 =>
((xApp 1 16 (row66.length) row66 ([[(D.s s74)]] : List (List D))).bind fun l75 =>
(xif (decide (out64.length = (out64 : List (List D)).length))
(xif (decide (l75.length = (l75 : List (List D)).length))
(k3 t61 keys62 names63 out64 i65 l75 (IntKind.i64.wrap (k67 + (1 : Int))))))))))))))))
((xApp 1 24 (out64.length) out64 ([[(D.sl row66)]] : List (List D))).bind fun l76 =>
(xif (decide (l76.length = (l76 : List (List D)).length))
(k2 t61 keys62 names63 l76 (IntKind.i64.wrap (i65 + (1 : Int)))))))
def ref08_Pivot_l2 (Φ : Phi) (fuel : Nat) (k2 : List (List D) → List (List D) → List (List D) → List (List D) → Int → Option A) (t47 : List (List D)) (keys48 : List (List D)) (names49 : List (List D)) (out50 : List (List D)) (i51 : Int) : Option A :=
(xite (decide (i51 < ((keys48).length : Int)))
((xElem 1 keys48 i51).bind fun c52 =>
(xif (decide (1 ≤ (c52).length))
((xDS (List.getD c52 0 (D.s []))).bind fun s53 =>
(xif (decide (out50.length = (out50 : List (List D)).length))
(xif (decide ((([[(D.s s53)]] : List (List D)) : List (List D)).length = (([[(D.s s53)]] : List (List D)) : List (List D)).length))
(iter (fun (x : List (List D) × List (List D) × List (List D) × List (List D) × Int × List (List D) × Int × Unit) (rec : (List (List D) × List (List D) × List (List D) × List (List D) × Int × List (List D) × Int × Unit) → Option A) => ref08_Pivot_l3 Φ fuel k2 (fun t61 keys62 names63 out64 i65 row66 k67 => rec (t61, keys62, names63, out64, i65, row66, k67, ())) x.1 x.2.1 x.2.2.1 x.2.2.2.1 x.2.2.2.2.1 x.2.2.2.2.2.1 x.2.2.2.2.2.2.1) fuel (t47, keys48, names49, out50, i51, ([[(D.s s53)]] : List (List D)), (0 : Int), ())))))))
(some (A.tup [(A.one (C.d (D.sl out50))), (A.one (C.d (D.v (.int .i64 (0 : Int)))))])))
def ref08_Pivot_l1 (Φ : Phi) (fuel : Nat) (k0 : List (List D) → Int → Option A) (k1 : List (List D) → Int → Int → Option A) (t10 : List (List D)) (i11 : Int) (k12 : Int) : Option A :=
(xite (decide (k12 < i11))
((xElem 1 t10 i11).bind fun c13 =>
(xif (decide (1 ≤ (c13).length))
((xDL (List.getD c13 0 (D.s []))).bind fun l14 =>
((xElem 1 l14 (0 : Int)).bind fun c15 =>
(xif (decide (1 ≤ (c15).length))
((xDS (List.getD c15 0 (D.s []))).bind fun s16 =>
((xElem 1 t10 k12).bind fun c17 =>
(xif (decide (1 ≤ (c17).length))
((xDL (List.getD c17 0 (D.s []))).bind fun l18 =>
((xElem 1 l18 (0 : Int)).bind fun c19 =>
(xif (decide (1 ≤ (c19).length))
((xDS (List.getD c19 0 (D.s []))).bind fun s20 =>
(xite (decide ((s16 : List UInt8) = s20))
((xElem 1 t10 i11).bind fun c21 =>
(xif (decide (1 ≤ (c21).length))
((xDL (List.getD c21 0 (D.s []))).bind fun l22 =>
((xElem 1 l22 (1 : Int)).bind fun c23 =>
(xif (decide (1 ≤ (c23).length))
((xDS (List.getD c23 0 (D.s []))).bind fun s24 =>
((xElem 1 t10 k12).bind fun c25 =>
(xif (decide (1 ≤ (c25).length))
((xDL (List.getD c25 0 (D.s []))).bind fun l26 =>
((xElem 1 l26 (1 : Int)).bind fun c27 =>
(xif (decide (1 ≤ (c27).length))
((xDS (List.getD c27 0 (D.s []))).bind fun s28 =>
(xite (decide ((s24 : List UInt8) = s28))
(some (A.tup [(A.one (C.d (D.sl []))), (A.one (C.d (D.v (.int .i64 (6 : Int)))))]))
(k1 t10 i11 (IntKind.i64.wrap (k12 + (1 : Int)))))))))))))))))
(k1 t10 i11 (IntKind.i64.wrap (k12 + (1 : Int)))))))))))))))))
(k0 t10 (IntKind.i64.wrap (i11 + (1 : Int)))))
def ref08_Pivot_l0 (Φ : Phi) (fuel : Nat) (k0 : List (List D) → Int → Option A) (t8 : List (List D)) (i9 : Int) : Option A :=
(xite (decide (i9 < ((t8).length : Int)))
(iter (fun (x : List (List D) × Int × Int × Unit) (rec : (List (List D) × Int × Int × Unit) → Option A) => ref08_Pivot_l1 Φ fuel k0 (fun t10 i11 k12 => rec (t10, i11, k12, ())) x.1 x.2.1 x.2.2.1) fuel (t8, i9, (0 : Int), ()))
((Φ i_ref08_column [(A.one (C.d (D.sl t8))), (A.one (C.d (D.v (.int .i64 (0 : Int)))))]).bind fun r29 =>
((xAD r29).bind fun d30 =>
((xDL d30).bind fun l31 =>
((Φ i_ref08_distinct [(A.one (C.d (D.sl l31)))]).bind fun r32 =>
((xAD r32).bind fun d33 =>
((xDL d33).bind fun l34 =>
((Φ i_ref08_column [(A.one (C.d (D.sl t8))), (A.one (C.d (D.v (.int .i64 (1 : Int)))))]).bind fun r35 =>
((xAD r35).bind fun d36 =>
((xDL d36).bind fun l37 =>
((Φ i_ref08_distinct [(A.one (C.d (D.sl l37)))]).bind fun r38 =>
((xAD r38).bind fun d39 =>
((xDL d39).bind fun l40 =>
(xite (decide ((8 : Int) ≤ ((l34).length : Int)))
(some (A.tup [(A.one (C.d (D.sl []))), (A.one (C.d (D.v (.int .i64 (2 : Int)))))]))
(xite (decide ((8 : Int) ≤ ((l40).length : Int)))
(some (A.tup [(A.one (C.d (D.sl []))), (A.one (C.d (D.v (.int .i64 (2 : Int)))))]))
((xApp 1 16 ((([[(D.s [])]] : List (List D)) : List (List D)).length) ([[(D.s [])]] : List (List D)) l40).bind fun l41 =>
(xif (decide ((([[(D.sl l41)]] : List (List D)) : List (List D)).length = (([[(D.sl l41)]] : List (List D)) : List (List D)).length))
(iter (fun (x : List (List D) × List (List D) × List (List D) × List (List D) × Int × Unit) (rec : (List (List D) × List (List D) × List (List D) × List (List D) × Int × Unit) → Option A) => ref08_Pivot_l2 Φ fuel (fun t47 keys48 names49 out50 i51 => rec (t47, keys48, names49, out50, i51, ())) x.1 x.2.1 x.2.2.1 x.2.2.2.1 x.2.2.2.2.1) fuel (t8, l34, l40, ([[(D.sl l41)]] : List (List D)), (0 : Int), ())))))))))))))))))))
def ref08_Pivot (Φ : Phi) (fuel : Nat) (t1 : List (List D)) : Option A :=
((Φ i_ref08_Check [(A.one (C.d (D.sl t1)))]).bind fun r2 =>
((xAD r2).bind fun d3 =>
((xDI .i64 d3).bind fun n4 =>
(xite (!decide (n4 = (0 : Int)))
(some (A.tup [(A.one (C.d (D.sl []))), (A.one (C.d (D.v (.int .i64 n4))))]))
(xite (decide (((t1).length : Int) = (0 : Int)))
(some (A.tup [(A.one (C.d (D.sl []))), (A.one (C.d (D.v (.int .i64 (7 : Int)))))]))
((Φ i_ref08_Columns [(A.one (C.d (D.sl t1)))]).bind fun r5 =>
((xAD r5).bind fun d6 =>
((xDI .i64 d6).bind fun n7 =>
(xite (!decide (n7 = (3 : Int)))
(some (A.tup [(A.one (C.d (D.sl []))), (A.one (C.d (D.v (.int .i64 (4 : Int)))))]))
(iter (fun (x : List (List D) × Int × Unit) (rec : (List (List D) × Int × Unit) → Option A) => ref08_Pivot_l0 Φ fuel (fun t8 i9 => rec (t8, i9, ())) x.1 x.2.1) fuel (t1, (0 : Int), ())))))))))))
theorem ref08_Pivot_eq (Φ : Phi) (fuel : Nat) (t1 : List (List D)) : xbody TT0 Φ fuel sp_ref08_Pivot Try.f16 [(A.one (C.d (D.sl t1)))] = ref08_Pivot Φ fuel t1 := by kernel_rfl
/-! ref08_Same -/
def sp_ref08_Same : List LSpec := [{ n := 0, m := 27, toks := [], ks := [.slot 0 (.one .sl), .slot 1 (.one .sl), .slot 5 (.one (.int .i64))] }]
def ref08_Same_l0 (Φ : Phi) (fuel : Nat) (k0 : List (List D) → List (List D) → Int → Option A) (a3 : List (List D)) (b4 : List (List D)) (i5 : Int) : Option A :=
(xite (decide (i5 < ((a3).length : Int)))
((xElem 1 a3 i5).bind fun c6 =>
(xif (decide (1 ≤ (c6).length))
((xDL (List.getD c6 0 (D.s []))).bind fun l7 =>
((xElem 1 b4 i5).bind fun c8 =>
(xif (decide (1 ≤ (c8).length))
((xDL (List.getD c8 0 (D.s []))).bind fun l9 =>
((Φ i_ref08_Texts [(A.one (C.d (D.sl l7))), (A.one (C.d (D.sl l9)))]).bind fun r10 =>
((xAD r10).bind fun d11 =>
((xDB d11).bind fun b12 =>
(xite (!b12)
(some (A.one (C.d (D.v (.bool false)))))
(k0 a3 b4 (IntKind.i64.wrap (i5 + (1 : Int))))))))))))))
(some (A.one (C.d (D.v (.bool true))))))
def ref08_Same (Φ : Phi) (fuel : Nat) (a1 : List (List D)) (b2 : List (List D)) : Option A :=
(xite (!decide (((a1).length : Int) = ((b2).length : Int)))
(some (A.one (C.d (D.v (.bool false)))))
(iter (fun (x : List (List D) × List (List D) × Int × Unit) (rec : (List (List D) × List (List D) × Int × Unit) → Option A) => ref08_Same_l0 Φ fuel (fun a3 b4 i5 => rec (a3, b4, i5, ())) x.1 x.2.1 x.2.2.1) fuel (a1, b2, (0 : Int), ())))
theorem ref08_Same_eq (Φ : Phi) (fuel : Nat) (a1 : List (List D)) (b2 : List (List D)) : xbody TT0 Φ fuel sp_ref08_Same Try.f17 [(A.one (C.d (D.sl a1))), (A.one (C.d (D.sl b2)))] = ref08_Same Φ fuel a1 b2 := by kernel_rfl
/-! tables_Split -/
def sp_tables_Split : List LSpec := [{ n := 0, m := 63, toks := [], ks := [.hp, .slot 1 (.one (.int .i64)), .slot 2 (.one .str), .slot 9 (.one .rc), .slot 33 (.one .rc), .slot 34 (.one (.int .i64)), .slot 35 (.one (.int .i64))] }]
noncomputable def tables_Split_l0 (Φ : Phi) (Ψ : Psi) (fuel : Nat) (k0 : Hp → Int → List UInt8 → C → C → Int → Int → Option (A × Hp)) (H19 : Hp) (column20 : Int) (by21 : List UInt8) (out22 : C) (c23 : C) (i24 : Int) (i25 : Int) : Option (A × Hp) :=
(xite (decide (i25 < i24))
((hAddr c23 i25).bind fun p26 =>
((hLoad H19 p26).bind fun c27 =>
((hAddr c27 column20).bind fun p28 =>
((hLoad H19 p28).bind fun c29 =>
((xS (A.one c29)).bind fun s30 =>
((Φ i_strings_Cut [(A.one (C.d (D.s s30))), (A.one (C.d (D.s by21)))]).bind fun r31 =>
((xtup r31 0).bind fun r32 =>
((xAD r32).bind fun d33 =>
((xDS d33).bind fun s34 =>
((xtup r31 1).bind fun r35 =>
((xAD r35).bind fun d36 =>
((xDS d36).bind fun s37 =>
((xtup r31 2).bind fun r38 =>
((xAD r38).bind fun d39 =>
((xDB d39).bind fun b40 =>
(xif (C.hok c27)
((Ψ i_slices_Replace_string_string [(A.one c27), (A.one (C.d (D.v (.int .i64 column20)))), (A.one (C.d (D.v (.int .i64 (IntKind.i64.wrap (column20 + (1 : Int))))))), (A.one (C.full ([[(D.s s34)], [(D.s s37)]] : List (List D))))] H19).bind fun q41 =>
((xone q41.1).bind fun c42 =>
((hAddr out22 i25).bind fun p43 =>
((hStore q41.2 p43 c42).bind fun H44 =>
(xif (C.hok out22)
(xif (C.hok c23)
(k0 H44 column20 by21 out22 c23 i24 (IntKind.i64.wrap (i25 + (1 : Int))))))))))))))))))))))))))
(xif (xokR (A.tup [(A.one out22), (A.one (C.d (D.v (.int .i64 (0 : Int)))))]))
(some ((A.tup [(A.one out22), (A.one (C.d (D.v (.int .i64 (0 : Int)))))]), H19))))
noncomputable def tables_Split (Φ : Phi) (Ψ : Psi) (fuel : Nat) (t1 : List (List D)) (column2 : Int) (by3 : List UInt8) (H : Hp) : Option (A × Hp) :=
((Φ i_tables_Check [(A.one (C.d (D.sl t1)))]).bind fun r4 =>
((xAD r4).bind fun d5 =>
((xDI .i64 d5).bind fun n6 =>
(xite (!decide (n6 = (0 : Int)))
(xif (xokR (A.tup [(A.one (C.full [])), (A.one (C.d (D.v (.int .i64 n6))))]))
(some ((A.tup [(A.one (C.full [])), (A.one (C.d (D.v (.int .i64 n6))))]), H)))
((Φ i_tables_columns [(A.one (C.d (D.sl t1)))]).bind fun r7 =>
((xAD r7).bind fun d8 =>
((xDI .i64 d8).bind fun n9 =>
((Φ i_tables_place [(A.one (C.d (D.v (.int .i64 column2)))), (A.one (C.d (D.v (.int .i64 n9))))]).bind fun r10 =>
((xAD r10).bind fun d11 =>
((xDI .i64 d11).bind fun n12 =>
(xite (decide (n12 < (0 : Int)))
(xif (xokR (A.tup [(A.one (C.full [])), (A.one (C.d (D.v (.int .i64 (7 : Int)))))]))
(some ((A.tup [(A.one (C.full [])), (A.one (C.d (D.v (.int .i64 (7 : Int)))))]), H)))
(xite (decide ((by3 : List UInt8) = []))
(xif (xokR (A.tup [(A.one (C.full [])), (A.one (C.d (D.v (.int .i64 (4 : Int)))))]))
(some ((A.tup [(A.one (C.full [])), (A.one (C.d (D.v (.int .i64 (4 : Int)))))]), H)))
((Φ i_tables_columns [(A.one (C.d (D.sl t1)))]).bind fun r13 =>
((xAD r13).bind fun d14 =>
((xDI .i64 d14).bind fun n15 =>
(xite (decide (n15 = (8 : Int)))
(xif (xokR (A.tup [(A.one (C.full [])), (A.one (C.d (D.v (.int .i64 (2 : Int)))))]))
(some ((A.tup [(A.one (C.full [])), (A.one (C.d (D.v (.int .i64 (2 : Int)))))]), H)))
((Ψ i_tables_clone [(A.one (C.d (D.sl t1)))] H).bind fun q16 =>
((xone q16.1).bind fun c17 =>
((hLen c17).bind fun n18 =>
(xif (C.hok c17)
(xif (C.hok c17)
(iter (fun (x : Hp × Int × List UInt8 × C × C × Int × Int × Unit) (rec : (Hp × Int × List UInt8 × C × C × Int × Int × Unit) → Option (A × Hp)) => tables_Split_l0 Φ Ψ fuel (fun H19 column20 by21 out22 c23 i24 i25 => rec (H19, column20, by21, out22, c23, i24, i25, ())) x.1 x.2.1 x.2.2.1 x.2.2.2.1 x.2.2.2.2.1 x.2.2.2.2.2.1 x.2.2.2.2.2.2.1) fuel (q16.2, n12, by3, c17, c17, ((n18 : Nat) : Int), (0 : Int), ())))))))))))))))))))))))
theorem tables_Split_eq (Φ : Phi) (Ψ : Psi) (fuel : Nat) (t1 : List (List D)) (column2 : Int) (by3 : List UInt8) (H : Hp) : xbodyH TT0 Φ Ψ sel_tables_Split fuel sp_tables_Split Try.f18 [(A.one (C.d (D.sl t1))), (A.one (C.d (D.v (.int .i64 column2)))), (A.one (C.d (D.s by3)))] H = tables_Split Φ Ψ fuel t1 column2 by3 H := by kernel_rfl
/-! ref08_Split -/
def sp_ref08_Split : List LSpec := [{ n := 0, m := 71, toks := [], ks := [.hp, .slot 0 (.one .sl), .slot 2 (.one .str), .slot 9 (.one (.int .i64)), .slot 10 (.one .rc), .slot 11 (.one (.int .i64))] }]
noncomputable def ref08_Split_l0 (Φ : Phi) (Ψ : Psi) (fuel : Nat) (k0 : Hp → List (List D) → List UInt8 → Int → C → Int → Option (A × Hp)) (H22 : Hp) (t23 : List (List D)) (by24 : List UInt8) (k25 : Int) (out26 : C) (i27 : Int) : Option (A × Hp) :=
(xite (decide (i27 < (((t23 : List (List D)).length : Nat) : Int)))
((hAddr (C.d (D.sl t23)) i27).bind fun p28 =>
((hLoad H22 p28).bind fun c29 =>
((hAddr c29 k25).bind fun p30 =>
((hLoad H22 p30).bind fun c31 =>
((xS (A.one c31)).bind fun s32 =>
((Φ i_ref08_cut [(A.one (C.d (D.s s32))), (A.one (C.d (D.s by24)))]).bind fun r33 =>
((xtup r33 0).bind fun r34 =>
((xAD r34).bind fun d35 =>
((xDS d35).bind fun s36 =>
((xtup r33 1).bind fun r37 =>
((xAD r37).bind fun d38 =>
((xDS d38).bind fun s39 =>
((hAddr (C.d (D.sl t23)) i27).bind fun p40 =>
((hLoad [] p40).bind fun c41 =>
((hLen c41).bind fun n42 =>
((hSub c41 (0 : Int) k25).bind fun c43 =>
((hAddr (C.d (D.sl t23)) i27).bind fun p44 =>
((hLoad [] p44).bind fun c45 =>
((hLen c45).bind fun n46 =>
((hSub c45 (IntKind.i64.wrap (k25 + (1 : Int))) ((n46 : Nat) : Int)).bind fun c47 =>
(xif (C.hok c43)
((Ψ i_ref08_list [(A.one c43)] H22).bind fun q48 =>
((xone q48.1).bind fun c49 =>
((hLen c49).bind fun n50 =>
((hCells q48.2 (C.full ([[(D.s s36)], [(D.s s39)]] : List (List D)))).bind fun ys51 =>
(xif (decide ((n50 + ys51.length) * 16 ≤ 140737488355328))
((hApp q48.2 c49 ys51).bind fun q52 =>
((hLen q52.1).bind fun n53 =>
((hCells q52.2 c47).bind fun ys54 =>
(xif (decide ((n53 + ys54.length) * 16 ≤ 140737488355328))
((hApp q52.2 q52.1 ys54).bind fun q55 =>
((oneCs [(A.one q55.1)]).bind fun cs56 =>
((hPush q55.2 ⟨cs56, true⟩).bind fun H57 =>
((hLen out26).bind fun n58 =>
((hCells H57 (C.hs q55.2.length 0 1)).bind fun ys59 =>
(xif (decide ((n58 + ys59.length) * 24 ≤ 140737488355328))
((hApp H57 out26 ys59).bind fun q60 =>
(xif (C.hok q60.1)
(k0 q60.2 t23 by24 k25 q60.1 (IntKind.i64.wrap (i27 + (1 : Int))))))))))))))))))))))))))))))))))))))))))
(xif (xokR (A.tup [(A.one out26), (A.one (C.d (D.v (.int .i64 (0 : Int)))))]))
(some ((A.tup [(A.one out26), (A.one (C.d (D.v (.int .i64 (0 : Int)))))]), H22))))
noncomputable def ref08_Split (Φ : Phi) (Ψ : Psi) (fuel : Nat) (t1 : List (List D)) (column2 : Int) (by3 : List UInt8) (H : Hp) : Option (A × Hp) :=
((Φ i_ref08_Check [(A.one (C.d (D.sl t1)))]).bind fun r4 =>
((xAD r4).bind fun d5 =>
((xDI .i64 d5).bind fun n6 =>
(xite (!decide (n6 = (0 : Int)))
(xif (xokR (A.tup [(A.one (C.full [])), (A.one (C.d (D.v (.int .i64 n6))))]))
(some ((A.tup [(A.one (C.full [])), (A.one (C.d (D.v (.int .i64 n6))))]), H)))
((Φ i_ref08_Columns [(A.one (C.d (D.sl t1)))]).bind fun r7 =>
((xAD r7).bind fun d8 =>
((xDI .i64 d8).bind fun n9 =>
((Φ i_ref08_index [(A.one (C.d (D.v (.int .i64 column2)))), (A.one (C.d (D.v (.int .i64 n9))))]).bind fun r10 =>
((xAD r10).bind fun d11 =>
((xDI .i64 d11).bind fun n12 =>
(xite (decide (n12 < (0 : Int)))
(xif (xokR (A.tup [(A.one (C.full [])), (A.one (C.d (D.v (.int .i64 (7 : Int)))))]))
(some ((A.tup [(A.one (C.full [])), (A.one (C.d (D.v (.int .i64 (7 : Int)))))]), H)))
(xite (decide ((by3 : List UInt8) = []))
(xif (xokR (A.tup [(A.one (C.full [])), (A.one (C.d (D.v (.int .i64 (4 : Int)))))]))
(some ((A.tup [(A.one (C.full [])), (A.one (C.d (D.v (.int .i64 (4 : Int)))))]), H)))
((Φ i_ref08_Columns [(A.one (C.d (D.sl t1)))]).bind fun r13 =>
((xAD r13).bind fun d14 =>
((xDI .i64 d14).bind fun n15 =>
(xite (decide (n15 = (8 : Int)))
(xif (xokR (A.tup [(A.one (C.full [])), (A.one (C.d (D.v (.int .i64 (2 : Int)))))]))
(some ((A.tup [(A.one (C.full [])), (A.one (C.d (D.v (.int .i64 (2 : Int)))))]), H)))
(iter (fun (x : Hp × List (List D) × List UInt8 × Int × C × Int × Unit) (rec : (Hp × List (List D) × List UInt8 × Int × C × Int × Unit) → Option (A × Hp)) => ref08_Split_l0 Φ Ψ fuel (fun H22 t23 by24 k25 out26 i27 => rec (H22, t23, by24, k25, out26, i27, ())) x.1 x.2.1 x.2.2.1 x.2.2.2.1 x.2.2.2.2.1 x.2.2.2.2.2.1) fuel (H, t1, by3, n12, (C.full []), (0 : Int), ()))))))))))))))))))
theorem ref08_Split_eq (Φ : Phi) (Ψ : Psi) (fuel : Nat) (t1 : List (List D)) (column2 : Int) (by3 : List UInt8) (H : Hp) : xbodyH TT0 Φ Ψ sel_ref08_Split fuel sp_ref08_Split Try.f19 [(A.one (C.d (D.sl t1))), (A.one (C.d (D.v (.int .i64 column2)))), (A.one (C.d (D.s by3)))] H = ref08_Split Φ Ψ fuel t1 column2 by3 H := by kernel_rfl
/-! tables_Row -/
def sp_tables_Row : List LSpec := []
def tables_Row (Φ : Phi) (fuel : Nat) (t1 : List (List D)) (i2 : Int) : Option A :=
((Φ i_tables_Check [(A.one (C.d (D.sl t1)))]).bind fun r3 =>
((xAD r3).bind fun d4 =>
((xDI .i64 d4).bind fun n5 =>
(xite (!decide (n5 = (0 : Int)))
(some (A.tup [(A.one (C.d (D.sl []))), (A.one (C.d (D.v (.int .i64 n5))))]))
((Φ i_tables_place [(A.one (C.d (D.v (.int .i64 i2)))), (A.one (C.d (D.v (.int .i64 ((t1).length : Int)))))]).bind fun r6 =>
((xAD r6).bind fun d7 =>
((xDI .i64 d7).bind fun n8 =>
(xite (decide (n8 < (0 : Int)))
(some (A.tup [(A.one (C.d (D.sl []))), (A.one (C.d (D.v (.int .i64 (7 : Int)))))]))
((xElem 1 t1 n8).bind fun c9 =>
(xif (decide (1 ≤ (c9).length))
((xDL (List.getD c9 0 (D.s []))).bind fun l10 =>
((Φ i_slices_Clone_string_string [(A.one (C.d (D.sl l10)))]).bind fun r11 =>
((xAD r11).bind fun d12 =>
((xDL d12).bind fun l13 =>
(some (A.tup [(A.one (C.d (D.sl l13))), (A.one (C.d (D.v (.int .i64 (0 : Int)))))]))))))))))))))))
theorem tables_Row_eq (Φ : Phi) (fuel : Nat) (t1 : List (List D)) (i2 : Int) : xbody TT0 Φ fuel sp_tables_Row Try.f20 [(A.one (C.d (D.sl t1))), (A.one (C.d (D.v (.int .i64 i2))))] = tables_Row Φ fuel t1 i2 := by kernel_rfl
/-! ref08_Row -/
def sp_ref08_Row : List LSpec := []
def ref08_Row (Φ : Phi) (fuel : Nat) (t1 : List (List D)) (i2 : Int) : Option A :=
((Φ i_ref08_Check [(A.one (C.d (D.sl t1)))]).bind fun r3 =>
((xAD r3).bind fun d4 =>
((xDI .i64 d4).bind fun n5 =>
(xite (!decide (n5 = (0 : Int)))
(some (A.tup [(A.one (C.d (D.sl []))), (A.one (C.d (D.v (.int .i64 n5))))]))
((Φ i_ref08_index [(A.one (C.d (D.v (.int .i64 i2)))), (A.one (C.d (D.v (.int .i64 ((t1).length : Int)))))]).bind fun r6 =>
((xAD r6).bind fun d7 =>
((xDI .i64 d7).bind fun n8 =>
(xite (decide (n8 < (0 : Int)))
(some (A.tup [(A.one (C.d (D.sl []))), (A.one (C.d (D.v (.int .i64 (7 : Int)))))]))
((Φ i_ref08_index [(A.one (C.d (D.v (.int .i64 i2)))), (A.one (C.d (D.v (.int .i64 ((t1).length : Int)))))]).bind fun r9 =>
((xAD r9).bind fun d10 =>
((xDI .i64 d10).bind fun n11 =>
((xElem 1 t1 n11).bind fun c12 =>
(xif (decide (1 ≤ (c12).length))
((xDL (List.getD c12 0 (D.s []))).bind fun l13 =>
((Φ i_ref08_list [(A.one (C.d (D.sl l13)))]).bind fun r14 =>
((xAD r14).bind fun d15 =>
((xDL d15).bind fun l16 =>
(some (A.tup [(A.one (C.d (D.sl l16))), (A.one (C.d (D.v (.int .i64 (0 : Int)))))])))))))))))))))))))
theorem ref08_Row_eq (Φ : Phi) (fuel : Nat) (t1 : List (List D)) (i2 : Int) : xbody TT0 Φ fuel sp_ref08_Row Try.f21 [(A.one (C.d (D.sl t1))), (A.one (C.d (D.v (.int .i64 i2))))] = ref08_Row Φ fuel t1 i2 := by kernel_rfl
/-! tables_Column -/
def sp_tables_Column : List LSpec := [{ n := 1, m := 36, toks := [(9, .slot 7)], ks := [.slot 1 (.one (.int .i64)), .slot 7 (.one (.app 0 9)), .slot 21 (.one .sl), .slot 22 (.one (.int .i64)), .slot 23 (.one (.int .i64))] }]
def tables_Column_l0 (Φ : Phi) (fuel : Nat) (k0 : Int → List (List D) → List (List D) → Int → Int → Option A) (i17 : Int) (out18 : List (List D)) (l19 : List (List D)) (i20 : Int) (i21 : Int) : Option A :=
(xite (decide (i21 < i20))
((xElem 1 l19 i21).bind fun c22 =>
(xif (decide (1 ≤ (c22).length))
((xDL (List.getD c22 0 (D.s []))).bind fun l23 =>
((xElem 1 l23 i17).bind fun c24 =>
(xif (decide (1 ≤ (c24).length))
((xDS (List.getD c24 0 (D.s []))).bind fun s25 =>
((xApp 1 16 (out18.length) out18 ([[(D.s s25)]] : List (List D))).bind fun l26 =>
(xif (decide (l26.length = (l26 : List (List D)).length))
(k0 i17 l26 l19 i20 (IntKind.i64.wrap (i21 + (1 : Int))))))))))))
(some (A.tup [(A.one (C.d (D.sl out18))), (A.one (C.d (D.v (.int .i64 (0 : Int)))))])))
def tables_Column (Φ : Phi) (fuel : Nat) (t1 : List (List D)) (i2 : Int) : Option A :=
((Φ i_tables_Check [(A.one (C.d (D.sl t1)))]).bind fun r3 =>
((xAD r3).bind fun d4 =>
((xDI .i64 d4).bind fun n5 =>
(xite (!decide (n5 = (0 : Int)))
(some (A.tup [(A.one (C.d (D.sl []))), (A.one (C.d (D.v (.int .i64 n5))))]))
((Φ i_tables_columns [(A.one (C.d (D.sl t1)))]).bind fun r6 =>
((xAD r6).bind fun d7 =>
((xDI .i64 d7).bind fun n8 =>
((Φ i_tables_place [(A.one (C.d (D.v (.int .i64 i2)))), (A.one (C.d (D.v (.int .i64 n8))))]).bind fun r9 =>
((xAD r9).bind fun d10 =>
((xDI .i64 d10).bind fun n11 =>
(xite (decide (n11 < (0 : Int)))
(some (A.tup [(A.one (C.d (D.sl []))), (A.one (C.d (D.v (.int .i64 (7 : Int)))))]))
(xif (decide (([] : List (List D)).length = ([] : List (List D)).length))
(iter (fun (x : Int × List (List D) × List (List D) × Int × Int × Unit) (rec : (Int × List (List D) × List (List D) × Int × Int × Unit) → Option A) => tables_Column_l0 Φ fuel (fun i17 out18 l19 i20 i21 => rec (i17, out18, l19, i20, i21, ())) x.1 x.2.1 x.2.2.1 x.2.2.2.1 x.2.2.2.2.1) fuel (n11, [], t1, ((t1).length : Int), (0 : Int), ()))))))))))))))
theorem tables_Column_eq (Φ : Phi) (fuel : Nat) (t1 : List (List D)) (i2 : Int) : xbody TT0 Φ fuel sp_tables_Column Try.f22 [(A.one (C.d (D.sl t1))), (A.one (C.d (D.v (.int .i64 i2))))] = tables_Column Φ fuel t1 i2 := by kernel_rfl
/-! ref08_Column -/
def sp_ref08_Column : List LSpec := []
def ref08_Column (Φ : Phi) (fuel : Nat) (t1 : List (List D)) (i2 : Int) : Option A :=
((Φ i_ref08_Check [(A.one (C.d (D.sl t1)))]).bind fun r3 =>
((xAD r3).bind fun d4 =>
((xDI .i64 d4).bind fun n5 =>
(xite (!decide (n5 = (0 : Int)))
(some (A.tup [(A.one (C.d (D.sl []))), (A.one (C.d (D.v (.int .i64 n5))))]))
((Φ i_ref08_Columns [(A.one (C.d (D.sl t1)))]).bind fun r6 =>
((xAD r6).bind fun d7 =>
((xDI .i64 d7).bind fun n8 =>
((Φ i_ref08_index [(A.one (C.d (D.v (.int .i64 i2)))), (A.one (C.d (D.v (.int .i64 n8))))]).bind fun r9 =>
((xAD r9).bind fun d10 =>
((xDI .i64 d10).bind fun n11 =>
(xite (decide (n11 < (0 : Int)))
(some (A.tup [(A.one (C.d (D.sl []))), (A.one (C.d (D.v (.int .i64 (7 : Int)))))]))
((Φ i_ref08_column [(A.one (C.d (D.sl t1))), (A.one (C.d (D.v (.int .i64 n11))))]).bind fun r12 =>
((xAD r12).bind fun d13 =>
((xDL d13).bind fun l14 =>
(some (A.tup [(A.one (C.d (D.sl l14))), (A.one (C.d (D.v (.int .i64 (0 : Int)))))]))))))))))))))))
theorem ref08_Column_eq (Φ : Phi) (fuel : Nat) (t1 : List (List D)) (i2 : Int) : xbody TT0 Φ fuel sp_ref08_Column Try.f23 [(A.one (C.d (D.sl t1))), (A.one (C.d (D.v (.int .i64 i2))))] = ref08_Column Φ fuel t1 i2 := by kernel_rfl
/-! tables_Cell -/
def sp_tables_Cell : List LSpec := []
def tables_Cell (Φ : Phi) (fuel : Nat) (t1 : List (List D)) (i2 : Int) (k3 : Int) : Option A :=
((Φ i_tables_Check [(A.one (C.d (D.sl t1)))]).bind fun r4 =>
((xAD r4).bind fun d5 =>
((xDI .i64 d5).bind fun n6 =>
(xite (!decide (n6 = (0 : Int)))
(some (A.tup [(A.one (C.d (D.s []))), (A.one (C.d (D.v (.int .i64 n6))))]))
((Φ i_tables_place [(A.one (C.d (D.v (.int .i64 i2)))), (A.one (C.d (D.v (.int .i64 ((t1).length : Int)))))]).bind fun r7 =>
((xAD r7).bind fun d8 =>
((xDI .i64 d8).bind fun n9 =>
((Φ i_tables_columns [(A.one (C.d (D.sl t1)))]).bind fun r10 =>
((xAD r10).bind fun d11 =>
((xDI .i64 d11).bind fun n12 =>
((Φ i_tables_place [(A.one (C.d (D.v (.int .i64 k3)))), (A.one (C.d (D.v (.int .i64 n12))))]).bind fun r13 =>
((xAD r13).bind fun d14 =>
((xDI .i64 d14).bind fun n15 =>
(xite (decide (n9 < (0 : Int)))
(some (A.tup [(A.one (C.d (D.s []))), (A.one (C.d (D.v (.int .i64 (7 : Int)))))]))
(xite (decide (n15 < (0 : Int)))
(some (A.tup [(A.one (C.d (D.s []))), (A.one (C.d (D.v (.int .i64 (7 : Int)))))]))
((xElem 1 t1 n9).bind fun c16 =>
(xif (decide (1 ≤ (c16).length))
((xDL (List.getD c16 0 (D.s []))).bind fun l17 =>
((xElem 1 l17 n15).bind fun c18 =>
(xif (decide (1 ≤ (c18).length))
((xDS (List.getD c18 0 (D.s []))).bind fun s19 =>
(some (A.tup [(A.one (C.d (D.s s19))), (A.one (C.d (D.v (.int .i64 (0 : Int)))))])))))))))))))))))))))))
theorem tables_Cell_eq (Φ : Phi) (fuel : Nat) (t1 : List (List D)) (i2 : Int) (k3 : Int) : xbody TT0 Φ fuel sp_tables_Cell Try.f24 [(A.one (C.d (D.sl t1))), (A.one (C.d (D.v (.int .i64 i2)))), (A.one (C.d (D.v (.int .i64 k3))))] = tables_Cell Φ fuel t1 i2 k3 := by kernel_rfl
/-! ref08_Cell -/
def sp_ref08_Cell : List LSpec := []
def ref08_Cell (Φ : Phi) (fuel : Nat) (t1 : List (List D)) (i2 : Int) (k3 : Int) : Option A :=
((Φ i_ref08_Row [(A.one (C.d (D.sl t1))), (A.one (C.d (D.v (.int .i64 i2))))]).bind fun r4 =>
((xtup r4 0).bind fun r5 =>
((xAD r5).bind fun d6 =>
((xDL d6).bind fun l7 =>
((xtup r4 1).bind fun r8 =>
((xAD r8).bind fun d9 =>
((xDI .i64 d9).bind fun n10 =>
(xite (!decide (n10 = (0 : Int)))
(some (A.tup [(A.one (C.d (D.s []))), (A.one (C.d (D.v (.int .i64 n10))))]))
((Φ i_ref08_index [(A.one (C.d (D.v (.int .i64 k3)))), (A.one (C.d (D.v (.int .i64 ((l7).length : Int)))))]).bind fun r11 =>
((xAD r11).bind fun d12 =>
((xDI .i64 d12).bind fun n13 =>
(xite (decide (n13 < (0 : Int)))
(some (A.tup [(A.one (C.d (D.s []))), (A.one (C.d (D.v (.int .i64 (7 : Int)))))]))
((Φ i_ref08_index [(A.one (C.d (D.v (.int .i64 k3)))), (A.one (C.d (D.v (.int .i64 ((l7).length : Int)))))]).bind fun r14 =>
((xAD r14).bind fun d15 =>
((xDI .i64 d15).bind fun n16 =>
((xElem 1 l7 n16).bind fun c17 =>
(xif (decide (1 ≤ (c17).length))
((xDS (List.getD c17 0 (D.s []))).bind fun s18 =>
(some (A.tup [(A.one (C.d (D.s s18))), (A.one (C.d (D.v (.int .i64 (0 : Int)))))]))))))))))))))))))))
theorem ref08_Cell_eq (Φ : Phi) (fuel : Nat) (t1 : List (List D)) (i2 : Int) (k3 : Int) : xbody TT0 Φ fuel sp_ref08_Cell Try.f25 [(A.one (C.d (D.sl t1))), (A.one (C.d (D.v (.int .i64 i2)))), (A.one (C.d (D.v (.int .i64 k3))))] = ref08_Cell Φ fuel t1 i2 k3 := by kernel_rfl
end Go.Av
