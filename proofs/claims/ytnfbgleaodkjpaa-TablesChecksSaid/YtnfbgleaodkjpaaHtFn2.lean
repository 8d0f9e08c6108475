/-
  What each function gives when run. Printed by a program of mine (gen.py).
-/
import Derived.Test.YtnfbgleaodkjpaaHtTy
set_option linter.all false
set_option linter.unusedVariables false
set_option maxRecDepth 100000
namespace Go.Av
open Go.Proofs
/-! ref08_Texts -/
def sp_ref08_Texts : List LSpec := [{ n := 0, m := 26, toks := [], ks := [.slot 0 (.one .sl), .slot 1 (.one .sl), .slot 5 (.one (.int .i64))] }]
def ref08_Texts_l0 (Φ : Phi) (fuel : Nat) (k0 : List (List D) → List (List D) → Int → Option A) (a3 : List (List D)) (b4 : List (List D)) (i5 : Int) : Option A :=
(xite (decide (i5 < ((a3).length : Int)))
((xElem 1 a3 i5).bind fun c6 =>
(xif (decide (1 ≤ (c6).length))
((xDS (List.getD c6 0 (D.s []))).bind fun s7 =>
((xElem 1 b4 i5).bind fun c8 =>
(xif (decide (1 ≤ (c8).length))
((xDS (List.getD c8 0 (D.s []))).bind fun s9 =>
(xite (!decide ((s7 : List UInt8) = s9))
(some (A.one (C.d (D.v (.bool false)))))
(k0 a3 b4 (IntKind.i64.wrap (i5 + (1 : Int)))))))))))
(some (A.one (C.d (D.v (.bool true))))))
def ref08_Texts (Φ : Phi) (fuel : Nat) (a1 : List (List D)) (b2 : List (List D)) : Option A :=
(xite (!decide (((a1).length : Int) = ((b2).length : Int)))
(some (A.one (C.d (D.v (.bool false)))))
(iter (fun (x : List (List D) × List (List D) × Int × Unit) (rec : (List (List D) × List (List D) × Int × Unit) → Option A) => ref08_Texts_l0 Φ fuel (fun a3 b4 i5 => rec (a3, b4, i5, ())) x.1 x.2.1 x.2.2.1) fuel (a1, b2, (0 : Int), ())))
theorem ref08_Texts_eq (Φ : Phi) (fuel : Nat) (a1 : List (List D)) (b2 : List (List D)) : xbody TT0 Φ fuel sp_ref08_Texts Try.f26 [(A.one (C.d (D.sl a1))), (A.one (C.d (D.sl b2)))] = ref08_Texts Φ fuel a1 b2 := by kernel_rfl
/-! tables_Check -/
def sp_tables_Check : List LSpec := [{ n := 0, m := 61, toks := [], ks := [.slot 0 (.one .sl), .slot 11 (.one .sl), .slot 12 (.one (.int .i64)), .slot 13 (.one (.int .i64))] }, { n := 0, m := 61, toks := [], ks := [.slot 0 (.one .sl), .slot 11 (.one .sl), .slot 12 (.one (.int .i64)), .slot 13 (.one (.int .i64)), .slot 34 (.one .sl), .slot 35 (.one (.int .i64)), .slot 36 (.one (.int .i64))] }, { n := 0, m := 61, toks := [], ks := [.slot 0 (.one .sl), .slot 6 (.one .str), .slot 11 (.one .sl), .slot 12 (.one (.int .i64)), .slot 13 (.one (.int .i64)), .slot 34 (.one .sl), .slot 35 (.one (.int .i64)), .slot 36 (.one (.int .i64)), .slot 44 (.one (.int .i64)), .slot 45 (.one (.int .i64))] }]
def tables_Check_l2 (Φ : Phi) (fuel : Nat) (k1 : List (List D) → List (List D) → Int → Int → List (List D) → Int → Int → Option A) (k2 : List (List D) → List UInt8 → List (List D) → Int → Int → List (List D) → Int → Int → Int → Int → Option A) (t19 : List (List D)) (s20 : List UInt8) (l21 : List (List D)) (i22 : Int) (i23 : Int) (l24 : List (List D)) (i25 : Int) (i26 : Int) (i27 : Int) (i28 : Int) : Option A :=
(xite (decide (i28 < i27))
((xIdxS s20 i28).bind fun c29 =>
(xite (decide ((c29.toNat : Int) < (32 : Int)))
(some (A.one (C.d (D.v (.int .i64 (4 : Int))))))
((xIdxS s20 i28).bind fun c30 =>
(xite (decide ((126 : Int) < (c30.toNat : Int)))
(some (A.one (C.d (D.v (.int .i64 (4 : Int))))))
(k2 t19 s20 l21 i22 i23 l24 i25 i26 i27 (IntKind.i64.wrap (i28 + (1 : Int))))))))
(k1 t19 l21 i22 i23 l24 i25 (IntKind.i64.wrap (i26 + (1 : Int)))))
def tables_Check_l1 (Φ : Phi) (fuel : Nat) (k0 : List (List D) → List (List D) → Int → Int → Option A) (k1 : List (List D) → List (List D) → Int → Int → List (List D) → Int → Int → Option A) (t10 : List (List D)) (l11 : List (List D)) (i12 : Int) (i13 : Int) (l14 : List (List D)) (i15 : Int) (i16 : Int) : Option A :=
(xite (decide (i16 < i15))
((xElem 1 l14 i16).bind fun c17 =>
(xif (decide (1 ≤ (c17).length))
((xDS (List.getD c17 0 (D.s []))).bind fun s18 =>
(xite (decide ((64 : Int) < ((s18).length : Int)))
(some (A.one (C.d (D.v (.int .i64 (2 : Int))))))
(iter (fun (x : List (List D) × List UInt8 × List (List D) × Int × Int × List (List D) × Int × Int × Int × Int × Unit) (rec : (List (List D) × List UInt8 × List (List D) × Int × Int × List (List D) × Int × Int × Int × Int × Unit) → Option A) => tables_Check_l2 Φ fuel k1 (fun t19 s20 l21 i22 i23 l24 i25 i26 i27 i28 => rec (t19, s20, l21, i22, i23, l24, i25, i26, i27, i28, ())) x.1 x.2.1 x.2.2.1 x.2.2.2.1 x.2.2.2.2.1 x.2.2.2.2.2.1 x.2.2.2.2.2.2.1 x.2.2.2.2.2.2.2.1 x.2.2.2.2.2.2.2.2.1 x.2.2.2.2.2.2.2.2.2.1) fuel (t10, s18, l11, i12, i13, l14, i15, i16, ((s18).length : Int), (0 : Int), ()))))))
(k0 t10 l11 i12 (IntKind.i64.wrap (i13 + (1 : Int)))))
def tables_Check_l0 (Φ : Phi) (fuel : Nat) (k0 : List (List D) → List (List D) → Int → Int → Option A) (t2 : List (List D)) (l3 : List (List D)) (i4 : Int) (i5 : Int) : Option A :=
(xite (decide (i5 < i4))
((xElem 1 l3 i5).bind fun c6 =>
(xif (decide (1 ≤ (c6).length))
((xDL (List.getD c6 0 (D.s []))).bind fun l7 =>
(xite (decide (((l7).length : Int) < (1 : Int)))
(some (A.one (C.d (D.v (.int .i64 (2 : Int))))))
(xite (decide ((8 : Int) < ((l7).length : Int)))
(some (A.one (C.d (D.v (.int .i64 (2 : Int))))))
((xElem 1 t2 (0 : Int)).bind fun c8 =>
(xif (decide (1 ≤ (c8).length))
((xDL (List.getD c8 0 (D.s []))).bind fun l9 =>
(xite (!decide (((l7).length : Int) = ((l9).length : Int)))
(some (A.one (C.d (D.v (.int .i64 (4 : Int))))))
(iter (fun (x : List (List D) × List (List D) × Int × Int × List (List D) × Int × Int × Unit) (rec : (List (List D) × List (List D) × Int × Int × List (List D) × Int × Int × Unit) → Option A) => tables_Check_l1 Φ fuel k0 (fun t10 l11 i12 i13 l14 i15 i16 => rec (t10, l11, i12, i13, l14, i15, i16, ())) x.1 x.2.1 x.2.2.1 x.2.2.2.1 x.2.2.2.2.1 x.2.2.2.2.2.1 x.2.2.2.2.2.2.1) fuel (t2, l3, i4, i5, l7, ((l7).length : Int), (0 : Int), ())))))))))))
(some (A.one (C.d (D.v (.int .i64 (0 : Int)))))))
def tables_Check (Φ : Phi) (fuel : Nat) (t1 : List (List D)) : Option A :=
(xite (decide ((8 : Int) < ((t1).length : Int)))
(some (A.one (C.d (D.v (.int .i64 (2 : Int))))))
(iter (fun (x : List (List D) × List (List D) × Int × Int × Unit) (rec : (List (List D) × List (List D) × Int × Int × Unit) → Option A) => tables_Check_l0 Φ fuel (fun t2 l3 i4 i5 => rec (t2, l3, i4, i5, ())) x.1 x.2.1 x.2.2.1 x.2.2.2.1) fuel (t1, t1, ((t1).length : Int), (0 : Int), ())))
theorem tables_Check_eq (Φ : Phi) (fuel : Nat) (t1 : List (List D)) : xbody TT0 Φ fuel sp_tables_Check Try.f27 [(A.one (C.d (D.sl t1)))] = tables_Check Φ fuel t1 := by kernel_rfl
/-! ref08_Check -/
def sp_ref08_Check : List LSpec := [{ n := 0, m := 91, toks := [], ks := [.slot 0 (.one .sl), .slot 3 (.one (.int .i64))] }, { n := 0, m := 91, toks := [], ks := [.slot 0 (.one .sl), .slot 3 (.one (.int .i64)), .slot 4 (.one (.int .i64))] }, { n := 0, m := 91, toks := [], ks := [.slot 0 (.one .sl), .slot 3 (.one (.int .i64)), .slot 4 (.one (.int .i64)), .slot 5 (.one (.int .i64))] }]
def ref08_Check_l2 (Φ : Phi) (fuel : Nat) (k1 : List (List D) → Int → Int → Option A) (k2 : List (List D) → Int → Int → Int → Option A) (t21 : List (List D)) (i22 : Int) (k23 : Int) (n24 : Int) : Option A :=
((xElem 1 t21 i22).bind fun c25 =>
(xif (decide (1 ≤ (c25).length))
((xDL (List.getD c25 0 (D.s []))).bind fun l26 =>
((xElem 1 l26 k23).bind fun c27 =>
(xif (decide (1 ≤ (c27).length))
((xDS (List.getD c27 0 (D.s []))).bind fun s28 =>
(xite (decide (n24 < ((s28).length : Int)))
((xElem 1 t21 i22).bind fun c29 =>
(xif (decide (1 ≤ (c29).length))
((xDL (List.getD c29 0 (D.s []))).bind fun l30 =>
((xElem 1 l30 k23).bind fun c31 =>
(xif (decide (1 ≤ (c31).length))
((xDS (List.getD c31 0 (D.s []))).bind fun s32 =>
((xIdxS s32 n24).bind fun c33 =>
(xite (decide ((c33.toNat : Int) < (32 : Int)))
(some (A.one (C.d (D.v (.int .i64 (4 : Int))))))
((xElem 1 t21 i22).bind fun c34 =>
(xif (decide (1 ≤ (c34).length))
((xDL (List.getD c34 0 (D.s []))).bind fun l35 =>
((xElem 1 l35 k23).bind fun c36 =>
(xif (decide (1 ≤ (c36).length))
((xDS (List.getD c36 0 (D.s []))).bind fun s37 =>
((xIdxS s37 n24).bind fun c38 =>
(xite (decide ((126 : Int) < (c38.toNat : Int)))
(some (A.one (C.d (D.v (.int .i64 (4 : Int))))))
(k2 t21 i22 k23 (IntKind.i64.wrap (n24 + (1 : Int))))))))))))))))))))
(k1 t21 i22 (IntKind.i64.wrap (k23 + (1 : Int)))))))))))
def ref08_Check_l1 (Φ : Phi) (fuel : Nat) (k0 : List (List D) → Int → Option A) (k1 : List (List D) → Int → Int → Option A) (t12 : List (List D)) (i13 : Int) (k14 : Int) : Option A :=
((xElem 1 t12 i13).bind fun c15 =>
(xif (decide (1 ≤ (c15).length))
((xDL (List.getD c15 0 (D.s []))).bind fun l16 =>
(xite (decide (k14 < ((l16).length : Int)))
((xElem 1 t12 i13).bind fun c17 =>
(xif (decide (1 ≤ (c17).length))
((xDL (List.getD c17 0 (D.s []))).bind fun l18 =>
((xElem 1 l18 k14).bind fun c19 =>
(xif (decide (1 ≤ (c19).length))
((xDS (List.getD c19 0 (D.s []))).bind fun s20 =>
(xite (decide ((64 : Int) < ((s20).length : Int)))
(some (A.one (C.d (D.v (.int .i64 (2 : Int))))))
(iter (fun (x : List (List D) × Int × Int × Int × Unit) (rec : (List (List D) × Int × Int × Int × Unit) → Option A) => ref08_Check_l2 Φ fuel k1 (fun t21 i22 k23 n24 => rec (t21, i22, k23, n24, ())) x.1 x.2.1 x.2.2.1 x.2.2.2.1) fuel (t12, i13, k14, (0 : Int), ())))))))))
(k0 t12 (IntKind.i64.wrap (i13 + (1 : Int))))))))
def ref08_Check_l0 (Φ : Phi) (fuel : Nat) (k0 : List (List D) → Int → Option A) (t2 : List (List D)) (i3 : Int) : Option A :=
(xite (decide (i3 < ((t2).length : Int)))
((xElem 1 t2 i3).bind fun c4 =>
(xif (decide (1 ≤ (c4).length))
((xDL (List.getD c4 0 (D.s []))).bind fun l5 =>
(xite (decide (((l5).length : Int) < (1 : Int)))
(some (A.one (C.d (D.v (.int .i64 (2 : Int))))))
((xElem 1 t2 i3).bind fun c6 =>
(xif (decide (1 ≤ (c6).length))
((xDL (List.getD c6 0 (D.s []))).bind fun l7 =>
(xite (decide ((8 : Int) < ((l7).length : Int)))
(some (A.one (C.d (D.v (.int .i64 (2 : Int))))))
((xElem 1 t2 i3).bind fun c8 =>
(xif (decide (1 ≤ (c8).length))
((xDL (List.getD c8 0 (D.s []))).bind fun l9 =>
((xElem 1 t2 (0 : Int)).bind fun c10 =>
(xif (decide (1 ≤ (c10).length))
((xDL (List.getD c10 0 (D.s []))).bind fun l11 =>
(xite (!decide (((l9).length : Int) = ((l11).length : Int)))
(some (A.one (C.d (D.v (.int .i64 (4 : Int))))))
(iter (fun (x : List (List D) × Int × Int × Unit) (rec : (List (List D) × Int × Int × Unit) → Option A) => ref08_Check_l1 Φ fuel k0 (fun t12 i13 k14 => rec (t12, i13, k14, ())) x.1 x.2.1 x.2.2.1) fuel (t2, i3, (0 : Int), ())))))))))))))))))
(some (A.one (C.d (D.v (.int .i64 (0 : Int)))))))
def ref08_Check (Φ : Phi) (fuel : Nat) (t1 : List (List D)) : Option A :=
(xite (decide ((8 : Int) < ((t1).length : Int)))
(some (A.one (C.d (D.v (.int .i64 (2 : Int))))))
(iter (fun (x : List (List D) × Int × Unit) (rec : (List (List D) × Int × Unit) → Option A) => ref08_Check_l0 Φ fuel (fun t2 i3 => rec (t2, i3, ())) x.1 x.2.1) fuel (t1, (0 : Int), ())))
theorem ref08_Check_eq (Φ : Phi) (fuel : Nat) (t1 : List (List D)) : xbody TT0 Φ fuel sp_ref08_Check Try.f28 [(A.one (C.d (D.sl t1)))] = ref08_Check Φ fuel t1 := by kernel_rfl
/-! tables_Transpose -/
def sp_tables_Transpose : List LSpec := [{ n := 0, m := 40, toks := [], ks := [.hp, .slot 3 (.one .rc), .slot 14 (.one .sl), .slot 15 (.one (.int .i64)), .slot 16 (.one (.int .i64))] }, { n := 0, m := 40, toks := [], ks := [.hp, .slot 3 (.one .rc), .slot 14 (.one .sl), .slot 15 (.one (.int .i64)), .slot 16 (.one (.int .i64)), .slot 20 (.one .rc), .slot 21 (.one (.int .i64)), .slot 22 (.one (.int .i64))] }]
noncomputable def tables_Transpose_l1 (Φ : Phi) (Ψ : Psi) (fuel : Nat) (k0 : Hp → C → List (List D) → Int → Int → Option (A × Hp)) (k1 : Hp → C → List (List D) → Int → Int → C → Int → Int → Option (A × Hp)) (H17 : Hp) (out18 : C) (l19 : List (List D)) (i20 : Int) (i21 : Int) (c22 : C) (i23 : Int) (i24 : Int) : Option (A × Hp) :=
(xite (decide (i24 < i23))
((hAddr c22 i24).bind fun p25 =>
((hLoad H17 p25).bind fun c26 =>
((xS (A.one c26)).bind fun s27 =>
((hAddr out18 i24).bind fun p28 =>
((hLoad H17 p28).bind fun c29 =>
((hLen c29).bind fun n30 =>
((hCells H17 (C.full ([[(D.s s27)]] : List (List D)))).bind fun ys31 =>
(xif (decide ((n30 + ys31.length) * 16 ≤ 140737488355328))
((hApp H17 c29 ys31).bind fun q32 =>
((hAddr out18 i24).bind fun p33 =>
((hStore q32.2 p33 q32.1).bind fun H34 =>
(xif (C.hok out18)
(xif (C.hok c22)
(k1 H34 out18 l19 i20 i21 c22 i23 (IntKind.i64.wrap (i24 + (1 : Int)))))))))))))))))
(xif (C.hok out18)
(k0 H17 out18 l19 i20 (IntKind.i64.wrap (i21 + (1 : Int))))))
noncomputable def tables_Transpose_l0 (Φ : Phi) (Ψ : Psi) (fuel : Nat) (k0 : Hp → C → List (List D) → Int → Int → Option (A × Hp)) (H9 : Hp) (out10 : C) (l11 : List (List D)) (i12 : Int) (i13 : Int) : Option (A × Hp) :=
(xite (decide (i13 < i12))
((hAddr (C.d (D.sl l11)) i13).bind fun p14 =>
((hLoad H9 p14).bind fun c15 =>
((hLen c15).bind fun n16 =>
(xif (C.hok out10)
(xif (C.hok c15)
(iter (fun (x : Hp × C × List (List D) × Int × Int × C × Int × Int × Unit) (rec : (Hp × C × List (List D) × Int × Int × C × Int × Int × Unit) → Option (A × Hp)) => tables_Transpose_l1 Φ Ψ fuel k0 (fun H17 out18 l19 i20 i21 c22 i23 i24 => rec (H17, out18, l19, i20, i21, c22, i23, i24, ())) x.1 x.2.1 x.2.2.1 x.2.2.2.1 x.2.2.2.2.1 x.2.2.2.2.2.1 x.2.2.2.2.2.2.1 x.2.2.2.2.2.2.2.1) fuel (H9, out10, l11, i12, i13, c15, ((n16 : Nat) : Int), (0 : Int), ())))))))
(xif (xokR (A.one out10))
(some ((A.one out10), H9))))
noncomputable def tables_Transpose (Φ : Phi) (Ψ : Psi) (fuel : Nat) (t1 : List (List D)) (H : Hp) : Option (A × Hp) :=
((Φ i_tables_Check [(A.one (C.d (D.sl t1)))]).bind fun r2 =>
((xAD r2).bind fun d3 =>
((xDI .i64 d3).bind fun n4 =>
(xite (!decide (n4 = (0 : Int)))
(xif (xokR (A.one (C.full [])))
(some ((A.one (C.full [])), H)))
((Φ i_tables_columns [(A.one (C.d (D.sl t1)))]).bind fun r5 =>
((xAD r5).bind fun d6 =>
((xDI .i64 d6).bind fun n7 =>
(xif (decide (n7 = n7) && (decide (0 ≤ n7) && (decide (n7 ≤ 9223372036854775807) && decide (24 * n7 ≤ 281474976710656))))
((hPush H ⟨List.replicate (n7).toNat (C.full []), true⟩).bind fun H8 =>
(iter (fun (x : Hp × C × List (List D) × Int × Int × Unit) (rec : (Hp × C × List (List D) × Int × Int × Unit) → Option (A × Hp)) => tables_Transpose_l0 Φ Ψ fuel (fun H9 out10 l11 i12 i13 => rec (H9, out10, l11, i12, i13, ())) x.1 x.2.1 x.2.2.1 x.2.2.2.1 x.2.2.2.2.1) fuel (H8, (C.hs H.length 0 ((n7).toNat)), t1, (((t1 : List (List D)).length : Nat) : Int), (0 : Int), ())))))))))))
theorem tables_Transpose_eq (Φ : Phi) (Ψ : Psi) (fuel : Nat) (t1 : List (List D)) (H : Hp) : xbodyH TT0 Φ Ψ sel_tables_Transpose fuel sp_tables_Transpose Try.f29 [(A.one (C.d (D.sl t1)))] H = tables_Transpose Φ Ψ fuel t1 H := by kernel_rfl
/-! ref08_Transpose -/
def sp_ref08_Transpose : List LSpec := [{ n := 0, m := 21, toks := [], ks := [.hp, .slot 0 (.one .rc), .slot 3 (.one .rc), .slot 4 (.one (.int .i64))] }]
noncomputable def ref08_Transpose_l0 (Φ : Phi) (Ψ : Psi) (fuel : Nat) (k0 : Hp → C → C → Int → Option (A × Hp)) (H10 : Hp) (t11 : C) (out12 : C) (k13 : Int) : Option (A × Hp) :=
((hLow H10 3 t11).bind fun d14 =>
((Φ i_ref08_Columns [(A.one (C.d d14))]).bind fun r15 =>
((xAD r15).bind fun d16 =>
((xDI .i64 d16).bind fun n17 =>
(xite (decide (k13 < n17))
(xif (C.hok t11)
((Ψ i_ref08_column [(A.one t11), (A.one (C.d (D.v (.int .i64 k13))))] H10).bind fun q18 =>
((xone q18.1).bind fun c19 =>
((oneCs [(A.one c19)]).bind fun cs20 =>
((hPush q18.2 ⟨cs20, true⟩).bind fun H21 =>
((hLen out12).bind fun n22 =>
((hCells H21 (C.hs q18.2.length 0 1)).bind fun ys23 =>
(xif (decide ((n22 + ys23.length) * 24 ≤ 140737488355328))
((hApp H21 out12 ys23).bind fun q24 =>
(xif (C.hok t11)
(xif (C.hok q24.1)
(k0 q24.2 t11 q24.1 (IntKind.i64.wrap (k13 + (1 : Int)))))))))))))))
(xif (xokR (A.one out12))
(some ((A.one out12), H10))))))))
noncomputable def ref08_Transpose (Φ : Phi) (Ψ : Psi) (fuel : Nat) (t1 : C) (H : Hp) : Option (A × Hp) :=
((hLow H 3 t1).bind fun d2 =>
((Φ i_ref08_Check [(A.one (C.d d2))]).bind fun r3 =>
((xAD r3).bind fun d4 =>
((xDI .i64 d4).bind fun n5 =>
(xite (!decide (n5 = (0 : Int)))
(xif (xokR (A.one (C.full [])))
(some ((A.one (C.full [])), H)))
(xif (C.hok t1)
(iter (fun (x : Hp × C × C × Int × Unit) (rec : (Hp × C × C × Int × Unit) → Option (A × Hp)) => ref08_Transpose_l0 Φ Ψ fuel (fun H10 t11 out12 k13 => rec (H10, t11, out12, k13, ())) x.1 x.2.1 x.2.2.1 x.2.2.2.1) fuel (H, t1, (C.full []), (0 : Int), ()))))))))
theorem ref08_Transpose_eq (Φ : Phi) (Ψ : Psi) (fuel : Nat) (t1 : C) (H : Hp) : xbodyH TT0 Φ Ψ sel_ref08_Transpose fuel sp_ref08_Transpose Try.f30 [(A.one t1)] H = ref08_Transpose Φ Ψ fuel t1 H := by kernel_rfl
/-! tables_Fill -/
def sp_tables_Fill : List LSpec := [{ n := 0, m := 46, toks := [], ks := [.hp, .slot 3 (.one .rc), .slot 4 (.one (.int .i64))] }, { n := 0, m := 46, toks := [], ks := [.hp, .slot 3 (.one .rc), .slot 4 (.one (.int .i64)), .slot 21 (.one .rc), .slot 22 (.one (.int .i64)), .slot 23 (.one (.int .i64))] }]
noncomputable def tables_Fill_l1 (Φ : Phi) (Ψ : Psi) (fuel : Nat) (k0 : Hp → C → Int → Option (A × Hp)) (k1 : Hp → C → Int → C → Int → Int → Option (A × Hp)) (H14 : Hp) (out15 : C) (i16 : Int) (c17 : C) (i18 : Int) (i19 : Int) : Option (A × Hp) :=
(xite (decide (i19 < i18))
((hAddr c17 i19).bind fun p20 =>
((hLoad H14 p20).bind fun c21 =>
((xS (A.one c21)).bind fun s22 =>
(xite (decide ((s22 : List UInt8) = []))
((hAddr out15 i16).bind fun p23 =>
((hLoad H14 p23).bind fun c24 =>
((hAddr out15 (IntKind.i64.wrap (i16 - (1 : Int)))).bind fun p25 =>
((hLoad H14 p25).bind fun c26 =>
((hAddr c26 i19).bind fun p27 =>
((hLoad H14 p27).bind fun c28 =>
((xS (A.one c28)).bind fun s29 =>
((hAddr c24 i19).bind fun p30 =>
((hStore H14 p30 (C.d (D.s s29))).bind fun H31 =>
(xif (C.hok out15)
(xif (C.hok c17)
(k1 H31 out15 i16 c17 i18 (IntKind.i64.wrap (i19 + (1 : Int)))))))))))))))
(xif (C.hok out15)
(xif (C.hok c17)
(k1 H14 out15 i16 c17 i18 (IntKind.i64.wrap (i19 + (1 : Int))))))))))
(xif (C.hok out15)
(k0 H14 out15 (IntKind.i64.wrap (i16 + (1 : Int))))))
noncomputable def tables_Fill_l0 (Φ : Phi) (Ψ : Psi) (fuel : Nat) (k0 : Hp → C → Int → Option (A × Hp)) (H7 : Hp) (out8 : C) (i9 : Int) : Option (A × Hp) :=
((hLen out8).bind fun n10 =>
(xite (decide (i9 < ((n10 : Nat) : Int)))
((hAddr out8 i9).bind fun p11 =>
((hLoad H7 p11).bind fun c12 =>
((hLen c12).bind fun n13 =>
(xif (C.hok out8)
(xif (C.hok c12)
(iter (fun (x : Hp × C × Int × C × Int × Int × Unit) (rec : (Hp × C × Int × C × Int × Int × Unit) → Option (A × Hp)) => tables_Fill_l1 Φ Ψ fuel k0 (fun H14 out15 i16 c17 i18 i19 => rec (H14, out15, i16, c17, i18, i19, ())) x.1 x.2.1 x.2.2.1 x.2.2.2.1 x.2.2.2.2.1 x.2.2.2.2.2.1) fuel (H7, out8, i9, c12, ((n13 : Nat) : Int), (0 : Int), ())))))))
(xif (xokR (A.one out8))
(some ((A.one out8), H7)))))
noncomputable def tables_Fill (Φ : Phi) (Ψ : Psi) (fuel : Nat) (t1 : List (List D)) (H : Hp) : Option (A × Hp) :=
((Φ i_tables_Check [(A.one (C.d (D.sl t1)))]).bind fun r2 =>
((xAD r2).bind fun d3 =>
((xDI .i64 d3).bind fun n4 =>
(xite (!decide (n4 = (0 : Int)))
(xif (xokR (A.one (C.full [])))
(some ((A.one (C.full [])), H)))
((Ψ i_tables_clone [(A.one (C.d (D.sl t1)))] H).bind fun q5 =>
((xone q5.1).bind fun c6 =>
(xif (C.hok c6)
(iter (fun (x : Hp × C × Int × Unit) (rec : (Hp × C × Int × Unit) → Option (A × Hp)) => tables_Fill_l0 Φ Ψ fuel (fun H7 out8 i9 => rec (H7, out8, i9, ())) x.1 x.2.1 x.2.2.1) fuel (q5.2, c6, (1 : Int), ())))))))))
theorem tables_Fill_eq (Φ : Phi) (Ψ : Psi) (fuel : Nat) (t1 : List (List D)) (H : Hp) : xbodyH TT0 Φ Ψ sel_tables_Fill fuel sp_tables_Fill Try.f31 [(A.one (C.d (D.sl t1)))] H = tables_Fill Φ Ψ fuel t1 H := by kernel_rfl
/-! ref08_Fill -/
def sp_ref08_Fill : List LSpec := [{ n := 0, m := 49, toks := [], ks := [.hp, .slot 3 (.one .rc), .slot 4 (.one (.int .i64))] }, { n := 0, m := 49, toks := [], ks := [.hp, .slot 3 (.one .rc), .slot 4 (.one (.int .i64)), .slot 5 (.one (.int .i64))] }]
noncomputable def ref08_Fill_l1 (Φ : Phi) (Ψ : Psi) (fuel : Nat) (k0 : Hp → C → Int → Option (A × Hp)) (k1 : Hp → C → Int → Int → Option (A × Hp)) (H11 : Hp) (out12 : C) (i13 : Int) (k14 : Int) : Option (A × Hp) :=
((hAddr out12 i13).bind fun p15 =>
((hLoad H11 p15).bind fun c16 =>
((hLen c16).bind fun n17 =>
(xite (decide (k14 < ((n17 : Nat) : Int)))
((hAddr out12 i13).bind fun p18 =>
((hLoad H11 p18).bind fun c19 =>
((hAddr c19 k14).bind fun p20 =>
((hLoad H11 p20).bind fun c21 =>
((xS (A.one c21)).bind fun s22 =>
(xite (decide ((s22 : List UInt8) = []))
((hAddr out12 i13).bind fun p23 =>
((hLoad H11 p23).bind fun c24 =>
((hAddr out12 (IntKind.i64.wrap (i13 - (1 : Int)))).bind fun p25 =>
((hLoad H11 p25).bind fun c26 =>
((hAddr c26 k14).bind fun p27 =>
((hLoad H11 p27).bind fun c28 =>
((xS (A.one c28)).bind fun s29 =>
((hAddr c24 k14).bind fun p30 =>
((hStore H11 p30 (C.d (D.s s29))).bind fun H31 =>
(xif (C.hok out12)
(k1 H31 out12 i13 (IntKind.i64.wrap (k14 + (1 : Int))))))))))))))
(xif (C.hok out12)
(k1 H11 out12 i13 (IntKind.i64.wrap (k14 + (1 : Int)))))))))))
(xif (C.hok out12)
(k0 H11 out12 (IntKind.i64.wrap (i13 + (1 : Int)))))))))
noncomputable def ref08_Fill_l0 (Φ : Phi) (Ψ : Psi) (fuel : Nat) (k0 : Hp → C → Int → Option (A × Hp)) (H7 : Hp) (out8 : C) (i9 : Int) : Option (A × Hp) :=
((hLen out8).bind fun n10 =>
(xite (decide (i9 < ((n10 : Nat) : Int)))
(xif (C.hok out8)
(iter (fun (x : Hp × C × Int × Int × Unit) (rec : (Hp × C × Int × Int × Unit) → Option (A × Hp)) => ref08_Fill_l1 Φ Ψ fuel k0 (fun H11 out12 i13 k14 => rec (H11, out12, i13, k14, ())) x.1 x.2.1 x.2.2.1 x.2.2.2.1) fuel (H7, out8, i9, (0 : Int), ())))
(xif (xokR (A.one out8))
(some ((A.one out8), H7)))))
noncomputable def ref08_Fill (Φ : Phi) (Ψ : Psi) (fuel : Nat) (t1 : List (List D)) (H : Hp) : Option (A × Hp) :=
((Φ i_ref08_Check [(A.one (C.d (D.sl t1)))]).bind fun r2 =>
((xAD r2).bind fun d3 =>
((xDI .i64 d3).bind fun n4 =>
(xite (!decide (n4 = (0 : Int)))
(xif (xokR (A.one (C.full [])))
(some ((A.one (C.full [])), H)))
((Ψ i_ref08_table [(A.one (C.d (D.sl t1)))] H).bind fun q5 =>
((xone q5.1).bind fun c6 =>
(xif (C.hok c6)
(iter (fun (x : Hp × C × Int × Unit) (rec : (Hp × C × Int × Unit) → Option (A × Hp)) => ref08_Fill_l0 Φ Ψ fuel (fun H7 out8 i9 => rec (H7, out8, i9, ())) x.1 x.2.1 x.2.2.1) fuel (q5.2, c6, (1 : Int), ())))))))))
theorem ref08_Fill_eq (Φ : Phi) (Ψ : Psi) (fuel : Nat) (t1 : List (List D)) (H : Hp) : xbodyH TT0 Φ Ψ sel_ref08_Fill fuel sp_ref08_Fill Try.f32 [(A.one (C.d (D.sl t1)))] H = ref08_Fill Φ Ψ fuel t1 H := by kernel_rfl
/-! law08_distinct -/
def sp_law08_distinct : List LSpec := [{ n := 0, m := 25, toks := [], ks := [.slot 0 (.one .sl), .slot 3 (.one (.int .i64))] }, { n := 0, m := 25, toks := [], ks := [.slot 0 (.one .sl), .slot 3 (.one (.int .i64)), .slot 4 (.one (.int .i64))] }]
def law08_distinct_l1 (Φ : Phi) (fuel : Nat) (k0 : List (List D) → Int → Option A) (k1 : List (List D) → Int → Int → Option A) (l4 : List (List D)) (i5 : Int) (k6 : Int) : Option A :=
(xite (decide (k6 < i5))
((xElem 1 l4 i5).bind fun c7 =>
(xif (decide (1 ≤ (c7).length))
((xDS (List.getD c7 0 (D.s []))).bind fun s8 =>
((xElem 1 l4 k6).bind fun c9 =>
(xif (decide (1 ≤ (c9).length))
((xDS (List.getD c9 0 (D.s []))).bind fun s10 =>
(xite (decide ((s8 : List UInt8) = s10))
(some (A.one (C.d (D.v (.bool false)))))
(k1 l4 i5 (IntKind.i64.wrap (k6 + (1 : Int)))))))))))
(k0 l4 (IntKind.i64.wrap (i5 + (1 : Int)))))
def law08_distinct_l0 (Φ : Phi) (fuel : Nat) (k0 : List (List D) → Int → Option A) (l2 : List (List D)) (i3 : Int) : Option A :=
(xite (decide (i3 < ((l2).length : Int)))
(iter (fun (x : List (List D) × Int × Int × Unit) (rec : (List (List D) × Int × Int × Unit) → Option A) => law08_distinct_l1 Φ fuel k0 (fun l4 i5 k6 => rec (l4, i5, k6, ())) x.1 x.2.1 x.2.2.1) fuel (l2, i3, (0 : Int), ()))
(some (A.one (C.d (D.v (.bool true))))))
def law08_distinct (Φ : Phi) (fuel : Nat) (l1 : List (List D)) : Option A :=
(iter (fun (x : List (List D) × Int × Unit) (rec : (List (List D) × Int × Unit) → Option A) => law08_distinct_l0 Φ fuel (fun l2 i3 => rec (l2, i3, ())) x.1 x.2.1) fuel (l1, (0 : Int), ()))
theorem law08_distinct_eq (Φ : Phi) (fuel : Nat) (l1 : List (List D)) : xbody TT0 Φ fuel sp_law08_distinct Try.f33 [(A.one (C.d (D.sl l1)))] = law08_distinct Φ fuel l1 := by kernel_rfl
/-! tables_Stack -/
def sp_tables_Stack : List LSpec := []
noncomputable def tables_Stack (Φ : Phi) (Ψ : Psi) (fuel : Nat) (a1 : List (List D)) (b2 : List (List D)) (H : Hp) : Option (A × Hp) :=
((Φ i_tables_checkAll [(A.one (C.d (D.sl ([[(D.sl a1)], [(D.sl b2)]] : List (List D)))))]).bind fun r3 =>
((xAD r3).bind fun d4 =>
((xDI .i64 d4).bind fun n5 =>
(xite (!decide (n5 = (0 : Int)))
(xif (xokR (A.tup [(A.one (C.full [])), (A.one (C.d (D.v (.int .i64 n5))))]))
(some ((A.tup [(A.one (C.full [])), (A.one (C.d (D.v (.int .i64 n5))))]), H)))
(xite (decide ((0 : Int) < (((a1 : List (List D)).length : Nat) : Int)))
(xite (decide ((0 : Int) < (((b2 : List (List D)).length : Nat) : Int)))
((Φ i_tables_columns [(A.one (C.d (D.sl a1)))]).bind fun r6 =>
((xAD r6).bind fun d7 =>
((xDI .i64 d7).bind fun n8 =>
((Φ i_tables_columns [(A.one (C.d (D.sl b2)))]).bind fun r9 =>
((xAD r9).bind fun d10 =>
((xDI .i64 d10).bind fun n11 =>
(xite (!decide (n8 = n11))
(xif (xokR (A.tup [(A.one (C.full [])), (A.one (C.d (D.v (.int .i64 (4 : Int)))))]))
(some ((A.tup [(A.one (C.full [])), (A.one (C.d (D.v (.int .i64 (4 : Int)))))]), H)))
(xite (decide ((8 : Int) < (IntKind.i64.wrap ((((a1 : List (List D)).length : Nat) : Int) + (((b2 : List (List D)).length : Nat) : Int)))))
(xif (xokR (A.tup [(A.one (C.full [])), (A.one (C.d (D.v (.int .i64 (2 : Int)))))]))
(some ((A.tup [(A.one (C.full [])), (A.one (C.d (D.v (.int .i64 (2 : Int)))))]), H)))
((Ψ i_tables_clone [(A.one (C.d (D.sl a1)))] H).bind fun q12 =>
((xone q12.1).bind fun c13 =>
((Ψ i_tables_clone [(A.one (C.d (D.sl b2)))] q12.2).bind fun q14 =>
((xone q14.1).bind fun c15 =>
((hLen c13).bind fun n16 =>
((hCells q14.2 c15).bind fun ys17 =>
(xif (decide ((n16 + ys17.length) * 24 ≤ 140737488355328))
((hApp q14.2 c13 ys17).bind fun q18 =>
(xif (xokR (A.tup [(A.one q18.1), (A.one (C.d (D.v (.int .i64 (0 : Int)))))]))
(some ((A.tup [(A.one q18.1), (A.one (C.d (D.v (.int .i64 (0 : Int)))))]), q18.2)))))))))))))))))))
(xite (decide ((8 : Int) < (IntKind.i64.wrap ((((a1 : List (List D)).length : Nat) : Int) + (((b2 : List (List D)).length : Nat) : Int)))))
(xif (xokR (A.tup [(A.one (C.full [])), (A.one (C.d (D.v (.int .i64 (2 : Int)))))]))
(some ((A.tup [(A.one (C.full [])), (A.one (C.d (D.v (.int .i64 (2 : Int)))))]), H)))
((Ψ i_tables_clone [(A.one (C.d (D.sl a1)))] H).bind fun q19 =>
((xone q19.1).bind fun c20 =>
((Ψ i_tables_clone [(A.one (C.d (D.sl b2)))] q19.2).bind fun q21 =>
((xone q21.1).bind fun c22 =>
((hLen c20).bind fun n23 =>
((hCells q21.2 c22).bind fun ys24 =>
(xif (decide ((n23 + ys24.length) * 24 ≤ 140737488355328))
((hApp q21.2 c20 ys24).bind fun q25 =>
(xif (xokR (A.tup [(A.one q25.1), (A.one (C.d (D.v (.int .i64 (0 : Int)))))]))
(some ((A.tup [(A.one q25.1), (A.one (C.d (D.v (.int .i64 (0 : Int)))))]), q25.2)))))))))))))
(xite (decide ((8 : Int) < (IntKind.i64.wrap ((((a1 : List (List D)).length : Nat) : Int) + (((b2 : List (List D)).length : Nat) : Int)))))
(xif (xokR (A.tup [(A.one (C.full [])), (A.one (C.d (D.v (.int .i64 (2 : Int)))))]))
(some ((A.tup [(A.one (C.full [])), (A.one (C.d (D.v (.int .i64 (2 : Int)))))]), H)))
((Ψ i_tables_clone [(A.one (C.d (D.sl a1)))] H).bind fun q26 =>
((xone q26.1).bind fun c27 =>
((Ψ i_tables_clone [(A.one (C.d (D.sl b2)))] q26.2).bind fun q28 =>
((xone q28.1).bind fun c29 =>
((hLen c27).bind fun n30 =>
((hCells q28.2 c29).bind fun ys31 =>
(xif (decide ((n30 + ys31.length) * 24 ≤ 140737488355328))
((hApp q28.2 c27 ys31).bind fun q32 =>
(xif (xokR (A.tup [(A.one q32.1), (A.one (C.d (D.v (.int .i64 (0 : Int)))))]))
(some ((A.tup [(A.one q32.1), (A.one (C.d (D.v (.int .i64 (0 : Int)))))]), q32.2)))))))))))))))))
theorem tables_Stack_eq (Φ : Phi) (Ψ : Psi) (fuel : Nat) (a1 : List (List D)) (b2 : List (List D)) (H : Hp) : xbodyH TT0 Φ Ψ sel_tables_Stack fuel sp_tables_Stack Try.f34 [(A.one (C.d (D.sl a1))), (A.one (C.d (D.sl b2)))] H = tables_Stack Φ Ψ fuel a1 b2 H := by kernel_rfl
/-! ref08_Stack -/
def sp_ref08_Stack : List LSpec := []
noncomputable def ref08_Stack (Φ : Phi) (Ψ : Psi) (fuel : Nat) (a1 : List (List D)) (b2 : List (List D)) (H : Hp) : Option (A × Hp) :=
((Φ i_ref08_both [(A.one (C.d (D.sl a1))), (A.one (C.d (D.sl b2)))]).bind fun r3 =>
((xAD r3).bind fun d4 =>
((xDI .i64 d4).bind fun n5 =>
(xite (!decide (n5 = (0 : Int)))
(xif (xokR (A.tup [(A.one (C.full [])), (A.one (C.d (D.v (.int .i64 n5))))]))
(some ((A.tup [(A.one (C.full [])), (A.one (C.d (D.v (.int .i64 n5))))]), H)))
(xite (decide ((0 : Int) < (((a1 : List (List D)).length : Nat) : Int)))
(xite (decide ((0 : Int) < (((b2 : List (List D)).length : Nat) : Int)))
((Φ i_ref08_Columns [(A.one (C.d (D.sl a1)))]).bind fun r6 =>
((xAD r6).bind fun d7 =>
((xDI .i64 d7).bind fun n8 =>
((Φ i_ref08_Columns [(A.one (C.d (D.sl b2)))]).bind fun r9 =>
((xAD r9).bind fun d10 =>
((xDI .i64 d10).bind fun n11 =>
(xite (!decide (n8 = n11))
(xif (xokR (A.tup [(A.one (C.full [])), (A.one (C.d (D.v (.int .i64 (4 : Int)))))]))
(some ((A.tup [(A.one (C.full [])), (A.one (C.d (D.v (.int .i64 (4 : Int)))))]), H)))
(xite (decide ((8 : Int) < (IntKind.i64.wrap ((((a1 : List (List D)).length : Nat) : Int) + (((b2 : List (List D)).length : Nat) : Int)))))
(xif (xokR (A.tup [(A.one (C.full [])), (A.one (C.d (D.v (.int .i64 (2 : Int)))))]))
(some ((A.tup [(A.one (C.full [])), (A.one (C.d (D.v (.int .i64 (2 : Int)))))]), H)))
((Ψ i_ref08_table [(A.one (C.d (D.sl a1)))] H).bind fun q12 =>
((xone q12.1).bind fun c13 =>
((Ψ i_ref08_table [(A.one (C.d (D.sl b2)))] q12.2).bind fun q14 =>
((xone q14.1).bind fun c15 =>
((hLen c13).bind fun n16 =>
((hCells q14.2 c15).bind fun ys17 =>
(xif (decide ((n16 + ys17.length) * 24 ≤ 140737488355328))
((hApp q14.2 c13 ys17).bind fun q18 =>
(xif (xokR (A.tup [(A.one q18.1), (A.one (C.d (D.v (.int .i64 (0 : Int)))))]))
(some ((A.tup [(A.one q18.1), (A.one (C.d (D.v (.int .i64 (0 : Int)))))]), q18.2)))))))))))))))))))
(xite (decide ((8 : Int) < (IntKind.i64.wrap ((((a1 : List (List D)).length : Nat) : Int) + (((b2 : List (List D)).length : Nat) : Int)))))
(xif (xokR (A.tup [(A.one (C.full [])), (A.one (C.d (D.v (.int .i64 (2 : Int)))))]))
(some ((A.tup [(A.one (C.full [])), (A.one (C.d (D.v (.int .i64 (2 : Int)))))]), H)))
((Ψ i_ref08_table [(A.one (C.d (D.sl a1)))] H).bind fun q19 =>
((xone q19.1).bind fun c20 =>
((Ψ i_ref08_table [(A.one (C.d (D.sl b2)))] q19.2).bind fun q21 =>
((xone q21.1).bind fun c22 =>
((hLen c20).bind fun n23 =>
((hCells q21.2 c22).bind fun ys24 =>
(xif (decide ((n23 + ys24.length) * 24 ≤ 140737488355328))
((hApp q21.2 c20 ys24).bind fun q25 =>
(xif (xokR (A.tup [(A.one q25.1), (A.one (C.d (D.v (.int .i64 (0 : Int)))))]))
(some ((A.tup [(A.one q25.1), (A.one (C.d (D.v (.int .i64 (0 : Int)))))]), q25.2)))))))))))))
(xite (decide ((8 : Int) < (IntKind.i64.wrap ((((a1 : List (List D)).length : Nat) : Int) + (((b2 : List (List D)).length : Nat) : Int)))))
(xif (xokR (A.tup [(A.one (C.full [])), (A.one (C.d (D.v (.int .i64 (2 : Int)))))]))
(some ((A.tup [(A.one (C.full [])), (A.one (C.d (D.v (.int .i64 (2 : Int)))))]), H)))
((Ψ i_ref08_table [(A.one (C.d (D.sl a1)))] H).bind fun q26 =>
((xone q26.1).bind fun c27 =>
((Ψ i_ref08_table [(A.one (C.d (D.sl b2)))] q26.2).bind fun q28 =>
((xone q28.1).bind fun c29 =>
((hLen c27).bind fun n30 =>
((hCells q28.2 c29).bind fun ys31 =>
(xif (decide ((n30 + ys31.length) * 24 ≤ 140737488355328))
((hApp q28.2 c27 ys31).bind fun q32 =>
(xif (xokR (A.tup [(A.one q32.1), (A.one (C.d (D.v (.int .i64 (0 : Int)))))]))
(some ((A.tup [(A.one q32.1), (A.one (C.d (D.v (.int .i64 (0 : Int)))))]), q32.2)))))))))))))))))
theorem ref08_Stack_eq (Φ : Phi) (Ψ : Psi) (fuel : Nat) (a1 : List (List D)) (b2 : List (List D)) (H : Hp) : xbodyH TT0 Φ Ψ sel_ref08_Stack fuel sp_ref08_Stack Try.f35 [(A.one (C.d (D.sl a1))), (A.one (C.d (D.sl b2)))] H = ref08_Stack Φ Ψ fuel a1 b2 H := by kernel_rfl
/-! tables_Beside -/
def sp_tables_Beside : List LSpec := [{ n := 0, m := 48, toks := [], ks := [.hp, .slot 1 (.one .sl), .slot 7 (.one .rc), .slot 30 (.one (.int .i64)), .slot 31 (.one (.int .i64))] }]
noncomputable def tables_Beside_l0 (Φ : Phi) (Ψ : Psi) (fuel : Nat) (k0 : Hp → List (List D) → C → Int → Int → Option (A × Hp)) (H15 : Hp) (b16 : List (List D)) (out17 : C) (i18 : Int) (i19 : Int) : Option (A × Hp) :=
(xite (decide (i19 < i18))
((hAddr out17 i19).bind fun p20 =>
((hLoad H15 p20).bind fun c21 =>
((hAddr (C.d (D.sl b16)) i19).bind fun p22 =>
((hLoad [] p22).bind fun c23 =>
((hLen c21).bind fun n24 =>
((hCells H15 c23).bind fun ys25 =>
(xif (decide ((n24 + ys25.length) * 16 ≤ 140737488355328))
((hApp H15 c21 ys25).bind fun q26 =>
((hAddr out17 i19).bind fun p27 =>
((hStore q26.2 p27 q26.1).bind fun H28 =>
(xif (C.hok out17)
(k0 H28 b16 out17 i18 (IntKind.i64.wrap (i19 + (1 : Int)))))))))))))))
(xif (xokR (A.tup [(A.one out17), (A.one (C.d (D.v (.int .i64 (0 : Int)))))]))
(some ((A.tup [(A.one out17), (A.one (C.d (D.v (.int .i64 (0 : Int)))))]), H15))))
noncomputable def tables_Beside (Φ : Phi) (Ψ : Psi) (fuel : Nat) (a1 : List (List D)) (b2 : List (List D)) (H : Hp) : Option (A × Hp) :=
((Φ i_tables_checkAll [(A.one (C.d (D.sl ([[(D.sl a1)], [(D.sl b2)]] : List (List D)))))]).bind fun r3 =>
((xAD r3).bind fun d4 =>
((xDI .i64 d4).bind fun n5 =>
(xite (!decide (n5 = (0 : Int)))
(xif (xokR (A.tup [(A.one (C.full [])), (A.one (C.d (D.v (.int .i64 n5))))]))
(some ((A.tup [(A.one (C.full [])), (A.one (C.d (D.v (.int .i64 n5))))]), H)))
(xite (!decide ((((a1 : List (List D)).length : Nat) : Int) = (((b2 : List (List D)).length : Nat) : Int)))
(xif (xokR (A.tup [(A.one (C.full [])), (A.one (C.d (D.v (.int .i64 (4 : Int)))))]))
(some ((A.tup [(A.one (C.full [])), (A.one (C.d (D.v (.int .i64 (4 : Int)))))]), H)))
((Φ i_tables_columns [(A.one (C.d (D.sl a1)))]).bind fun r6 =>
((xAD r6).bind fun d7 =>
((xDI .i64 d7).bind fun n8 =>
((Φ i_tables_columns [(A.one (C.d (D.sl b2)))]).bind fun r9 =>
((xAD r9).bind fun d10 =>
((xDI .i64 d10).bind fun n11 =>
(xite (decide ((8 : Int) < (IntKind.i64.wrap (n8 + n11))))
(xif (xokR (A.tup [(A.one (C.full [])), (A.one (C.d (D.v (.int .i64 (2 : Int)))))]))
(some ((A.tup [(A.one (C.full [])), (A.one (C.d (D.v (.int .i64 (2 : Int)))))]), H)))
((Ψ i_tables_clone [(A.one (C.d (D.sl a1)))] H).bind fun q12 =>
((xone q12.1).bind fun c13 =>
((hLen c13).bind fun n14 =>
(xif (C.hok c13)
(iter (fun (x : Hp × List (List D) × C × Int × Int × Unit) (rec : (Hp × List (List D) × C × Int × Int × Unit) → Option (A × Hp)) => tables_Beside_l0 Φ Ψ fuel (fun H15 b16 out17 i18 i19 => rec (H15, b16, out17, i18, i19, ())) x.1 x.2.1 x.2.2.1 x.2.2.2.1 x.2.2.2.2.1) fuel (q12.2, b2, c13, ((n14 : Nat) : Int), (0 : Int), ()))))))))))))))))))
theorem tables_Beside_eq (Φ : Phi) (Ψ : Psi) (fuel : Nat) (a1 : List (List D)) (b2 : List (List D)) (H : Hp) : xbodyH TT0 Φ Ψ sel_tables_Beside fuel sp_tables_Beside Try.f36 [(A.one (C.d (D.sl a1))), (A.one (C.d (D.sl b2)))] H = tables_Beside Φ Ψ fuel a1 b2 H := by kernel_rfl
/-! ref08_Beside -/
def sp_ref08_Beside : List LSpec := []
noncomputable def ref08_Beside (Φ : Phi) (Ψ : Psi) (fuel : Nat) (a1 : List (List D)) (b2 : List (List D)) (H : Hp) : Option (A × Hp) :=
((Φ i_ref08_both [(A.one (C.d (D.sl a1))), (A.one (C.d (D.sl b2)))]).bind fun r3 =>
((xAD r3).bind fun d4 =>
((xDI .i64 d4).bind fun n5 =>
(xite (!decide (n5 = (0 : Int)))
(xif (xokR (A.tup [(A.one (C.full [])), (A.one (C.d (D.v (.int .i64 n5))))]))
(some ((A.tup [(A.one (C.full [])), (A.one (C.d (D.v (.int .i64 n5))))]), H)))
(xite (!decide ((((a1 : List (List D)).length : Nat) : Int) = (((b2 : List (List D)).length : Nat) : Int)))
(xif (xokR (A.tup [(A.one (C.full [])), (A.one (C.d (D.v (.int .i64 (4 : Int)))))]))
(some ((A.tup [(A.one (C.full [])), (A.one (C.d (D.v (.int .i64 (4 : Int)))))]), H)))
((Φ i_ref08_Columns [(A.one (C.d (D.sl a1)))]).bind fun r6 =>
((xAD r6).bind fun d7 =>
((xDI .i64 d7).bind fun n8 =>
((Φ i_ref08_Columns [(A.one (C.d (D.sl b2)))]).bind fun r9 =>
((xAD r9).bind fun d10 =>
((xDI .i64 d10).bind fun n11 =>
(xite (decide ((8 : Int) < (IntKind.i64.wrap (n8 + n11))))
(xif (xokR (A.tup [(A.one (C.full [])), (A.one (C.d (D.v (.int .i64 (2 : Int)))))]))
(some ((A.tup [(A.one (C.full [])), (A.one (C.d (D.v (.int .i64 (2 : Int)))))]), H)))
((Ψ i_ref08_Transpose [(A.one (C.d (D.sl a1)))] H).bind fun q12 =>
((xone q12.1).bind fun c13 =>
((Ψ i_ref08_Transpose [(A.one (C.d (D.sl b2)))] q12.2).bind fun q14 =>
((xone q14.1).bind fun c15 =>
((hLen c13).bind fun n16 =>
((hCells q14.2 c15).bind fun ys17 =>
(xif (decide ((n16 + ys17.length) * 24 ≤ 140737488355328))
((hApp q14.2 c13 ys17).bind fun q18 =>
(xif (C.hok q18.1)
((Ψ i_ref08_Transpose [(A.one q18.1)] q18.2).bind fun q19 =>
((xone q19.1).bind fun c20 =>
(xif (xokR (A.tup [(A.one c20), (A.one (C.d (D.v (.int .i64 (0 : Int)))))]))
(some ((A.tup [(A.one c20), (A.one (C.d (D.v (.int .i64 (0 : Int)))))]), q19.2))))))))))))))))))))))))))
theorem ref08_Beside_eq (Φ : Phi) (Ψ : Psi) (fuel : Nat) (a1 : List (List D)) (b2 : List (List D)) (H : Hp) : xbodyH TT0 Φ Ψ sel_ref08_Beside fuel sp_ref08_Beside Try.f37 [(A.one (C.d (D.sl a1))), (A.one (C.d (D.sl b2)))] H = ref08_Beside Φ Ψ fuel a1 b2 H := by kernel_rfl
/-! tables_DropRow -/
def sp_tables_DropRow : List LSpec := []
noncomputable def tables_DropRow (Φ : Phi) (Ψ : Psi) (fuel : Nat) (t1 : List (List D)) (i2 : Int) (H : Hp) : Option (A × Hp) :=
((Φ i_tables_Check [(A.one (C.d (D.sl t1)))]).bind fun r3 =>
((xAD r3).bind fun d4 =>
((xDI .i64 d4).bind fun n5 =>
(xite (!decide (n5 = (0 : Int)))
(xif (xokR (A.tup [(A.one (C.full [])), (A.one (C.d (D.v (.int .i64 n5))))]))
(some ((A.tup [(A.one (C.full [])), (A.one (C.d (D.v (.int .i64 n5))))]), H)))
((Φ i_tables_place [(A.one (C.d (D.v (.int .i64 i2)))), (A.one (C.d (D.v (.int .i64 (((t1 : List (List D)).length : Nat) : Int)))))]).bind fun r6 =>
((xAD r6).bind fun d7 =>
((xDI .i64 d7).bind fun n8 =>
(xite (decide (n8 < (0 : Int)))
(xif (xokR (A.tup [(A.one (C.full [])), (A.one (C.d (D.v (.int .i64 (7 : Int)))))]))
(some ((A.tup [(A.one (C.full [])), (A.one (C.d (D.v (.int .i64 (7 : Int)))))]), H)))
((Ψ i_tables_clone [(A.one (C.d (D.sl t1)))] H).bind fun q9 =>
((xone q9.1).bind fun c10 =>
(xif (C.hok c10)
((Ψ i_slices_Delete_string_string [(A.one c10), (A.one (C.d (D.v (.int .i64 n8)))), (A.one (C.d (D.v (.int .i64 (IntKind.i64.wrap (n8 + (1 : Int)))))))] q9.2).bind fun q11 =>
((xone q11.1).bind fun c12 =>
(xif (xokR (A.tup [(A.one c12), (A.one (C.d (D.v (.int .i64 (0 : Int)))))]))
(some ((A.tup [(A.one c12), (A.one (C.d (D.v (.int .i64 (0 : Int)))))]), q11.2))))))))))))))))
theorem tables_DropRow_eq (Φ : Phi) (Ψ : Psi) (fuel : Nat) (t1 : List (List D)) (i2 : Int) (H : Hp) : xbodyH TT0 Φ Ψ sel_tables_DropRow fuel sp_tables_DropRow Try.f38 [(A.one (C.d (D.sl t1))), (A.one (C.d (D.v (.int .i64 i2))))] H = tables_DropRow Φ Ψ fuel t1 i2 H := by kernel_rfl
/-! ref08_DropRow -/
def sp_ref08_DropRow : List LSpec := []
def ref08_DropRow (Φ : Phi) (fuel : Nat) (t1 : List (List D)) (i2 : Int) : Option A :=
((Φ i_ref08_Row [(A.one (C.d (D.sl t1))), (A.one (C.d (D.v (.int .i64 i2))))]).bind fun r3 =>
((xtup r3 0).bind fun r4 =>
((xAD r4).bind fun d5 =>
((xDL d5).bind fun l6 =>
((xtup r3 1).bind fun r7 =>
((xAD r7).bind fun d8 =>
((xDI .i64 d8).bind fun n9 =>
(xite (!decide (n9 = (0 : Int)))
(some (A.tup [(A.one (C.d (D.sl []))), (A.one (C.d (D.v (.int .i64 n9))))]))
((Φ i_ref08_index [(A.one (C.d (D.v (.int .i64 i2)))), (A.one (C.d (D.v (.int .i64 ((t1).length : Int)))))]).bind fun r10 =>
((xAD r10).bind fun d11 =>
((xDI .i64 d11).bind fun n12 =>
((Φ i_ref08_without [(A.one (C.d (D.sl t1))), (A.one (C.d (D.v (.int .i64 n12))))]).bind fun r13 =>
((xAD r13).bind fun d14 =>
((xDL d14).bind fun l15 =>
(some (A.tup [(A.one (C.d (D.sl l15))), (A.one (C.d (D.v (.int .i64 (0 : Int)))))]))))))))))))))))
theorem ref08_DropRow_eq (Φ : Phi) (fuel : Nat) (t1 : List (List D)) (i2 : Int) : xbody TT0 Φ fuel sp_ref08_DropRow Try.f39 [(A.one (C.d (D.sl t1))), (A.one (C.d (D.v (.int .i64 i2))))] = ref08_DropRow Φ fuel t1 i2 := by kernel_rfl
/-! tables_DropColumn -/
def sp_tables_DropColumn : List LSpec := [{ n := 0, m := 43, toks := [], ks := [.hp, .slot 1 (.one (.int .i64)), .slot 7 (.one .rc), .slot 26 (.one (.int .i64)), .slot 27 (.one (.int .i64))] }]
noncomputable def tables_DropColumn_l0 (Φ : Phi) (Ψ : Psi) (fuel : Nat) (k0 : Hp → Int → C → Int → Int → Option (A × Hp)) (H18 : Hp) (i19 : Int) (out20 : C) (i21 : Int) (i22 : Int) : Option (A × Hp) :=
(xite (decide (i22 < i21))
((hAddr out20 i22).bind fun p23 =>
((hLoad H18 p23).bind fun c24 =>
(xif (C.hok c24)
((Ψ i_slices_Delete_string_string_64 [(A.one c24), (A.one (C.d (D.v (.int .i64 i19)))), (A.one (C.d (D.v (.int .i64 (IntKind.i64.wrap (i19 + (1 : Int)))))))] H18).bind fun q25 =>
((xone q25.1).bind fun c26 =>
((hAddr out20 i22).bind fun p27 =>
((hStore q25.2 p27 c26).bind fun H28 =>
(xif (C.hok out20)
(k0 H28 i19 out20 i21 (IntKind.i64.wrap (i22 + (1 : Int))))))))))))
(xif (xokR (A.tup [(A.one out20), (A.one (C.d (D.v (.int .i64 (0 : Int)))))]))
(some ((A.tup [(A.one out20), (A.one (C.d (D.v (.int .i64 (0 : Int)))))]), H18))))
noncomputable def tables_DropColumn (Φ : Phi) (Ψ : Psi) (fuel : Nat) (t1 : List (List D)) (i2 : Int) (H : Hp) : Option (A × Hp) :=
((Φ i_tables_Check [(A.one (C.d (D.sl t1)))]).bind fun r3 =>
((xAD r3).bind fun d4 =>
((xDI .i64 d4).bind fun n5 =>
(xite (!decide (n5 = (0 : Int)))
(xif (xokR (A.tup [(A.one (C.full [])), (A.one (C.d (D.v (.int .i64 n5))))]))
(some ((A.tup [(A.one (C.full [])), (A.one (C.d (D.v (.int .i64 n5))))]), H)))
((Φ i_tables_columns [(A.one (C.d (D.sl t1)))]).bind fun r6 =>
((xAD r6).bind fun d7 =>
((xDI .i64 d7).bind fun n8 =>
((Φ i_tables_place [(A.one (C.d (D.v (.int .i64 i2)))), (A.one (C.d (D.v (.int .i64 n8))))]).bind fun r9 =>
((xAD r9).bind fun d10 =>
((xDI .i64 d10).bind fun n11 =>
(xite (decide (n11 < (0 : Int)))
(xif (xokR (A.tup [(A.one (C.full [])), (A.one (C.d (D.v (.int .i64 (7 : Int)))))]))
(some ((A.tup [(A.one (C.full [])), (A.one (C.d (D.v (.int .i64 (7 : Int)))))]), H)))
((Φ i_tables_columns [(A.one (C.d (D.sl t1)))]).bind fun r12 =>
((xAD r12).bind fun d13 =>
((xDI .i64 d13).bind fun n14 =>
(xite (decide (n14 = (1 : Int)))
(xif (xokR (A.tup [(A.one (C.full [])), (A.one (C.d (D.v (.int .i64 (2 : Int)))))]))
(some ((A.tup [(A.one (C.full [])), (A.one (C.d (D.v (.int .i64 (2 : Int)))))]), H)))
((Ψ i_tables_clone [(A.one (C.d (D.sl t1)))] H).bind fun q15 =>
((xone q15.1).bind fun c16 =>
((hLen c16).bind fun n17 =>
(xif (C.hok c16)
(iter (fun (x : Hp × Int × C × Int × Int × Unit) (rec : (Hp × Int × C × Int × Int × Unit) → Option (A × Hp)) => tables_DropColumn_l0 Φ Ψ fuel (fun H18 i19 out20 i21 i22 => rec (H18, i19, out20, i21, i22, ())) x.1 x.2.1 x.2.2.1 x.2.2.2.1 x.2.2.2.2.1) fuel (q15.2, n11, c16, ((n17 : Nat) : Int), (0 : Int), ())))))))))))))))))))))
theorem tables_DropColumn_eq (Φ : Phi) (Ψ : Psi) (fuel : Nat) (t1 : List (List D)) (i2 : Int) (H : Hp) : xbodyH TT0 Φ Ψ sel_tables_DropColumn fuel sp_tables_DropColumn Try.f40 [(A.one (C.d (D.sl t1))), (A.one (C.d (D.v (.int .i64 i2))))] H = tables_DropColumn Φ Ψ fuel t1 i2 H := by kernel_rfl
end Go.Av
