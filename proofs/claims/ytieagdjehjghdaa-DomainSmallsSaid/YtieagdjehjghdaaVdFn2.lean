/-
  What each function gives when run. Printed by a program of mine (gen.py).
-/
import Derived.Test.YtieagdjehjghdaaVdTy
set_option linter.all false
set_option linter.unusedVariables false
set_option maxRecDepth 100000
namespace Go.Av
open Go.Proofs
/-! domain_first -/
def sp_domain_first : List LSpec := [{ n := 1, m := 86, toks := [(54, .slot 5)], ks := [.slot 5 (.one (.app 0 54)), .slot 17 (.one (.int .i64)), .slot 18 (.one (.int .i64))] }, { n := 1, m := 86, toks := [(54, .slot 5)], ks := [.slot 5 (.one (.app 0 54)), .slot 31 (.one (.int .i64)), .slot 32 (.one (.int .i64))] }, { n := 1, m := 86, toks := [(54, .slot 5)], ks := [.slot 5 (.one (.app 0 54)), .slot 44 (.one (.int .i64)), .slot 45 (.one (.int .i64))] }, { n := 1, m := 86, toks := [(54, .slot 5)], ks := [.slot 0 (.one (.int .i64)), .slot 5 (.one (.app 0 54)), .slot 72 (.one .sl), .slot 73 (.one (.int .i64)), .slot 74 (.one (.int .i64))] }]
def domain_first_l3 (Φ : Phi) (fuel : Nat) (k3 : Int → List (List D) → List (List D) → Int → Int → Option A) (t79 : Int) (out80 : List (List D)) (l81 : List (List D)) (i82 : Int) (i83 : Int) : Option A :=
(xite (decide (i83 < i82))
((xElem 1 l81 i83).bind fun c84 =>
(xif (decide (1 ≤ (c84).length))
((xDS (List.getD c84 0 (D.s []))).bind fun s85 =>
((Φ i_domain_made [(A.one (C.d (D.v (.int .i64 t79)))), (A.one (C.d (D.s s85)))]).bind fun r86 =>
((xADs r86).bind fun d87 =>
(xif (decide (d87.length = 4))
((xDI .i64 (List.getD d87 0 (D.s []))).bind fun n88 =>
((xDI .i64 (List.getD d87 1 (D.s []))).bind fun n89 =>
((xDS (List.getD d87 2 (D.s []))).bind fun s90 =>
((xDL (List.getD d87 3 (D.s []))).bind fun l91 =>
((xApp 4 56 (out80.length) out80 ([[(D.v (.int .i64 n88)), (D.v (.int .i64 n89)), (D.s s90), (D.sl l91)]] : List (List D))).bind fun l92 =>
(xif (decide (l92.length = (l92 : List (List D)).length))
(k3 t79 l92 l81 i82 (IntKind.i64.wrap (i83 + (1 : Int))))))))))))))))
(some (A.one (C.d (D.sl out80)))))
def domain_first_l2 (Φ : Phi) (fuel : Nat) (k2 : List (List D) → Int → Int → Option A) (out32 : List (List D)) (i33 : Int) (i34 : Int) : Option A :=
(xite (decide (i34 < i33))
(xite (decide ((Int.tmod i34 (2 : Int)) = (0 : Int)))
((Φ i_value_OfInt [(A.one (C.d (D.v (.int .i64 (IntKind.i64.wrap (0 - (IntKind.i64.wrap (Int.tdiv (IntKind.i64.wrap (i34 + (1 : Int))) (2 : Int)))))))))]).bind fun r35 =>
((xADs r35).bind fun d36 =>
(xif (decide (d36.length = 4))
((xDI .i64 (List.getD d36 0 (D.s []))).bind fun n37 =>
((xDI .i64 (List.getD d36 1 (D.s []))).bind fun n38 =>
((xDS (List.getD d36 2 (D.s []))).bind fun s39 =>
((xDL (List.getD d36 3 (D.s []))).bind fun l40 =>
((xApp 4 56 (out32.length) out32 ([[(D.v (.int .i64 n37)), (D.v (.int .i64 n38)), (D.s s39), (D.sl l40)]] : List (List D))).bind fun l41 =>
(xif (decide (l41.length = (l41 : List (List D)).length))
(k2 l41 i33 (IntKind.i64.wrap (i34 + (1 : Int)))))))))))))
((Φ i_value_OfInt [(A.one (C.d (D.v (.int .i64 (IntKind.i64.wrap (Int.tdiv (IntKind.i64.wrap (i34 + (1 : Int))) (2 : Int)))))))]).bind fun r42 =>
((xADs r42).bind fun d43 =>
(xif (decide (d43.length = 4))
((xDI .i64 (List.getD d43 0 (D.s []))).bind fun n44 =>
((xDI .i64 (List.getD d43 1 (D.s []))).bind fun n45 =>
((xDS (List.getD d43 2 (D.s []))).bind fun s46 =>
((xDL (List.getD d43 3 (D.s []))).bind fun l47 =>
((xApp 4 56 (out32.length) out32 ([[(D.v (.int .i64 n44)), (D.v (.int .i64 n45)), (D.s s46), (D.sl l47)]] : List (List D))).bind fun l48 =>
(xif (decide (l48.length = (l48 : List (List D)).length))
(k2 l48 i33 (IntKind.i64.wrap (i34 + (1 : Int))))))))))))))
(some (A.one (C.d (D.sl out32)))))
def domain_first_l1 (Φ : Phi) (fuel : Nat) (k1 : List (List D) → Int → Int → Option A) (out19 : List (List D)) (i20 : Int) (i21 : Int) : Option A :=
(xite (decide (i21 < i20))
((Φ i_value_OfBits [(A.one (C.d (D.v (.int .i64 i21))))]).bind fun r22 =>
((xADs r22).bind fun d23 =>
(xif (decide (d23.length = 4))
((xDI .i64 (List.getD d23 0 (D.s []))).bind fun n24 =>
((xDI .i64 (List.getD d23 1 (D.s []))).bind fun n25 =>
((xDS (List.getD d23 2 (D.s []))).bind fun s26 =>
((xDL (List.getD d23 3 (D.s []))).bind fun l27 =>
((xApp 4 56 (out19.length) out19 ([[(D.v (.int .i64 n24)), (D.v (.int .i64 n25)), (D.s s26), (D.sl l27)]] : List (List D))).bind fun l28 =>
(xif (decide (l28.length = (l28 : List (List D)).length))
(k1 l28 i20 (IntKind.i64.wrap (i21 + (1 : Int)))))))))))))
(some (A.one (C.d (D.sl out19)))))
def domain_first_l0 (Φ : Phi) (fuel : Nat) (k0 : List (List D) → Int → Int → Option A) (out6 : List (List D)) (i7 : Int) (i8 : Int) : Option A :=
(xite (decide (i8 < i7))
((Φ i_value_OfBool [(A.one (C.d (D.v (.bool (decide (i8 = (1 : Int)))))))]).bind fun r9 =>
((xADs r9).bind fun d10 =>
(xif (decide (d10.length = 4))
((xDI .i64 (List.getD d10 0 (D.s []))).bind fun n11 =>
((xDI .i64 (List.getD d10 1 (D.s []))).bind fun n12 =>
((xDS (List.getD d10 2 (D.s []))).bind fun s13 =>
((xDL (List.getD d10 3 (D.s []))).bind fun l14 =>
((xApp 4 56 (out6.length) out6 ([[(D.v (.int .i64 n11)), (D.v (.int .i64 n12)), (D.s s13), (D.sl l14)]] : List (List D))).bind fun l15 =>
(xif (decide (l15.length = (l15 : List (List D)).length))
(k0 l15 i7 (IntKind.i64.wrap (i8 + (1 : Int)))))))))))))
(some (A.one (C.d (D.sl out6)))))
def domain_first (Φ : Phi) (fuel : Nat) (t1 : Int) (n2 : Int) : Option A :=
(xite (decide (t1 = (1 : Int)))
(xif (decide (([] : List (List D)).length = ([] : List (List D)).length))
(iter (fun (x : List (List D) × Int × Int × Unit) (rec : (List (List D) × Int × Int × Unit) → Option A) => domain_first_l0 Φ fuel (fun out6 i7 i8 => rec (out6, i7, i8, ())) x.1 x.2.1 x.2.2.1) fuel ([], (if (2 : Int) < n2 then (2 : Int) else n2), (0 : Int), ())))
(xite (decide (t1 = (4 : Int)))
(xif (decide (([] : List (List D)).length = ([] : List (List D)).length))
(iter (fun (x : List (List D) × Int × Int × Unit) (rec : (List (List D) × Int × Int × Unit) → Option A) => domain_first_l1 Φ fuel (fun out19 i20 i21 => rec (out19, i20, i21, ())) x.1 x.2.1 x.2.2.1) fuel ([], n2, (0 : Int), ())))
(xite (decide (t1 = (2 : Int)))
(xif (decide (([] : List (List D)).length = ([] : List (List D)).length))
(iter (fun (x : List (List D) × Int × Int × Unit) (rec : (List (List D) × Int × Int × Unit) → Option A) => domain_first_l2 Φ fuel (fun out32 i33 i34 => rec (out32, i33, i34, ())) x.1 x.2.1 x.2.2.1) fuel ([], n2, (0 : Int), ())))
((Φ i_domain_letters [(A.one (C.d (D.v (.int .i64 (IntKind.i64.wrap (n2 + (1 : Int)))))))]).bind fun r49 =>
((xAD r49).bind fun d50 =>
((xDL d50).bind fun l51 =>
(xite (decide (t1 = (8 : Int)))
((xSubL 1 l51 (1 : Int) ((l51).length : Int)).bind fun l52 =>
((xSubL 1 l52 (0 : Int) n2).bind fun l53 =>
(xif (decide (([] : List (List D)).length = ([] : List (List D)).length))
(iter (fun (x : Int × List (List D) × List (List D) × Int × Int × Unit) (rec : (Int × List (List D) × List (List D) × Int × Int × Unit) → Option A) => domain_first_l3 Φ fuel (fun t59 out60 l61 i62 i63 => rec (t59, out60, l61, i62, i63, ())) x.1 x.2.1 x.2.2.1 x.2.2.2.1 x.2.2.2.2.1) fuel (t1, [], l53, ((l53).length : Int), (0 : Int), ())))))
((xSubL 1 l51 (0 : Int) n2).bind fun l73 =>
(xif (decide (([] : List (List D)).length = ([] : List (List D)).length))
(iter (fun (x : Int × List (List D) × List (List D) × Int × Int × Unit) (rec : (Int × List (List D) × List (List D) × Int × Int × Unit) → Option A) => domain_first_l3 Φ fuel (fun t79 out80 l81 i82 i83 => rec (t79, out80, l81, i82, i83, ())) x.1 x.2.1 x.2.2.1 x.2.2.2.1 x.2.2.2.2.1) fuel (t1, [], l73, ((l73).length : Int), (0 : Int), ())))))))))))
theorem domain_first_eq (Φ : Phi) (fuel : Nat) (t1 : Int) (n2 : Int) : xbody TT0 Φ fuel sp_domain_first Try.f38 [(A.one (C.d (D.v (.int .i64 t1)))), (A.one (C.d (D.v (.int .i64 n2))))] = domain_first Φ fuel t1 n2 := by kernel_rfl
/-! ref01_TypeName -/
def sp_ref01_TypeName : List LSpec := []
def ref01_TypeName (Φ : Phi) (fuel : Nat) (t1 : Int) : Option A :=
(xite (decide (t1 < (1 : Int)))
(some (A.one (C.d (D.s []))))
(xite (decide ((8 : Int) < t1))
(some (A.one (C.d (D.s []))))
((Φ i_ref01_names []).bind fun r2 =>
((xAD r2).bind fun d3 =>
((xDL d3).bind fun l4 =>
((xElem 1 l4 (IntKind.i64.wrap (t1 - (1 : Int)))).bind fun c5 =>
(xif (decide (1 ≤ (c5).length))
((xDS (List.getD c5 0 (D.s []))).bind fun s6 =>
(some (A.one (C.d (D.s s6))))))))))))
theorem ref01_TypeName_eq (Φ : Phi) (fuel : Nat) (t1 : Int) : xbody TT0 Φ fuel sp_ref01_TypeName Try.f39 [(A.one (C.d (D.v (.int .i64 t1))))] = ref01_TypeName Φ fuel t1 := by kernel_rfl
/-! ref19_First -/
def sp_ref19_First : List LSpec := [{ n := 1, m := 98, toks := [(54, .slot 5)], ks := [.slot 0 (.one (.int .i64)), .slot 1 (.one (.int .i64)), .slot 5 (.one (.app 0 54)), .slot 6 (.one .sl), .slot 7 (.one (.int .i64))] }]
def ref19_First_l0 (Φ : Phi) (fuel : Nat) (k0 : Int → Int → List (List D) → List (List D) → Int → Option A) (t11 : Int) (n12 : Int) (out13 : List (List D)) (l14 : List (List D)) (i15 : Int) : Option A :=
(xite (decide (i15 < n12))
(xite (decide (t11 = (1 : Int)))
(xite (decide (i15 < (2 : Int)))
((Φ i_ref01_OfBool [(A.one (C.d (D.v (.bool (decide (i15 = (1 : Int)))))))]).bind fun r16 =>
((xADs r16).bind fun d17 =>
(xif (decide (d17.length = 4))
((xDI .i64 (List.getD d17 0 (D.s []))).bind fun n18 =>
((xDI .i64 (List.getD d17 1 (D.s []))).bind fun n19 =>
((xDS (List.getD d17 2 (D.s []))).bind fun s20 =>
((xDL (List.getD d17 3 (D.s []))).bind fun l21 =>
((xApp 4 56 (out13.length) out13 ([[(D.v (.int .i64 n18)), (D.v (.int .i64 n19)), (D.s s20), (D.sl l21)]] : List (List D))).bind fun l22 =>
(xif (decide (l22.length = (l22 : List (List D)).length))
(k0 t11 n12 l22 l14 (IntKind.i64.wrap (i15 + (1 : Int)))))))))))))
(xif (decide (out13.length = (out13 : List (List D)).length))
(k0 t11 n12 out13 l14 (IntKind.i64.wrap (i15 + (1 : Int))))))
(xite (decide (t11 = (2 : Int)))
((Φ i_ref01_OfInt [(A.one (C.d (D.v (.int .i64 (IntKind.i64.wrap ((IntKind.i64.wrap (Int.tdiv (IntKind.i64.wrap (i15 + (1 : Int))) (2 : Int))) * (IntKind.i64.wrap ((IntKind.i64.wrap ((2 : Int) * (Int.tmod i15 (2 : Int)))) - (1 : Int)))))))))]).bind fun r23 =>
((xADs r23).bind fun d24 =>
(xif (decide (d24.length = 4))
((xDI .i64 (List.getD d24 0 (D.s []))).bind fun n25 =>
((xDI .i64 (List.getD d24 1 (D.s []))).bind fun n26 =>
((xDS (List.getD d24 2 (D.s []))).bind fun s27 =>
((xDL (List.getD d24 3 (D.s []))).bind fun l28 =>
((xApp 4 56 (out13.length) out13 ([[(D.v (.int .i64 n25)), (D.v (.int .i64 n26)), (D.s s27), (D.sl l28)]] : List (List D))).bind fun l29 =>
(xif (decide (l29.length = (l29 : List (List D)).length))
(k0 t11 n12 l29 l14 (IntKind.i64.wrap (i15 + (1 : Int)))))))))))))
(xite (decide (t11 = (4 : Int)))
((Φ i_ref01_OfBits [(A.one (C.d (D.v (.int .i64 i15))))]).bind fun r30 =>
((xADs r30).bind fun d31 =>
(xif (decide (d31.length = 4))
((xDI .i64 (List.getD d31 0 (D.s []))).bind fun n32 =>
((xDI .i64 (List.getD d31 1 (D.s []))).bind fun n33 =>
((xDS (List.getD d31 2 (D.s []))).bind fun s34 =>
((xDL (List.getD d31 3 (D.s []))).bind fun l35 =>
((xApp 4 56 (out13.length) out13 ([[(D.v (.int .i64 n32)), (D.v (.int .i64 n33)), (D.s s34), (D.sl l35)]] : List (List D))).bind fun l36 =>
(xif (decide (l36.length = (l36 : List (List D)).length))
(k0 t11 n12 l36 l14 (IntKind.i64.wrap (i15 + (1 : Int)))))))))))))
(xite (decide (t11 = (3 : Int)))
((xElem 1 l14 i15).bind fun c37 =>
(xif (decide (1 ≤ (c37).length))
((xDS (List.getD c37 0 (D.s []))).bind fun s38 =>
((Φ i_ref01_OfText [(A.one (C.d (D.s s38)))]).bind fun r39 =>
((xADs r39).bind fun d40 =>
(xif (decide (d40.length = 4))
((xDI .i64 (List.getD d40 0 (D.s []))).bind fun n41 =>
((xDI .i64 (List.getD d40 1 (D.s []))).bind fun n42 =>
((xDS (List.getD d40 2 (D.s []))).bind fun s43 =>
((xDL (List.getD d40 3 (D.s []))).bind fun l44 =>
((xApp 4 56 (out13.length) out13 ([[(D.v (.int .i64 n41)), (D.v (.int .i64 n42)), (D.s s43), (D.sl l44)]] : List (List D))).bind fun l45 =>
(xif (decide (l45.length = (l45 : List (List D)).length))
(k0 t11 n12 l45 l14 (IntKind.i64.wrap (i15 + (1 : Int))))))))))))))))
(xite (decide (t11 = (8 : Int)))
((xElem 1 l14 i15).bind fun c46 =>
(xif (decide (1 ≤ (c46).length))
((xDS (List.getD c46 0 (D.s []))).bind fun s47 =>
((Φ i_ref01_OfPattern [(A.one (C.d (D.s s47)))]).bind fun r48 =>
((xADs r48).bind fun d49 =>
(xif (decide (d49.length = 4))
((xDI .i64 (List.getD d49 0 (D.s []))).bind fun n50 =>
((xDI .i64 (List.getD d49 1 (D.s []))).bind fun n51 =>
((xDS (List.getD d49 2 (D.s []))).bind fun s52 =>
((xDL (List.getD d49 3 (D.s []))).bind fun l53 =>
((xApp 4 56 (out13.length) out13 ([[(D.v (.int .i64 n50)), (D.v (.int .i64 n51)), (D.s s52), (D.sl l53)]] : List (List D))).bind fun l54 =>
(xif (decide (l54.length = (l54 : List (List D)).length))
(k0 t11 n12 l54 l14 (IntKind.i64.wrap (i15 + (1 : Int))))))))))))))))
(xite (decide (t11 = (5 : Int)))
((xElem 1 l14 i15).bind fun c55 =>
(xif (decide (1 ≤ (c55).length))
((xDS (List.getD c55 0 (D.s []))).bind fun s56 =>
((Φ i_ref19_ints [(A.one (C.d (D.s s56)))]).bind fun r57 =>
((xADs r57).bind fun d58 =>
(xif (decide (d58.length = 4))
((xDI .i64 (List.getD d58 0 (D.s []))).bind fun n59 =>
((xDI .i64 (List.getD d58 1 (D.s []))).bind fun n60 =>
((xDS (List.getD d58 2 (D.s []))).bind fun s61 =>
((xDL (List.getD d58 3 (D.s []))).bind fun l62 =>
((xApp 4 56 (out13.length) out13 ([[(D.v (.int .i64 n59)), (D.v (.int .i64 n60)), (D.s s61), (D.sl l62)]] : List (List D))).bind fun l63 =>
(xif (decide (l63.length = (l63 : List (List D)).length))
(k0 t11 n12 l63 l14 (IntKind.i64.wrap (i15 + (1 : Int))))))))))))))))
(xite (decide (t11 = (6 : Int)))
((xElem 1 l14 i15).bind fun c64 =>
(xif (decide (1 ≤ (c64).length))
((xDS (List.getD c64 0 (D.s []))).bind fun s65 =>
((Φ i_ref19_texts [(A.one (C.d (D.s s65)))]).bind fun r66 =>
((xADs r66).bind fun d67 =>
(xif (decide (d67.length = 4))
((xDI .i64 (List.getD d67 0 (D.s []))).bind fun n68 =>
((xDI .i64 (List.getD d67 1 (D.s []))).bind fun n69 =>
((xDS (List.getD d67 2 (D.s []))).bind fun s70 =>
((xDL (List.getD d67 3 (D.s []))).bind fun l71 =>
((xApp 4 56 (out13.length) out13 ([[(D.v (.int .i64 n68)), (D.v (.int .i64 n69)), (D.s s70), (D.sl l71)]] : List (List D))).bind fun l72 =>
(xif (decide (l72.length = (l72 : List (List D)).length))
(k0 t11 n12 l72 l14 (IntKind.i64.wrap (i15 + (1 : Int))))))))))))))))
((xElem 1 l14 i15).bind fun c73 =>
(xif (decide (1 ≤ (c73).length))
((xDS (List.getD c73 0 (D.s []))).bind fun s74 =>
((Φ i_ref19_table [(A.one (C.d (D.s s74)))]).bind fun r75 =>
((xADs r75).bind fun d76 =>
(xif (decide (d76.length = 4))
((xDI .i64 (List.getD d76 0 (D.s []))).bind fun n77 =>
((xDI .i64 (List.getD d76 1 (D.s []))).bind fun n78 =>
((xDS (List.getD d76 2 (D.s []))).bind fun s79 =>
((xDL (List.getD d76 3 (D.s []))).bind fun l80 =>
((xApp 4 56 (out13.length) out13 ([[(D.v (.int .i64 n77)), (D.v (.int .i64 n78)), (D.s s79), (D.sl l80)]] : List (List D))).bind fun l81 =>
(xif (decide (l81.length = (l81 : List (List D)).length))
(k0 t11 n12 l81 l14 (IntKind.i64.wrap (i15 + (1 : Int)))))))))))))))))))))))
(some (A.one (C.d (D.sl out13)))))
def ref19_First (Φ : Phi) (fuel : Nat) (t1 : Int) (n2 : Int) : Option A :=
((Φ i_ref19_words [(A.one (C.d (D.v (.int .i64 n2)))), (A.one (C.d (D.v (.bool (decide (t1 = (8 : Int)))))))]).bind fun r3 =>
((xAD r3).bind fun d4 =>
((xDL d4).bind fun l5 =>
(xif (decide (([] : List (List D)).length = ([] : List (List D)).length))
(iter (fun (x : Int × Int × List (List D) × List (List D) × Int × Unit) (rec : (Int × Int × List (List D) × List (List D) × Int × Unit) → Option A) => ref19_First_l0 Φ fuel (fun t11 n12 out13 l14 i15 => rec (t11, n12, out13, l14, i15, ())) x.1 x.2.1 x.2.2.1 x.2.2.2.1 x.2.2.2.2.1) fuel (t1, n2, [], l5, (0 : Int), ()))))))
theorem ref19_First_eq (Φ : Phi) (fuel : Nat) (t1 : Int) (n2 : Int) : xbody TT0 Φ fuel sp_ref19_First Try.f40 [(A.one (C.d (D.v (.int .i64 t1)))), (A.one (C.d (D.v (.int .i64 n2))))] = ref19_First Φ fuel t1 n2 := by kernel_rfl
/-! ref01_Count -/
def sp_ref01_Count : List LSpec := [{ n := 0, m := 31, toks := [], ks := [.slot 0 (.one .sl), .slot 1 (.one (.int .i64)), .slot 5 (.one (.int .i64)), .slot 6 (.one (.int .i64))] }]
def ref01_Count_l0 (Φ : Phi) (fuel : Nat) (k0 : List (List D) → Int → Int → Int → Option A) (l3 : List (List D)) (most4 : Int) (n5 : Int) (i6 : Int) : Option A :=
(xite (decide (i6 < ((l3).length : Int)))
(xite (decide (n5 ≤ most4))
((xElem 4 l3 i6).bind fun c7 =>
(xif (decide (1 ≤ ((List.drop 3 c7)).length))
((xDL (List.getD (List.drop 3 c7) 0 (D.s []))).bind fun l8 =>
((Φ i_ref01_Count [(A.one (C.d (D.sl l8))), (A.one (C.d (D.v (.int .i64 (IntKind.i64.wrap (most4 - n5))))))]).bind fun r9 =>
((xAD r9).bind fun d10 =>
((xDI .i64 d10).bind fun n11 =>
(k0 l3 most4 (IntKind.i64.wrap (n5 + (IntKind.i64.wrap ((1 : Int) + n11)))) (IntKind.i64.wrap (i6 + (1 : Int))))))))))
(some (A.one (C.d (D.v (.int .i64 n5))))))
(some (A.one (C.d (D.v (.int .i64 n5))))))
def ref01_Count (Φ : Phi) (fuel : Nat) (l1 : List (List D)) (most2 : Int) : Option A :=
(iter (fun (x : List (List D) × Int × Int × Int × Unit) (rec : (List (List D) × Int × Int × Int × Unit) → Option A) => ref01_Count_l0 Φ fuel (fun l3 most4 n5 i6 => rec (l3, most4, n5, i6, ())) x.1 x.2.1 x.2.2.1 x.2.2.2.1) fuel (l1, most2, (0 : Int), (0 : Int), ()))
theorem ref01_Count_eq (Φ : Phi) (fuel : Nat) (l1 : List (List D)) (most2 : Int) : xbody TT0 Φ fuel sp_ref01_Count Try.f41 [(A.one (C.d (D.sl l1))), (A.one (C.d (D.v (.int .i64 most2))))] = ref01_Count Φ fuel l1 most2 := by kernel_rfl
/-! ref01_shallow -/
def sp_ref01_shallow : List LSpec := [{ n := 1, m := 30, toks := [], ks := [.slot 1 (.one (.int .i64)), .slot 2 (.one (.ref 0 0)), .slot 5 (.one (.int .i64)), .box 0 (.lit [(.int .i64), (.int .i64), .str, .sl])] }]
def ref01_shallow_l0 (Φ : Phi) (fuel : Nat) (k0 : Int → Int → Int → Int → List UInt8 → List (List D) → Option A) (levels6 : Int) (i7 : Int) (i8 : Int) (i9 : Int) (s10 : List UInt8) (l11 : List (List D)) : Option A :=
(xite (decide (i7 < ((l11).length : Int)))
((xElem 4 l11 i7).bind fun c12 =>
(xif (decide (4 ≤ (c12).length))
((xDI .i64 (List.getD c12 0 (D.s []))).bind fun n13 =>
((xDI .i64 (List.getD c12 1 (D.s []))).bind fun n14 =>
((xDS (List.getD c12 2 (D.s []))).bind fun s15 =>
((xDL (List.getD c12 3 (D.s []))).bind fun l16 =>
((Φ i_ref01_shallow [(A.agg [(C.d (D.v (.int .i64 n13))), (C.d (D.v (.int .i64 n14))), (C.d (D.s s15)), (C.d (D.sl l16))]), (A.one (C.d (D.v (.int .i64 (IntKind.i64.wrap (levels6 - (1 : Int)))))))]).bind fun r17 =>
((xAD r17).bind fun d18 =>
((xDB d18).bind fun b19 =>
(xite (!b19)
(some (A.one (C.d (D.v (.bool false)))))
(k0 levels6 (IntKind.i64.wrap (i7 + (1 : Int))) i8 i9 s10 l11)))))))))))
(some (A.one (C.d (D.v (.bool true))))))
def ref01_shallow (Φ : Phi) (fuel : Nat) (v1 : Int) (v2 : Int) (v3 : List UInt8) (v4 : List (List D)) (levels5 : Int) : Option A :=
(xite (decide (levels5 = (0 : Int)))
(some (A.one (C.d (D.v (.bool false)))))
(xite (decide ((100 : Int) < ((v3).length : Int)))
(some (A.one (C.d (D.v (.bool false)))))
(iter (fun (x : Int × Unit × Int × (Int × Int × List UInt8 × List (List D) × Unit) × Unit) (rec : (Int × Unit × Int × (Int × Int × List UInt8 × List (List D) × Unit) × Unit) → Option A) => ref01_shallow_l0 Φ fuel (fun levels6 i7 i8 i9 s10 l11 => rec (levels6, (), i7, (i8, i9, s10, l11, ()), ())) x.1 x.2.2.1 x.2.2.2.1.1 x.2.2.2.1.2.1 x.2.2.2.1.2.2.1 x.2.2.2.1.2.2.2.1) fuel (levels5, (), (0 : Int), (v1, v2, v3, v4, ()), ()))))
theorem ref01_shallow_eq (Φ : Phi) (fuel : Nat) (v1 : Int) (v2 : Int) (v3 : List UInt8) (v4 : List (List D)) (levels5 : Int) : xbody TT0 Φ fuel sp_ref01_shallow Try.f42 [(A.agg [(C.d (D.v (.int .i64 v1))), (C.d (D.v (.int .i64 v2))), (C.d (D.s v3)), (C.d (D.sl v4))]), (A.one (C.d (D.v (.int .i64 levels5))))] = ref01_shallow Φ fuel v1 v2 v3 v4 levels5 := by kernel_rfl
/-! ref01_Compare -/
def sp_ref01_Compare : List LSpec := []
def ref01_Compare (Φ : Phi) (fuel : Nat) (a1 : Int) (a2 : Int) (a3 : List UInt8) (a4 : List (List D)) (b5 : Int) (b6 : Int) (b7 : List UInt8) (b8 : List (List D)) : Option A :=
(xite (!decide (a1 = b5))
((Φ i_ref01_sign [(A.one (C.d (D.v (.bool (decide (a1 < b5))))))]).bind fun r9 =>
((xAD r9).bind fun d10 =>
((xDI .i64 d10).bind fun n11 =>
(some (A.one (C.d (D.v (.int .i64 n11))))))))
(xite (!decide (a2 = b6))
((Φ i_ref01_sign [(A.one (C.d (D.v (.bool (decide (a2 < b6))))))]).bind fun r12 =>
((xAD r12).bind fun d13 =>
((xDI .i64 d13).bind fun n14 =>
(some (A.one (C.d (D.v (.int .i64 n14))))))))
(xite (!decide ((a3 : List UInt8) = b7))
((Φ i_ref01_sign [(A.one (C.d (D.v (.bool (Op.bytesLess a3 b7)))))]).bind fun r15 =>
((xAD r15).bind fun d16 =>
((xDI .i64 d16).bind fun n17 =>
(some (A.one (C.d (D.v (.int .i64 n17))))))))
((Φ i_ref01_CompareAll [(A.one (C.d (D.sl a4))), (A.one (C.d (D.sl b8)))]).bind fun r18 =>
((xAD r18).bind fun d19 =>
((xDI .i64 d19).bind fun n20 =>
(some (A.one (C.d (D.v (.int .i64 n20)))))))))))
theorem ref01_Compare_eq (Φ : Phi) (fuel : Nat) (a1 : Int) (a2 : Int) (a3 : List UInt8) (a4 : List (List D)) (b5 : Int) (b6 : Int) (b7 : List UInt8) (b8 : List (List D)) : xbody TT0 Φ fuel sp_ref01_Compare Try.f43 [(A.agg [(C.d (D.v (.int .i64 a1))), (C.d (D.v (.int .i64 a2))), (C.d (D.s a3)), (C.d (D.sl a4))]), (A.agg [(C.d (D.v (.int .i64 b5))), (C.d (D.v (.int .i64 b6))), (C.d (D.s b7)), (C.d (D.sl b8))])] = ref01_Compare Φ fuel a1 a2 a3 a4 b5 b6 b7 b8 := by kernel_rfl
/-! ref01_sign -/
def sp_ref01_sign : List LSpec := []
def ref01_sign (Φ : Phi) (fuel : Nat) (less1 : Bool) : Option A :=
(xite less1
(some (A.one (C.d (D.v (.int .i64 (-1 : Int))))))
(some (A.one (C.d (D.v (.int .i64 (1 : Int)))))))
theorem ref01_sign_eq (Φ : Phi) (fuel : Nat) (less1 : Bool) : xbody TT0 Φ fuel sp_ref01_sign Try.f44 [(A.one (C.d (D.v (.bool less1))))] = ref01_sign Φ fuel less1 := by kernel_rfl
/-! value_Equal -/
def sp_value_Equal : List LSpec := []
def value_Equal (Φ : Phi) (fuel : Nat) (a1 : Int) (a2 : Int) (a3 : List UInt8) (a4 : List (List D)) (b5 : Int) (b6 : Int) (b7 : List UInt8) (b8 : List (List D)) : Option A :=
((Φ i_value_Compare [(A.agg [(C.d (D.v (.int .i64 a1))), (C.d (D.v (.int .i64 a2))), (C.d (D.s a3)), (C.d (D.sl a4))]), (A.agg [(C.d (D.v (.int .i64 b5))), (C.d (D.v (.int .i64 b6))), (C.d (D.s b7)), (C.d (D.sl b8))])]).bind fun r9 =>
((xAD r9).bind fun d10 =>
((xDI .i64 d10).bind fun n11 =>
(some (A.one (C.d (D.v (.bool (decide (n11 = (0 : Int)))))))))))
theorem value_Equal_eq (Φ : Phi) (fuel : Nat) (a1 : Int) (a2 : Int) (a3 : List UInt8) (a4 : List (List D)) (b5 : Int) (b6 : Int) (b7 : List UInt8) (b8 : List (List D)) : xbody TT0 Φ fuel sp_value_Equal Try.f45 [(A.agg [(C.d (D.v (.int .i64 a1))), (C.d (D.v (.int .i64 a2))), (C.d (D.s a3)), (C.d (D.sl a4))]), (A.agg [(C.d (D.v (.int .i64 b5))), (C.d (D.v (.int .i64 b6))), (C.d (D.s b7)), (C.d (D.sl b8))])] = value_Equal Φ fuel a1 a2 a3 a4 b5 b6 b7 b8 := by kernel_rfl
/-! ref01_Equal -/
def sp_ref01_Equal : List LSpec := []
def ref01_Equal (Φ : Phi) (fuel : Nat) (a1 : Int) (a2 : Int) (a3 : List UInt8) (a4 : List (List D)) (b5 : Int) (b6 : Int) (b7 : List UInt8) (b8 : List (List D)) : Option A :=
((Φ i_ref01_Compare [(A.agg [(C.d (D.v (.int .i64 a1))), (C.d (D.v (.int .i64 a2))), (C.d (D.s a3)), (C.d (D.sl a4))]), (A.agg [(C.d (D.v (.int .i64 b5))), (C.d (D.v (.int .i64 b6))), (C.d (D.s b7)), (C.d (D.sl b8))])]).bind fun r9 =>
((xAD r9).bind fun d10 =>
((xDI .i64 d10).bind fun n11 =>
(some (A.one (C.d (D.v (.bool (decide (n11 = (0 : Int)))))))))))
theorem ref01_Equal_eq (Φ : Phi) (fuel : Nat) (a1 : Int) (a2 : Int) (a3 : List UInt8) (a4 : List (List D)) (b5 : Int) (b6 : Int) (b7 : List UInt8) (b8 : List (List D)) : xbody TT0 Φ fuel sp_ref01_Equal Try.f46 [(A.agg [(C.d (D.v (.int .i64 a1))), (C.d (D.v (.int .i64 a2))), (C.d (D.s a3)), (C.d (D.sl a4))]), (A.agg [(C.d (D.v (.int .i64 b5))), (C.d (D.v (.int .i64 b6))), (C.d (D.s b7)), (C.d (D.sl b8))])] = ref01_Equal Φ fuel a1 a2 a3 a4 b5 b6 b7 b8 := by kernel_rfl
/-! value_unused -/
def sp_value_unused : List LSpec := []
def value_unused (Φ : Phi) (fuel : Nat) (v1 : Int) (v2 : Int) (v3 : List UInt8) (v4 : List (List D)) : Option A :=
(xite (decide (v1 = (1 : Int)))
(xite (decide (v1 = (1 : Int)))
(xite (decide ((v3 : List UInt8) = []))
(some (A.one (C.d (D.v (.bool (decide (((v4).length : Int) = (0 : Int))))))))
(some (A.one (C.d (D.v (.bool false))))))
(xite (decide (v1 = (3 : Int)))
(xite (decide (v1 = (3 : Int)))
(xite (decide (v2 = (0 : Int)))
(some (A.one (C.d (D.v (.bool (decide (((v4).length : Int) = (0 : Int))))))))
(some (A.one (C.d (D.v (.bool false))))))
(xite (decide (v2 = (0 : Int)))
(some (A.one (C.d (D.v (.bool (decide ((v3 : List UInt8) = [])))))))
(some (A.one (C.d (D.v (.bool false)))))))
(xite (decide (v1 = (8 : Int)))
(xite (decide (v2 = (0 : Int)))
(some (A.one (C.d (D.v (.bool (decide (((v4).length : Int) = (0 : Int))))))))
(some (A.one (C.d (D.v (.bool false))))))
(xite (decide (v2 = (0 : Int)))
(some (A.one (C.d (D.v (.bool (decide ((v3 : List UInt8) = [])))))))
(some (A.one (C.d (D.v (.bool false)))))))))
(xite (decide (v1 = (2 : Int)))
(xite (decide (v1 = (2 : Int)))
(xite (decide ((v3 : List UInt8) = []))
(some (A.one (C.d (D.v (.bool (decide (((v4).length : Int) = (0 : Int))))))))
(some (A.one (C.d (D.v (.bool false))))))
(xite (decide (v1 = (3 : Int)))
(xite (decide (v1 = (3 : Int)))
(xite (decide (v2 = (0 : Int)))
(some (A.one (C.d (D.v (.bool (decide (((v4).length : Int) = (0 : Int))))))))
(some (A.one (C.d (D.v (.bool false))))))
(xite (decide (v2 = (0 : Int)))
(some (A.one (C.d (D.v (.bool (decide ((v3 : List UInt8) = [])))))))
(some (A.one (C.d (D.v (.bool false)))))))
(xite (decide (v1 = (8 : Int)))
(xite (decide (v2 = (0 : Int)))
(some (A.one (C.d (D.v (.bool (decide (((v4).length : Int) = (0 : Int))))))))
(some (A.one (C.d (D.v (.bool false))))))
(xite (decide (v2 = (0 : Int)))
(some (A.one (C.d (D.v (.bool (decide ((v3 : List UInt8) = [])))))))
(some (A.one (C.d (D.v (.bool false)))))))))
(xite (decide (v1 = (4 : Int)))
(xite (decide ((v3 : List UInt8) = []))
(some (A.one (C.d (D.v (.bool (decide (((v4).length : Int) = (0 : Int))))))))
(some (A.one (C.d (D.v (.bool false))))))
(xite (decide (v1 = (3 : Int)))
(xite (decide (v1 = (3 : Int)))
(xite (decide (v2 = (0 : Int)))
(some (A.one (C.d (D.v (.bool (decide (((v4).length : Int) = (0 : Int))))))))
(some (A.one (C.d (D.v (.bool false))))))
(xite (decide (v2 = (0 : Int)))
(some (A.one (C.d (D.v (.bool (decide ((v3 : List UInt8) = [])))))))
(some (A.one (C.d (D.v (.bool false)))))))
(xite (decide (v1 = (8 : Int)))
(xite (decide (v2 = (0 : Int)))
(some (A.one (C.d (D.v (.bool (decide (((v4).length : Int) = (0 : Int))))))))
(some (A.one (C.d (D.v (.bool false))))))
(xite (decide (v2 = (0 : Int)))
(some (A.one (C.d (D.v (.bool (decide ((v3 : List UInt8) = [])))))))
(some (A.one (C.d (D.v (.bool false)))))))))))
theorem value_unused_eq (Φ : Phi) (fuel : Nat) (v1 : Int) (v2 : Int) (v3 : List UInt8) (v4 : List (List D)) : xbody TT0 Φ fuel sp_value_unused Try.f47 [(A.agg [(C.d (D.v (.int .i64 v1))), (C.d (D.v (.int .i64 v2))), (C.d (D.s v3)), (C.d (D.sl v4))])] = value_unused Φ fuel v1 v2 v3 v4 := by kernel_rfl
/-! value_ranged -/
def sp_value_ranged : List LSpec := []
def value_ranged (Φ : Phi) (fuel : Nat) (n1 : Int) (low2 : Int) (high3 : Int) : Option A :=
(xite (decide (n1 < low2))
(some (A.one (C.d (D.v (.int .i64 (1 : Int))))))
(xite (decide (high3 < n1))
(some (A.one (C.d (D.v (.int .i64 (1 : Int))))))
(some (A.one (C.d (D.v (.int .i64 (0 : Int))))))))
theorem value_ranged_eq (Φ : Phi) (fuel : Nat) (n1 : Int) (low2 : Int) (high3 : Int) : xbody TT0 Φ fuel sp_value_ranged Try.f48 [(A.one (C.d (D.v (.int .i64 n1)))), (A.one (C.d (D.v (.int .i64 low2)))), (A.one (C.d (D.v (.int .i64 high3))))] = value_ranged Φ fuel n1 low2 high3 := by kernel_rfl
/-! value_sized -/
def sp_value_sized : List LSpec := []
def value_sized (Φ : Phi) (fuel : Nat) (s1 : List UInt8) (least2 : Int) (most3 : Int) : Option A :=
(xite (decide (((s1).length : Int) < least2))
(some (A.one (C.d (D.v (.int .i64 (2 : Int))))))
(xite (decide (most3 < ((s1).length : Int)))
(some (A.one (C.d (D.v (.int .i64 (2 : Int))))))
((Φ i_value_printed [(A.one (C.d (D.s s1)))]).bind fun r4 =>
((xAD r4).bind fun d5 =>
((xDB d5).bind fun b6 =>
(xite (!b6)
(some (A.one (C.d (D.v (.int .i64 (1 : Int))))))
(some (A.one (C.d (D.v (.int .i64 (0 : Int))))))))))))
theorem value_sized_eq (Φ : Phi) (fuel : Nat) (s1 : List UInt8) (least2 : Int) (most3 : Int) : xbody TT0 Φ fuel sp_value_sized Try.f49 [(A.one (C.d (D.s s1))), (A.one (C.d (D.v (.int .i64 least2)))), (A.one (C.d (D.v (.int .i64 most3))))] = value_sized Φ fuel s1 least2 most3 := by kernel_rfl
/-! value_elements -/
def sp_value_elements : List LSpec := [{ n := 0, m := 27, toks := [], ks := [.slot 1 (.one (.int .i64)), .slot 11 (.one .sl), .slot 12 (.one (.int .i64)), .slot 13 (.one (.int .i64))] }]
def value_elements_l0 (Φ : Phi) (fuel : Nat) (k0 : Int → List (List D) → Int → Int → Option A) (t3 : Int) (l4 : List (List D)) (i5 : Int) (i6 : Int) : Option A :=
(xite (decide (i6 < i5))
((xElem 4 l4 i6).bind fun c7 =>
(xif (decide (4 ≤ (c7).length))
((xDI .i64 (List.getD c7 0 (D.s []))).bind fun n8 =>
((xDI .i64 (List.getD c7 1 (D.s []))).bind fun n9 =>
((xDS (List.getD c7 2 (D.s []))).bind fun s10 =>
((xDL (List.getD c7 3 (D.s []))).bind fun l11 =>
(xite (!decide (n8 = t3))
(some (A.one (C.d (D.v (.int .i64 (3 : Int))))))
((Φ i_value_Check [(A.agg [(C.d (D.v (.int .i64 n8))), (C.d (D.v (.int .i64 n9))), (C.d (D.s s10)), (C.d (D.sl l11))])]).bind fun r12 =>
((xAD r12).bind fun d13 =>
((xDI .i64 d13).bind fun n14 =>
(xite (!decide (n14 = (0 : Int)))
(some (A.one (C.d (D.v (.int .i64 n14)))))
(k0 t3 l4 i5 (IntKind.i64.wrap (i6 + (1 : Int)))))))))))))))
(some (A.one (C.d (D.v (.int .i64 (0 : Int)))))))
def value_elements (Φ : Phi) (fuel : Nat) (list1 : List (List D)) (t2 : Int) : Option A :=
(xite (decide ((16 : Int) < ((list1).length : Int)))
(some (A.one (C.d (D.v (.int .i64 (2 : Int))))))
(iter (fun (x : Int × List (List D) × Int × Int × Unit) (rec : (Int × List (List D) × Int × Int × Unit) → Option A) => value_elements_l0 Φ fuel (fun t3 l4 i5 i6 => rec (t3, l4, i5, i6, ())) x.1 x.2.1 x.2.2.1 x.2.2.2.1) fuel (t2, list1, ((list1).length : Int), (0 : Int), ())))
theorem value_elements_eq (Φ : Phi) (fuel : Nat) (list1 : List (List D)) (t2 : Int) : xbody TT0 Φ fuel sp_value_elements Try.f50 [(A.one (C.d (D.sl list1))), (A.one (C.d (D.v (.int .i64 t2))))] = value_elements Φ fuel list1 t2 := by kernel_rfl
/-! value_rows -/
def sp_value_rows : List LSpec := [{ n := 0, m := 45, toks := [], ks := [.slot 0 (.one .sl), .slot 9 (.one .sl), .slot 10 (.one (.int .i64)), .slot 11 (.one (.int .i64))] }]
def value_rows_l0 (Φ : Phi) (fuel : Nat) (k0 : List (List D) → List (List D) → Int → Int → Option A) (list2 : List (List D)) (l3 : List (List D)) (i4 : Int) (i5 : Int) : Option A :=
(xite (decide (i5 < i4))
((xElem 4 l3 i5).bind fun c6 =>
(xif (decide (4 ≤ (c6).length))
((xDI .i64 (List.getD c6 0 (D.s []))).bind fun n7 =>
((xDI .i64 (List.getD c6 1 (D.s []))).bind fun n8 =>
((xDS (List.getD c6 2 (D.s []))).bind fun s9 =>
((xDL (List.getD c6 3 (D.s []))).bind fun l10 =>
(xite (!decide (n7 = (6 : Int)))
(some (A.one (C.d (D.v (.int .i64 (3 : Int))))))
(xite (decide (((l10).length : Int) < (1 : Int)))
(some (A.one (C.d (D.v (.int .i64 (2 : Int))))))
(xite (decide ((8 : Int) < ((l10).length : Int)))
(some (A.one (C.d (D.v (.int .i64 (2 : Int))))))
((xElem 4 list2 (0 : Int)).bind fun c11 =>
(xif (decide (1 ≤ ((List.drop 3 c11)).length))
((xDL (List.getD (List.drop 3 c11) 0 (D.s []))).bind fun l12 =>
(xite (!decide (((l10).length : Int) = ((l12).length : Int)))
(some (A.one (C.d (D.v (.int .i64 (2 : Int))))))
((Φ i_value_Check [(A.agg [(C.d (D.v (.int .i64 n7))), (C.d (D.v (.int .i64 n8))), (C.d (D.s s9)), (C.d (D.sl l10))])]).bind fun r13 =>
((xAD r13).bind fun d14 =>
((xDI .i64 d14).bind fun n15 =>
(xite (!decide (n15 = (0 : Int)))
(some (A.one (C.d (D.v (.int .i64 n15)))))
(k0 list2 l3 i4 (IntKind.i64.wrap (i5 + (1 : Int)))))))))))))))))))))
(some (A.one (C.d (D.v (.int .i64 (0 : Int)))))))
def value_rows (Φ : Phi) (fuel : Nat) (list1 : List (List D)) : Option A :=
(xite (decide ((8 : Int) < ((list1).length : Int)))
(some (A.one (C.d (D.v (.int .i64 (2 : Int))))))
(iter (fun (x : List (List D) × List (List D) × Int × Int × Unit) (rec : (List (List D) × List (List D) × Int × Int × Unit) → Option A) => value_rows_l0 Φ fuel (fun list2 l3 i4 i5 => rec (list2, l3, i4, i5, ())) x.1 x.2.1 x.2.2.1 x.2.2.2.1) fuel (list1, list1, ((list1).length : Int), (0 : Int), ())))
theorem value_rows_eq (Φ : Phi) (fuel : Nat) (list1 : List (List D)) : xbody TT0 Φ fuel sp_value_rows Try.f51 [(A.one (C.d (D.sl list1)))] = value_rows Φ fuel list1 := by kernel_rfl
/-! ref01_within -/
def sp_ref01_within : List LSpec := []
def ref01_within (Φ : Phi) (fuel : Nat) (n1 : Int) (lo2 : Int) (hi3 : Int) : Option A :=
(xite (decide (n1 < lo2))
(some (A.one (C.d (D.v (.int .i64 (1 : Int))))))
(xite (decide (hi3 < n1))
(some (A.one (C.d (D.v (.int .i64 (1 : Int))))))
(some (A.one (C.d (D.v (.int .i64 (0 : Int))))))))
theorem ref01_within_eq (Φ : Phi) (fuel : Nat) (n1 : Int) (lo2 : Int) (hi3 : Int) : xbody TT0 Φ fuel sp_ref01_within Try.f52 [(A.one (C.d (D.v (.int .i64 n1)))), (A.one (C.d (D.v (.int .i64 lo2)))), (A.one (C.d (D.v (.int .i64 hi3))))] = ref01_within Φ fuel n1 lo2 hi3 := by kernel_rfl
/-! ref01_plain -/
def sp_ref01_plain : List LSpec := [{ n := 0, m := 34, toks := [], ks := [.slot 0 (.one .str), .slot 7 (.one (.int .i64))] }]
def ref01_plain_l0 (Φ : Phi) (fuel : Nat) (k0 : List UInt8 → Int → Option A) (s4 : List UInt8) (i5 : Int) : Option A :=
(xite (decide (i5 < ((s4).length : Int)))
((xIdxS s4 i5).bind fun c6 =>
(xite (decide ((c6.toNat : Int) < (32 : Int)))
(some (A.one (C.d (D.v (.int .i64 (1 : Int))))))
((xIdxS s4 i5).bind fun c7 =>
(xite (decide ((126 : Int) < (c7.toNat : Int)))
(some (A.one (C.d (D.v (.int .i64 (1 : Int))))))
(k0 s4 (IntKind.i64.wrap (i5 + (1 : Int))))))))
(some (A.one (C.d (D.v (.int .i64 (0 : Int)))))))
def ref01_plain (Φ : Phi) (fuel : Nat) (s1 : List UInt8) (least2 : Int) (most3 : Int) : Option A :=
(xite (decide (((s1).length : Int) < least2))
(some (A.one (C.d (D.v (.int .i64 (2 : Int))))))
(xite (decide (most3 < ((s1).length : Int)))
(some (A.one (C.d (D.v (.int .i64 (2 : Int))))))
(iter (fun (x : List UInt8 × Int × Unit) (rec : (List UInt8 × Int × Unit) → Option A) => ref01_plain_l0 Φ fuel (fun s4 i5 => rec (s4, i5, ())) x.1 x.2.1) fuel (s1, (0 : Int), ()))))
theorem ref01_plain_eq (Φ : Phi) (fuel : Nat) (s1 : List UInt8) (least2 : Int) (most3 : Int) : xbody TT0 Φ fuel sp_ref01_plain Try.f53 [(A.one (C.d (D.s s1))), (A.one (C.d (D.v (.int .i64 least2)))), (A.one (C.d (D.v (.int .i64 most3))))] = ref01_plain Φ fuel s1 least2 most3 := by kernel_rfl
/-! ref01_elements -/
def sp_ref01_elements : List LSpec := [{ n := 0, m := 31, toks := [], ks := [.slot 0 (.one .sl), .slot 1 (.one (.int .i64)), .slot 5 (.one (.int .i64))] }]
def ref01_elements_l0 (Φ : Phi) (fuel : Nat) (k0 : List (List D) → Int → Int → Option A) (l3 : List (List D)) (t4 : Int) (i5 : Int) : Option A :=
(xite (decide (i5 < ((l3).length : Int)))
((xElem 4 l3 i5).bind fun c6 =>
(xif (decide (1 ≤ (c6).length))
((xDI .i64 (List.getD c6 0 (D.s []))).bind fun n7 =>
(xite (!decide (n7 = t4))
(some (A.one (C.d (D.v (.int .i64 (3 : Int))))))
((xElem 4 l3 i5).bind fun c8 =>
(xif (decide (4 ≤ (c8).length))
((xDI .i64 (List.getD c8 0 (D.s []))).bind fun n9 =>
((xDI .i64 (List.getD c8 1 (D.s []))).bind fun n10 =>
((xDS (List.getD c8 2 (D.s []))).bind fun s11 =>
((xDL (List.getD c8 3 (D.s []))).bind fun l12 =>
((Φ i_ref01_Check [(A.agg [(C.d (D.v (.int .i64 n9))), (C.d (D.v (.int .i64 n10))), (C.d (D.s s11)), (C.d (D.sl l12))])]).bind fun r13 =>
((xAD r13).bind fun d14 =>
((xDI .i64 d14).bind fun n15 =>
(xite (!decide (n15 = (0 : Int)))
(some (A.one (C.d (D.v (.int .i64 n15)))))
(k0 l3 t4 (IntKind.i64.wrap (i5 + (1 : Int))))))))))))))))))
(some (A.one (C.d (D.v (.int .i64 (0 : Int)))))))
def ref01_elements (Φ : Phi) (fuel : Nat) (l1 : List (List D)) (t2 : Int) : Option A :=
(xite (decide ((16 : Int) < ((l1).length : Int)))
(some (A.one (C.d (D.v (.int .i64 (2 : Int))))))
(iter (fun (x : List (List D) × Int × Int × Unit) (rec : (List (List D) × Int × Int × Unit) → Option A) => ref01_elements_l0 Φ fuel (fun l3 t4 i5 => rec (l3, t4, i5, ())) x.1 x.2.1 x.2.2.1) fuel (l1, t2, (0 : Int), ())))
theorem ref01_elements_eq (Φ : Phi) (fuel : Nat) (l1 : List (List D)) (t2 : Int) : xbody TT0 Φ fuel sp_ref01_elements Try.f54 [(A.one (C.d (D.sl l1))), (A.one (C.d (D.v (.int .i64 t2))))] = ref01_elements Φ fuel l1 t2 := by kernel_rfl
/-! ref01_rows -/
def sp_ref01_rows : List LSpec := [{ n := 0, m := 50, toks := [], ks := [.slot 0 (.one .sl), .slot 3 (.one (.int .i64))] }]
def ref01_rows_l0 (Φ : Phi) (fuel : Nat) (k0 : List (List D) → Int → Option A) (l2 : List (List D)) (i3 : Int) : Option A :=
(xite (decide (i3 < ((l2).length : Int)))
((xElem 4 l2 i3).bind fun c4 =>
(xif (decide (1 ≤ (c4).length))
((xDI .i64 (List.getD c4 0 (D.s []))).bind fun n5 =>
(xite (!decide (n5 = (6 : Int)))
(some (A.one (C.d (D.v (.int .i64 (3 : Int))))))
((xElem 4 l2 i3).bind fun c6 =>
(xif (decide (1 ≤ ((List.drop 3 c6)).length))
((xDL (List.getD (List.drop 3 c6) 0 (D.s []))).bind fun l7 =>
(xite (decide (((l7).length : Int) < (1 : Int)))
(some (A.one (C.d (D.v (.int .i64 (2 : Int))))))
(xite (decide ((8 : Int) < ((l7).length : Int)))
(some (A.one (C.d (D.v (.int .i64 (2 : Int))))))
((xElem 4 l2 (0 : Int)).bind fun c8 =>
(xif (decide (1 ≤ ((List.drop 3 c8)).length))
((xDL (List.getD (List.drop 3 c8) 0 (D.s []))).bind fun l9 =>
(xite (!decide (((l7).length : Int) = ((l9).length : Int)))
(some (A.one (C.d (D.v (.int .i64 (2 : Int))))))
((xElem 4 l2 i3).bind fun c10 =>
(xif (decide (4 ≤ (c10).length))
((xDI .i64 (List.getD c10 0 (D.s []))).bind fun n11 =>
((xDI .i64 (List.getD c10 1 (D.s []))).bind fun n12 =>
((xDS (List.getD c10 2 (D.s []))).bind fun s13 =>
((xDL (List.getD c10 3 (D.s []))).bind fun l14 =>
((Φ i_ref01_Check [(A.agg [(C.d (D.v (.int .i64 n11))), (C.d (D.v (.int .i64 n12))), (C.d (D.s s13)), (C.d (D.sl l14))])]).bind fun r15 =>
((xAD r15).bind fun d16 =>
((xDI .i64 d16).bind fun n17 =>
(xite (!decide (n17 = (0 : Int)))
(some (A.one (C.d (D.v (.int .i64 n17)))))
(k0 l2 (IntKind.i64.wrap (i3 + (1 : Int)))))))))))))))))))))))))))
(some (A.one (C.d (D.v (.int .i64 (0 : Int)))))))
def ref01_rows (Φ : Phi) (fuel : Nat) (l1 : List (List D)) : Option A :=
(xite (decide ((8 : Int) < ((l1).length : Int)))
(some (A.one (C.d (D.v (.int .i64 (2 : Int))))))
(iter (fun (x : List (List D) × Int × Unit) (rec : (List (List D) × Int × Unit) → Option A) => ref01_rows_l0 Φ fuel (fun l2 i3 => rec (l2, i3, ())) x.1 x.2.1) fuel (l1, (0 : Int), ())))
theorem ref01_rows_eq (Φ : Phi) (fuel : Nat) (l1 : List (List D)) : xbody TT0 Φ fuel sp_ref01_rows Try.f55 [(A.one (C.d (D.sl l1)))] = ref01_rows Φ fuel l1 := by kernel_rfl
/-! value_OfBool -/
def sp_value_OfBool : List LSpec := []
def value_OfBool (Φ : Phi) (fuel : Nat) (b1 : Bool) : Option A :=
(xite b1
(some (A.agg [(C.d (D.v (.int .i64 (1 : Int)))), (C.d (D.v (.int .i64 (1 : Int)))), (C.d (D.s [])), (C.d (D.sl []))]))
(some (A.agg [(C.d (D.v (.int .i64 (1 : Int)))), (C.d (D.v (.int .i64 0))), (C.d (D.s [])), (C.d (D.sl []))])))
theorem value_OfBool_eq (Φ : Phi) (fuel : Nat) (b1 : Bool) : xbody TT0 Φ fuel sp_value_OfBool Try.f56 [(A.one (C.d (D.v (.bool b1))))] = value_OfBool Φ fuel b1 := by kernel_rfl
/-! value_OfBits -/
def sp_value_OfBits : List LSpec := []
def value_OfBits (Φ : Phi) (fuel : Nat) (n1 : Int) : Option A :=
(some (A.agg [(C.d (D.v (.int .i64 (4 : Int)))), (C.d (D.v (.int .i64 n1))), (C.d (D.s [])), (C.d (D.sl []))]))
theorem value_OfBits_eq (Φ : Phi) (fuel : Nat) (n1 : Int) : xbody TT0 Φ fuel sp_value_OfBits Try.f57 [(A.one (C.d (D.v (.int .i64 n1))))] = value_OfBits Φ fuel n1 := by kernel_rfl
/-! value_OfInt -/
def sp_value_OfInt : List LSpec := []
def value_OfInt (Φ : Phi) (fuel : Nat) (n1 : Int) : Option A :=
(some (A.agg [(C.d (D.v (.int .i64 (2 : Int)))), (C.d (D.v (.int .i64 n1))), (C.d (D.s [])), (C.d (D.sl []))]))
theorem value_OfInt_eq (Φ : Phi) (fuel : Nat) (n1 : Int) : xbody TT0 Φ fuel sp_value_OfInt Try.f58 [(A.one (C.d (D.v (.int .i64 n1))))] = value_OfInt Φ fuel n1 := by kernel_rfl
/-! domain_letters -/
def sp_domain_letters : List LSpec := [{ n := 1, m := 28, toks := [(9, .slot 3)], ks := [.slot 0 (.one (.int .i64)), .slot 3 (.one (.app 0 9)), .slot 4 (.one (.int .i64))] }]
def domain_letters_l0 (Φ : Phi) (fuel : Nat) (k0 : Int → List (List D) → Int → Option A) (n5 : Int) (out6 : List (List D)) (i7 : Int) : Option A :=
(xite (decide (((out6).length : Int) < n5))
((xElem 1 out6 i7).bind fun c8 =>
(xif (decide (1 ≤ (c8).length))
((xDS (List.getD c8 0 (D.s []))).bind fun s9 =>
(xif (decide ((s9).length + ([97]).length ≤ 9223372036854775807))
((xElem 1 out6 i7).bind fun c10 =>
(xif (decide (1 ≤ (c10).length))
((xDS (List.getD c10 0 (D.s []))).bind fun s11 =>
(xif (decide ((s11).length + ([98]).length ≤ 9223372036854775807))
((xApp 1 16 (out6.length) out6 ([[(D.s (s9 ++ [97]))], [(D.s (s11 ++ [98]))]] : List (List D))).bind fun l12 =>
(xif (decide (l12.length = (l12 : List (List D)).length))
(k0 n5 l12 (IntKind.i64.wrap (i7 + (1 : Int))))))))))))))
((xSubL 1 out6 (0 : Int) n5).bind fun l13 =>
(some (A.one (C.d (D.sl l13))))))
def domain_letters (Φ : Phi) (fuel : Nat) (n1 : Int) : Option A :=
(xif (decide ((([[(D.s [])]] : List (List D)) : List (List D)).length = (([[(D.s [])]] : List (List D)) : List (List D)).length))
(iter (fun (x : Int × List (List D) × Int × Unit) (rec : (Int × List (List D) × Int × Unit) → Option A) => domain_letters_l0 Φ fuel (fun n5 out6 i7 => rec (n5, out6, i7, ())) x.1 x.2.1 x.2.2.1) fuel (n1, ([[(D.s [])]] : List (List D)), (0 : Int), ())))
theorem domain_letters_eq (Φ : Phi) (fuel : Nat) (n1 : Int) : xbody TT0 Φ fuel sp_domain_letters Try.f59 [(A.one (C.d (D.v (.int .i64 n1))))] = domain_letters Φ fuel n1 := by kernel_rfl
/-! domain_made -/
def sp_domain_made : List LSpec := [{ n := 4, m := 58, toks := [(54, .cell 1 3)], ks := [.slot 0 (.one (.int .i64)), .slot 4 (.one (.ref 0 0)), .slot 5 (.one (.ref 1 0)), .slot 21 (.one (.ref 2 0)), .box 0 (.lit [(.int .i64), (.int .i64), .str, .full]), .box 1 (.lit [(.int .i64), (.int .i64), .str, (.app 3 54)]), .it 2] }]
def domain_made_l0 (Φ : Phi) (fuel : Nat) (k0 : Int → Int → Int → List UInt8 → List (List D) → Int → Int → List UInt8 → List (List D) → List UInt8 → Nat → Option A) (t26 : Int) (i27 : Int) (i28 : Int) (s29 : List UInt8) (l30 : List (List D)) (i31 : Int) (i32 : Int) (s33 : List UInt8) (l34 : List (List D)) (s35 : List UInt8) (n36 : Nat) : Option A :=
(xite (decide (n36 < (s35).length))
((Φ i_value_OfText [(A.one (C.d (D.s [])))]).bind fun r37 =>
((xADs r37).bind fun d38 =>
(xif (decide (d38.length = 4))
((xDI .i64 (List.getD d38 0 (D.s []))).bind fun n39 =>
((xDI .i64 (List.getD d38 1 (D.s []))).bind fun n40 =>
((xDS (List.getD d38 2 (D.s []))).bind fun s41 =>
((xDL (List.getD d38 3 (D.s []))).bind fun l42 =>
(xite (decide (((runeAt s35 n36).1 : Int) = (98 : Int)))
((Φ i_value_OfText [(A.one (C.d (D.s [97])))]).bind fun r43 =>
((xADs r43).bind fun d44 =>
(xif (decide (d44.length = 4))
((xDI .i64 (List.getD d44 0 (D.s []))).bind fun n45 =>
((xDI .i64 (List.getD d44 1 (D.s []))).bind fun n46 =>
((xDS (List.getD d44 2 (D.s []))).bind fun s47 =>
((xDL (List.getD d44 3 (D.s []))).bind fun l48 =>
(xite (decide (t26 = (5 : Int)))
((Φ i_value_OfInt [(A.one (C.d (D.v (.int .i64 (IntKind.i64.wrap (IntKind.i32.wrap (((runeAt s35 n36).1 : Int) - (97 : Int))))))))]).bind fun r49 =>
((xADs r49).bind fun d50 =>
(xif (decide (d50.length = 4))
((xDI .i64 (List.getD d50 0 (D.s []))).bind fun n51 =>
((xDI .i64 (List.getD d50 1 (D.s []))).bind fun n52 =>
((xDS (List.getD d50 2 (D.s []))).bind fun s53 =>
((xDL (List.getD d50 3 (D.s []))).bind fun l54 =>
((xApp 4 56 (l34.length) l34 ([[(D.v (.int .i64 n51)), (D.v (.int .i64 n52)), (D.s s53), (D.sl l54)]] : List (List D))).bind fun l55 =>
(xif (decide (l55.length = (l55 : List (List D)).length))
(k0 t26 i27 i28 s29 l30 i31 i32 s33 l55 s35 (n36 + (runeAt s35 n36).2)))))))))))
(xite (decide (t26 = (6 : Int)))
((xApp 4 56 (l34.length) l34 ([[(D.v (.int .i64 n45)), (D.v (.int .i64 n46)), (D.s s47), (D.sl l48)]] : List (List D))).bind fun l56 =>
(xif (decide (l56.length = (l56 : List (List D)).length))
(k0 t26 i27 i28 s29 l30 i31 i32 s33 l56 s35 (n36 + (runeAt s35 n36).2))))
((xApp 4 56 (l34.length) l34 ([[(D.v (.int .i64 (6 : Int))), (D.v (.int .i64 0)), (D.s []), (D.sl ([[(D.v (.int .i64 n45)), (D.v (.int .i64 n46)), (D.s s47), (D.sl l48)]] : List (List D)))]] : List (List D))).bind fun l57 =>
(xif (decide (l57.length = (l57 : List (List D)).length))
(k0 t26 i27 i28 s29 l30 i31 i32 s33 l57 s35 (n36 + (runeAt s35 n36).2)))))))))))))
(xite (decide (t26 = (5 : Int)))
((Φ i_value_OfInt [(A.one (C.d (D.v (.int .i64 (IntKind.i64.wrap (IntKind.i32.wrap (((runeAt s35 n36).1 : Int) - (97 : Int))))))))]).bind fun r58 =>
((xADs r58).bind fun d59 =>
(xif (decide (d59.length = 4))
((xDI .i64 (List.getD d59 0 (D.s []))).bind fun n60 =>
((xDI .i64 (List.getD d59 1 (D.s []))).bind fun n61 =>
((xDS (List.getD d59 2 (D.s []))).bind fun s62 =>
((xDL (List.getD d59 3 (D.s []))).bind fun l63 =>
((xApp 4 56 (l34.length) l34 ([[(D.v (.int .i64 n60)), (D.v (.int .i64 n61)), (D.s s62), (D.sl l63)]] : List (List D))).bind fun l64 =>
(xif (decide (l64.length = (l64 : List (List D)).length))
(k0 t26 i27 i28 s29 l30 i31 i32 s33 l64 s35 (n36 + (runeAt s35 n36).2)))))))))))
(xite (decide (t26 = (6 : Int)))
((xApp 4 56 (l34.length) l34 ([[(D.v (.int .i64 n39)), (D.v (.int .i64 n40)), (D.s s41), (D.sl l42)]] : List (List D))).bind fun l65 =>
(xif (decide (l65.length = (l65 : List (List D)).length))
(k0 t26 i27 i28 s29 l30 i31 i32 s33 l65 s35 (n36 + (runeAt s35 n36).2))))
((xApp 4 56 (l34.length) l34 ([[(D.v (.int .i64 (6 : Int))), (D.v (.int .i64 0)), (D.s []), (D.sl ([[(D.v (.int .i64 n39)), (D.v (.int .i64 n40)), (D.s s41), (D.sl l42)]] : List (List D)))]] : List (List D))).bind fun l66 =>
(xif (decide (l66.length = (l66 : List (List D)).length))
(k0 t26 i27 i28 s29 l30 i31 i32 s33 l66 s35 (n36 + (runeAt s35 n36).2))))))))))))))
(some (A.agg [(C.d (D.v (.int .i64 i31))), (C.d (D.v (.int .i64 i32))), (C.d (D.s s33)), (C.d (D.sl l34))])))
def domain_made (Φ : Phi) (fuel : Nat) (t1 : Int) (s2 : List UInt8) : Option A :=
(xite (decide (t1 = (3 : Int)))
((Φ i_value_OfText [(A.one (C.d (D.s s2)))]).bind fun r3 =>
((xADs r3).bind fun d4 =>
(xif (decide (d4.length = 4))
((xDI .i64 (List.getD d4 0 (D.s []))).bind fun n5 =>
((xDI .i64 (List.getD d4 1 (D.s []))).bind fun n6 =>
((xDS (List.getD d4 2 (D.s []))).bind fun s7 =>
((xDL (List.getD d4 3 (D.s []))).bind fun l8 =>
(some (A.agg [(C.d (D.v (.int .i64 n5))), (C.d (D.v (.int .i64 n6))), (C.d (D.s s7)), (C.d (D.sl l8))])))))))))
(xite (decide (t1 = (8 : Int)))
((Φ i_value_OfPattern [(A.one (C.d (D.s s2)))]).bind fun r9 =>
((xADs r9).bind fun d10 =>
(xif (decide (d10.length = 4))
((xDI .i64 (List.getD d10 0 (D.s []))).bind fun n11 =>
((xDI .i64 (List.getD d10 1 (D.s []))).bind fun n12 =>
((xDS (List.getD d10 2 (D.s []))).bind fun s13 =>
((xDL (List.getD d10 3 (D.s []))).bind fun l14 =>
(some (A.agg [(C.d (D.v (.int .i64 n11))), (C.d (D.v (.int .i64 n12))), (C.d (D.s s13)), (C.d (D.sl l14))])))))))))
(xif (decide (([] : List (List D)).length = ([] : List (List D)).length))
(iter (fun (x : Int × Unit × Unit × Unit × (Int × Int × List UInt8 × List (List D) × Unit) × (Int × Int × List UInt8 × List (List D) × Unit) × (List UInt8 × Nat) × Unit) (rec : (Int × Unit × Unit × Unit × (Int × Int × List UInt8 × List (List D) × Unit) × (Int × Int × List UInt8 × List (List D) × Unit) × (List UInt8 × Nat) × Unit) → Option A) => domain_made_l0 Φ fuel (fun t26 i27 i28 s29 l30 i31 i32 s33 l34 s35 n36 => rec (t26, (), (), (), (i27, i28, s29, l30, ()), (i31, i32, s33, l34, ()), (s35, n36), ())) x.1 x.2.2.2.2.1.1 x.2.2.2.2.1.2.1 x.2.2.2.2.1.2.2.1 x.2.2.2.2.1.2.2.2.1 x.2.2.2.2.2.1.1 x.2.2.2.2.2.1.2.1 x.2.2.2.2.2.1.2.2.1 x.2.2.2.2.2.1.2.2.2.1 x.2.2.2.2.2.2.1.1 x.2.2.2.2.2.2.1.2) fuel (t1, (), (), (), (0, 0, [], [], ()), (t1, 0, [], [], ()), (s2, 0), ())))))
theorem domain_made_eq (Φ : Phi) (fuel : Nat) (t1 : Int) (s2 : List UInt8) : xbody TT0 Φ fuel sp_domain_made Try.f60 [(A.one (C.d (D.v (.int .i64 t1)))), (A.one (C.d (D.s s2)))] = domain_made Φ fuel t1 s2 := by kernel_rfl
/-! ref01_names -/
def sp_ref01_names : List LSpec := []
def ref01_names (Φ : Phi) (fuel : Nat) : Option A :=
(some (A.one (C.d (D.sl ([[(D.s [98, 111, 111, 108])], [(D.s [105, 110, 116])], [(D.s [116, 101, 120, 116])], [(D.s [98, 105, 116, 115])], [(D.s [105, 110, 116, 115])], [(D.s [116, 101, 120, 116, 115])], [(D.s [116, 97, 98, 108, 101])], [(D.s [112, 97, 116, 116, 101, 114, 110])]] : List (List D))))))
theorem ref01_names_eq (Φ : Phi) (fuel : Nat) : xbody TT0 Φ fuel sp_ref01_names Try.f61 [] = ref01_names Φ fuel := by kernel_rfl
/-! ref19_words -/
def sp_ref19_words : List LSpec := [{ n := 1, m := 35, toks := [(9, .slot 5)], ks := [.slot 0 (.one (.int .i64)), .slot 1 (.one .bool), .slot 5 (.one (.app 0 9)), .slot 6 (.one (.int .i64))] }]
def ref19_words_l0 (Φ : Phi) (fuel : Nat) (k0 : Int → Bool → List (List D) → Int → Option A) (n7 : Int) (nonempty8 : Bool) (out9 : List (List D)) (i10 : Int) : Option A :=
(xite (decide (((out9).length : Int) ≤ n7))
((xElem 1 out9 i10).bind fun c11 =>
(xif (decide (1 ≤ (c11).length))
((xDS (List.getD c11 0 (D.s []))).bind fun s12 =>
(xif (decide ((s12).length + ([97]).length ≤ 9223372036854775807))
((xElem 1 out9 i10).bind fun c13 =>
(xif (decide (1 ≤ (c13).length))
((xDS (List.getD c13 0 (D.s []))).bind fun s14 =>
(xif (decide ((s14).length + ([98]).length ≤ 9223372036854775807))
((xApp 1 16 (out9.length) out9 ([[(D.s (s12 ++ [97]))], [(D.s (s14 ++ [98]))]] : List (List D))).bind fun l15 =>
(xif (decide (l15.length = (l15 : List (List D)).length))
(k0 n7 nonempty8 l15 (IntKind.i64.wrap (i10 + (1 : Int))))))))))))))
(xite nonempty8
((xSubL 1 out9 (1 : Int) (IntKind.i64.wrap (n7 + (1 : Int)))).bind fun l16 =>
(some (A.one (C.d (D.sl l16)))))
((xSubL 1 out9 (0 : Int) n7).bind fun l17 =>
(some (A.one (C.d (D.sl l17)))))))
def ref19_words (Φ : Phi) (fuel : Nat) (n1 : Int) (nonempty2 : Bool) : Option A :=
(xif (decide ((([[(D.s [])]] : List (List D)) : List (List D)).length = (([[(D.s [])]] : List (List D)) : List (List D)).length))
(iter (fun (x : Int × Bool × List (List D) × Int × Unit) (rec : (Int × Bool × List (List D) × Int × Unit) → Option A) => ref19_words_l0 Φ fuel (fun n7 nonempty8 out9 i10 => rec (n7, nonempty8, out9, i10, ())) x.1 x.2.1 x.2.2.1 x.2.2.2.1) fuel (n1, nonempty2, ([[(D.s [])]] : List (List D)), (0 : Int), ())))
theorem ref19_words_eq (Φ : Phi) (fuel : Nat) (n1 : Int) (nonempty2 : Bool) : xbody TT0 Φ fuel sp_ref19_words Try.f62 [(A.one (C.d (D.v (.int .i64 n1)))), (A.one (C.d (D.v (.bool nonempty2))))] = ref19_words Φ fuel n1 nonempty2 := by kernel_rfl
/-! ref01_OfBool -/
def sp_ref01_OfBool : List LSpec := []
def ref01_OfBool (Φ : Phi) (fuel : Nat) (b1 : Bool) : Option A :=
(xite b1
(some (A.agg [(C.d (D.v (.int .i64 (1 : Int)))), (C.d (D.v (.int .i64 (1 : Int)))), (C.d (D.s [])), (C.d (D.sl []))]))
(some (A.agg [(C.d (D.v (.int .i64 (1 : Int)))), (C.d (D.v (.int .i64 0))), (C.d (D.s [])), (C.d (D.sl []))])))
theorem ref01_OfBool_eq (Φ : Phi) (fuel : Nat) (b1 : Bool) : xbody TT0 Φ fuel sp_ref01_OfBool Try.f63 [(A.one (C.d (D.v (.bool b1))))] = ref01_OfBool Φ fuel b1 := by kernel_rfl
/-! ref01_OfInt -/
def sp_ref01_OfInt : List LSpec := []
def ref01_OfInt (Φ : Phi) (fuel : Nat) (n1 : Int) : Option A :=
(some (A.agg [(C.d (D.v (.int .i64 (2 : Int)))), (C.d (D.v (.int .i64 n1))), (C.d (D.s [])), (C.d (D.sl []))]))
theorem ref01_OfInt_eq (Φ : Phi) (fuel : Nat) (n1 : Int) : xbody TT0 Φ fuel sp_ref01_OfInt Try.f64 [(A.one (C.d (D.v (.int .i64 n1))))] = ref01_OfInt Φ fuel n1 := by kernel_rfl
/-! ref01_OfBits -/
def sp_ref01_OfBits : List LSpec := []
def ref01_OfBits (Φ : Phi) (fuel : Nat) (n1 : Int) : Option A :=
(some (A.agg [(C.d (D.v (.int .i64 (4 : Int)))), (C.d (D.v (.int .i64 n1))), (C.d (D.s [])), (C.d (D.sl []))]))
theorem ref01_OfBits_eq (Φ : Phi) (fuel : Nat) (n1 : Int) : xbody TT0 Φ fuel sp_ref01_OfBits Try.f65 [(A.one (C.d (D.v (.int .i64 n1))))] = ref01_OfBits Φ fuel n1 := by kernel_rfl
/-! ref01_OfText -/
def sp_ref01_OfText : List LSpec := []
def ref01_OfText (Φ : Phi) (fuel : Nat) (s1 : List UInt8) : Option A :=
(some (A.agg [(C.d (D.v (.int .i64 (3 : Int)))), (C.d (D.v (.int .i64 0))), (C.d (D.s s1)), (C.d (D.sl []))]))
theorem ref01_OfText_eq (Φ : Phi) (fuel : Nat) (s1 : List UInt8) : xbody TT0 Φ fuel sp_ref01_OfText Try.f66 [(A.one (C.d (D.s s1)))] = ref01_OfText Φ fuel s1 := by kernel_rfl
/-! ref01_OfPattern -/
def sp_ref01_OfPattern : List LSpec := []
def ref01_OfPattern (Φ : Phi) (fuel : Nat) (s1 : List UInt8) : Option A :=
(some (A.agg [(C.d (D.v (.int .i64 (8 : Int)))), (C.d (D.v (.int .i64 0))), (C.d (D.s s1)), (C.d (D.sl []))]))
theorem ref01_OfPattern_eq (Φ : Phi) (fuel : Nat) (s1 : List UInt8) : xbody TT0 Φ fuel sp_ref01_OfPattern Try.f67 [(A.one (C.d (D.s s1)))] = ref01_OfPattern Φ fuel s1 := by kernel_rfl
/-! ref19_ints -/
def sp_ref19_ints : List LSpec := [{ n := 3, m := 24, toks := [(54, .cell 1 3)], ks := [.slot 0 (.one .str), .slot 2 (.one (.ref 0 0)), .slot 3 (.one (.ref 1 0)), .slot 4 (.one (.int .i64)), .box 0 (.lit [(.int .i64), (.int .i64), .str, .full]), .box 1 (.lit [(.int .i64), (.int .i64), .str, (.app 2 54)])] }]
def ref19_ints_l0 (Φ : Phi) (fuel : Nat) (k0 : List UInt8 → Int → Int → Int → List UInt8 → List (List D) → Int → Int → List UInt8 → List (List D) → Option A) (s12 : List UInt8) (i13 : Int) (i14 : Int) (i15 : Int) (s16 : List UInt8) (l17 : List (List D)) (i18 : Int) (i19 : Int) (s20 : List UInt8) (l21 : List (List D)) : Option A :=
(xite (decide (i13 < ((s12).length : Int)))
((xIdxS s12 i13).bind fun c22 =>
((Φ i_ref01_OfInt [(A.one (C.d (D.v (.int .i64 (IntKind.i64.wrap (IntKind.u8.wrap ((c22.toNat : Int) - (97 : Int))))))))]).bind fun r23 =>
((xADs r23).bind fun d24 =>
(xif (decide (d24.length = 4))
((xDI .i64 (List.getD d24 0 (D.s []))).bind fun n25 =>
((xDI .i64 (List.getD d24 1 (D.s []))).bind fun n26 =>
((xDS (List.getD d24 2 (D.s []))).bind fun s27 =>
((xDL (List.getD d24 3 (D.s []))).bind fun l28 =>
((xApp 4 56 (l21.length) l21 ([[(D.v (.int .i64 n25)), (D.v (.int .i64 n26)), (D.s s27), (D.sl l28)]] : List (List D))).bind fun l29 =>
(xif (decide (l29.length = (l29 : List (List D)).length))
(k0 s12 (IntKind.i64.wrap (i13 + (1 : Int))) i14 i15 s16 l17 i18 i19 s20 l29)))))))))))
(some (A.agg [(C.d (D.v (.int .i64 i18))), (C.d (D.v (.int .i64 i19))), (C.d (D.s s20)), (C.d (D.sl l21))])))
def ref19_ints (Φ : Phi) (fuel : Nat) (s1 : List UInt8) : Option A :=
(xif (decide (([] : List (List D)).length = ([] : List (List D)).length))
(iter (fun (x : List UInt8 × Unit × Unit × Int × (Int × Int × List UInt8 × List (List D) × Unit) × (Int × Int × List UInt8 × List (List D) × Unit) × Unit) (rec : (List UInt8 × Unit × Unit × Int × (Int × Int × List UInt8 × List (List D) × Unit) × (Int × Int × List UInt8 × List (List D) × Unit) × Unit) → Option A) => ref19_ints_l0 Φ fuel (fun s12 i13 i14 i15 s16 l17 i18 i19 s20 l21 => rec (s12, (), (), i13, (i14, i15, s16, l17, ()), (i18, i19, s20, l21, ()), ())) x.1 x.2.2.2.1 x.2.2.2.2.1.1 x.2.2.2.2.1.2.1 x.2.2.2.2.1.2.2.1 x.2.2.2.2.1.2.2.2.1 x.2.2.2.2.2.1.1 x.2.2.2.2.2.1.2.1 x.2.2.2.2.2.1.2.2.1 x.2.2.2.2.2.1.2.2.2.1) fuel (s1, (), (), (0 : Int), (0, 0, [], [], ()), ((5 : Int), 0, [], [], ()), ())))
theorem ref19_ints_eq (Φ : Phi) (fuel : Nat) (s1 : List UInt8) : xbody TT0 Φ fuel sp_ref19_ints Try.f68 [(A.one (C.d (D.s s1)))] = ref19_ints Φ fuel s1 := by kernel_rfl
/-! ref19_texts -/
def sp_ref19_texts : List LSpec := [{ n := 3, m := 24, toks := [(54, .cell 1 3)], ks := [.slot 0 (.one .str), .slot 2 (.one (.ref 0 0)), .slot 3 (.one (.ref 1 0)), .slot 4 (.one (.int .i64)), .box 0 (.lit [(.int .i64), (.int .i64), .str, .full]), .box 1 (.lit [(.int .i64), (.int .i64), .str, (.app 2 54)])] }]
def ref19_texts_l0 (Φ : Phi) (fuel : Nat) (k0 : List UInt8 → Int → Int → Int → List UInt8 → List (List D) → Int → Int → List UInt8 → List (List D) → Option A) (s12 : List UInt8) (i13 : Int) (i14 : Int) (i15 : Int) (s16 : List UInt8) (l17 : List (List D)) (i18 : Int) (i19 : Int) (s20 : List UInt8) (l21 : List (List D)) : Option A :=
(xite (decide (i13 < ((s12).length : Int)))
((xIdxS s12 i13).bind fun c22 =>
((xSubS [97] (0 : Int) (IntKind.u8.wrap ((c22.toNat : Int) - (97 : Int)))).bind fun s23 =>
((Φ i_ref01_OfText [(A.one (C.d (D.s s23)))]).bind fun r24 =>
((xADs r24).bind fun d25 =>
(xif (decide (d25.length = 4))
((xDI .i64 (List.getD d25 0 (D.s []))).bind fun n26 =>
((xDI .i64 (List.getD d25 1 (D.s []))).bind fun n27 =>
((xDS (List.getD d25 2 (D.s []))).bind fun s28 =>
((xDL (List.getD d25 3 (D.s []))).bind fun l29 =>
((xApp 4 56 (l21.length) l21 ([[(D.v (.int .i64 n26)), (D.v (.int .i64 n27)), (D.s s28), (D.sl l29)]] : List (List D))).bind fun l30 =>
(xif (decide (l30.length = (l30 : List (List D)).length))
(k0 s12 (IntKind.i64.wrap (i13 + (1 : Int))) i14 i15 s16 l17 i18 i19 s20 l30))))))))))))
(some (A.agg [(C.d (D.v (.int .i64 i18))), (C.d (D.v (.int .i64 i19))), (C.d (D.s s20)), (C.d (D.sl l21))])))
def ref19_texts (Φ : Phi) (fuel : Nat) (s1 : List UInt8) : Option A :=
(xif (decide (([] : List (List D)).length = ([] : List (List D)).length))
(iter (fun (x : List UInt8 × Unit × Unit × Int × (Int × Int × List UInt8 × List (List D) × Unit) × (Int × Int × List UInt8 × List (List D) × Unit) × Unit) (rec : (List UInt8 × Unit × Unit × Int × (Int × Int × List UInt8 × List (List D) × Unit) × (Int × Int × List UInt8 × List (List D) × Unit) × Unit) → Option A) => ref19_texts_l0 Φ fuel (fun s12 i13 i14 i15 s16 l17 i18 i19 s20 l21 => rec (s12, (), (), i13, (i14, i15, s16, l17, ()), (i18, i19, s20, l21, ()), ())) x.1 x.2.2.2.1 x.2.2.2.2.1.1 x.2.2.2.2.1.2.1 x.2.2.2.2.1.2.2.1 x.2.2.2.2.1.2.2.2.1 x.2.2.2.2.2.1.1 x.2.2.2.2.2.1.2.1 x.2.2.2.2.2.1.2.2.1 x.2.2.2.2.2.1.2.2.2.1) fuel (s1, (), (), (0 : Int), (0, 0, [], [], ()), ((6 : Int), 0, [], [], ()), ())))
theorem ref19_texts_eq (Φ : Phi) (fuel : Nat) (s1 : List UInt8) : xbody TT0 Φ fuel sp_ref19_texts Try.f69 [(A.one (C.d (D.s s1)))] = ref19_texts Φ fuel s1 := by kernel_rfl
/-! ref19_table -/
def sp_ref19_table : List LSpec := [{ n := 3, m := 24, toks := [(54, .cell 1 3)], ks := [.slot 0 (.one .str), .slot 2 (.one (.ref 0 0)), .slot 3 (.one (.ref 1 0)), .slot 4 (.one (.int .i64)), .box 0 (.lit [(.int .i64), (.int .i64), .str, .full]), .box 1 (.lit [(.int .i64), (.int .i64), .str, (.app 2 54)])] }]
def ref19_table_l0 (Φ : Phi) (fuel : Nat) (k0 : List UInt8 → Int → Int → Int → List UInt8 → List (List D) → Int → Int → List UInt8 → List (List D) → Option A) (s12 : List UInt8) (i13 : Int) (i14 : Int) (i15 : Int) (s16 : List UInt8) (l17 : List (List D)) (i18 : Int) (i19 : Int) (s20 : List UInt8) (l21 : List (List D)) : Option A :=
(xite (decide (i13 < ((s12).length : Int)))
((xSubS s12 i13 (IntKind.i64.wrap (i13 + (1 : Int)))).bind fun s22 =>
((Φ i_ref19_texts [(A.one (C.d (D.s s22)))]).bind fun r23 =>
((xADs r23).bind fun d24 =>
(xif (decide (d24.length = 4))
((xDI .i64 (List.getD d24 0 (D.s []))).bind fun n25 =>
((xDI .i64 (List.getD d24 1 (D.s []))).bind fun n26 =>
((xDS (List.getD d24 2 (D.s []))).bind fun s27 =>
((xDL (List.getD d24 3 (D.s []))).bind fun l28 =>
((xApp 4 56 (l21.length) l21 ([[(D.v (.int .i64 n25)), (D.v (.int .i64 n26)), (D.s s27), (D.sl l28)]] : List (List D))).bind fun l29 =>
(xif (decide (l29.length = (l29 : List (List D)).length))
(k0 s12 (IntKind.i64.wrap (i13 + (1 : Int))) i14 i15 s16 l17 i18 i19 s20 l29)))))))))))
(some (A.agg [(C.d (D.v (.int .i64 i18))), (C.d (D.v (.int .i64 i19))), (C.d (D.s s20)), (C.d (D.sl l21))])))
def ref19_table (Φ : Phi) (fuel : Nat) (s1 : List UInt8) : Option A :=
(xif (decide (([] : List (List D)).length = ([] : List (List D)).length))
(iter (fun (x : List UInt8 × Unit × Unit × Int × (Int × Int × List UInt8 × List (List D) × Unit) × (Int × Int × List UInt8 × List (List D) × Unit) × Unit) (rec : (List UInt8 × Unit × Unit × Int × (Int × Int × List UInt8 × List (List D) × Unit) × (Int × Int × List UInt8 × List (List D) × Unit) × Unit) → Option A) => ref19_table_l0 Φ fuel (fun s12 i13 i14 i15 s16 l17 i18 i19 s20 l21 => rec (s12, (), (), i13, (i14, i15, s16, l17, ()), (i18, i19, s20, l21, ()), ())) x.1 x.2.2.2.1 x.2.2.2.2.1.1 x.2.2.2.2.1.2.1 x.2.2.2.2.1.2.2.1 x.2.2.2.2.1.2.2.2.1 x.2.2.2.2.2.1.1 x.2.2.2.2.2.1.2.1 x.2.2.2.2.2.1.2.2.1 x.2.2.2.2.2.1.2.2.2.1) fuel (s1, (), (), (0 : Int), (0, 0, [], [], ()), ((7 : Int), 0, [], [], ()), ())))
theorem ref19_table_eq (Φ : Phi) (fuel : Nat) (s1 : List UInt8) : xbody TT0 Φ fuel sp_ref19_table Try.f70 [(A.one (C.d (D.s s1)))] = ref19_table Φ fuel s1 := by kernel_rfl
end Go.Av
