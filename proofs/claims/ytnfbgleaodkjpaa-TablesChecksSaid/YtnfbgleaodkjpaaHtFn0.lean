/-
  What each function gives when run. Printed by a program of mine (gen.py).
-/
import Derived.Test.YtnfbgleaodkjpaaHtTy
set_option linter.all false
set_option linter.unusedVariables false
set_option maxRecDepth 100000
namespace Go.Av
open Go.Proofs
/-! law08_TablesPivots -/
def sp_law08_TablesPivots : List LSpec := []
def law08_TablesPivots (Φ : Phi) (fuel : Nat) (t1 : List (List D)) (keep2 : Int) : Option A :=
((Φ i_law08_small [(A.one (C.d (D.sl t1)))]).bind fun r3 =>
((xAD r3).bind fun d4 =>
((xDB d4).bind fun b5 =>
(xite (!b5)
((Φ i_law08_awake []).bind fun r6 =>
((xAD r6).bind fun d7 =>
((xDB d7).bind fun b8 =>
(some (A.one (C.d (D.v (.bool b8))))))))
((Φ i_tables_Unpivot [(A.one (C.d (D.sl t1))), (A.one (C.d (D.v (.int .i64 keep2))))]).bind fun r9 =>
((xtup r9 0).bind fun r10 =>
((xAD r10).bind fun d11 =>
((xDL d11).bind fun l12 =>
((xtup r9 1).bind fun r13 =>
((xAD r13).bind fun d14 =>
((xDI .i64 d14).bind fun n15 =>
((Φ i_ref08_Unpivot [(A.one (C.d (D.sl t1))), (A.one (C.d (D.v (.int .i64 keep2))))]).bind fun r16 =>
((xtup r16 0).bind fun r17 =>
((xAD r17).bind fun d18 =>
((xDL d18).bind fun l19 =>
((xtup r16 1).bind fun r20 =>
((xAD r20).bind fun d21 =>
((xDI .i64 d21).bind fun n22 =>
((Φ i_tables_Pivot [(A.one (C.d (D.sl t1)))]).bind fun r23 =>
((xtup r23 0).bind fun r24 =>
((xAD r24).bind fun d25 =>
((xDL d25).bind fun l26 =>
((xtup r23 1).bind fun r27 =>
((xAD r27).bind fun d28 =>
((xDI .i64 d28).bind fun n29 =>
((Φ i_ref08_Pivot [(A.one (C.d (D.sl t1)))]).bind fun r30 =>
((xtup r30 0).bind fun r31 =>
((xAD r31).bind fun d32 =>
((xDL d32).bind fun l33 =>
((xtup r30 1).bind fun r34 =>
((xAD r34).bind fun d35 =>
((xDI .i64 d35).bind fun n36 =>
((Φ i_ref08_Same [(A.one (C.d (D.sl l12))), (A.one (C.d (D.sl l19)))]).bind fun r37 =>
((xAD r37).bind fun d38 =>
((xDB d38).bind fun b39 =>
(xite b39
((Φ i_ref08_Same [(A.one (C.d (D.sl l26))), (A.one (C.d (D.sl l33)))]).bind fun r40 =>
((xAD r40).bind fun d41 =>
((xDB d41).bind fun b42 =>
(xite b42
(xite (decide (n15 = n22))
(xite (decide (n29 = n36))
((Φ i_law08_awake []).bind fun r43 =>
((xAD r43).bind fun d44 =>
((xDB d44).bind fun b45 =>
(some (A.one (C.d (D.v (.bool b45))))))))
(some (A.one (C.d (D.v (.bool false))))))
(some (A.one (C.d (D.v (.bool false))))))
(some (A.one (C.d (D.v (.bool false)))))))))
(some (A.one (C.d (D.v (.bool false)))))))))))))))))))))))))))))))))))))))))
theorem law08_TablesPivots_eq (Φ : Phi) (fuel : Nat) (t1 : List (List D)) (keep2 : Int) : xbody TT0 Φ fuel sp_law08_TablesPivots Try.f3 [(A.one (C.d (D.sl t1))), (A.one (C.d (D.v (.int .i64 keep2))))] = law08_TablesPivots Φ fuel t1 keep2 := by kernel_rfl
/-! law08_TablesSplits -/
def sp_law08_TablesSplits : List LSpec := []
def law08_TablesSplits (Φ : Phi) (fuel : Nat) (t1 : List (List D)) (column2 : Int) (by3 : List UInt8) : Option A :=
((Φ i_law08_small [(A.one (C.d (D.sl t1)))]).bind fun r4 =>
((xAD r4).bind fun d5 =>
((xDB d5).bind fun b6 =>
(xite (!b6)
((Φ i_law08_awake []).bind fun r7 =>
((xAD r7).bind fun d8 =>
((xDB d8).bind fun b9 =>
(some (A.one (C.d (D.v (.bool b9))))))))
(xite (decide ((100 : Int) < ((by3).length : Int)))
((Φ i_law08_awake []).bind fun r10 =>
((xAD r10).bind fun d11 =>
((xDB d11).bind fun b12 =>
(some (A.one (C.d (D.v (.bool b12))))))))
((Φ i_tables_Split [(A.one (C.d (D.sl t1))), (A.one (C.d (D.v (.int .i64 column2)))), (A.one (C.d (D.s by3)))]).bind fun r13 =>
((xtup r13 0).bind fun r14 =>
((xAD r14).bind fun d15 =>
((xDL d15).bind fun l16 =>
((xtup r13 1).bind fun r17 =>
((xAD r17).bind fun d18 =>
((xDI .i64 d18).bind fun n19 =>
((Φ i_ref08_Split [(A.one (C.d (D.sl t1))), (A.one (C.d (D.v (.int .i64 column2)))), (A.one (C.d (D.s by3)))]).bind fun r20 =>
((xtup r20 0).bind fun r21 =>
((xAD r21).bind fun d22 =>
((xDL d22).bind fun l23 =>
((xtup r20 1).bind fun r24 =>
((xAD r24).bind fun d25 =>
((xDI .i64 d25).bind fun n26 =>
((Φ i_ref08_Same [(A.one (C.d (D.sl l16))), (A.one (C.d (D.sl l23)))]).bind fun r27 =>
((xAD r27).bind fun d28 =>
((xDB d28).bind fun b29 =>
(xite b29
(xite (decide (n19 = n26))
((Φ i_law08_awake []).bind fun r30 =>
((xAD r30).bind fun d31 =>
((xDB d31).bind fun b32 =>
(some (A.one (C.d (D.v (.bool b32))))))))
(some (A.one (C.d (D.v (.bool false))))))
(some (A.one (C.d (D.v (.bool false))))))))))))))))))))))))))))
theorem law08_TablesSplits_eq (Φ : Phi) (fuel : Nat) (t1 : List (List D)) (column2 : Int) (by3 : List UInt8) : xbody TT0 Φ fuel sp_law08_TablesSplits Try.f4 [(A.one (C.d (D.sl t1))), (A.one (C.d (D.v (.int .i64 column2)))), (A.one (C.d (D.s by3)))] = law08_TablesSplits Φ fuel t1 column2 by3 := by kernel_rfl
/-! law08_TablesParts -/
def sp_law08_TablesParts : List LSpec := []
def law08_TablesParts (Φ : Phi) (fuel : Nat) (t1 : List (List D)) (i2 : Int) (k3 : Int) : Option A :=
((Φ i_law08_small [(A.one (C.d (D.sl t1)))]).bind fun r4 =>
((xAD r4).bind fun d5 =>
((xDB d5).bind fun b6 =>
(xite (!b6)
((Φ i_law08_awake []).bind fun r7 =>
((xAD r7).bind fun d8 =>
((xDB d8).bind fun b9 =>
(some (A.one (C.d (D.v (.bool b9))))))))
((Φ i_tables_Row [(A.one (C.d (D.sl t1))), (A.one (C.d (D.v (.int .i64 i2))))]).bind fun r10 =>
((xtup r10 0).bind fun r11 =>
((xAD r11).bind fun d12 =>
((xDL d12).bind fun l13 =>
((xtup r10 1).bind fun r14 =>
((xAD r14).bind fun d15 =>
((xDI .i64 d15).bind fun n16 =>
((Φ i_ref08_Row [(A.one (C.d (D.sl t1))), (A.one (C.d (D.v (.int .i64 i2))))]).bind fun r17 =>
((xtup r17 0).bind fun r18 =>
((xAD r18).bind fun d19 =>
((xDL d19).bind fun l20 =>
((xtup r17 1).bind fun r21 =>
((xAD r21).bind fun d22 =>
((xDI .i64 d22).bind fun n23 =>
((Φ i_tables_Column [(A.one (C.d (D.sl t1))), (A.one (C.d (D.v (.int .i64 k3))))]).bind fun r24 =>
((xtup r24 0).bind fun r25 =>
((xAD r25).bind fun d26 =>
((xDL d26).bind fun l27 =>
((xtup r24 1).bind fun r28 =>
((xAD r28).bind fun d29 =>
((xDI .i64 d29).bind fun n30 =>
((Φ i_ref08_Column [(A.one (C.d (D.sl t1))), (A.one (C.d (D.v (.int .i64 k3))))]).bind fun r31 =>
((xtup r31 0).bind fun r32 =>
((xAD r32).bind fun d33 =>
((xDL d33).bind fun l34 =>
((xtup r31 1).bind fun r35 =>
((xAD r35).bind fun d36 =>
((xDI .i64 d36).bind fun n37 =>
((Φ i_tables_Cell [(A.one (C.d (D.sl t1))), (A.one (C.d (D.v (.int .i64 i2)))), (A.one (C.d (D.v (.int .i64 k3))))]).bind fun r38 =>
((xtup r38 0).bind fun r39 =>
((xAD r39).bind fun d40 =>
((xDS d40).bind fun s41 =>
((xtup r38 1).bind fun r42 =>
((xAD r42).bind fun d43 =>
((xDI .i64 d43).bind fun n44 =>
((Φ i_ref08_Cell [(A.one (C.d (D.sl t1))), (A.one (C.d (D.v (.int .i64 i2)))), (A.one (C.d (D.v (.int .i64 k3))))]).bind fun r45 =>
((xtup r45 0).bind fun r46 =>
((xAD r46).bind fun d47 =>
((xDS d47).bind fun s48 =>
((xtup r45 1).bind fun r49 =>
((xAD r49).bind fun d50 =>
((xDI .i64 d50).bind fun n51 =>
((Φ i_ref08_Texts [(A.one (C.d (D.sl l13))), (A.one (C.d (D.sl l20)))]).bind fun r52 =>
((xAD r52).bind fun d53 =>
((xDB d53).bind fun b54 =>
(xite b54
((Φ i_ref08_Texts [(A.one (C.d (D.sl l27))), (A.one (C.d (D.sl l34)))]).bind fun r55 =>
((xAD r55).bind fun d56 =>
((xDB d56).bind fun b57 =>
(xite b57
(xite (decide ((s41 : List UInt8) = s48))
(xite (decide (n16 = n23))
(xite (decide (n30 = n37))
(xite (decide (n44 = n51))
((Φ i_law08_awake []).bind fun r58 =>
((xAD r58).bind fun d59 =>
((xDB d59).bind fun b60 =>
(some (A.one (C.d (D.v (.bool b60))))))))
(some (A.one (C.d (D.v (.bool false))))))
(some (A.one (C.d (D.v (.bool false))))))
(some (A.one (C.d (D.v (.bool false))))))
(some (A.one (C.d (D.v (.bool false))))))
(some (A.one (C.d (D.v (.bool false)))))))))
(some (A.one (C.d (D.v (.bool false)))))))))))))))))))))))))))))))))))))))))))))))))))))))
theorem law08_TablesParts_eq (Φ : Phi) (fuel : Nat) (t1 : List (List D)) (i2 : Int) (k3 : Int) : xbody TT0 Φ fuel sp_law08_TablesParts Try.f5 [(A.one (C.d (D.sl t1))), (A.one (C.d (D.v (.int .i64 i2)))), (A.one (C.d (D.v (.int .i64 k3))))] = law08_TablesParts Φ fuel t1 i2 k3 := by kernel_rfl
/-! law08_TablesChecks -/
def sp_law08_TablesChecks : List LSpec := []
def law08_TablesChecks (Φ : Phi) (fuel : Nat) (t1 : List (List D)) : Option A :=
((Φ i_law08_small [(A.one (C.d (D.sl t1)))]).bind fun r2 =>
((xAD r2).bind fun d3 =>
((xDB d3).bind fun b4 =>
(xite (!b4)
((Φ i_law08_awake []).bind fun r5 =>
((xAD r5).bind fun d6 =>
((xDB d6).bind fun b7 =>
(some (A.one (C.d (D.v (.bool b7))))))))
((Φ i_tables_Check [(A.one (C.d (D.sl t1)))]).bind fun r8 =>
((xAD r8).bind fun d9 =>
((xDI .i64 d9).bind fun n10 =>
((Φ i_ref08_Check [(A.one (C.d (D.sl t1)))]).bind fun r11 =>
((xAD r11).bind fun d12 =>
((xDI .i64 d12).bind fun n13 =>
(xite (decide (n10 = n13))
((Φ i_tables_Transpose [(A.one (C.d (D.sl t1)))]).bind fun r14 =>
((xAD r14).bind fun d15 =>
((xDL d15).bind fun l16 =>
((Φ i_ref08_Transpose [(A.one (C.d (D.sl t1)))]).bind fun r17 =>
((xAD r17).bind fun d18 =>
((xDL d18).bind fun l19 =>
((Φ i_ref08_Same [(A.one (C.d (D.sl l16))), (A.one (C.d (D.sl l19)))]).bind fun r20 =>
((xAD r20).bind fun d21 =>
((xDB d21).bind fun b22 =>
(xite b22
((Φ i_tables_Fill [(A.one (C.d (D.sl t1)))]).bind fun r23 =>
((xAD r23).bind fun d24 =>
((xDL d24).bind fun l25 =>
((Φ i_ref08_Fill [(A.one (C.d (D.sl t1)))]).bind fun r26 =>
((xAD r26).bind fun d27 =>
((xDL d27).bind fun l28 =>
((Φ i_ref08_Same [(A.one (C.d (D.sl l25))), (A.one (C.d (D.sl l28)))]).bind fun r29 =>
((xAD r29).bind fun d30 =>
((xDB d30).bind fun b31 =>
(xite b31
((Φ i_law08_awake []).bind fun r32 =>
((xAD r32).bind fun d33 =>
((xDB d33).bind fun b34 =>
(some (A.one (C.d (D.v (.bool b34))))))))
(some (A.one (C.d (D.v (.bool false)))))))))))))))
(some (A.one (C.d (D.v (.bool false)))))))))))))))
(some (A.one (C.d (D.v (.bool false))))))))))))))))
theorem law08_TablesChecks_eq (Φ : Phi) (fuel : Nat) (t1 : List (List D)) : xbody TT0 Φ fuel sp_law08_TablesChecks Try.f6 [(A.one (C.d (D.sl t1)))] = law08_TablesChecks Φ fuel t1 := by kernel_rfl
/-! law08_TablesBack -/
def sp_law08_TablesBack : List LSpec := []
def law08_TablesBack (Φ : Phi) (fuel : Nat) (t1 : List (List D)) : Option A :=
((Φ i_law08_small [(A.one (C.d (D.sl t1)))]).bind fun r2 =>
((xAD r2).bind fun d3 =>
((xDB d3).bind fun b4 =>
(xite (!b4)
((Φ i_law08_awake []).bind fun r5 =>
((xAD r5).bind fun d6 =>
((xDB d6).bind fun b7 =>
(some (A.one (C.d (D.v (.bool b7))))))))
((Φ i_tables_Check [(A.one (C.d (D.sl t1)))]).bind fun r8 =>
((xAD r8).bind fun d9 =>
((xDI .i64 d9).bind fun n10 =>
(xite (!decide (n10 = (0 : Int)))
((Φ i_law08_awake []).bind fun r11 =>
((xAD r11).bind fun d12 =>
((xDB d12).bind fun b13 =>
(some (A.one (C.d (D.v (.bool b13))))))))
((Φ i_tables_Transpose [(A.one (C.d (D.sl t1)))]).bind fun r14 =>
((xAD r14).bind fun d15 =>
((xDL d15).bind fun l16 =>
((Φ i_tables_Transpose [(A.one (C.d (D.sl l16)))]).bind fun r17 =>
((xAD r17).bind fun d18 =>
((xDL d18).bind fun l19 =>
((Φ i_ref08_Same [(A.one (C.d (D.sl l19))), (A.one (C.d (D.sl t1)))]).bind fun r20 =>
((xAD r20).bind fun d21 =>
((xDB d21).bind fun b22 =>
(xite (!b22)
(some (A.one (C.d (D.v (.bool false)))))
((Φ i_tables_Check [(A.one (C.d (D.sl l16)))]).bind fun r23 =>
((xAD r23).bind fun d24 =>
((xDI .i64 d24).bind fun n25 =>
(xite (!decide (n25 = (0 : Int)))
(some (A.one (C.d (D.v (.bool false)))))
((Φ i_tables_Fill [(A.one (C.d (D.sl t1)))]).bind fun r26 =>
((xAD r26).bind fun d27 =>
((xDL d27).bind fun l28 =>
((Φ i_tables_Fill [(A.one (C.d (D.sl l28)))]).bind fun r29 =>
((xAD r29).bind fun d30 =>
((xDL d30).bind fun l31 =>
((Φ i_ref08_Same [(A.one (C.d (D.sl l31))), (A.one (C.d (D.sl l28)))]).bind fun r32 =>
((xAD r32).bind fun d33 =>
((xDB d33).bind fun b34 =>
(xite (!b34)
(some (A.one (C.d (D.v (.bool false)))))
((Φ i_tables_Check [(A.one (C.d (D.sl l28)))]).bind fun r35 =>
((xAD r35).bind fun d36 =>
((xDI .i64 d36).bind fun n37 =>
(xite (!decide (n37 = (0 : Int)))
(some (A.one (C.d (D.v (.bool false)))))
(xite (decide (((t1).length : Int) < (2 : Int)))
((Φ i_law08_awake []).bind fun r38 =>
((xAD r38).bind fun d39 =>
((xDB d39).bind fun b40 =>
(some (A.one (C.d (D.v (.bool b40))))))))
(xite (decide (((l16).length : Int) < (2 : Int)))
((Φ i_law08_awake []).bind fun r41 =>
((xAD r41).bind fun d42 =>
((xDB d42).bind fun b43 =>
(some (A.one (C.d (D.v (.bool b43))))))))
((xElem 1 t1 (0 : Int)).bind fun c44 =>
(xif (decide (1 ≤ (c44).length))
((xDL (List.getD c44 0 (D.s []))).bind fun l45 =>
((xElem 1 l45 (0 : Int)).bind fun c46 =>
(xif (decide (1 ≤ (c46).length))
((xDS (List.getD c46 0 (D.s []))).bind fun s47 =>
(xite (!decide ((s47 : List UInt8) = []))
((Φ i_law08_awake []).bind fun r48 =>
((xAD r48).bind fun d49 =>
((xDB d49).bind fun b50 =>
(some (A.one (C.d (D.v (.bool b50))))))))
((xElem 1 t1 (0 : Int)).bind fun c51 =>
(xif (decide (1 ≤ (c51).length))
((xDL (List.getD c51 0 (D.s []))).bind fun l52 =>
((Φ i_law08_distinct [(A.one (C.d (D.sl l52)))]).bind fun r53 =>
((xAD r53).bind fun d54 =>
((xDB d54).bind fun b55 =>
(xite (!b55)
((Φ i_law08_awake []).bind fun r56 =>
((xAD r56).bind fun d57 =>
((xDB d57).bind fun b58 =>
(some (A.one (C.d (D.v (.bool b58))))))))
((xElem 1 l16 (0 : Int)).bind fun c59 =>
(xif (decide (1 ≤ (c59).length))
((xDL (List.getD c59 0 (D.s []))).bind fun l60 =>
((Φ i_law08_distinct [(A.one (C.d (D.sl l60)))]).bind fun r61 =>
((xAD r61).bind fun d62 =>
((xDB d62).bind fun b63 =>
(xite (!b63)
((Φ i_law08_awake []).bind fun r64 =>
((xAD r64).bind fun d65 =>
((xDB d65).bind fun b66 =>
(some (A.one (C.d (D.v (.bool b66))))))))
((Φ i_tables_Unpivot [(A.one (C.d (D.sl t1))), (A.one (C.d (D.v (.int .i64 (1 : Int)))))]).bind fun r67 =>
((xtup r67 0).bind fun r68 =>
((xAD r68).bind fun d69 =>
((xDL d69).bind fun l70 =>
((xtup r67 1).bind fun r71 =>
((xAD r71).bind fun d72 =>
((xDI .i64 d72).bind fun n73 =>
(xite (!decide (n73 = (0 : Int)))
((Φ i_law08_awake []).bind fun r74 =>
((xAD r74).bind fun d75 =>
((xDB d75).bind fun b76 =>
(some (A.one (C.d (D.v (.bool b76))))))))
((Φ i_tables_Pivot [(A.one (C.d (D.sl l70)))]).bind fun r77 =>
((xtup r77 0).bind fun r78 =>
((xAD r78).bind fun d79 =>
((xDL d79).bind fun l80 =>
((xtup r77 1).bind fun r81 =>
((xAD r81).bind fun d82 =>
((xDI .i64 d82).bind fun n83 =>
(xite (decide (n83 = (0 : Int)))
((Φ i_ref08_Same [(A.one (C.d (D.sl l80))), (A.one (C.d (D.sl t1)))]).bind fun r84 =>
((xAD r84).bind fun d85 =>
((xDB d85).bind fun b86 =>
(xite b86
((Φ i_law08_awake []).bind fun r87 =>
((xAD r87).bind fun d88 =>
((xDB d88).bind fun b89 =>
(some (A.one (C.d (D.v (.bool b89))))))))
(some (A.one (C.d (D.v (.bool false)))))))))
(some (A.one (C.d (D.v (.bool false))))))))))))))))))))))))))))))))))))))))))))))))))))))))))))))))))))))))))))))))
theorem law08_TablesBack_eq (Φ : Phi) (fuel : Nat) (t1 : List (List D)) : xbody TT0 Φ fuel sp_law08_TablesBack Try.f7 [(A.one (C.d (D.sl t1)))] = law08_TablesBack Φ fuel t1 := by kernel_rfl
/-! law08_TablesJoins -/
def sp_law08_TablesJoins : List LSpec := []
def law08_TablesJoins (Φ : Phi) (fuel : Nat) (a1 : List (List D)) (b2 : List (List D)) : Option A :=
((Φ i_law08_small [(A.one (C.d (D.sl a1)))]).bind fun r3 =>
((xAD r3).bind fun d4 =>
((xDB d4).bind fun b5 =>
(xite (!b5)
((Φ i_law08_awake []).bind fun r6 =>
((xAD r6).bind fun d7 =>
((xDB d7).bind fun b8 =>
(some (A.one (C.d (D.v (.bool b8))))))))
((Φ i_law08_small [(A.one (C.d (D.sl b2)))]).bind fun r9 =>
((xAD r9).bind fun d10 =>
((xDB d10).bind fun b11 =>
(xite (!b11)
((Φ i_law08_awake []).bind fun r12 =>
((xAD r12).bind fun d13 =>
((xDB d13).bind fun b14 =>
(some (A.one (C.d (D.v (.bool b14))))))))
((Φ i_tables_Stack [(A.one (C.d (D.sl a1))), (A.one (C.d (D.sl b2)))]).bind fun r15 =>
((xtup r15 0).bind fun r16 =>
((xAD r16).bind fun d17 =>
((xDL d17).bind fun l18 =>
((xtup r15 1).bind fun r19 =>
((xAD r19).bind fun d20 =>
((xDI .i64 d20).bind fun n21 =>
((Φ i_ref08_Stack [(A.one (C.d (D.sl a1))), (A.one (C.d (D.sl b2)))]).bind fun r22 =>
((xtup r22 0).bind fun r23 =>
((xAD r23).bind fun d24 =>
((xDL d24).bind fun l25 =>
((xtup r22 1).bind fun r26 =>
((xAD r26).bind fun d27 =>
((xDI .i64 d27).bind fun n28 =>
((Φ i_tables_Beside [(A.one (C.d (D.sl a1))), (A.one (C.d (D.sl b2)))]).bind fun r29 =>
((xtup r29 0).bind fun r30 =>
((xAD r30).bind fun d31 =>
((xDL d31).bind fun l32 =>
((xtup r29 1).bind fun r33 =>
((xAD r33).bind fun d34 =>
((xDI .i64 d34).bind fun n35 =>
((Φ i_ref08_Beside [(A.one (C.d (D.sl a1))), (A.one (C.d (D.sl b2)))]).bind fun r36 =>
((xtup r36 0).bind fun r37 =>
((xAD r37).bind fun d38 =>
((xDL d38).bind fun l39 =>
((xtup r36 1).bind fun r40 =>
((xAD r40).bind fun d41 =>
((xDI .i64 d41).bind fun n42 =>
((Φ i_ref08_Same [(A.one (C.d (D.sl l18))), (A.one (C.d (D.sl l25)))]).bind fun r43 =>
((xAD r43).bind fun d44 =>
((xDB d44).bind fun b45 =>
(xite b45
((Φ i_ref08_Same [(A.one (C.d (D.sl l32))), (A.one (C.d (D.sl l39)))]).bind fun r46 =>
((xAD r46).bind fun d47 =>
((xDB d47).bind fun b48 =>
(xite b48
(xite (decide (n21 = n28))
(xite (decide (n35 = n42))
((Φ i_law08_awake []).bind fun r49 =>
((xAD r49).bind fun d50 =>
((xDB d50).bind fun b51 =>
(some (A.one (C.d (D.v (.bool b51))))))))
(some (A.one (C.d (D.v (.bool false))))))
(some (A.one (C.d (D.v (.bool false))))))
(some (A.one (C.d (D.v (.bool false)))))))))
(some (A.one (C.d (D.v (.bool false)))))))))))))))))))))))))))))))))))))))))))))
theorem law08_TablesJoins_eq (Φ : Phi) (fuel : Nat) (a1 : List (List D)) (b2 : List (List D)) : xbody TT0 Φ fuel sp_law08_TablesJoins Try.f8 [(A.one (C.d (D.sl a1))), (A.one (C.d (D.sl b2)))] = law08_TablesJoins Φ fuel a1 b2 := by kernel_rfl
/-! law08_TablesDrops -/
def sp_law08_TablesDrops : List LSpec := []
def law08_TablesDrops (Φ : Phi) (fuel : Nat) (t1 : List (List D)) (i2 : Int) : Option A :=
((Φ i_law08_small [(A.one (C.d (D.sl t1)))]).bind fun r3 =>
((xAD r3).bind fun d4 =>
((xDB d4).bind fun b5 =>
(xite (!b5)
((Φ i_law08_awake []).bind fun r6 =>
((xAD r6).bind fun d7 =>
((xDB d7).bind fun b8 =>
(some (A.one (C.d (D.v (.bool b8))))))))
((Φ i_tables_DropRow [(A.one (C.d (D.sl t1))), (A.one (C.d (D.v (.int .i64 i2))))]).bind fun r9 =>
((xtup r9 0).bind fun r10 =>
((xAD r10).bind fun d11 =>
((xDL d11).bind fun l12 =>
((xtup r9 1).bind fun r13 =>
((xAD r13).bind fun d14 =>
((xDI .i64 d14).bind fun n15 =>
((Φ i_ref08_DropRow [(A.one (C.d (D.sl t1))), (A.one (C.d (D.v (.int .i64 i2))))]).bind fun r16 =>
((xtup r16 0).bind fun r17 =>
((xAD r17).bind fun d18 =>
((xDL d18).bind fun l19 =>
((xtup r16 1).bind fun r20 =>
((xAD r20).bind fun d21 =>
((xDI .i64 d21).bind fun n22 =>
((Φ i_tables_DropColumn [(A.one (C.d (D.sl t1))), (A.one (C.d (D.v (.int .i64 i2))))]).bind fun r23 =>
((xtup r23 0).bind fun r24 =>
((xAD r24).bind fun d25 =>
((xDL d25).bind fun l26 =>
((xtup r23 1).bind fun r27 =>
((xAD r27).bind fun d28 =>
((xDI .i64 d28).bind fun n29 =>
((Φ i_ref08_DropColumn [(A.one (C.d (D.sl t1))), (A.one (C.d (D.v (.int .i64 i2))))]).bind fun r30 =>
((xtup r30 0).bind fun r31 =>
((xAD r31).bind fun d32 =>
((xDL d32).bind fun l33 =>
((xtup r30 1).bind fun r34 =>
((xAD r34).bind fun d35 =>
((xDI .i64 d35).bind fun n36 =>
((Φ i_tables_Sort [(A.one (C.d (D.sl t1))), (A.one (C.d (D.v (.int .i64 i2))))]).bind fun r37 =>
((xtup r37 0).bind fun r38 =>
((xAD r38).bind fun d39 =>
((xDL d39).bind fun l40 =>
((xtup r37 1).bind fun r41 =>
((xAD r41).bind fun d42 =>
((xDI .i64 d42).bind fun n43 =>
((Φ i_ref08_Sort [(A.one (C.d (D.sl t1))), (A.one (C.d (D.v (.int .i64 i2))))]).bind fun r44 =>
((xtup r44 0).bind fun r45 =>
((xAD r45).bind fun d46 =>
((xDL d46).bind fun l47 =>
((xtup r44 1).bind fun r48 =>
((xAD r48).bind fun d49 =>
((xDI .i64 d49).bind fun n50 =>
((Φ i_ref08_Same [(A.one (C.d (D.sl l12))), (A.one (C.d (D.sl l19)))]).bind fun r51 =>
((xAD r51).bind fun d52 =>
((xDB d52).bind fun b53 =>
(xite b53
((Φ i_ref08_Same [(A.one (C.d (D.sl l26))), (A.one (C.d (D.sl l33)))]).bind fun r54 =>
((xAD r54).bind fun d55 =>
((xDB d55).bind fun b56 =>
(xite b56
((Φ i_ref08_Same [(A.one (C.d (D.sl l40))), (A.one (C.d (D.sl l47)))]).bind fun r57 =>
((xAD r57).bind fun d58 =>
((xDB d58).bind fun b59 =>
(xite b59
(xite (decide (n15 = n22))
(xite (decide (n29 = n36))
(xite (decide (n43 = n50))
((Φ i_law08_awake []).bind fun r60 =>
((xAD r60).bind fun d61 =>
((xDB d61).bind fun b62 =>
(some (A.one (C.d (D.v (.bool b62))))))))
(some (A.one (C.d (D.v (.bool false))))))
(some (A.one (C.d (D.v (.bool false))))))
(some (A.one (C.d (D.v (.bool false))))))
(some (A.one (C.d (D.v (.bool false)))))))))
(some (A.one (C.d (D.v (.bool false)))))))))
(some (A.one (C.d (D.v (.bool false)))))))))))))))))))))))))))))))))))))))))))))))))))))))
theorem law08_TablesDrops_eq (Φ : Phi) (fuel : Nat) (t1 : List (List D)) (i2 : Int) : xbody TT0 Φ fuel sp_law08_TablesDrops Try.f9 [(A.one (C.d (D.sl t1))), (A.one (C.d (D.v (.int .i64 i2))))] = law08_TablesDrops Φ fuel t1 i2 := by kernel_rfl
/-! law08_TablesSorts -/
def sp_law08_TablesSorts : List LSpec := [{ n := 0, m := 132, toks := [], ks := [.slot 0 (.one .sl), .slot 1 (.one .sl), .slot 2 (.one (.int .i64)), .slot 7 (.one .sl), .slot 9 (.one (.int .i64))] }]
def law08_TablesSorts_l0 (Φ : Phi) (fuel : Nat) (k0 : List (List D) → List (List D) → Int → List (List D) → Int → Option A) (t26 : List (List D)) (u27 : List (List D)) (column28 : Int) (s29 : List (List D)) (i30 : Int) : Option A :=
(xite (decide (i30 < ((t26).length : Int)))
((xElem 1 t26 i30).bind fun c31 =>
(xif (decide (1 ≤ (c31).length))
((xDL (List.getD c31 0 (D.s []))).bind fun l32 =>
((Φ i_law08_count [(A.one (C.d (D.sl s29))), (A.one (C.d (D.sl l32)))]).bind fun r33 =>
((xAD r33).bind fun d34 =>
((xDI .i64 d34).bind fun n35 =>
((xElem 1 t26 i30).bind fun c36 =>
(xif (decide (1 ≤ (c36).length))
((xDL (List.getD c36 0 (D.s []))).bind fun l37 =>
((Φ i_law08_count [(A.one (C.d (D.sl t26))), (A.one (C.d (D.sl l37)))]).bind fun r38 =>
((xAD r38).bind fun d39 =>
((xDI .i64 d39).bind fun n40 =>
(xite (!decide (n35 = n40))
(some (A.one (C.d (D.v (.bool false)))))
((Φ i_tables_Cell [(A.one (C.d (D.sl s29))), (A.one (C.d (D.v (.int .i64 i30)))), (A.one (C.d (D.v (.int .i64 column28))))]).bind fun r41 =>
((xtup r41 0).bind fun r42 =>
((xAD r42).bind fun d43 =>
((xDS d43).bind fun s44 =>
((xtup r41 1).bind fun r45 =>
((xAD r45).bind fun d46 =>
((xDI .i64 d46).bind fun n47 =>
((Φ i_tables_Cell [(A.one (C.d (D.sl s29))), (A.one (C.d (D.v (.int .i64 (if (IntKind.i64.wrap (((s29).length : Int) - (1 : Int))) < (IntKind.i64.wrap (i30 + (1 : Int))) then (IntKind.i64.wrap (((s29).length : Int) - (1 : Int))) else (IntKind.i64.wrap (i30 + (1 : Int)))))))), (A.one (C.d (D.v (.int .i64 column28))))]).bind fun r48 =>
((xtup r48 0).bind fun r49 =>
((xAD r49).bind fun d50 =>
((xDS d50).bind fun s51 =>
((xtup r48 1).bind fun r52 =>
((xAD r52).bind fun d53 =>
((xDI .i64 d53).bind fun n54 =>
(xite (!decide (n47 = (0 : Int)))
(some (A.one (C.d (D.v (.bool false)))))
(xite (!decide (n54 = (0 : Int)))
(some (A.one (C.d (D.v (.bool false)))))
(xite (!(Op.bytesLess s44 s51 || decide ((s44 : List UInt8) = s51)))
(some (A.one (C.d (D.v (.bool false)))))
(k0 t26 u27 column28 s29 (IntKind.i64.wrap (i30 + (1 : Int))))))))))))))))))))))))))))))))))
((Φ i_tables_Stack [(A.one (C.d (D.sl t26))), (A.one (C.d (D.sl u27)))]).bind fun r55 =>
((xtup r55 0).bind fun r56 =>
((xAD r56).bind fun d57 =>
((xDL d57).bind fun l58 =>
((xtup r55 1).bind fun r59 =>
((xAD r59).bind fun d60 =>
((xDI .i64 d60).bind fun n61 =>
(xite (!decide (n61 = (0 : Int)))
((Φ i_law08_awake []).bind fun r62 =>
((xAD r62).bind fun d63 =>
((xDB d63).bind fun b64 =>
(some (A.one (C.d (D.v (.bool b64))))))))
(xite (decide (((t26).length : Int) = (0 : Int)))
((Φ i_law08_awake []).bind fun r65 =>
((xAD r65).bind fun d66 =>
((xDB d66).bind fun b67 =>
(some (A.one (C.d (D.v (.bool b67))))))))
(xite (decide (((u27).length : Int) = (0 : Int)))
((Φ i_law08_awake []).bind fun r68 =>
((xAD r68).bind fun d69 =>
((xDB d69).bind fun b70 =>
(some (A.one (C.d (D.v (.bool b70))))))))
((Φ i_tables_Transpose [(A.one (C.d (D.sl t26)))]).bind fun r71 =>
((xAD r71).bind fun d72 =>
((xDL d72).bind fun l73 =>
((Φ i_tables_Transpose [(A.one (C.d (D.sl u27)))]).bind fun r74 =>
((xAD r74).bind fun d75 =>
((xDL d75).bind fun l76 =>
((Φ i_tables_Beside [(A.one (C.d (D.sl l73))), (A.one (C.d (D.sl l76)))]).bind fun r77 =>
((xtup r77 0).bind fun r78 =>
((xAD r78).bind fun d79 =>
((xDL d79).bind fun l80 =>
((xtup r77 1).bind fun r81 =>
((xAD r81).bind fun d82 =>
((xDI .i64 d82).bind fun n83 =>
(xite (decide (n83 = (0 : Int)))
((Φ i_tables_Transpose [(A.one (C.d (D.sl l58)))]).bind fun r84 =>
((xAD r84).bind fun d85 =>
((xDL d85).bind fun l86 =>
((Φ i_ref08_Same [(A.one (C.d (D.sl l80))), (A.one (C.d (D.sl l86)))]).bind fun r87 =>
((xAD r87).bind fun d88 =>
((xDB d88).bind fun b89 =>
(xite b89
((Φ i_law08_awake []).bind fun r90 =>
((xAD r90).bind fun d91 =>
((xDB d91).bind fun b92 =>
(some (A.one (C.d (D.v (.bool b92))))))))
(some (A.one (C.d (D.v (.bool false))))))))))))
(some (A.one (C.d (D.v (.bool false))))))))))))))))))))))))))))))
def law08_TablesSorts (Φ : Phi) (fuel : Nat) (t1 : List (List D)) (u2 : List (List D)) (column3 : Int) : Option A :=
((Φ i_law08_small [(A.one (C.d (D.sl t1)))]).bind fun r4 =>
((xAD r4).bind fun d5 =>
((xDB d5).bind fun b6 =>
(xite (!b6)
((Φ i_law08_awake []).bind fun r7 =>
((xAD r7).bind fun d8 =>
((xDB d8).bind fun b9 =>
(some (A.one (C.d (D.v (.bool b9))))))))
((Φ i_law08_small [(A.one (C.d (D.sl u2)))]).bind fun r10 =>
((xAD r10).bind fun d11 =>
((xDB d11).bind fun b12 =>
(xite (!b12)
((Φ i_law08_awake []).bind fun r13 =>
((xAD r13).bind fun d14 =>
((xDB d14).bind fun b15 =>
(some (A.one (C.d (D.v (.bool b15))))))))
((Φ i_tables_Sort [(A.one (C.d (D.sl t1))), (A.one (C.d (D.v (.int .i64 column3))))]).bind fun r16 =>
((xtup r16 0).bind fun r17 =>
((xAD r17).bind fun d18 =>
((xDL d18).bind fun l19 =>
((xtup r16 1).bind fun r20 =>
((xAD r20).bind fun d21 =>
((xDI .i64 d21).bind fun n22 =>
(xite (decide (n22 = (0 : Int)))
(xite (!decide (((l19).length : Int) = ((t1).length : Int)))
(some (A.one (C.d (D.v (.bool false)))))
((Φ i_tables_Check [(A.one (C.d (D.sl l19)))]).bind fun r23 =>
((xAD r23).bind fun d24 =>
((xDI .i64 d24).bind fun n25 =>
(xite (!decide (n25 = (0 : Int)))
(some (A.one (C.d (D.v (.bool false)))))
(iter (fun (x : List (List D) × List (List D) × Int × List (List D) × Int × Unit) (rec : (List (List D) × List (List D) × Int × List (List D) × Int × Unit) → Option A) => law08_TablesSorts_l0 Φ fuel (fun t26 u27 column28 s29 i30 => rec (t26, u27, column28, s29, i30, ())) x.1 x.2.1 x.2.2.1 x.2.2.2.1 x.2.2.2.2.1) fuel (t1, u2, column3, l19, (0 : Int), ())))))))
((Φ i_tables_Stack [(A.one (C.d (D.sl t1))), (A.one (C.d (D.sl u2)))]).bind fun r93 =>
((xtup r93 0).bind fun r94 =>
((xAD r94).bind fun d95 =>
((xDL d95).bind fun l96 =>
((xtup r93 1).bind fun r97 =>
((xAD r97).bind fun d98 =>
((xDI .i64 d98).bind fun n99 =>
(xite (!decide (n99 = (0 : Int)))
((Φ i_law08_awake []).bind fun r100 =>
((xAD r100).bind fun d101 =>
((xDB d101).bind fun b102 =>
(some (A.one (C.d (D.v (.bool b102))))))))
(xite (decide (((t1).length : Int) = (0 : Int)))
((Φ i_law08_awake []).bind fun r103 =>
((xAD r103).bind fun d104 =>
((xDB d104).bind fun b105 =>
(some (A.one (C.d (D.v (.bool b105))))))))
(xite (decide (((u2).length : Int) = (0 : Int)))
((Φ i_law08_awake []).bind fun r106 =>
((xAD r106).bind fun d107 =>
((xDB d107).bind fun b108 =>
(some (A.one (C.d (D.v (.bool b108))))))))
((Φ i_tables_Transpose [(A.one (C.d (D.sl t1)))]).bind fun r109 =>
((xAD r109).bind fun d110 =>
((xDL d110).bind fun l111 =>
((Φ i_tables_Transpose [(A.one (C.d (D.sl u2)))]).bind fun r112 =>
((xAD r112).bind fun d113 =>
((xDL d113).bind fun l114 =>
((Φ i_tables_Beside [(A.one (C.d (D.sl l111))), (A.one (C.d (D.sl l114)))]).bind fun r115 =>
((xtup r115 0).bind fun r116 =>
((xAD r116).bind fun d117 =>
((xDL d117).bind fun l118 =>
((xtup r115 1).bind fun r119 =>
((xAD r119).bind fun d120 =>
((xDI .i64 d120).bind fun n121 =>
(xite (decide (n121 = (0 : Int)))
((Φ i_tables_Transpose [(A.one (C.d (D.sl l96)))]).bind fun r122 =>
((xAD r122).bind fun d123 =>
((xDL d123).bind fun l124 =>
((Φ i_ref08_Same [(A.one (C.d (D.sl l118))), (A.one (C.d (D.sl l124)))]).bind fun r125 =>
((xAD r125).bind fun d126 =>
((xDB d126).bind fun b127 =>
(xite b127
((Φ i_law08_awake []).bind fun r128 =>
((xAD r128).bind fun d129 =>
((xDB d129).bind fun b130 =>
(some (A.one (C.d (D.v (.bool b130))))))))
(some (A.one (C.d (D.v (.bool false))))))))))))
(some (A.one (C.d (D.v (.bool false)))))))))))))))))))))))))))))))))))))))))))))
theorem law08_TablesSorts_eq (Φ : Phi) (fuel : Nat) (t1 : List (List D)) (u2 : List (List D)) (column3 : Int) : xbody TT0 Φ fuel sp_law08_TablesSorts Try.f10 [(A.one (C.d (D.sl t1))), (A.one (C.d (D.sl u2))), (A.one (C.d (D.v (.int .i64 column3))))] = law08_TablesSorts Φ fuel t1 u2 column3 := by kernel_rfl
/-! law08_small -/
def sp_law08_small : List LSpec := [{ n := 0, m := 38, toks := [], ks := [.slot 0 (.one .sl), .slot 3 (.one (.int .i64))] }, { n := 0, m := 38, toks := [], ks := [.slot 0 (.one .sl), .slot 3 (.one (.int .i64)), .slot 4 (.one (.int .i64))] }]
def law08_small_l1 (Φ : Phi) (fuel : Nat) (k0 : List (List D) → Int → Option A) (k1 : List (List D) → Int → Int → Option A) (t6 : List (List D)) (i7 : Int) (k8 : Int) : Option A :=
((xElem 1 t6 i7).bind fun c9 =>
(xif (decide (1 ≤ (c9).length))
((xDL (List.getD c9 0 (D.s []))).bind fun l10 =>
(xite (decide (k8 < ((l10).length : Int)))
((xElem 1 t6 i7).bind fun c11 =>
(xif (decide (1 ≤ (c11).length))
((xDL (List.getD c11 0 (D.s []))).bind fun l12 =>
((xElem 1 l12 k8).bind fun c13 =>
(xif (decide (1 ≤ (c13).length))
((xDS (List.getD c13 0 (D.s []))).bind fun s14 =>
(xite (decide ((100 : Int) < ((s14).length : Int)))
(some (A.one (C.d (D.v (.bool false)))))
(k1 t6 i7 (IntKind.i64.wrap (k8 + (1 : Int)))))))))))
(k0 t6 (IntKind.i64.wrap (i7 + (1 : Int))))))))
def law08_small_l0 (Φ : Phi) (fuel : Nat) (k0 : List (List D) → Int → Option A) (t2 : List (List D)) (i3 : Int) : Option A :=
(xite (decide (i3 < ((t2).length : Int)))
((xElem 1 t2 i3).bind fun c4 =>
(xif (decide (1 ≤ (c4).length))
((xDL (List.getD c4 0 (D.s []))).bind fun l5 =>
(xite (decide ((20 : Int) < ((l5).length : Int)))
(some (A.one (C.d (D.v (.bool false)))))
(iter (fun (x : List (List D) × Int × Int × Unit) (rec : (List (List D) × Int × Int × Unit) → Option A) => law08_small_l1 Φ fuel k0 (fun t6 i7 k8 => rec (t6, i7, k8, ())) x.1 x.2.1 x.2.2.1) fuel (t2, i3, (0 : Int), ()))))))
(some (A.one (C.d (D.v (.bool true))))))
def law08_small (Φ : Phi) (fuel : Nat) (t1 : List (List D)) : Option A :=
(xite (decide ((20 : Int) < ((t1).length : Int)))
(some (A.one (C.d (D.v (.bool false)))))
(iter (fun (x : List (List D) × Int × Unit) (rec : (List (List D) × Int × Unit) → Option A) => law08_small_l0 Φ fuel (fun t2 i3 => rec (t2, i3, ())) x.1 x.2.1) fuel (t1, (0 : Int), ())))
theorem law08_small_eq (Φ : Phi) (fuel : Nat) (t1 : List (List D)) : xbody TT0 Φ fuel sp_law08_small Try.f11 [(A.one (C.d (D.sl t1)))] = law08_small Φ fuel t1 := by kernel_rfl
/-! law08_awake -/
def sp_law08_awake : List LSpec := []
def law08_awake (Φ : Phi) (fuel : Nat) : Option A :=
((Φ i_tables_Row [(A.one (C.d (D.sl ([[(D.sl ([[(D.s [97])], [(D.s [98])]] : List (List D)))], [(D.sl ([[(D.s [99])], [(D.s [100])]] : List (List D)))]] : List (List D))))), (A.one (C.d (D.v (.int .i64 (-1 : Int)))))]).bind fun r1 =>
((xtup r1 0).bind fun r2 =>
((xAD r2).bind fun d3 =>
((xDL d3).bind fun l4 =>
((xtup r1 1).bind fun r5 =>
((xAD r5).bind fun d6 =>
((xDI .i64 d6).bind fun n7 =>
((Φ i_tables_Column [(A.one (C.d (D.sl ([[(D.sl ([[(D.s [97])], [(D.s [98])]] : List (List D)))], [(D.sl ([[(D.s [99])], [(D.s [100])]] : List (List D)))]] : List (List D))))), (A.one (C.d (D.v (.int .i64 (0 : Int)))))]).bind fun r8 =>
((xtup r8 0).bind fun r9 =>
((xAD r9).bind fun d10 =>
((xDL d10).bind fun l11 =>
((xtup r8 1).bind fun r12 =>
((xAD r12).bind fun d13 =>
((xDI .i64 d13).bind fun n14 =>
((Φ i_tables_Unpivot [(A.one (C.d (D.sl ([[(D.sl ([[(D.s [])], [(D.s [120])], [(D.s [121])]] : List (List D)))], [(D.sl ([[(D.s [107])], [(D.s [49])], [(D.s [50])]] : List (List D)))]] : List (List D))))), (A.one (C.d (D.v (.int .i64 (1 : Int)))))]).bind fun r15 =>
((xtup r15 0).bind fun r16 =>
((xAD r16).bind fun d17 =>
((xDL d17).bind fun l18 =>
((xtup r15 1).bind fun r19 =>
((xAD r19).bind fun d20 =>
((xDI .i64 d20).bind fun n21 =>
((Φ i_tables_Pivot [(A.one (C.d (D.sl l18)))]).bind fun r22 =>
((xtup r22 0).bind fun r23 =>
((xAD r23).bind fun d24 =>
((xDL d24).bind fun l25 =>
((xtup r22 1).bind fun r26 =>
((xAD r26).bind fun d27 =>
((xDI .i64 d27).bind fun n28 =>
((Φ i_tables_Split [(A.one (C.d (D.sl ([[(D.sl ([[(D.s [97, 45, 98, 45, 99])]] : List (List D)))]] : List (List D))))), (A.one (C.d (D.v (.int .i64 (0 : Int))))), (A.one (C.d (D.s [45])))]).bind fun r29 =>
((xtup r29 0).bind fun r30 =>
((xAD r30).bind fun d31 =>
((xDL d31).bind fun l32 =>
((xtup r29 1).bind fun r33 =>
((xAD r33).bind fun d34 =>
((xDI .i64 d34).bind fun n35 =>
(xite (!decide (n7 = (0 : Int)))
(some (A.one (C.d (D.v (.bool false)))))
(xite (!decide (n14 = (0 : Int)))
(some (A.one (C.d (D.v (.bool false)))))
(xite (!decide (n21 = (0 : Int)))
(some (A.one (C.d (D.v (.bool false)))))
(xite (!decide (n28 = (0 : Int)))
(some (A.one (C.d (D.v (.bool false)))))
(xite (!decide (n35 = (0 : Int)))
(some (A.one (C.d (D.v (.bool false)))))
((Φ i_tables_Check [(A.one (C.d (D.sl ([[(D.sl ([[(D.s [97])], [(D.s [98])]] : List (List D)))], [(D.sl ([[(D.s [99])], [(D.s [100])]] : List (List D)))]] : List (List D)))))]).bind fun r36 =>
((xAD r36).bind fun d37 =>
((xDI .i64 d37).bind fun n38 =>
(xite (!decide (n38 = (0 : Int)))
(some (A.one (C.d (D.v (.bool false)))))
((Φ i_tables_Transpose [(A.one (C.d (D.sl ([[(D.sl ([[(D.s [97])], [(D.s [98])]] : List (List D)))], [(D.sl ([[(D.s [99])], [(D.s [100])]] : List (List D)))]] : List (List D)))))]).bind fun r39 =>
((xAD r39).bind fun d40 =>
((xDL d40).bind fun l41 =>
((Φ i_ref08_Same [(A.one (C.d (D.sl l41))), (A.one (C.d (D.sl ([[(D.sl ([[(D.s [97])], [(D.s [99])]] : List (List D)))], [(D.sl ([[(D.s [98])], [(D.s [100])]] : List (List D)))]] : List (List D)))))]).bind fun r42 =>
((xAD r42).bind fun d43 =>
((xDB d43).bind fun b44 =>
(xite b44
((Φ i_ref08_Texts [(A.one (C.d (D.sl l4))), (A.one (C.d (D.sl ([[(D.s [99])], [(D.s [100])]] : List (List D)))))]).bind fun r45 =>
((xAD r45).bind fun d46 =>
((xDB d46).bind fun b47 =>
(xite b47
((Φ i_ref08_Texts [(A.one (C.d (D.sl l11))), (A.one (C.d (D.sl ([[(D.s [97])], [(D.s [99])]] : List (List D)))))]).bind fun r48 =>
((xAD r48).bind fun d49 =>
((xDB d49).bind fun b50 =>
(xite b50
((Φ i_ref08_Same [(A.one (C.d (D.sl l18))), (A.one (C.d (D.sl ([[(D.sl ([[(D.s [107])], [(D.s [120])], [(D.s [49])]] : List (List D)))], [(D.sl ([[(D.s [107])], [(D.s [121])], [(D.s [50])]] : List (List D)))]] : List (List D)))))]).bind fun r51 =>
((xAD r51).bind fun d52 =>
((xDB d52).bind fun b53 =>
(xite b53
((Φ i_ref08_Same [(A.one (C.d (D.sl l25))), (A.one (C.d (D.sl ([[(D.sl ([[(D.s [])], [(D.s [120])], [(D.s [121])]] : List (List D)))], [(D.sl ([[(D.s [107])], [(D.s [49])], [(D.s [50])]] : List (List D)))]] : List (List D)))))]).bind fun r54 =>
((xAD r54).bind fun d55 =>
((xDB d55).bind fun b56 =>
(xite b56
((Φ i_ref08_Same [(A.one (C.d (D.sl l32))), (A.one (C.d (D.sl ([[(D.sl ([[(D.s [97])], [(D.s [98, 45, 99])]] : List (List D)))]] : List (List D)))))]).bind fun r57 =>
((xAD r57).bind fun d58 =>
((xDB d58).bind fun b59 =>
(some (A.one (C.d (D.v (.bool b59))))))))
(some (A.one (C.d (D.v (.bool false)))))))))
(some (A.one (C.d (D.v (.bool false)))))))))
(some (A.one (C.d (D.v (.bool false)))))))))
(some (A.one (C.d (D.v (.bool false)))))))))
(some (A.one (C.d (D.v (.bool false))))))))))))))))))))))))))))))))))))))))))))))))))))))))
theorem law08_awake_eq (Φ : Phi) (fuel : Nat) : xbody TT0 Φ fuel sp_law08_awake Try.f12 [] = law08_awake Φ fuel := by kernel_rfl
/-! tables_Unpivot -/
def sp_tables_Unpivot : List LSpec := [{ n := 0, m := 76, toks := [], ks := [.hp, .slot 0 (.one .sl), .slot 1 (.one (.int .i64)), .slot 7 (.one (.int .i64)), .slot 8 (.one .rc), .slot 43 (.one .rc), .slot 44 (.one (.int .i64)), .slot 45 (.one (.int .i64))] }, { n := 0, m := 76, toks := [], ks := [.hp, .slot 0 (.one .sl), .slot 1 (.one (.int .i64)), .slot 7 (.one (.int .i64)), .slot 8 (.one .rc), .slot 10 (.one .rc), .slot 11 (.one (.int .i64)), .slot 43 (.one .rc), .slot 44 (.one (.int .i64)), .slot 45 (.one (.int .i64))] }]
noncomputable def tables_Unpivot_l1 (Φ : Phi) (Ψ : Psi) (fuel : Nat) (k0 : Hp → List (List D) → Int → Int → C → C → Int → Int → Option (A × Hp)) (k1 : Hp → List (List D) → Int → Int → C → C → Int → C → Int → Int → Option (A × Hp)) (H29 : Hp) (t30 : List (List D)) (keep31 : Int) (n32 : Int) (out33 : C) (row34 : C) (k35 : Int) (c36 : C) (i37 : Int) (i38 : Int) : Option (A × Hp) :=
(xite (decide (k35 < n32))
((hLen row34).bind fun n39 =>
((hSub row34 (0 : Int) keep31).bind fun c40 =>
((hAddr (C.d (D.sl t30)) (0 : Int)).bind fun p41 =>
((hLoad [] p41).bind fun c42 =>
((hAddr c42 k35).bind fun p43 =>
((hLoad [] p43).bind fun c44 =>
((xS (A.one c44)).bind fun s45 =>
((hAddr row34 k35).bind fun p46 =>
((hLoad [] p46).bind fun c47 =>
((xS (A.one c47)).bind fun s48 =>
(xif (C.hok c40)
((Ψ i_slices_Clone_string_string [(A.one c40)] H29).bind fun q49 =>
((xone q49.1).bind fun c50 =>
((hLen c50).bind fun n51 =>
((hCells q49.2 (C.full ([[(D.s s45)], [(D.s s48)]] : List (List D)))).bind fun ys52 =>
(xif (decide ((n51 + ys52.length) * 16 ≤ 140737488355328))
((hApp q49.2 c50 ys52).bind fun q53 =>
((oneCs [(A.one q53.1)]).bind fun cs54 =>
((hPush q53.2 ⟨cs54, true⟩).bind fun H55 =>
((hLen out33).bind fun n56 =>
((hCells H55 (C.hs q53.2.length 0 1)).bind fun ys57 =>
(xif (decide ((n56 + ys57.length) * 24 ≤ 140737488355328))
((hApp H55 out33 ys57).bind fun q58 =>
(xif (C.hok q58.1)
(xif (C.hok row34)
(xif (C.hok c36)
(k1 q58.2 t30 keep31 n32 q58.1 row34 (IntKind.i64.wrap (k35 + (1 : Int))) c36 i37 i38)))))))))))))))))))))))))))
(xif (C.hok out33)
(xif (C.hok c36)
(k0 H29 t30 keep31 n32 out33 c36 i37 (IntKind.i64.wrap (i38 + (1 : Int)))))))
noncomputable def tables_Unpivot_l0 (Φ : Phi) (Ψ : Psi) (fuel : Nat) (k0 : Hp → List (List D) → Int → Int → C → C → Int → Int → Option (A × Hp)) (H19 : Hp) (t20 : List (List D)) (keep21 : Int) (n22 : Int) (out23 : C) (c24 : C) (i25 : Int) (i26 : Int) : Option (A × Hp) :=
(xite (decide (i26 < i25))
((hAddr c24 i26).bind fun p27 =>
((hLoad H19 p27).bind fun c28 =>
(xif (C.hok out23)
(xif (C.hok c28)
(xif (C.hok c24)
(iter (fun (x : Hp × List (List D) × Int × Int × C × C × Int × C × Int × Int × Unit) (rec : (Hp × List (List D) × Int × Int × C × C × Int × C × Int × Int × Unit) → Option (A × Hp)) => tables_Unpivot_l1 Φ Ψ fuel k0 (fun H29 t30 keep31 n32 out33 row34 k35 c36 i37 i38 => rec (H29, t30, keep31, n32, out33, row34, k35, c36, i37, i38, ())) x.1 x.2.1 x.2.2.1 x.2.2.2.1 x.2.2.2.2.1 x.2.2.2.2.2.1 x.2.2.2.2.2.2.1 x.2.2.2.2.2.2.2.1 x.2.2.2.2.2.2.2.2.1 x.2.2.2.2.2.2.2.2.2.1) fuel (H19, t20, keep21, n22, out23, c28, keep21, c24, i25, i26, ())))))))
(xif (xokR (A.tup [(A.one out23), (A.one (C.d (D.v (.int .i64 (0 : Int)))))]))
(some ((A.tup [(A.one out23), (A.one (C.d (D.v (.int .i64 (0 : Int)))))]), H19))))
noncomputable def tables_Unpivot (Φ : Phi) (Ψ : Psi) (fuel : Nat) (t1 : List (List D)) (keep2 : Int) (H : Hp) : Option (A × Hp) :=
((Φ i_tables_Check [(A.one (C.d (D.sl t1)))]).bind fun r3 =>
((xAD r3).bind fun d4 =>
((xDI .i64 d4).bind fun n5 =>
(xite (!decide (n5 = (0 : Int)))
(xif (xokR (A.tup [(A.one (C.full [])), (A.one (C.d (D.v (.int .i64 n5))))]))
(some ((A.tup [(A.one (C.full [])), (A.one (C.d (D.v (.int .i64 n5))))]), H)))
(xite (decide ((((t1 : List (List D)).length : Nat) : Int) = (0 : Int)))
(xif (xokR (A.tup [(A.one (C.full [])), (A.one (C.d (D.v (.int .i64 (7 : Int)))))]))
(some ((A.tup [(A.one (C.full [])), (A.one (C.d (D.v (.int .i64 (7 : Int)))))]), H)))
((Φ i_tables_columns [(A.one (C.d (D.sl t1)))]).bind fun r6 =>
((xAD r6).bind fun d7 =>
((xDI .i64 d7).bind fun n8 =>
(xite (decide (keep2 < (0 : Int)))
(xif (xokR (A.tup [(A.one (C.full [])), (A.one (C.d (D.v (.int .i64 (1 : Int)))))]))
(some ((A.tup [(A.one (C.full [])), (A.one (C.d (D.v (.int .i64 (1 : Int)))))]), H)))
(xite (decide (n8 ≤ keep2))
(xif (xokR (A.tup [(A.one (C.full [])), (A.one (C.d (D.v (.int .i64 (1 : Int)))))]))
(some ((A.tup [(A.one (C.full [])), (A.one (C.d (D.v (.int .i64 (1 : Int)))))]), H)))
(xite (decide ((8 : Int) < (IntKind.i64.wrap (keep2 + (2 : Int)))))
(xif (xokR (A.tup [(A.one (C.full [])), (A.one (C.d (D.v (.int .i64 (2 : Int)))))]))
(some ((A.tup [(A.one (C.full [])), (A.one (C.d (D.v (.int .i64 (2 : Int)))))]), H)))
(xite (decide ((8 : Int) < (IntKind.i64.wrap ((IntKind.i64.wrap ((((t1 : List (List D)).length : Nat) : Int) - (1 : Int))) * (IntKind.i64.wrap (n8 - keep2))))))
(xif (xokR (A.tup [(A.one (C.full [])), (A.one (C.d (D.v (.int .i64 (2 : Int)))))]))
(some ((A.tup [(A.one (C.full [])), (A.one (C.d (D.v (.int .i64 (2 : Int)))))]), H)))
((hSub (C.d (D.sl t1)) (1 : Int) (((t1 : List (List D)).length : Nat) : Int)).bind fun c9 =>
((hLen c9).bind fun n10 =>
(xif (C.hok c9)
(iter (fun (x : Hp × List (List D) × Int × Int × C × C × Int × Int × Unit) (rec : (Hp × List (List D) × Int × Int × C × C × Int × Int × Unit) → Option (A × Hp)) => tables_Unpivot_l0 Φ Ψ fuel (fun H19 t20 keep21 n22 out23 c24 i25 i26 => rec (H19, t20, keep21, n22, out23, c24, i25, i26, ())) x.1 x.2.1 x.2.2.1 x.2.2.2.1 x.2.2.2.2.1 x.2.2.2.2.2.1 x.2.2.2.2.2.2.1 x.2.2.2.2.2.2.2.1) fuel (H, t1, keep2, n8, (C.full []), c9, ((n10 : Nat) : Int), (0 : Int), ())))))))))))))))))
theorem tables_Unpivot_eq (Φ : Phi) (Ψ : Psi) (fuel : Nat) (t1 : List (List D)) (keep2 : Int) (H : Hp) : xbodyH TT0 Φ Ψ sel_tables_Unpivot fuel sp_tables_Unpivot Try.f13 [(A.one (C.d (D.sl t1))), (A.one (C.d (D.v (.int .i64 keep2))))] H = tables_Unpivot Φ Ψ fuel t1 keep2 H := by kernel_rfl
end Go.Av
