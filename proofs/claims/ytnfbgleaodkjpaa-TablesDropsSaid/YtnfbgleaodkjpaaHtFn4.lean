/-
  What each function gives when run. Printed by a program of mine (gen.py).
-/
import Derived.Test.YtnfbgleaodkjpaaHtTy
set_option linter.all false
set_option linter.unusedVariables false
set_option maxRecDepth 100000
namespace Go.Av
open Go.Proofs
/-! law08_TablesPivots -/
def sp_law08_TablesPivots : List LSpec := []
def law08_TablesPivots (Φ : Phi) (fuel : Nat) (t1 : List (List D)) (keep2 : Int) : Option A :=
((Φ i_law08_small [(A.one (C.d (D.sl t1)))]).bind fun r3 =>
((xAD r3).bind fun d4 =>
((xDB d4).bind fun b5 =>
(xite (!b5)
((Φ i_law08_awake []).bind fun r6 =>
((xAD r6).bind fun d7 =>
((xDB d7).bind fun b8 =>
(some (A.one (C.d (D.v (.bool b8))))))))
((Φ i_tables_Unpivot [(A.one (C.d (D.sl t1))), (A.one (C.d (D.v (.int .i64 keep2))))]).bind fun r9 =>
((xtup r9 0).bind fun r10 =>
((xAD r10).bind fun d11 =>
((xDL d11).bind fun l12 =>
((xtup r9 1).bind fun r13 =>
((xAD r13).bind fun d14 =>
((xDI .i64 d14).bind fun n15 =>
((Φ i_ref08_Unpivot [(A.one (C.d (D.sl t1))), (A.one (C.d (D.v (.int .i64 keep2))))]).bind fun r16 =>
((xtup r16 0).bind fun r17 =>
((xAD r17).bind fun d18 =>
((xDL d18).bind fun l19 =>
((xtup r16 1).bind fun r20 =>
((xAD r20).bind fun d21 =>
((xDI .i64 d21).bind fun n22 =>
((Φ i_tables_Pivot [(A.one (C.d (D.sl t1)))]).bind fun r23 =>
((xtup r23 0).bind fun r24 =>
((xAD r24).bind fun d25 =>
((xDL d25).bind fun l26 =>
((xtup r23 1).bind fun r27 =>
((xAD r27).bind fun d28 =>
((xDI .i64 d28).bind fun n29 =>
((Φ i_ref08_Pivot [(A.one (C.d (D.sl t1)))]).bind fun r30 =>
((xtup r30 0).bind fun r31 =>
((xAD r31).bind fun d32 =>
((xDL d32).bind fun l33 =>
((xtup r30 1).bind fun r34 =>
((xAD r34).bind fun d35 =>
((xDI .i64 d35).bind fun n36 =>
((Φ i_ref08_Same [(A.one (C.d (D.sl l12))), (A.one (C.d (D.sl l19)))]).bind fun r37 =>
((xAD r37).bind fun d38 =>
((xDB d38).bind fun b39 =>
(xite b39
((Φ i_ref08_Same [(A.one (C.d (D.sl l26))), (A.one (C.d (D.sl l33)))]).bind fun r40 =>
((xAD r40).bind fun d41 =>
((xDB d41).bind fun b42 =>
(xite b42
(xite (decide (n15 = n22))
(xite (decide (n29 = n36))
((Φ i_law08_awake []).bind fun r43 =>
((xAD r43).bind fun d44 =>
((xDB d44).bind fun b45 =>
(some (A.one (C.d (D.v (.bool b45))))))))
(some (A.one (C.d (D.v (.bool false))))))
(some (A.one (C.d (D.v (.bool false))))))
(some (A.one (C.d (D.v (.bool false)))))))))
(some (A.one (C.d (D.v (.bool false)))))))))))))))))))))))))))))))))))))))))
theorem law08_TablesPivots_eq (Φ : Phi) (fuel : Nat) (t1 : List (List D)) (keep2 : Int) : xbody TT0 Φ fuel sp_law08_TablesPivots Try.f3 [(A.one (C.d (D.sl t1))), (A.one (C.d (D.v (.int .i64 keep2))))] = law08_TablesPivots Φ fuel t1 keep2 := by kernel_rfl
/-! law08_TablesSplits -/
def sp_law08_TablesSplits : List LSpec := []
def law08_TablesSplits (Φ : Phi) (fuel : Nat) (t1 : List (List D)) (column2 : Int) (by3 : List UInt8) : Option A :=
((Φ i_law08_small [(A.one (C.d (D.sl t1)))]).bind fun r4 =>
((xAD r4).bind fun d5 =>
((xDB d5).bind fun b6 =>
(xite (!b6)
((Φ i_law08_awake []).bind fun r7 =>
((xAD r7).bind fun d8 =>
((xDB d8).bind fun b9 =>
(some (A.one (C.d (D.v (.bool b9))))))))
(xite (decide ((100 : Int) < ((by3).length : Int)))
((Φ i_law08_awake []).bind fun r10 =>
((xAD r10).bind fun d11 =>
((xDB d11).bind fun b12 =>
(some (A.one (C.d (D.v (.bool b12))))))))
((Φ i_tables_Split [(A.one (C.d (D.sl t1))), (A.one (C.d (D.v (.int .i64 column2)))), (A.one (C.d (D.s by3)))]).bind fun r13 =>
((xtup r13 0).bind fun r14 =>
((xAD r14).bind fun d15 =>
((xDL d15).bind fun l16 =>
((xtup r13 1).bind fun r17 =>
((xAD r17).bind fun d18 =>
((xDI .i64 d18).bind fun n19 =>
((Φ i_ref08_Split [(A.one (C.d (D.sl t1))), (A.one (C.d (D.v (.int .i64 column2)))), (A.one (C.d (D.s by3)))]).bind fun r20 =>
((xtup r20 0).bind fun r21 =>
((xAD r21).bind fun d22 =>
((xDL d22).bind fun l23 =>
((xtup r20 1).bind fun r24 =>
((xAD r24).bind fun d25 =>
((xDI .i64 d25).bind fun n26 =>
((Φ i_ref08_Same [(A.one (C.d (D.sl l16))), (A.one (C.d (D.sl l23)))]).bind fun r27 =>
((xAD r27).bind fun d28 =>
((xDB d28).bind fun b29 =>
(xite b29
(xite (decide (n19 = n26))
((Φ i_law08_awake []).bind fun r30 =>
((xAD r30).bind fun d31 =>
((xDB d31).bind fun b32 =>
(some (A.one (C.d (D.v (.bool b32))))))))
(some (A.one (C.d (D.v (.bool false))))))
(some (A.one (C.d (D.v (.bool false))))))))))))))))))))))))))))
theorem law08_TablesSplits_eq (Φ : Phi) (fuel : Nat) (t1 : List (List D)) (column2 : Int) (by3 : List UInt8) : xbody TT0 Φ fuel sp_law08_TablesSplits Try.f4 [(A.one (C.d (D.sl t1))), (A.one (C.d (D.v (.int .i64 column2)))), (A.one (C.d (D.s by3)))] = law08_TablesSplits Φ fuel t1 column2 by3 := by kernel_rfl
/-! law08_TablesParts -/
def sp_law08_TablesParts : List LSpec := []
def law08_TablesParts (Φ : Phi) (fuel : Nat) (t1 : List (List D)) (i2 : Int) (k3 : Int) : Option A :=
((Φ i_law08_small [(A.one (C.d (D.sl t1)))]).bind fun r4 =>
((xAD r4).bind fun d5 =>
((xDB d5).bind fun b6 =>
(xite (!b6)
((Φ i_law08_awake []).bind fun r7 =>
((xAD r7).bind fun d8 =>
((xDB d8).bind fun b9 =>
(some (A.one (C.d (D.v (.bool b9))))))))
((Φ i_tables_Row [(A.one (C.d (D.sl t1))), (A.one (C.d (D.v (.int .i64 i2))))]).bind fun r10 =>
((xtup r10 0).bind fun r11 =>
((xAD r11).bind fun d12 =>
((xDL d12).bind fun l13 =>
((xtup r10 1).bind fun r14 =>
((xAD r14).bind fun d15 =>
((xDI .i64 d15).bind fun n16 =>
((Φ i_ref08_Row [(A.one (C.d (D.sl t1))), (A.one (C.d (D.v (.int .i64 i2))))]).bind fun r17 =>
((xtup r17 0).bind fun r18 =>
((xAD r18).bind fun d19 =>
((xDL d19).bind fun l20 =>
((xtup r17 1).bind fun r21 =>
((xAD r21).bind fun d22 =>
((xDI .i64 d22).bind fun n23 =>
((Φ i_tables_Column [(A.one (C.d (D.sl t1))), (A.one (C.d (D.v (.int .i64 k3))))]).bind fun r24 =>
((xtup r24 0).bind fun r25 =>
((xAD r25).bind fun d26 =>
((xDL d26).bind fun l27 =>
((xtup r24 1).bind fun r28 =>
((xAD r28).bind fun d29 =>
((xDI .i64 d29).bind fun n30 =>
((Φ i_ref08_Column [(A.one (C.d (D.sl t1))), (A.one (C.d (D.v (.int .i64 k3))))]).bind fun r31 =>
((xtup r31 0).bind fun r32 =>
((xAD r32).bind fun d33 =>
((xDL d33).bind fun l34 =>
((xtup r31 1).bind fun r35 =>
((xAD r35).bind fun d36 =>
((xDI .i64 d36).bind fun n37 =>
((Φ i_tables_Cell [(A.one (C.d (D.sl t1))), (A.one (C.d (D.v (.int .i64 i2)))), (A.one (C.d (D.v (.int .i64 k3))))]).bind fun r38 =>
((xtup r38 0).bind fun r39 =>
((xAD r39).bind fun d40 =>
((xDS d40).bind fun s41 =>
((xtup r38 1).bind fun r42 =>
((xAD r42).bind fun d43 =>
((xDI .i64 d43).bind fun n44 =>
((Φ i_ref08_Cell [(A.one (C.d (D.sl t1))), (A.one (C.d (D.v (.int .i64 i2)))), (A.one (C.d (D.v (.int .i64 k3))))]).bind fun r45 =>
((xtup r45 0).bind fun r46 =>
((xAD r46).bind fun d47 =>
((xDS d47).bind fun s48 =>
((xtup r45 1).bind fun r49 =>
((xAD r49).bind fun d50 =>
((xDI .i64 d50).bind fun n51 =>
((Φ i_ref08_Texts [(A.one (C.d (D.sl l13))), (A.one (C.d (D.sl l20)))]).bind fun r52 =>
((xAD r52).bind fun d53 =>
((xDB d53).bind fun b54 =>
(xite b54
((Φ i_ref08_Texts [(A.one (C.d (D.sl l27))), (A.one (C.d (D.sl l34)))]).bind fun r55 =>
((xAD r55).bind fun d56 =>
((xDB d56).bind fun b57 =>
(xite b57
(xite (decide ((s41 : List UInt8) = s48))
(xite (decide (n16 = n23))
(xite (decide (n30 = n37))
(xite (decide (n44 = n51))
((Φ i_law08_awake []).bind fun r58 =>
((xAD r58).bind fun d59 =>
((xDB d59).bind fun b60 =>
(some (A.one (C.d (D.v (.bool b60))))))))
(some (A.one (C.d (D.v (.bool false))))))
(some (A.one (C.d (D.v (.bool false))))))
(some (A.one (C.d (D.v (.bool false))))))
(some (A.one (C.d (D.v (.bool false))))))
(some (A.one (C.d (D.v (.bool false)))))))))
(some (A.one (C.d (D.v (.bool false)))))))))))))))))))))))))))))))))))))))))))))))))))))))
theorem law08_TablesParts_eq (Φ : Phi) (fuel : Nat) (t1 : List (List D)) (i2 : Int) (k3 : Int) : xbody TT0 Φ fuel sp_law08_TablesParts Try.f5 [(A.one (C.d (D.sl t1))), (A.one (C.d (D.v (.int .i64 i2)))), (A.one (C.d (D.v (.int .i64 k3))))] = law08_TablesParts Φ fuel t1 i2 k3 := by kernel_rfl
/-! law08_TablesChecks -/
def sp_law08_TablesChecks : List LSpec := []
def law08_TablesChecks (Φ : Phi) (fuel : Nat) (t1 : List (List D)) : Option A :=
((Φ i_law08_small [(A.one (C.d (D.sl t1)))]).bind fun r2 =>
((xAD r2).bind fun d3 =>
((xDB d3).bind fun b4 =>
(xite (!b4)
((Φ i_law08_awake []).bind fun r5 =>
((xAD r5).bind fun d6 =>
((xDB d6).bind fun b7 =>
(some (A.one (C.d (D.v (.bool b7))))))))
((Φ i_tables_Check [(A.one (C.d (D.sl t1)))]).bind fun r8 =>
((xAD r8).bind fun d9 =>
((xDI .i64 d9).bind fun n10 =>
((Φ i_ref08_Check [(A.one (C.d (D.sl t1)))]).bind fun r11 =>
((xAD r11).bind fun d12 =>
((xDI .i64 d12).bind fun n13 =>
(xite (decide (n10 = n13))
((Φ i_tables_Transpose [(A.one (C.d (D.sl t1)))]).bind fun r14 =>
((xAD r14).bind fun d15 =>
((xDL d15).bind fun l16 =>
((Φ i_ref08_Transpose [(A.one (C.d (D.sl t1)))]).bind fun r17 =>
((xAD r17).bind fun d18 =>
((xDL d18).bind fun l19 =>
((Φ i_ref08_Same [(A.one (C.d (D.sl l16))), (A.one (C.d (D.sl l19)))]).bind fun r20 =>
((xAD r20).bind fun d21 =>
((xDB d21).bind fun b22 =>
(xite b22
((Φ i_tables_Fill [(A.one (C.d (D.sl t1)))]).bind fun r23 =>
((xAD r23).bind fun d24 =>
((xDL d24).bind fun l25 =>
((Φ i_ref08_Fill [(A.one (C.d (D.sl t1)))]).bind fun r26 =>
((xAD r26).bind fun d27 =>
((xDL d27).bind fun l28 =>
((Φ i_ref08_Same [(A.one (C.d (D.sl l25))), (A.one (C.d (D.sl l28)))]).bind fun r29 =>
((xAD r29).bind fun d30 =>
((xDB d30).bind fun b31 =>
(xite b31
((Φ i_law08_awake []).bind fun r32 =>
((xAD r32).bind fun d33 =>
((xDB d33).bind fun b34 =>
(some (A.one (C.d (D.v (.bool b34))))))))
(some (A.one (C.d (D.v (.bool false)))))))))))))))
(some (A.one (C.d (D.v (.bool false)))))))))))))))
(some (A.one (C.d (D.v (.bool false))))))))))))))))
theorem law08_TablesChecks_eq (Φ : Phi) (fuel : Nat) (t1 : List (List D)) : xbody TT0 Φ fuel sp_law08_TablesChecks Try.f6 [(A.one (C.d (D.sl t1)))] = law08_TablesChecks Φ fuel t1 := by kernel_rfl
/-! law08_TablesBack -/
def sp_law08_TablesBack : List LSpec := []
def law08_TablesBack (Φ : Phi) (fuel : Nat) (t1 : List (List D)) : Option A :=
((Φ i_law08_small [(A.one (C.d (D.sl t1)))]).bind fun r2 =>
((xAD r2).bind fun d3 =>
((xDB d3).bind fun b4 =>
(xite (!b4)
((Φ i_law08_awake []).bind fun r5 =>
((xAD r5).bind fun d6 =>
((xDB d6).bind fun b7 =>
(some (A.one (C.d (D.v (.bool b7))))))))
((Φ i_tables_Check [(A.one (C.d (D.sl t1)))]).bind fun r8 =>
((xAD r8).bind fun d9 =>
((xDI .i64 d9).bind fun n10 =>
(xite (!decide (n10 = (0 : Int)))
((Φ i_law08_awake []).bind fun r11 =>
((xAD r11).bind fun d12 =>
((xDB d12).bind fun b13 =>
(some (A.one (C.d (D.v (.bool b13))))))))
((Φ i_tables_Transpose [(A.one (C.d (D.sl t1)))]).bind fun r14 =>
((xAD r14).bind fun d15 =>
((xDL d15).bind fun l16 =>
((Φ i_tables_Transpose [(A.one (C.d (D.sl l16)))]).bind fun r17 =>
((xAD r17).bind fun d18 =>
((xDL d18).bind fun l19 =>
((Φ i_ref08_Same [(A.one (C.d (D.sl l19))), (A.one (C.d (D.sl t1)))]).bind fun r20 =>
((xAD r20).bind fun d21 =>
((xDB d21).bind fun b22 =>
(xite (!b22)
(some (A.one (C.d (D.v (.bool false)))))
((Φ i_tables_Check [(A.one (C.d (D.sl l16)))]).bind fun r23 =>
((xAD r23).bind fun d24 =>
((xDI .i64 d24).bind fun n25 =>
(xite (!decide (n25 = (0 : Int)))
(some (A.one (C.d (D.v (.bool false)))))
((Φ i_tables_Fill [(A.one (C.d (D.sl t1)))]).bind fun r26 =>
((xAD r26).bind fun d27 =>
((xDL d27).bind fun l28 =>
((Φ i_tables_Fill [(A.one (C.d (D.sl l28)))]).bind fun r29 =>
((xAD r29).bind fun d30 =>
((xDL d30).bind fun l31 =>
((Φ i_ref08_Same [(A.one (C.d (D.sl l31))), (A.one (C.d (D.sl l28)))]).bind fun r32 =>
((xAD r32).bind fun d33 =>
((xDB d33).bind fun b34 =>
(xite (!b34)
(some (A.one (C.d (D.v (.bool false)))))
((Φ i_tables_Check [(A.one (C.d (D.sl l28)))]).bind fun r35 =>
((xAD r35).bind fun d36 =>
((xDI .i64 d36).bind fun n37 =>
(xite (!decide (n37 = (0 : Int)))
(some (A.one (C.d (D.v (.bool false)))))
(xite (decide (((t1).length : Int) < (2 : Int)))
((Φ i_law08_awake []).bind fun r38 =>
((xAD r38).bind fun d39 =>
((xDB d39).bind fun b40 =>
(some (A.one (C.d (D.v (.bool b40))))))))
(xite (decide (((l16).length : Int) < (2 : Int)))
((Φ i_law08_awake []).bind fun r41 =>
((xAD r41).bind fun d42 =>
((xDB d42).bind fun b43 =>
(some (A.one (C.d (D.v (.bool b43))))))))
((xElem 1 t1 (0 : Int)).bind fun c44 =>
(xif (decide (1 ≤ (c44).length))
((xDL (List.getD c44 0 (D.s []))).bind fun l45 =>
((xElem 1 l45 (0 : Int)).bind fun c46 =>
(xif (decide (1 ≤ (c46).length))
((xDS (List.getD c46 0 (D.s []))).bind fun s47 =>
(xite (!decide ((s47 : List UInt8) = []))
((Φ i_law08_awake []).bind fun r48 =>
((xAD r48).bind fun d49 =>
((xDB d49).bind fun b50 =>
(some (A.one (C.d (D.v (.bool b50))))))))
((xElem 1 t1 (0 : Int)).bind fun c51 =>
(xif (decide (1 ≤ (c51).length))
((xDL (List.getD c51 0 (D.s []))).bind fun l52 =>
((Φ i_law08_distinct [(A.one (C.d (D.sl l52)))]).bind fun r53 =>
((xAD r53).bind fun d54 =>
((xDB d54).bind fun b55 =>
(xite (!b55)
((Φ i_law08_awake []).bind fun r56 =>
((xAD r56).bind fun d57 =>
((xDB d57).bind fun b58 =>
(some (A.one (C.d (D.v (.bool b58))))))))
((xElem 1 l16 (0 : Int)).bind fun c59 =>
(xif (decide (1 ≤ (c59).length))
((xDL (List.getD c59 0 (D.s []))).bind fun l60 =>
((Φ i_law08_distinct [(A.one (C.d (D.sl l60)))]).bind fun r61 =>
((xAD r61).bind fun d62 =>
((xDB d62).bind fun b63 =>
(xite (!b63)
((Φ i_law08_awake []).bind fun r64 =>
((xAD r64).bind fun d65 =>
((xDB d65).bind fun b66 =>
(some (A.one (C.d (D.v (.bool b66))))))))
((Φ i_tables_Unpivot [(A.one (C.d (D.sl t1))), (A.one (C.d (D.v (.int .i64 (1 : Int)))))]).bind fun r67 =>
((xtup r67 0).bind fun r68 =>
((xAD r68).bind fun d69 =>
((xDL d69).bind fun l70 =>
((xtup r67 1).bind fun r71 =>
((xAD r71).bind fun d72 =>
((xDI .i64 d72).bind fun n73 =>
(xite (!decide (n73 = (0 : Int)))
((Φ i_law08_awake []).bind fun r74 =>
((xAD r74).bind fun d75 =>
((xDB d75).bind fun b76 =>
(some (A.one (C.d (D.v (.bool b76))))))))
((Φ i_tables_Pivot [(A.one (C.d (D.sl l70)))]).bind fun r77 =>
((xtup r77 0).bind fun r78 =>
((xAD r78).bind fun d79 =>
((xDL d79).bind fun l80 =>
((xtup r77 1).bind fun r81 =>
((xAD r81).bind fun d82 =>
((xDI .i64 d82).bind fun n83 =>
(xite (decide (n83 = (0 : Int)))
((Φ i_ref08_Same [(A.one (C.d (D.sl l80))), (A.one (C.d (D.sl t1)))]).bind fun r84 =>
((xAD r84).bind fun d85 =>
((xDB d85).bind fun b86 =>
(xite b86
((Φ i_law08_awake []).bind fun r87 =>
((xAD r87).bind fun d88 =>
((xDB d88).bind fun b89 =>
(some (A.one (C.d (D.v (.bool b89))))))))
(some (A.one (C.d (D.v (.bool false)))))))))
(some (A.one (C.d (D.v (.bool false))))))))))))))))))))))))))))))))))))))))))))))))))))))))))))))))))))))))))))))))
theorem law08_TablesBack_eq (Φ : Phi) (fuel : Nat) (t1 : List (List D)) : xbody TT0 Φ fuel sp_law08_TablesBack Try.f7 [(A.one (C.d (D.sl t1)))] = law08_TablesBack Φ fuel t1 := by kernel_rfl
/-! law08_TablesJoins -/
def sp_law08_TablesJoins : List LSpec := []
def law08_TablesJoins (Φ : Phi) (fuel : Nat) (a1 : List (List D)) (b2 : List (List D)) : Option A :=
((Φ i_law08_small [(A.one (C.d (D.sl a1)))]).bind fun r3 =>
((xAD r3).bind fun d4 =>
((xDB d4).bind fun b5 =>
(xite (!b5)
((Φ i_law08_awake []).bind fun r6 =>
((xAD r6).bind fun d7 =>
((xDB d7).bind fun b8 =>
(some (A.one (C.d (D.v (.bool b8))))))))
((Φ i_law08_small [(A.one (C.d (D.sl b2)))]).bind fun r9 =>
((xAD r9).bind fun d10 =>
((xDB d10).bind fun b11 =>
(xite (!b11)
((Φ i_law08_awake []).bind fun r12 =>
((xAD r12).bind fun d13 =>
((xDB d13).bind fun b14 =>
(some (A.one (C.d (D.v (.bool b14))))))))
((Φ i_tables_Stack [(A.one (C.d (D.sl a1))), (A.one (C.d (D.sl b2)))]).bind fun r15 =>
((xtup r15 0).bind fun r16 =>
((xAD r16).bind fun d17 =>
((xDL d17).bind fun l18 =>
((xtup r15 1).bind fun r19 =>
((xAD r19).bind fun d20 =>
((xDI .i64 d20).bind fun n21 =>
((Φ i_ref08_Stack [(A.one (C.d (D.sl a1))), (A.one (C.d (D.sl b2)))]).bind fun r22 =>
((xtup r22 0).bind fun r23 =>
((xAD r23).bind fun d24 =>
((xDL d24).bind fun l25 =>
((xtup r22 1).bind fun r26 =>
((xAD r26).bind fun d27 =>
((xDI .i64 d27).bind fun n28 =>
((Φ i_tables_Beside [(A.one (C.d (D.sl a1))), (A.one (C.d (D.sl b2)))]).bind fun r29 =>
((xtup r29 0).bind fun r30 =>
((xAD r30).bind fun d31 =>
((xDL d31).bind fun l32 =>
((xtup r29 1).bind fun r33 =>
((xAD r33).bind fun d34 =>
((xDI .i64 d34).bind fun n35 =>
((Φ i_ref08_Beside [(A.one (C.d (D.sl a1))), (A.one (C.d (D.sl b2)))]).bind fun r36 =>
((xtup r36 0).bind fun r37 =>
((xAD r37).bind fun d38 =>
((xDL d38).bind fun l39 =>
((xtup r36 1).bind fun r40 =>
((xAD r40).bind fun d41 =>
((xDI .i64 d41).bind fun n42 =>
((Φ i_ref08_Same [(A.one (C.d (D.sl l18))), (A.one (C.d (D.sl l25)))]).bind fun r43 =>
((xAD r43).bind fun d44 =>
((xDB d44).bind fun b45 =>
(xite b45
((Φ i_ref08_Same [(A.one (C.d (D.sl l32))), (A.one (C.d (D.sl l39)))]).bind fun r46 =>
((xAD r46).bind fun d47 =>
((xDB d47).bind fun b48 =>
(xite b48
(xite (decide (n21 = n28))
(xite (decide (n35 = n42))
((Φ i_law08_awake []).bind fun r49 =>
((xAD r49).bind fun d50 =>
((xDB d50).bind fun b51 =>
(some (A.one (C.d (D.v (.bool b51))))))))
(some (A.one (C.d (D.v (.bool false))))))
(some (A.one (C.d (D.v (.bool false))))))
(some (A.one (C.d (D.v (.bool false)))))))))
(some (A.one (C.d (D.v (.bool false)))))))))))))))))))))))))))))))))))))))))))))
theorem law08_TablesJoins_eq (Φ : Phi) (fuel : Nat) (a1 : List (List D)) (b2 : List (List D)) : xbody TT0 Φ fuel sp_law08_TablesJoins Try.f8 [(A.one (C.d (D.sl a1))), (A.one (C.d (D.sl b2)))] = law08_TablesJoins Φ fuel a1 b2 := by kernel_rfl
/-! law08_TablesDrops -/
def sp_law08_TablesDrops : List LSpec := []
def law08_TablesDrops (Φ : Phi) (fuel : Nat) (t1 : List (List D)) (i2 : Int) : Option A :=
((Φ i_law08_small [(A.one (C.d (D.sl t1)))]).bind fun r3 =>
((xAD r3).bind fun d4 =>
((xDB d4).bind fun b5 =>
(xite (!b5)
((Φ i_law08_awake []).bind fun r6 =>
((xAD r6).bind fun d7 =>
((xDB d7).bind fun b8 =>
(some (A.one (C.d (D.v (.bool b8))))))))
((Φ i_tables_DropRow [(A.one (C.d (D.sl t1))), (A.one (C.d (D.v (.int .i64 i2))))]).bind fun r9 =>
((xtup r9 0).bind fun r10 =>
((xAD r10).bind fun d11 =>
((xDL d11).bind fun l12 =>
((xtup r9 1).bind fun r13 =>
((xAD r13).bind fun d14 =>
((xDI .i64 d14).bind fun n15 =>
((Φ i_ref08_DropRow [(A.one (C.d (D.sl t1))), (A.one (C.d (D.v (.int .i64 i2))))]).bind fun r16 =>
((xtup r16 0).bind fun r17 =>
((xAD r17).bind fun d18 =>
((xDL d18).bind fun l19 =>
((xtup r16 1).bind fun r20 =>
((xAD r20).bind fun d21 =>
((xDI .i64 d21).bind fun n22 =>
((Φ i_tables_DropColumn [(A.one (C.d (D.sl t1))), (A.one (C.d (D.v (.int .i64 i2))))]).bind fun r23 =>
((xtup r23 0).bind fun r24 =>
((xAD r24).bind fun d25 =>
((xDL d25).bind fun l26 =>
((xtup r23 1).bind fun r27 =>
((xAD r27).bind fun d28 =>
((xDI .i64 d28).bind fun n29 =>
((Φ i_ref08_DropColumn [(A.one (C.d (D.sl t1))), (A.one (C.d (D.v (.int .i64 i2))))]).bind fun r30 =>
((xtup r30 0).bind fun r31 =>
((xAD r31).bind fun d32 =>
((xDL d32).bind fun l33 =>
((xtup r30 1).bind fun r34 =>
((xAD r34).bind fun d35 =>
((xDI .i64 d35).bind fun n36 =>
((Φ i_tables_Sort [(A.one (C.d (D.sl t1))), (A.one (C.d (D.v (.int .i64 i2))))]).bind fun r37 =>
((xtup r37 0).bind fun r38 =>
((xAD r38).bind fun d39 =>
((xDL d39).bind fun l40 =>
((xtup r37 1).bind fun r41 =>
((xAD r41).bind fun d42 =>
((xDI .i64 d42).bind fun n43 =>
((Φ i_ref08_Sort [(A.one (C.d (D.sl t1))), (A.one (C.d (D.v (.int .i64 i2))))]).bind fun r44 =>
((xtup r44 0).bind fun r45 =>
((xAD r45).bind fun d46 =>
((xDL d46).bind fun l47 =>
((xtup r44 1).bind fun r48 =>
((xAD r48).bind fun d49 =>
((xDI .i64 d49).bind fun n50 =>
((Φ i_ref08_Same [(A.one (C.d (D.sl l12))), (A.one (C.d (D.sl l19)))]).bind fun r51 =>
((xAD r51).bind fun d52 =>
((xDB d52).bind fun b53 =>
(xite b53
((Φ i_ref08_Same [(A.one (C.d (D.sl l26))), (A.one (C.d (D.sl l33)))]).bind fun r54 =>
((xAD r54).bind fun d55 =>
((xDB d55).bind fun b56 =>
(xite b56
((Φ i_ref08_Same [(A.one (C.d (D.sl l40))), (A.one (C.d (D.sl l47)))]).bind fun r57 =>
((xAD r57).bind fun d58 =>
((xDB d58).bind fun b59 =>
(xite b59
(xite (decide (n15 = n22))
(xite (decide (n29 = n36))
(xite (decide (n43 = n50))
((Φ i_law08_awake []).bind fun r60 =>
((xAD r60).bind fun d61 =>
((xDB d61).bind fun b62 =>
(some (A.one (C.d (D.v (.bool b62))))))))
(some (A.one (C.d (D.v (.bool false))))))
(some (A.one (C.d (D.v (.bool false))))))
(some (A.one (C.d (D.v (.bool false))))))
(some (A.one (C.d (D.v (.bool false)))))))))
(some (A.one (C.d (D.v (.bool false)))))))))
(some (A.one (C.d (D.v (.bool false)))))))))))))))))))))))))))))))))))))))))))))))))))))))
theorem law08_TablesDrops_eq (Φ : Phi) (fuel : Nat) (t1 : List (List D)) (i2 : Int) : xbody TT0 Φ fuel sp_law08_TablesDrops Try.f9 [(A.one (C.d (D.sl t1))), (A.one (C.d (D.v (.int .i64 i2))))] = law08_TablesDrops Φ fuel t1 i2 := by kernel_rfl
/-! law08_TablesSorts -/
def sp_law08_TablesSorts : List LSpec := [{ n := 0, m := 132, toks := [], ks := [.slot 0 (.one .sl), .slot 1 (.one .sl), .slot 2 (.one (.int .i64)), .slot 7 (.one .sl), .slot 9 (.one (.int .i64))] }]
def law08_TablesSorts_l0 (Φ : Phi) (fuel : Nat) (k0 : List (List D) → List (List D) → Int → List (List D) → Int → Option A) (t26 : List (List D)) (u27 : List (List D)) (column28 : Int) (s29 : List (List D)) (i30 : Int) : Option A :=
(xite (decide (i30 < ((t26).length : Int)))
((xElem 1 t26 i30).bind fun c31 =>
(xif (decide (1 ≤ (c31).length))
((xDL (List.getD c31 0 (D.s []))).bind fun l32 =>
((Φ i_law08_count [(A.one (C.d (D.sl s29))), (A.one (C.d (D.sl l32)))]).bind fun r33 =>
((xAD r33).bind fun d34 =>
((xDI .i64 d34).bind fun n35 =>
((xElem 1 t26 i30).bind fun c36 =>
(xif (decide (1 ≤ (c36).length))
((xDL (List.getD c36 0 (D.s []))).bind fun l37 =>
((Φ i_law08_count [(A.one (C.d (D.sl t26))), (A.one (C.d (D.sl l37)))]).bind fun r38 =>
((xAD r38).bind fun d39 =>
((xDI .i64 d39).bind fun n40 =>
(xite (!decide (n35 = n40))
(some (A.one (C.d (D.v (.bool false)))))
((Φ i_tables_Cell [(A.one (C.d (D.sl s29))), (A.one (C.d (D.v (.int .i64 i30)))), (A.one (C.d (D.v (.int .i64 column28))))]).bind fun r41 =>
((xtup r41 0).bind fun r42 =>
((xAD r42).bind fun d43 =>
((xDS d43).bind fun s44 =>
((xtup r41 1).bind fun r45 =>
((xAD r45).bind fun d46 =>
((xDI .i64 d46).bind fun n47 =>
((Φ i_tables_Cell [(A.one (C.d (D.sl s29))), (A.one (C.d (D.v (.int .i64 (if (IntKind.i64.wrap (((s29).length : Int) - (1 : Int))) < (IntKind.i64.wrap (i30 + (1 : Int))) then (IntKind.i64.wrap (((s29).length : Int) - (1 : Int))) else (IntKind.i64.wrap (i30 + (1 : Int)))))))), (A.one (C.d (D.v (.int .i64 column28))))]).bind fun r48 =>
((xtup r48 0).bind fun r49 =>
((xAD r49).bind fun d50 =>
((xDS d50).bind fun s51 =>
((xtup r48 1).bind fun r52 =>
((xAD r52).bind fun d53 =>
((xDI .i64 d53).bind fun n54 =>
(xite (!decide (n47 = (0 : Int)))
(some (A.one (C.d (D.v (.bool false)))))
(xite (!decide (n54 = (0 : Int)))
(some (A.one (C.d (D.v (.bool false)))))
(xite (!(Op.bytesLess s44 s51 || decide ((s44 : List UInt8) = s51)))
(some (A.one (C.d (D.v (.bool false)))))
(k0 t26 u27 column28 s29 (IntKind.i64.wrap (i30 + (1 : Int))))))))))))))))))))))))))))))))))
((Φ i_tables_Stack [(A.one (C.d (D.sl t26))), (A.one (C.d (D.sl u27)))]).bind fun r55 =>
((xtup r55 0).bind fun r56 =>
((xAD r56).bind fun d57 =>
((xDL d57).bind fun l58 =>
((xtup r55 1).bind fun r59 =>
((xAD r59).bind fun d60 =>
((xDI .i64 d60).bind fun n61 =>
(xite (!decide (n61 = (0 : Int)))
((Φ i_law08_awake []).bind fun r62 =>
((xAD r62).bind fun d63 =>
((xDB d63).bind fun b64 =>
(some (A.one (C.d (D.v (.bool b64))))))))
(xite (decide (((t26).length : Int) = (0 : Int)))
((Φ i_law08_awake []).bind fun r65 =>
((xAD r65).bind fun d66 =>
((xDB d66).bind fun b67 =>
(some (A.one (C.d (D.v (.bool b67))))))))
(xite (decide (((u27).length : Int) = (0 : Int)))
((Φ i_law08_awake []).bind fun r68 =>
((xAD r68).bind fun d69 =>
((xDB d69).bind fun b70 =>
(some (A.one (C.d (D.v (.bool b70))))))))
((Φ i_tables_Transpose [(A.one (C.d (D.sl t26)))]).bind fun r71 =>
((xAD r71).bind fun d72 =>
((xDL d72).bind fun l73 =>
((Φ i_tables_Transpose [(A.one (C.d (D.sl u27)))]).bind fun r74 =>
((xAD r74).bind fun d75 =>
((xDL d75).bind fun l76 =>
((Φ i_tables_Beside [(A.one (C.d (D.sl l73))), (A.one (C.d (D.sl l76)))]).bind fun r77 =>
((xtup r77 0).bind fun r78 =>
((xAD r78).bind fun d79 =>
((xDL d79).bind fun l80 =>
((xtup r77 1).bind fun r81 =>
((xAD r81).bind fun d82 =>
((xDI .i64 d82).bind fun n83 =>
(xite (decide (n83 = (0 : Int)))
((Φ i_tables_Transpose [(A.one (C.d (D.sl l58)))]).bind fun r84 =>
((xAD r84).bind fun d85 =>
((xDL d85).bind fun l86 =>
((Φ i_ref08_Same [(A.one (C.d (D.sl l80))), (A.one (C.d (D.sl l86)))]).bind fun r87 =>
((xAD r87).bind fun d88 =>
((xDB d88).bind fun b89 =>
(xite b89
((Φ i_law08_awake []).bind fun r90 =>
((xAD r90).bind fun d91 =>
((xDB d91).bind fun b92 =>
(some (A.one (C.d (D.v (.bool b92))))))))
(some (A.one (C.d (D.v (.bool false))))))))))))
(some (A.one (C.d (D.v (.bool false))))))))))))))))))))))))))))))
def law08_TablesSorts (Φ : Phi) (fuel : Nat) (t1 : List (List D)) (u2 : List (List D)) (column3 : Int) : Option A :=
((Φ i_law08_small [(A.one (C.d (D.sl t1)))]).bind fun r4 =>
((xAD r4).bind fun d5 =>
((xDB d5).bind fun b6 =>
(xite (!b6)
((Φ i_law08_awake []).bind fun r7 =>
((xAD r7).bind fun d8 =>
((xDB d8).bind fun b9 =>
(some (A.one (C.d (D.v (.bool b9))))))))
((Φ i_law08_small [(A.one (C.d (D.sl u2)))]).bind fun r10 =>
((xAD r10).bind fun d11 =>
((xDB d11).bind fun b12 =>
(xite (!b12)
((Φ i_law08_awake []).bind fun r13 =>
((xAD r13).bind fun d14 =>
((xDB d14).bind fun b15 =>
(some (A.one (C.d (D.v (.bool b15))))))))
((Φ i_tables_Sort [(A.one (C.d (D.sl t1))), (A.one (C.d (D.v (.int .i64 column3))))]).bind fun r16 =>
((xtup r16 0).bind fun r17 =>
((xAD r17).bind fun d18 =>
((xDL d18).bind fun l19 =>
((xtup r16 1).bind fun r20 =>
((xAD r20).bind fun d21 =>
((xDI .i64 d21).bind fun n22 =>
(xite (decide (n22 = (0 : Int)))
(xite (!decide (((l19).length : Int) = ((t1).length : Int)))
(some (A.one (C.d (D.v (.bool false)))))
((Φ i_tables_Check [(A.one (C.d (D.sl l19)))]).bind fun r23 =>
((xAD r23).bind fun d24 =>
((xDI .i64 d24).bind fun n25 =>
(xite (!decide (n25 = (0 : Int)))
(some (A.one (C.d (D.v (.bool false)))))
(iter (fun (x : List (List D) × List (List D) × Int × List (List D) × Int × Unit) (rec : (List (List D) × List (List D) × Int × List (List D) × Int × Unit) → Option A) => law08_TablesSorts_l0 Φ fuel (fun t26 u27 column28 s29 i30 => rec (t26, u27, column28, s29, i30, ())) x.1 x.2.1 x.2.2.1 x.2.2.2.1 x.2.2.2.2.1) fuel (t1, u2, column3, l19, (0 : Int), ())))))))
((Φ i_tables_Stack [(A.one (C.d (D.sl t1))), (A.one (C.d (D.sl u2)))]).bind fun r93 =>
((xtup r93 0).bind fun r94 =>
((xAD r94).bind fun d95 =>
((xDL d95).bind fun l96 =>
((xtup r93 1).bind fun r97 =>
((xAD r97).bind fun d98 =>
((xDI .i64 d98).bind fun n99 =>
(xite (!decide (n99 = (0 : Int)))
((Φ i_law08_awake []).bind fun r100 =>
((xAD r100).bind fun d101 =>
((xDB d101).bind fun b102 =>
(some (A.one (C.d (D.v (.bool b102))))))))
(xite (decide (((t1).length : Int) = (0 : Int)))
((Φ i_law08_awake []).bind fun r103 =>
((xAD r103).bind fun d104 =>
((xDB d104).bind fun b105 =>
(some (A.one (C.d (D.v (.bool b105))))))))
(xite (decide (((u2).length : Int) = (0 : Int)))
((Φ i_law08_awake []).bind fun r106 =>
((xAD r106).bind fun d107 =>
((xDB d107).bind fun b108 =>
(some (A.one (C.d (D.v (.bool b108))))))))
((Φ i_tables_Transpose [(A.one (C.d (D.sl t1)))]).bind fun r109 =>
((xAD r109).bind fun d110 =>
((xDL d110).bind fun l111 =>
((Φ i_tables_Transpose [(A.one (C.d (D.sl u2)))]).bind fun r112 =>
((xAD r112).bind fun d113 =>
((xDL d113).bind fun l114 =>
((Φ i_tables_Beside [(A.one (C.d (D.sl l111))), (A.one (C.d (D.sl l114)))]).bind fun r115 =>
((xtup r115 0).bind fun r116 =>
((xAD r116).bind fun d117 =>
((xDL d117).bind fun l118 =>
((xtup r115 1).bind fun r119 =>
((xAD r119).bind fun d120 =>
((xDI .i64 d120).bind fun n121 =>
(xite (decide (n121 = (0 : Int)))
((Φ i_tables_Transpose [(A.one (C.d (D.sl l96)))]).bind fun r122 =>
((xAD r122).bind fun d123 =>
((xDL d123).bind fun l124 =>
((Φ i_ref08_Same [(A.one (C.d (D.sl l118))), (A.one (C.d (D.sl l124)))]).bind fun r125 =>
((xAD r125).bind fun d126 =>
((xDB d126).bind fun b127 =>
(xite b127
((Φ i_law08_awake []).bind fun r128 =>
((xAD r128).bind fun d129 =>
((xDB d129).bind fun b130 =>
(some (A.one (C.d (D.v (.bool b130))))))))
(some (A.one (C.d (D.v (.bool false))))))))))))
(some (A.one (C.d (D.v (.bool false)))))))))))))))))))))))))))))))))))))))))))))
theorem law08_TablesSorts_eq (Φ : Phi) (fuel : Nat) (t1 : List (List D)) (u2 : List (List D)) (column3 : Int) : xbody TT0 Φ fuel sp_law08_TablesSorts Try.f10 [(A.one (C.d (D.sl t1))), (A.one (C.d (D.sl u2))), (A.one (C.d (D.v (.int .i64 column3))))] = law08_TablesSorts Φ fuel t1 u2 column3 := by kernel_rfl
/-! law08_small -/
def sp_law08_small : List LSpec := [{ n := 0, m := 38, toks := [], ks := [.slot 0 (.one .sl), .slot 3 (.one (.int .i64))] }, { n := 0, m := 38, toks := [], ks := [.slot 0 (.one .sl), .slot 3 (.one (.int .i64)), .slot 4 (.one (.int .i64))] }]
def law08_small_l1 (Φ : Phi) (fuel : Nat) (k0 : List (List D) → Int → Option A) (k1 : List (List D) → Int → Int → Option A) (t6 : List (List D)) (i7 : Int) (k8 : Int) : Option A :=
((xElem 1 t6 i7).bind fun c9 =>
(xif (decide (1 ≤ (c9).length))
((xDL (List.getD c9 0 (D.s []))).bind fun l10 =>
(xite (decide (k8 < ((l10).length : Int)))
((xElem 1 t6 i7).bind fun c11 =>
(xif (decide (1 ≤ (c11).length))
((xDL (List.getD c11 0 (D.s []))).bind fun l12 =>
((xElem 1 l12 k8).bind fun c13 =>
(xif (decide (1 ≤ (c13).length))
((xDS (List.getD c13 0 (D.s []))).bind fun s14 =>
(xite (decide ((100 : Int) < ((s14).length : Int)))
(some (A.one (C.d (D.v (.bool false)))))
(k1 t6 i7 (IntKind.i64.wrap (k8 + (1 : Int)))))))))))
(k0 t6 (IntKind.i64.wrap (i7 + (1 : Int))))))))
def law08_small_l0 (Φ : Phi) (fuel : Nat) (k0 : List (List D) → Int → Option A) (t2 : List (List D)) (i3 : Int) : Option A :=
(xite (decide (i3 < ((t2).length : Int)))
((xElem 1 t2 i3).bind fun c4 =>
(xif (decide (1 ≤ (c4).length))
((xDL (List.getD c4 0 (D.s []))).bind fun l5 =>
(xite (decide ((20 : Int) < ((l5).length : Int)))
(some (A.one (C.d (D.v (.bool false)))))
(iter (fun (x : List (List D) × Int × Int × Unit) (rec : (List (List D) × Int × Int × Unit) → Option A) => law08_small_l1 Φ fuel k0 (fun t6 i7 k8 => rec (t6, i7, k8, ())) x.1 x.2.1 x.2.2.1) fuel (t2, i3, (0 : Int), ()))))))
(some (A.one (C.d (D.v (.bool true))))))
def law08_small (Φ : Phi) (fuel : Nat) (t1 : List (List D)) : Option A :=
(xite (decide ((20 : Int) < ((t1).length : Int)))
(some (A.one (C.d (D.v (.bool false)))))
(iter (fun (x : List (List D) × Int × Unit) (rec : (List (List D) × Int × Unit) → Option A) => law08_small_l0 Φ fuel (fun t2 i3 => rec (t2, i3, ())) x.1 x.2.1) fuel (t1, (0 : Int), ())))
theorem law08_small_eq (Φ : Phi) (fuel : Nat) (t1 : List (List D)) : xbody TT0 Φ fuel sp_law08_small Try.f11 [(A.one (C.d (D.sl t1)))] = law08_small Φ fuel t1 := by kernel_rfl
/-! law08_awake -/
def sp_law08_awake : List LSpec := []
def law08_awake (Φ : Phi) (fuel : Nat) : Option A :=
((Φ i_tables_Row [(A.one (C.d (D.sl ([[(D.sl ([[(D.s [97])], [(D.s [98])]] : List (List D)))], [(D.sl ([[(D.s [99])], [(D.s [100])]] : List (List D)))]] : List (List D))))), (A.one (C.d (D.v (.int .i64 (-1 : Int)))))]).bind fun r1 =>
((xtup r1 0).bind fun r2 =>
((xAD r2).bind fun d3 =>
((xDL d3).bind fun l4 =>
((xtup r1 1).bind fun r5 =>
((xAD r5).bind fun d6 =>
((xDI .i64 d6).bind fun n7 =>
((Φ i_tables_Column [(A.one (C.d (D.sl ([[(D.sl ([[(D.s [97])], [(D.s [98])]] : List (List D)))], [(D.sl ([[(D.s [99])], [(D.s [100])]] : List (List D)))]] : List (List D))))), (A.one (C.d (D.v (.int .i64 (0 : Int)))))]).bind fun r8 =>
((xtup r8 0).bind fun r9 =>
((xAD r9).bind fun d10 =>
((xDL d10).bind fun l11 =>
((xtup r8 1).bind fun r12 =>
((xAD r12).bind fun d13 =>
((xDI .i64 d13).bind fun n14 =>
((Φ i_tables_Unpivot [(A.one (C.d (D.sl ([[(D.sl ([[(D.s [])], [(D.s [120])], [(D.s [121])]] : List (List D)))], [(D.sl ([[(D.s [107])], [(D.s [49])], [(D.s [50])]] : List (List D)))]] : List (List D))))), (A.one (C.d (D.v (.int .i64 (1 : Int)))))]).bind fun r15 =>
((xtup r15 0).bind fun r16 =>
((xAD r16).bind fun d17 =>
((xDL d17).bind fun l18 =>
((xtup r15 1).bind fun r19 =>
((xAD r19).bind fun d20 =>
((xDI .i64 d20).bind fun n21 =>
((Φ i_tables_Pivot [(A.one (C.d (D.sl l18)))]).bind fun r22 =>
((xtup r22 0).bind fun r23 =>
((xAD r23).bind fun d24 =>
((xDL d24).bind fun l25 =>
((xtup r22 1).bind fun r26 =>
((xAD r26).bind fun d27 =>
((xDI .i64 d27).bind fun n28 =>
((Φ i_tables_Split [(A.one (C.d (D.sl ([[(D.sl ([[(D.s [97, 45, 98, 45, 99])]] : List (List D)))]] : List (List D))))), (A.one (C.d (D.v (.int .i64 (0 : Int))))), (A.one (C.d (D.s [45])))]).bind fun r29 =>
((xtup r29 0).bind fun r30 =>
((xAD r30).bind fun d31 =>
((xDL d31).bind fun l32 =>
((xtup r29 1).bind fun r33 =>
((xAD r33).bind fun d34 =>
((xDI .i64 d34).bind fun n35 =>
(xite (!decide (n7 = (0 : Int)))
(some (A.one (C.d (D.v (.bool false)))))
(xite (!decide (n14 = (0 : Int)))
(some (A.one (C.d (D.v (.bool false)))))
(xite (!decide (n21 = (0 : Int)))
(some (A.one (C.d (D.v (.bool false)))))
(xite (!decide (n28 = (0 : Int)))
(some (A.one (C.d (D.v (.bool false)))))
(xite (!decide (n35 = (0 : Int)))
(some (A.one (C.d (D.v (.bool false)))))
((Φ i_tables_Check [(A.one (C.d (D.sl ([[(D.sl ([[(D.s [97])], [(D.s [98])]] : List (List D)))], [(D.sl ([[(D.s [99])], [(D.s [100])]] : List (List D)))]] : List (List D)))))]).bind fun r36 =>
((xAD r36).bind fun d37 =>
((xDI .i64 d37).bind fun n38 =>
(xite (!decide (n38 = (0 : Int)))
(some (A.one (C.d (D.v (.bool false)))))
((Φ i_tables_Transpose [(A.one (C.d (D.sl ([[(D.sl ([[(D.s [97])], [(D.s [98])]] : List (List D)))], [(D.sl ([[(D.s [99])], [(D.s [100])]] : List (List D)))]] : List (List D)))))]).bind fun r39 =>
((xAD r39).bind fun d40 =>
((xDL d40).bind fun l41 =>
((Φ i_ref08_Same [(A.one (C.d (D.sl l41))), (A.one (C.d (D.sl ([[(D.sl ([[(D.s [97])], [(D.s [99])]] : List (List D)))], [(D.sl ([[(D.s [98])], [(D.s [100])]] : List (List D)))]] : List (List D)))))]).bind fun r42 =>
((xAD r42).bind fun d43 =>
((xDB d43).bind fun b44 =>
(xite b44
((Φ i_ref08_Texts [(A.one (C.d (D.sl l4))), (A.one (C.d (D.sl ([[(D.s [99])], [(D.s [100])]] : List (List D)))))]).bind fun r45 =>
((xAD r45).bind fun d46 =>
((xDB d46).bind fun b47 =>
(xite b47
((Φ i_ref08_Texts [(A.one (C.d (D.sl l11))), (A.one (C.d (D.sl ([[(D.s [97])], [(D.s [99])]] : List (List D)))))]).bind fun r48 =>
((xAD r48).bind fun d49 =>
((xDB d49).bind fun b50 =>
(xite b50
((Φ i_ref08_Same [(A.one (C.d (D.sl l18))), (A.one (C.d (D.sl ([[(D.sl ([[(D.s [107])], [(D.s [120])], [(D.s [49])]] : List (List D)))], [(D.sl ([[(D.s [107])], [(D.s [121])], [(D.s [50])]] : List (List D)))]] : List (List D)))))]).bind fun r51 =>
((xAD r51).bind fun d52 =>
((xDB d52).bind fun b53 =>
(xite b53
((Φ i_ref08_Same [(A.one (C.d (D.sl l25))), (A.one (C.d (D.sl ([[(D.sl ([[(D.s [])], [(D.s [120])], [(D.s [121])]] : List (List D)))], [(D.sl ([[(D.s [107])], [(D.s [49])], [(D.s [50])]] : List (List D)))]] : List (List D)))))]).bind fun r54 =>
((xAD r54).bind fun d55 =>
((xDB d55).bind fun b56 =>
(xite b56
((Φ i_ref08_Same [(A.one (C.d (D.sl l32))), (A.one (C.d (D.sl ([[(D.sl ([[(D.s [97])], [(D.s [98, 45, 99])]] : List (List D)))]] : List (List D)))))]).bind fun r57 =>
((xAD r57).bind fun d58 =>
((xDB d58).bind fun b59 =>
(some (A.one (C.d (D.v (.bool b59))))))))
(some (A.one (C.d (D.v (.bool false)))))))))
(some (A.one (C.d (D.v (.bool false)))))))))
(some (A.one (C.d (D.v (.bool false)))))))))
(some (A.one (C.d (D.v (.bool false)))))))))
(some (A.one (C.d (D.v (.bool false))))))))))))))))))))))))))))))))))))))))))))))))))))))))
theorem law08_awake_eq (Φ : Phi) (fuel : Nat) : xbody TT0 Φ fuel sp_law08_awake Try.f12 [] = law08_awake Φ fuel := by kernel_rfl
/-! tables_Unpivot -/
def sp_tables_Unpivot : List LSpec := [{ n := 0, m := 76, toks := [], ks := [.hp, .slot 0 (.one .sl), .slot 1 (.one (.int .i64)), .slot 7 (.one (.int .i64)), .slot 8 (.one .rc), .slot 43 (.one .rc), .slot 44 (.one (.int .i64)), .slot 45 (.one (.int .i64))] }, { n := 0, m := 76, toks := [], ks := [.hp, .slot 0 (.one .sl), .slot 1 (.one (.int .i64)), .slot 7 (.one (.int .i64)), .slot 8 (.one .rc), .slot 10 (.one .rc), .slot 11 (.one (.int .i64)), .slot 43 (.one .rc), .slot 44 (.one (.int .i64)), .slot 45 (.one (.int .i64))] }]
noncomputable def tables_Unpivot_l1 (Φ : Phi) (Ψ : Psi) (fuel : Nat) (k0 : Hp → List (List D) → Int → Int → C → C → Int → Int → Option (A × Hp)) (k1 : Hp → List (List D) → Int → Int → C → C → Int → C → Int → Int → Option (A × Hp)) (H29 : Hp) (t30 : List (List D)) (keep31 : Int) (n32 : Int) (out33 : C) (row34 : C) (k35 : Int) (c36 : C) (i37 : Int) (i38 : Int) : Option (A × Hp) :=
(xite (decide (k35 < n32))
((hLen row34).bind fun n39 =>
((hSub row34 (0 : Int) keep31).bind fun c40 =>
((hAddr (C.d (D.sl t30)) (0 : Int)).bind fun p41 =>
((hLoad [] p41).bind fun c42 =>
((hAddr c42 k35).bind fun p43 =>
((hLoad [] p43).bind fun c44 =>
((xS (A.one c44)).bind fun s45 =>
((hAddr row34 k35).bind fun p46 =>
((hLoad [] p46).bind fun c47 =>
((xS (A.one c47)).bind fun s48 =>
(xif (C.hok c40)
((Ψ i_slices_Clone_string_string [(A.one c40)] H29).bind fun q49 =>
((xone q49.1).bind fun c50 =>
((hLen c50).bind fun n51 =>
((hCells q49.2 (C.full ([[(D.s s45)], [(D.s s48)]] : List (List D)))).bind fun ys52 =>
(xif (decide ((n51 + ys52.length) * 16 ≤ 140737488355328))
((hApp q49.2 c50 ys52).bind fun q53 =>
((oneCs [(A.one q53.1)]).bind fun cs54 =>
((hPush q53.2 ⟨cs54, true⟩).bind fun H55 =>
((hLen out33).bind fun n56 =>
((hCells H55 (C.hs q53.2.length 0 1)).bind fun ys57 =>
(xif (decide ((n56 + ys57.length) * 24 ≤ 140737488355328))
((hApp H55 out33 ys57).bind fun q58 =>
(xif (C.hok q58.1)
(xif (C.hok row34)
(xif (C.hok c36)
(k1 q58.2 t30 keep31 n32 q58.1 row34 (IntKind.i64.wrap (k35 + (1 : Int))) c36 i37 i38)))))))))))))))))))))))))))
(xif (C.hok out33)
(xif (C.hok c36)
(k0 H29 t30 keep31 n32 out33 c36 i37 (IntKind.i64.wrap (i38 + (1 : Int)))))))
noncomputable def tables_Unpivot_l0 (Φ : Phi) (Ψ : Psi) (fuel : Nat) (k0 : Hp → List (List D) → Int → Int → C → C → Int → Int → Option (A × Hp)) (H19 : Hp) (t20 : List (List D)) (keep21 : Int) (n22 : Int) (out23 : C) (c24 : C) (i25 : Int) (i26 : Int) : Option (A × Hp) :=
(xite (decide (i26 < i25))
((hAddr c24 i26).bind fun p27 =>
((hLoad H19 p27).bind fun c28 =>
(xif (C.hok out23)
(xif (C.hok c28)
(xif (C.hok c24)
(iter (fun (x : Hp × List (List D) × Int × Int × C × C × Int × C × Int × Int × Unit) (rec : (Hp × List (List D) × Int × Int × C × C × Int × C × Int × Int × Unit) → Option (A × Hp)) => tables_Unpivot_l1 Φ Ψ fuel k0 (fun H29 t30 keep31 n32 out33 row34 k35 c36 i37 i38 => rec (H29, t30, keep31, n32, out33, row34, k35, c36, i37, i38, ())) x.1 x.2.1 x.2.2.1 x.2.2.2.1 x.2.2.2.2.1 x.2.2.2.2.2.1 x.2.2.2.2.2.2.1 x.2.2.2.2.2.2.2.1 x.2.2.2.2.2.2.2.2.1 x.2.2.2.2.2.2.2.2.2.1) fuel (H19, t20, keep21, n22, out23, c28, keep21, c24, i25, i26, ())))))))
(xif (xokR (A.tup [(A.one out23), (A.one (C.d (D.v (.int .i64 (0 : Int)))))]))
(some ((A.tup [(A.one out23), (A.one (C.d (D.v (.int .i64 (0 : Int)))))]), H19))))
noncomputable def tables_Unpivot (Φ : Phi) (Ψ : Psi) (fuel : Nat) (t1 : List (List D)) (keep2 : Int) (H : Hp) : Option (A × Hp) :=
((Φ i_tables_Check [(A.one (C.d (D.sl t1)))]).bind fun r3 =>
((xAD r3).bind fun d4 =>
((xDI .i64 d4).bind fun n5 =>
(xite (!decide (n5 = (0 : Int)))
(xif (xokR (A.tup [(A.one (C.full [])), (A.one (C.d (D.v (.int .i64 n5))))]))
(some ((A.tup [(A.one (C.full [])), (A.one (C.d (D.v (.int .i64 n5))))]), H)))
(xite (decide ((((t1 : List (List D)).length : Nat) : Int) = (0 : Int)))
(xif (xokR (A.tup [(A.one (C.full [])), (A.one (C.d (D.v (.int .i64 (7 : Int)))))]))
(some ((A.tup [(A.one (C.full [])), (A.one (C.d (D.v (.int .i64 (7 : Int)))))]), H)))
((Φ i_tables_columns [(A.one (C.d (D.sl t1)))]).bind fun r6 =>
((xAD r6).bind fun d7 =>
((xDI .i64 d7).bind fun n8 =>
(xite (decide (keep2 < (0 : Int)))
(xif (xokR (A.tup [(A.one (C.full [])), (A.one (C.d (D.v (.int .i64 (1 : Int)))))]))
(some ((A.tup [(A.one (C.full [])), (A.one (C.d (D.v (.int .i64 (1 : Int)))))]), H)))
(xite (decide (n8 ≤ keep2))
(xif (xokR (A.tup [(A.one (C.full [])), (A.one (C.d (D.v (.int .i64 (1 : Int)))))]))
(some ((A.tup [(A.one (C.full [])), (A.one (C.d (D.v (.int .i64 (1 : Int)))))]), H)))
(xite (decide ((8 : Int) < (IntKind.i64.wrap (keep2 + (2 : Int)))))
(xif (xokR (A.tup [(A.one (C.full [])), (A.one (C.d (D.v (.int .i64 (2 : Int)))))]))
(some ((A.tup [(A.one (C.full [])), (A.one (C.d (D.v (.int .i64 (2 : Int)))))]), H)))
(xite (decide ((8 : Int) < (IntKind.i64.wrap ((IntKind.i64.wrap ((((t1 : List (List D)).length : Nat) : Int) - (1 : Int))) * (IntKind.i64.wrap (n8 - keep2))))))
(xif (xokR (A.tup [(A.one (C.full [])), (A.one (C.d (D.v (.int .i64 (2 : Int)))))]))
(some ((A.tup [(A.one (C.full [])), (A.one (C.d (D.v (.int .i64 (2 : Int)))))]), H)))
((hSub (C.d (D.sl t1)) (1 : Int) (((t1 : List (List D)).length : Nat) : Int)).bind fun c9 =>
((hLen c9).bind fun n10 =>
(xif (C.hok c9)
(iter (fun (x : Hp × List (List D) × Int × Int × C × C × Int × Int × Unit) (rec : (Hp × List (List D) × Int × Int × C × C × Int × Int × Unit) → Option (A × Hp)) => tables_Unpivot_l0 Φ Ψ fuel (fun H19 t20 keep21 n22 out23 c24 i25 i26 => rec (H19, t20, keep21, n22, out23, c24, i25, i26, ())) x.1 x.2.1 x.2.2.1 x.2.2.2.1 x.2.2.2.2.1 x.2.2.2.2.2.1 x.2.2.2.2.2.2.1 x.2.2.2.2.2.2.2.1) fuel (H, t1, keep2, n8, (C.full []), c9, ((n10 : Nat) : Int), (0 : Int), ())))))))))))))))))
theorem tables_Unpivot_eq (Φ : Phi) (Ψ : Psi) (fuel : Nat) (t1 : List (List D)) (keep2 : Int) (H : Hp) : xbodyH TT0 Φ Ψ sel_tables_Unpivot fuel sp_tables_Unpivot Try.f13 [(A.one (C.d (D.sl t1))), (A.one (C.d (D.v (.int .i64 keep2))))] H = tables_Unpivot Φ Ψ fuel t1 keep2 H := by kernel_rfl
end Go.Av

set_option linter.unusedVariables false
set_option maxRecDepth 100000
namespace Go.Av
open Go.Proofs
/-! ref08_Unpivot -/
def sp_ref08_Unpivot : List LSpec := [{ n := 0, m := 76, toks := [], ks := [.hp, .slot 0 (.one .sl), .slot 1 (.one (.int .i64)), .slot 7 (.one .rc), .slot 8 (.one (.int .i64))] }, { n := 0, m := 76, toks := [], ks := [.hp, .slot 0 (.one .sl), .slot 1 (.one (.int .i64)), .slot 7 (.one .rc), .slot 8 (.one (.int .i64)), .slot 9 (.one (.int .i64))] }]
noncomputable def ref08_Unpivot_l1 (Φ : Phi) (Ψ : Psi) (fuel : Nat) (k0 : Hp → List (List D) → Int → C → Int → Option (A × Hp)) (k1 : Hp → List (List D) → Int → C → Int → Int → Option (A × Hp)) (H19 : Hp) (t20 : List (List D)) (keep21 : Int) (out22 : C) (i23 : Int) (k24 : Int) : Option (A × Hp) :=
((hAddr (C.d (D.sl t20)) i23).bind fun p25 =>
((hLoad H19 p25).bind fun c26 =>
((hLen c26).bind fun n27 =>
(xite (decide (k24 < ((n27 : Nat) : Int)))
((hAddr (C.d (D.sl t20)) i23).bind fun p28 =>
((hLoad [] p28).bind fun c29 =>
((hLen c29).bind fun n30 =>
((hSub c29 (0 : Int) keep21).bind fun c31 =>
((hAddr (C.d (D.sl t20)) (0 : Int)).bind fun p32 =>
((hLoad [] p32).bind fun c33 =>
((hAddr c33 k24).bind fun p34 =>
((hLoad [] p34).bind fun c35 =>
((xS (A.one c35)).bind fun s36 =>
((hAddr (C.d (D.sl t20)) i23).bind fun p37 =>
((hLoad [] p37).bind fun c38 =>
((hAddr c38 k24).bind fun p39 =>
((hLoad [] p39).bind fun c40 =>
((xS (A.one c40)).bind fun s41 =>
(xif (C.hok c31)
((Ψ i_ref08_list [(A.one c31)] H19).bind fun q42 =>
((xone q42.1).bind fun c43 =>
((hLen c43).bind fun n44 =>
((hCells q42.2 (C.full ([[(D.s s36)], [(D.s s41)]] : List (List D)))).bind fun ys45 =>
(xif (decide ((n44 + ys45.length) * 16 ≤ 140737488355328))
((hApp q42.2 c43 ys45).bind fun q46 =>
((oneCs [(A.one q46.1)]).bind fun cs47 =>
((hPush q46.2 ⟨cs47, true⟩).bind fun H48 =>
((hLen out22).bind fun n49 =>
((hCells H48 (C.hs q46.2.length 0 1)).bind fun ys50 =>
(xif (decide ((n49 + ys50.length) * 24 ≤ 140737488355328))
((hApp H48 out22 ys50).bind fun q51 =>
(xif (C.hok q51.1)
(k1 q51.2 t20 keep21 q51.1 i23 (IntKind.i64.wrap (k24 + (1 : Int))))))))))))))))))))))))))))))))
(xif (C.hok out22)
(k0 H19 t20 keep21 out22 (IntKind.i64.wrap (i23 + (1 : Int)))))))))
noncomputable def ref08_Unpivot_l0 (Φ : Phi) (Ψ : Psi) (fuel : Nat) (k0 : Hp → List (List D) → Int → C → Int → Option (A × Hp)) (H14 : Hp) (t15 : List (List D)) (keep16 : Int) (out17 : C) (i18 : Int) : Option (A × Hp) :=
(xite (decide (i18 < (((t15 : List (List D)).length : Nat) : Int)))
(xif (C.hok out17)
(iter (fun (x : Hp × List (List D) × Int × C × Int × Int × Unit) (rec : (Hp × List (List D) × Int × C × Int × Int × Unit) → Option (A × Hp)) => ref08_Unpivot_l1 Φ Ψ fuel k0 (fun H19 t20 keep21 out22 i23 k24 => rec (H19, t20, keep21, out22, i23, k24, ())) x.1 x.2.1 x.2.2.1 x.2.2.2.1 x.2.2.2.2.1 x.2.2.2.2.2.1) fuel (H14, t15, keep16, out17, i18, keep16, ())))
(xite (decide ((8 : Int) < (IntKind.i64.wrap (keep16 + (2 : Int)))))
(xif (xokR (A.tup [(A.one (C.full [])), (A.one (C.d (D.v (.int .i64 (2 : Int)))))]))
(some ((A.tup [(A.one (C.full [])), (A.one (C.d (D.v (.int .i64 (2 : Int)))))]), H14)))
((hLen out17).bind fun n52 =>
(xite (decide ((8 : Int) < ((n52 : Nat) : Int)))
(xif (xokR (A.tup [(A.one (C.full [])), (A.one (C.d (D.v (.int .i64 (2 : Int)))))]))
(some ((A.tup [(A.one (C.full [])), (A.one (C.d (D.v (.int .i64 (2 : Int)))))]), H14)))
(xif (xokR (A.tup [(A.one out17), (A.one (C.d (D.v (.int .i64 (0 : Int)))))]))
(some ((A.tup [(A.one out17), (A.one (C.d (D.v (.int .i64 (0 : Int)))))]), H14)))))))
noncomputable def ref08_Unpivot (Φ : Phi) (Ψ : Psi) (fuel : Nat) (t1 : List (List D)) (keep2 : Int) (H : Hp) : Option (A × Hp) :=
((Φ i_ref08_Check [(A.one (C.d (D.sl t1)))]).bind fun r3 =>
((xAD r3).bind fun d4 =>
((xDI .i64 d4).bind fun n5 =>
(xite (!decide (n5 = (0 : Int)))
(xif (xokR (A.tup [(A.one (C.full [])), (A.one (C.d (D.v (.int .i64 n5))))]))
(some ((A.tup [(A.one (C.full [])), (A.one (C.d (D.v (.int .i64 n5))))]), H)))
(xite (decide ((((t1 : List (List D)).length : Nat) : Int) = (0 : Int)))
(xif (xokR (A.tup [(A.one (C.full [])), (A.one (C.d (D.v (.int .i64 (7 : Int)))))]))
(some ((A.tup [(A.one (C.full [])), (A.one (C.d (D.v (.int .i64 (7 : Int)))))]), H)))
(xite (decide (keep2 < (0 : Int)))
(xif (xokR (A.tup [(A.one (C.full [])), (A.one (C.d (D.v (.int .i64 (1 : Int)))))]))
(some ((A.tup [(A.one (C.full [])), (A.one (C.d (D.v (.int .i64 (1 : Int)))))]), H)))
((Φ i_ref08_Columns [(A.one (C.d (D.sl t1)))]).bind fun r6 =>
((xAD r6).bind fun d7 =>
((xDI .i64 d7).bind fun n8 =>
(xite (decide (n8 ≤ keep2))
(xif (xokR (A.tup [(A.one (C.full [])), (A.one (C.d (D.v (.int .i64 (1 : Int)))))]))
(some ((A.tup [(A.one (C.full [])), (A.one (C.d (D.v (.int .i64 (1 : Int)))))]), H)))
(iter (fun (x : Hp × List (List D) × Int × C × Int × Unit) (rec : (Hp × List (List D) × Int × C × Int × Unit) → Option (A × Hp)) => ref08_Unpivot_l0 Φ Ψ fuel (fun H14 t15 keep16 out17 i18 => rec (H14, t15, keep16, out17, i18, ())) x.1 x.2.1 x.2.2.1 x.2.2.2.1 x.2.2.2.2.1) fuel (H, t1, keep2, (C.full []), (1 : Int), ()))))))))))))
theorem ref08_Unpivot_eq (Φ : Phi) (Ψ : Psi) (fuel : Nat) (t1 : List (List D)) (keep2 : Int) (H : Hp) : xbodyH TT0 Φ Ψ sel_ref08_Unpivot fuel sp_ref08_Unpivot Try.f14 [(A.one (C.d (D.sl t1))), (A.one (C.d (D.v (.int .i64 keep2))))] H = ref08_Unpivot Φ Ψ fuel t1 keep2 H := by kernel_rfl
/-! tables_Pivot -/
def sp_tables_Pivot : List LSpec := [{ n := 1, m := 101, toks := [], ks := [.hp, .slot 5 (.one .rc), .slot 6 (.one .rc), .slot 7 (.one (.mp 0)), .slot 30 (.one .sl), .slot 31 (.one (.int .i64)), .slot 32 (.one (.int .i64)), .mp 0] }, { n := 1, m := 101, toks := [], ks := [.hp, .slot 6 (.one .rc), .slot 7 (.one (.mp 0)), .slot 13 (.one .rc), .slot 72 (.one .rc), .slot 73 (.one (.int .i64)), .slot 74 (.one (.int .i64)), .mp 0] }, { n := 1, m := 101, toks := [], ks := [.hp, .slot 6 (.one .rc), .slot 7 (.one (.mp 0)), .slot 13 (.one .rc), .slot 14 (.one (.int .i64)), .slot 16 (.one .rc), .slot 72 (.one .rc), .slot 73 (.one (.int .i64)), .slot 74 (.one (.int .i64)), .slot 82 (.one (.int .i64)), .slot 83 (.one (.int .i64)), .mp 0] }]
noncomputable def tables_Pivot_l2 (Φ : Phi) (Ψ : Psi) (fuel : Nat) (k1 : Hp → C → C → C → Int → Int → List ((Int × Int) × List UInt8) → Option (A × Hp)) (k2 : Hp → C → C → Int → C → C → Int → Int → Int → Int → List ((Int × Int) × List UInt8) → Option (A × Hp)) (H68 : Hp) (names69 : C) (out70 : C) (i71 : Int) (row72 : C) (c73 : C) (i74 : Int) (i75 : Int) (i76 : Int) (i77 : Int) (m78 : List ((Int × Int) × List UInt8)) : Option (A × Hp) :=
(xite (decide (i77 < i76))
((hLen row72).bind fun n79 =>
((hCells H68 (C.full ([[(D.s ((mfind (i71, i77) m78).getD []))]] : List (List D)))).bind fun ys80 =>
(xif (decide ((n79 + ys80.length) * 16 ≤ 140737488355328))
((hApp H68 row72 ys80).bind fun q81 =>
(xif (C.hok names69)
(xif (C.hok out70)
(xif (C.hok q81.1)
(xif (C.hok c73)
(k2 q81.2 names69 out70 i71 q81.1 c73 i74 i75 i76 (IntKind.i64.wrap (i77 + (1 : Int))) m78)))))))))
((oneCs [(A.one row72)]).bind fun cs82 =>
((hPush H68 ⟨cs82, true⟩).bind fun H83 =>
((hLen out70).bind fun n84 =>
((hCells H83 (C.hs H68.length 0 1)).bind fun ys85 =>
(xif (decide ((n84 + ys85.length) * 24 ≤ 140737488355328))
((hApp H83 out70 ys85).bind fun q86 =>
(xif (C.hok names69)
(xif (C.hok q86.1)
(xif (C.hok c73)
(k1 q86.2 names69 q86.1 c73 i74 (IntKind.i64.wrap (i75 + (1 : Int))) m78)))))))))))
noncomputable def tables_Pivot_l1 (Φ : Phi) (Ψ : Psi) (fuel : Nat) (k1 : Hp → C → C → C → Int → Int → List ((Int × Int) × List UInt8) → Option (A × Hp)) (H45 : Hp) (names46 : C) (out47 : C) (c48 : C) (i49 : Int) (i50 : Int) (m51 : List ((Int × Int) × List UInt8)) : Option (A × Hp) :=
(xite (decide (i50 < i49))
((hAddr c48 i50).bind fun p52 =>
((hLoad H45 p52).bind fun c53 =>
((xS (A.one c53)).bind fun s54 =>
((hLoad H45 names46).bind fun c55 =>
((hLen c55).bind fun n56 =>
(xif (C.hok names46)
(xif (C.hok out47)
(xif (C.hok c48)
(iter (fun (x : Hp × C × Unit × C × Int × C × C × Int × Int × Int × Int × (List ((Int × Int) × List UInt8)) × Unit) (rec : (Hp × C × Unit × C × Int × C × C × Int × Int × Int × Int × (List ((Int × Int) × List UInt8)) × Unit) → Option (A × Hp)) => tables_Pivot_l2 Φ Ψ fuel k1 (fun H68 names69 out70 i71 row72 c73 i74 i75 i76 i77 m78 => rec (H68, names69, (), out70, i71, row72, c73, i74, i75, i76, i77, m78, ())) x.1 x.2.1 x.2.2.2.1 x.2.2.2.2.1 x.2.2.2.2.2.1 x.2.2.2.2.2.2.1 x.2.2.2.2.2.2.2.1 x.2.2.2.2.2.2.2.2.1 x.2.2.2.2.2.2.2.2.2.1 x.2.2.2.2.2.2.2.2.2.2.1 x.2.2.2.2.2.2.2.2.2.2.2.1) fuel (H45, names46, (), out47, i50, (C.full ([[(D.s s54)]] : List (List D))), c48, i49, i50, ((n56 : Nat) : Int), (0 : Int), m51, ()))))))))))
(xif (xokR (A.tup [(A.one out47), (A.one (C.d (D.v (.int .i64 (0 : Int)))))]))
(some ((A.tup [(A.one out47), (A.one (C.d (D.v (.int .i64 (0 : Int)))))]), H45))))
noncomputable def tables_Pivot_l0 (Φ : Phi) (Ψ : Psi) (fuel : Nat) (k0 : Hp → C → C → List (List D) → Int → Int → List ((Int × Int) × List UInt8) → Option (A × Hp)) (H10 : Hp) (keys11 : C) (names12 : C) (l13 : List (List D)) (i14 : Int) (i15 : Int) (m16 : List ((Int × Int) × List UInt8)) : Option (A × Hp) :=
(xite (decide (i15 < i14))
((hAddr (C.d (D.sl l13)) i15).bind fun p17 =>
((hLoad H10 p17).bind fun c18 =>
((hAddr c18 (0 : Int)).bind fun p19 =>
((hLoad [] p19).bind fun c20 =>
((xS (A.one c20)).bind fun s21 =>
((hAddr c18 (1 : Int)).bind fun p22 =>
((hLoad [] p22).bind fun c23 =>
((xS (A.one c23)).bind fun s24 =>
(xif (C.hok keys11)
((Ψ i_tables_entry [(A.one keys11), (A.one (C.d (D.s s21)))] H10).bind fun q25 =>
((xone q25.1).bind fun c26 =>
((xI .i64 (A.one c26)).bind fun n27 =>
(xif (C.hok names12)
((Ψ i_tables_entry [(A.one names12), (A.one (C.d (D.s s24)))] q25.2).bind fun q28 =>
((xone q28.1).bind fun c29 =>
((xI .i64 (A.one c29)).bind fun n30 =>
(xite ((mfind (n27, n30) m16).isSome)
(xif (xokR (A.tup [(A.one (C.full [])), (A.one (C.d (D.v (.int .i64 (6 : Int)))))]))
(some ((A.tup [(A.one (C.full [])), (A.one (C.d (D.v (.int .i64 (6 : Int)))))]), q28.2)))
((hAddr c18 (2 : Int)).bind fun p31 =>
((hLoad q28.2 p31).bind fun c32 =>
((xS (A.one c32)).bind fun s33 =>
(xif ((mfind (n27, n30) m16).isNone)
(xif (C.hok keys11)
(xif (C.hok names12)
(k0 q28.2 keys11 names12 l13 i14 (IntKind.i64.wrap (i15 + (1 : Int))) (m16 ++ [((n27, n30), s33)])))))))))))))))))))))))))
((hLoad H10 keys11).bind fun c34 =>
((hLen c34).bind fun n35 =>
(xite (decide ((8 : Int) < (IntKind.i64.wrap (((n35 : Nat) : Int) + (1 : Int)))))
(xif (xokR (A.tup [(A.one (C.full [])), (A.one (C.d (D.v (.int .i64 (2 : Int)))))]))
(some ((A.tup [(A.one (C.full [])), (A.one (C.d (D.v (.int .i64 (2 : Int)))))]), H10)))
((hLoad H10 names12).bind fun c36 =>
((hLen c36).bind fun n37 =>
(xite (decide ((8 : Int) < (IntKind.i64.wrap (((n37 : Nat) : Int) + (1 : Int)))))
(xif (xokR (A.tup [(A.one (C.full [])), (A.one (C.d (D.v (.int .i64 (2 : Int)))))]))
(some ((A.tup [(A.one (C.full [])), (A.one (C.d (D.v (.int .i64 (2 : Int)))))]), H10)))
((hLoad H10 names12).bind fun c38 =>
((hCells H10 c38).bind fun ys39 =>
(xif (decide (((([[(D.s [])]] : List (List D)) : List (List D)).length + ys39.length) * 16 ≤ 140737488355328))
((hApp H10 (C.full ([[(D.s [])]] : List (List D))) ys39).bind fun q40 =>
((oneCs [(A.one q40.1)]).bind fun cs41 =>
((hPush q40.2 ⟨cs41, true⟩).bind fun H42 =>
((hLoad H42 keys11).bind fun c43 =>
((hLen c43).bind fun n44 =>
(xif (C.hok names12)
(xif (C.hok c43)
(iter (fun (x : Hp × C × Unit × C × C × Int × Int × (List ((Int × Int) × List UInt8)) × Unit) (rec : (Hp × C × Unit × C × C × Int × Int × (List ((Int × Int) × List UInt8)) × Unit) → Option (A × Hp)) => tables_Pivot_l1 Φ Ψ fuel (fun H45 names46 out47 c48 i49 i50 m51 => rec (H45, names46, (), out47, c48, i49, i50, m51, ())) x.1 x.2.1 x.2.2.2.1 x.2.2.2.2.1 x.2.2.2.2.2.1 x.2.2.2.2.2.2.1 x.2.2.2.2.2.2.2.1) fuel (H42, names12, (), (C.hs q40.2.length 0 1), c43, ((n44 : Nat) : Int), (0 : Int), m16, ())))))))))))))))))))
noncomputable def tables_Pivot (Φ : Phi) (Ψ : Psi) (fuel : Nat) (t1 : List (List D)) (H : Hp) : Option (A × Hp) :=
((Φ i_tables_Check [(A.one (C.d (D.sl t1)))]).bind fun r2 =>
((xAD r2).bind fun d3 =>
((xDI .i64 d3).bind fun n4 =>
(xite (!decide (n4 = (0 : Int)))
(xif (xokR (A.tup [(A.one (C.full [])), (A.one (C.d (D.v (.int .i64 n4))))]))
(some ((A.tup [(A.one (C.full [])), (A.one (C.d (D.v (.int .i64 n4))))]), H)))
(xite (decide ((((t1 : List (List D)).length : Nat) : Int) = (0 : Int)))
(xif (xokR (A.tup [(A.one (C.full [])), (A.one (C.d (D.v (.int .i64 (7 : Int)))))]))
(some ((A.tup [(A.one (C.full [])), (A.one (C.d (D.v (.int .i64 (7 : Int)))))]), H)))
((Φ i_tables_columns [(A.one (C.d (D.sl t1)))]).bind fun r5 =>
((xAD r5).bind fun d6 =>
((xDI .i64 d6).bind fun n7 =>
(xite (!decide (n7 = (3 : Int)))
(xif (xokR (A.tup [(A.one (C.full [])), (A.one (C.d (D.v (.int .i64 (4 : Int)))))]))
(some ((A.tup [(A.one (C.full [])), (A.one (C.d (D.v (.int .i64 (4 : Int)))))]), H)))
((hPush H ⟨[(C.full [])], true⟩).bind fun H8 =>
((hPush H8 ⟨[(C.full [])], true⟩).bind fun H9 =>
(iter (fun (x : Hp × C × C × Unit × List (List D) × Int × Int × (List ((Int × Int) × List UInt8)) × Unit) (rec : (Hp × C × C × Unit × List (List D) × Int × Int × (List ((Int × Int) × List UInt8)) × Unit) → Option (A × Hp)) => tables_Pivot_l0 Φ Ψ fuel (fun H10 keys11 names12 l13 i14 i15 m16 => rec (H10, keys11, names12, (), l13, i14, i15, m16, ())) x.1 x.2.1 x.2.2.1 x.2.2.2.2.1 x.2.2.2.2.2.1 x.2.2.2.2.2.2.1 x.2.2.2.2.2.2.2.1) fuel (H9, (C.hp H.length 0), (C.hp H8.length 0), (), t1, (((t1 : List (List D)).length : Nat) : Int), (0 : Int), [], ())))))))))))))
theorem tables_Pivot_eq (Φ : Phi) (Ψ : Psi) (fuel : Nat) (t1 : List (List D)) (H : Hp) : xbodyH TT0 Φ Ψ sel_tables_Pivot fuel sp_tables_Pivot Try.f15 [(A.one (C.d (D.sl t1)))] H = tables_Pivot Φ Ψ fuel t1 H := by kernel_rfl
/-! ref08_Pivot -/
def sp_ref08_Pivot : List LSpec := [{ n := 0, m := 116, toks := [], ks := [.slot 0 (.one .sl), .slot 5 (.one (.int .i64))] }, { n := 0, m := 116, toks := [], ks := [.slot 0 (.one .sl), .slot 5 (.one (.int .i64)), .slot 6 (.one (.int .i64))] }, { n := 2, m := 116, toks := [(33, .slot 9)], ks := [.slot 0 (.one .sl), .slot 7 (.one .sl), .slot 8 (.one .sl), .slot 9 (.one (.app 1 33)), .slot 10 (.one (.int .i64))] }, { n := 3, m := 116, toks := [(9, .slot 11)], ks := [.slot 0 (.one .sl), .slot 7 (.one .sl), .slot 8 (.one .sl), .slot 9 (.one (.app 1 33)), .slot 10 (.one (.int .i64)), .slot 11 (.one (.app 2 9)), .slot 12 (.one (.int .i64))] }]
def ref08_Pivot_l3 (Φ : Phi) (fuel : Nat) (k2 : List (List D) → List (List D) → List (List D) → List (List D) → Int → Option A) (k3 : List (List D) → List (List D) → List (List D) → List (List D) → Int → List (List D) → Int → Option A) (t61 : List (List D)) (keys62 : List (List D)) (names63 : List (List D)) (out64 : List (List D)) (i65 : Int) (row66 : List (List D)) (k67 : Int) : Option A :=
(xite (decide (k67 < ((names63).length : Int)))
((xElem 1 keys62 i65).bind fun c68 =>
(xif (decide (1 ≤ (c68).length))
((xDS (List.getD c68 0 (D.s []))).bind fun s69 =>
((xElem 1 names63 k67).bind fun c70 =>
(xif (decide (1 ≤ (c70).length))
((xDS (List.getD c70 0 (D.s []))).bind fun s71 =>
((Φ i_ref08_value [(A.one (C.d (D.sl t61))), (A.one (C.d (D.s s69))), (A.one (C.d (D.s s71)))]).bind fun r72 =>
((xAD r72).bind fun d73 =>
((xDS d73).bind fun s74 =>
((xApp 1 16 (row66.length) row66 ([[(D.s s74)]] : List (List D))).bind fun l75 =>
(xif (decide (out64.length = (out64 : List (List D)).length))
(xif (decide (l75.length = (l75 : List (List D)).length))
(k3 t61 keys62 names63 out64 i65 l75 (IntKind.i64.wrap (k67 + (1 : Int))))))))))))))))
((xApp 1 24 (out64.length) out64 ([[(D.sl row66)]] : List (List D))).bind fun l76 =>
(xif (decide (l76.length = (l76 : List (List D)).length))
(k2 t61 keys62 names63 l76 (IntKind.i64.wrap (i65 + (1 : Int)))))))
def ref08_Pivot_l2 (Φ : Phi) (fuel : Nat) (k2 : List (List D) → List (List D) → List (List D) → List (List D) → Int → Option A) (t47 : List (List D)) (keys48 : List (List D)) (names49 : List (List D)) (out50 : List (List D)) (i51 : Int) : Option A :=
(xite (decide (i51 < ((keys48).length : Int)))
((xElem 1 keys48 i51).bind fun c52 =>
(xif (decide (1 ≤ (c52).length))
((xDS (List.getD c52 0 (D.s []))).bind fun s53 =>
(xif (decide (out50.length = (out50 : List (List D)).length))
(xif (decide ((([[(D.s s53)]] : List (List D)) : List (List D)).length = (([[(D.s s53)]] : List (List D)) : List (List D)).length))
(iter (fun (x : List (List D) × List (List D) × List (List D) × List (List D) × Int × List (List D) × Int × Unit) (rec : (List (List D) × List (List D) × List (List D) × List (List D) × Int × List (List D) × Int × Unit) → Option A) => ref08_Pivot_l3 Φ fuel k2 (fun t61 keys62 names63 out64 i65 row66 k67 => rec (t61, keys62, names63, out64, i65, row66, k67, ())) x.1 x.2.1 x.2.2.1 x.2.2.2.1 x.2.2.2.2.1 x.2.2.2.2.2.1 x.2.2.2.2.2.2.1) fuel (t47, keys48, names49, out50, i51, ([[(D.s s53)]] : List (List D)), (0 : Int), ())))))))
(some (A.tup [(A.one (C.d (D.sl out50))), (A.one (C.d (D.v (.int .i64 (0 : Int)))))])))
def ref08_Pivot_l1 (Φ : Phi) (fuel : Nat) (k0 : List (List D) → Int → Option A) (k1 : List (List D) → Int → Int → Option A) (t10 : List (List D)) (i11 : Int) (k12 : Int) : Option A :=
(xite (decide (k12 < i11))
((xElem 1 t10 i11).bind fun c13 =>
(xif (decide (1 ≤ (c13).length))
((xDL (List.getD c13 0 (D.s []))).bind fun l14 =>
((xElem 1 l14 (0 : Int)).bind fun c15 =>
(xif (decide (1 ≤ (c15).length))
((xDS (List.getD c15 0 (D.s []))).bind fun s16 =>
((xElem 1 t10 k12).bind fun c17 =>
(xif (decide (1 ≤ (c17).length))
((xDL (List.getD c17 0 (D.s []))).bind fun l18 =>
((xElem 1 l18 (0 : Int)).bind fun c19 =>
(xif (decide (1 ≤ (c19).length))
((xDS (List.getD c19 0 (D.s []))).bind fun s20 =>
(xite (decide ((s16 : List UInt8) = s20))
((xElem 1 t10 i11).bind fun c21 =>
(xif (decide (1 ≤ (c21).length))
((xDL (List.getD c21 0 (D.s []))).bind fun l22 =>
((xElem 1 l22 (1 : Int)).bind fun c23 =>
(xif (decide (1 ≤ (c23).length))
((xDS (List.getD c23 0 (D.s []))).bind fun s24 =>
((xElem 1 t10 k12).bind fun c25 =>
(xif (decide (1 ≤ (c25).length))
((xDL (List.getD c25 0 (D.s []))).bind fun l26 =>
((xElem 1 l26 (1 : Int)).bind fun c27 =>
(xif (decide (1 ≤ (c27).length))
((xDS (List.getD c27 0 (D.s []))).bind fun s28 =>
(xite (decide ((s24 : List UInt8) = s28))
(some (A.tup [(A.one (C.d (D.sl []))), (A.one (C.d (D.v (.int .i64 (6 : Int)))))]))
(k1 t10 i11 (IntKind.i64.wrap (k12 + (1 : Int)))))))))))))))))
(k1 t10 i11 (IntKind.i64.wrap (k12 + (1 : Int)))))))))))))))))
(k0 t10 (IntKind.i64.wrap (i11 + (1 : Int)))))
def ref08_Pivot_l0 (Φ : Phi) (fuel : Nat) (k0 : List (List D) → Int → Option A) (t8 : List (List D)) (i9 : Int) : Option A :=
(xite (decide (i9 < ((t8).length : Int)))
(iter (fun (x : List (List D) × Int × Int × Unit) (rec : (List (List D) × Int × Int × Unit) → Option A) => ref08_Pivot_l1 Φ fuel k0 (fun t10 i11 k12 => rec (t10, i11, k12, ())) x.1 x.2.1 x.2.2.1) fuel (t8, i9, (0 : Int), ()))
((Φ i_ref08_column [(A.one (C.d (D.sl t8))), (A.one (C.d (D.v (.int .i64 (0 : Int)))))]).bind fun r29 =>
((xAD r29).bind fun d30 =>
((xDL d30).bind fun l31 =>
((Φ i_ref08_distinct [(A.one (C.d (D.sl l31)))]).bind fun r32 =>
((xAD r32).bind fun d33 =>
((xDL d33).bind fun l34 =>
((Φ i_ref08_column [(A.one (C.d (D.sl t8))), (A.one (C.d (D.v (.int .i64 (1 : Int)))))]).bind fun r35 =>
((xAD r35).bind fun d36 =>
((xDL d36).bind fun l37 =>
((Φ i_ref08_distinct [(A.one (C.d (D.sl l37)))]).bind fun r38 =>
((xAD r38).bind fun d39 =>
((xDL d39).bind fun l40 =>
(xite (decide ((8 : Int) ≤ ((l34).length : Int)))
(some (A.tup [(A.one (C.d (D.sl []))), (A.one (C.d (D.v (.int .i64 (2 : Int)))))]))
(xite (decide ((8 : Int) ≤ ((l40).length : Int)))
(some (A.tup [(A.one (C.d (D.sl []))), (A.one (C.d (D.v (.int .i64 (2 : Int)))))]))
((xApp 1 16 ((([[(D.s [])]] : List (List D)) : List (List D)).length) ([[(D.s [])]] : List (List D)) l40).bind fun l41 =>
(xif (decide ((([[(D.sl l41)]] : List (List D)) : List (List D)).length = (([[(D.sl l41)]] : List (List D)) : List (List D)).length))
(iter (fun (x : List (List D) × List (List D) × List (List D) × List (List D) × Int × Unit) (rec : (List (List D) × List (List D) × List (List D) × List (List D) × Int × Unit) → Option A) => ref08_Pivot_l2 Φ fuel (fun t47 keys48 names49 out50 i51 => rec (t47, keys48, names49, out50, i51, ())) x.1 x.2.1 x.2.2.1 x.2.2.2.1 x.2.2.2.2.1) fuel (t8, l34, l40, ([[(D.sl l41)]] : List (List D)), (0 : Int), ())))))))))))))))))))
def ref08_Pivot (Φ : Phi) (fuel : Nat) (t1 : List (List D)) : Option A :=
((Φ i_ref08_Check [(A.one (C.d (D.sl t1)))]).bind fun r2 =>
((xAD r2).bind fun d3 =>
((xDI .i64 d3).bind fun n4 =>
(xite (!decide (n4 = (0 : Int)))
(some (A.tup [(A.one (C.d (D.sl []))), (A.one (C.d (D.v (.int .i64 n4))))]))
(xite (decide (((t1).length : Int) = (0 : Int)))
(some (A.tup [(A.one (C.d (D.sl []))), (A.one (C.d (D.v (.int .i64 (7 : Int)))))]))
((Φ i_ref08_Columns [(A.one (C.d (D.sl t1)))]).bind fun r5 =>
((xAD r5).bind fun d6 =>
((xDI .i64 d6).bind fun n7 =>
(xite (!decide (n7 = (3 : Int)))
(some (A.tup [(A.one (C.d (D.sl []))), (A.one (C.d (D.v (.int .i64 (4 : Int)))))]))
(iter (fun (x : List (List D) × Int × Unit) (rec : (List (List D) × Int × Unit) → Option A) => ref08_Pivot_l0 Φ fuel (fun t8 i9 => rec (t8, i9, ())) x.1 x.2.1) fuel (t1, (0 : Int), ())))))))))))
theorem ref08_Pivot_eq (Φ : Phi) (fuel : Nat) (t1 : List (List D)) : xbody TT0 Φ fuel sp_ref08_Pivot Try.f16 [(A.one (C.d (D.sl t1)))] = ref08_Pivot Φ fuel t1 := by kernel_rfl
/-! ref08_Same -/
def sp_ref08_Same : List LSpec := [{ n := 0, m := 27, toks := [], ks := [.slot 0 (.one .sl), .slot 1 (.one .sl), .slot 5 (.one (.int .i64))] }]
def ref08_Same_l0 (Φ : Phi) (fuel : Nat) (k0 : List (List D) → List (List D) → Int → Option A) (a3 : List (List D)) (b4 : List (List D)) (i5 : Int) : Option A :=
(xite (decide (i5 < ((a3).length : Int)))
((xElem 1 a3 i5).bind fun c6 =>
(xif (decide (1 ≤ (c6).length))
((xDL (List.getD c6 0 (D.s []))).bind fun l7 =>
((xElem 1 b4 i5).bind fun c8 =>
(xif (decide (1 ≤ (c8).length))
((xDL (List.getD c8 0 (D.s []))).bind fun l9 =>
((Φ i_ref08_Texts [(A.one (C.d (D.sl l7))), (A.one (C.d (D.sl l9)))]).bind fun r10 =>
((xAD r10).bind fun d11 =>
((xDB d11).bind fun b12 =>
(xite (!b12)
(some (A.one (C.d (D.v (.bool false)))))
(k0 a3 b4 (IntKind.i64.wrap (i5 + (1 : Int))))))))))))))
(some (A.one (C.d (D.v (.bool true))))))
def ref08_Same (Φ : Phi) (fuel : Nat) (a1 : List (List D)) (b2 : List (List D)) : Option A :=
(xite (!decide (((a1).length : Int) = ((b2).length : Int)))
(some (A.one (C.d (D.v (.bool false)))))
(iter (fun (x : List (List D) × List (List D) × Int × Unit) (rec : (List (List D) × List (List D) × Int × Unit) → Option A) => ref08_Same_l0 Φ fuel (fun a3 b4 i5 => rec (a3, b4, i5, ())) x.1 x.2.1 x.2.2.1) fuel (a1, b2, (0 : Int), ())))
theorem ref08_Same_eq (Φ : Phi) (fuel : Nat) (a1 : List (List D)) (b2 : List (List D)) : xbody TT0 Φ fuel sp_ref08_Same Try.f17 [(A.one (C.d (D.sl a1))), (A.one (C.d (D.sl b2)))] = ref08_Same Φ fuel a1 b2 := by kernel_rfl
/-! tables_Split -/
def sp_tables_Split : List LSpec := [{ n := 0, m := 63, toks := [], ks := [.hp, .slot 1 (.one (.int .i64)), .slot 2 (.one .str), .slot 9 (.one .rc), .slot 33 (.one .rc), .slot 34 (.one (.int .i64)), .slot 35 (.one (.int .i64))] }]
noncomputable def tables_Split_l0 (Φ : Phi) (Ψ : Psi) (fuel : Nat) (k0 : Hp → Int → List UInt8 → C → C → Int → Int → Option (A × Hp)) (H19 : Hp) (column20 : Int) (by21 : List UInt8) (out22 : C) (c23 : C) (i24 : Int) (i25 : Int) : Option (A × Hp) :=
(xite (decide (i25 < i24))
((hAddr c23 i25).bind fun p26 =>
((hLoad H19 p26).bind fun c27 =>
((hAddr c27 column20).bind fun p28 =>
((hLoad H19 p28).bind fun c29 =>
((xS (A.one c29)).bind fun s30 =>
((Φ i_strings_Cut [(A.one (C.d (D.s s30))), (A.one (C.d (D.s by21)))]).bind fun r31 =>
((xtup r31 0).bind fun r32 =>
((xAD r32).bind fun d33 =>
((xDS d33).bind fun s34 =>
((xtup r31 1).bind fun r35 =>
((xAD r35).bind fun d36 =>
((xDS d36).bind fun s37 =>
((xtup r31 2).bind fun r38 =>
((xAD r38).bind fun d39 =>
((xDB d39).bind fun b40 =>
(xif (C.hok c27)
((Ψ i_slices_Replace_string_string [(A.one c27), (A.one (C.d (D.v (.int .i64 column20)))), (A.one (C.d (D.v (.int .i64 (IntKind.i64.wrap (column20 + (1 : Int))))))), (A.one (C.full ([[(D.s s34)], [(D.s s37)]] : List (List D))))] H19).bind fun q41 =>
((xone q41.1).bind fun c42 =>
((hAddr out22 i25).bind fun p43 =>
((hStore q41.2 p43 c42).bind fun H44 =>
(xif (C.hok out22)
(xif (C.hok c23)
(k0 H44 column20 by21 out22 c23 i24 (IntKind.i64.wrap (i25 + (1 : Int))))))))))))))))))))))))))
(xif (xokR (A.tup [(A.one out22), (A.one (C.d (D.v (.int .i64 (0 : Int)))))]))
(some ((A.tup [(A.one out22), (A.one (C.d (D.v (.int .i64 (0 : Int)))))]), H19))))
noncomputable def tables_Split (Φ : Phi) (Ψ : Psi) (fuel : Nat) (t1 : List (List D)) (column2 : Int) (by3 : List UInt8) (H : Hp) : Option (A × Hp) :=
((Φ i_tables_Check [(A.one (C.d (D.sl t1)))]).bind fun r4 =>
((xAD r4).bind fun d5 =>
((xDI .i64 d5).bind fun n6 =>
(xite (!decide (n6 = (0 : Int)))
(xif (xokR (A.tup [(A.one (C.full [])), (A.one (C.d (D.v (.int .i64 n6))))]))
(some ((A.tup [(A.one (C.full [])), (A.one (C.d (D.v (.int .i64 n6))))]), H)))
((Φ i_tables_columns [(A.one (C.d (D.sl t1)))]).bind fun r7 =>
((xAD r7).bind fun d8 =>
((xDI .i64 d8).bind fun n9 =>
((Φ i_tables_place [(A.one (C.d (D.v (.int .i64 column2)))), (A.one (C.d (D.v (.int .i64 n9))))]).bind fun r10 =>
((xAD r10).bind fun d11 =>
((xDI .i64 d11).bind fun n12 =>
(xite (decide (n12 < (0 : Int)))
(xif (xokR (A.tup [(A.one (C.full [])), (A.one (C.d (D.v (.int .i64 (7 : Int)))))]))
(some ((A.tup [(A.one (C.full [])), (A.one (C.d (D.v (.int .i64 (7 : Int)))))]), H)))
(xite (decide ((by3 : List UInt8) = []))
(xif (xokR (A.tup [(A.one (C.full [])), (A.one (C.d (D.v (.int .i64 (4 : Int)))))]))
(some ((A.tup [(A.one (C.full [])), (A.one (C.d (D.v (.int .i64 (4 : Int)))))]), H)))
((Φ i_tables_columns [(A.one (C.d (D.sl t1)))]).bind fun r13 =>
((xAD r13).bind fun d14 =>
((xDI .i64 d14).bind fun n15 =>
(xite (decide (n15 = (8 : Int)))
(xif (xokR (A.tup [(A.one (C.full [])), (A.one (C.d (D.v (.int .i64 (2 : Int)))))]))
(some ((A.tup [(A.one (C.full [])), (A.one (C.d (D.v (.int .i64 (2 : Int)))))]), H)))
((Ψ i_tables_clone [(A.one (C.d (D.sl t1)))] H).bind fun q16 =>
((xone q16.1).bind fun c17 =>
((hLen c17).bind fun n18 =>
(xif (C.hok c17)
(xif (C.hok c17)
(iter (fun (x : Hp × Int × List UInt8 × C × C × Int × Int × Unit) (rec : (Hp × Int × List UInt8 × C × C × Int × Int × Unit) → Option (A × Hp)) => tables_Split_l0 Φ Ψ fuel (fun H19 column20 by21 out22 c23 i24 i25 => rec (H19, column20, by21, out22, c23, i24, i25, ())) x.1 x.2.1 x.2.2.1 x.2.2.2.1 x.2.2.2.2.1 x.2.2.2.2.2.1 x.2.2.2.2.2.2.1) fuel (q16.2, n12, by3, c17, c17, ((n18 : Nat) : Int), (0 : Int), ())))))))))))))))))))))))
theorem tables_Split_eq (Φ : Phi) (Ψ : Psi) (fuel : Nat) (t1 : List (List D)) (column2 : Int) (by3 : List UInt8) (H : Hp) : xbodyH TT0 Φ Ψ sel_tables_Split fuel sp_tables_Split Try.f18 [(A.one (C.d (D.sl t1))), (A.one (C.d (D.v (.int .i64 column2)))), (A.one (C.d (D.s by3)))] H = tables_Split Φ Ψ fuel t1 column2 by3 H := by kernel_rfl
/-! ref08_Split -/
def sp_ref08_Split : List LSpec := [{ n := 0, m := 71, toks := [], ks := [.hp, .slot 0 (.one .sl), .slot 2 (.one .str), .slot 9 (.one (.int .i64)), .slot 10 (.one .rc), .slot 11 (.one (.int .i64))] }]
noncomputable def ref08_Split_l0 (Φ : Phi) (Ψ : Psi) (fuel : Nat) (k0 : Hp → List (List D) → List UInt8 → Int → C → Int → Option (A × Hp)) (H22 : Hp) (t23 : List (List D)) (by24 : List UInt8) (k25 : Int) (out26 : C) (i27 : Int) : Option (A × Hp) :=
(xite (decide (i27 < (((t23 : List (List D)).length : Nat) : Int)))
((hAddr (C.d (D.sl t23)) i27).bind fun p28 =>
((hLoad H22 p28).bind fun c29 =>
((hAddr c29 k25).bind fun p30 =>
((hLoad H22 p30).bind fun c31 =>
((xS (A.one c31)).bind fun s32 =>
((Φ i_ref08_cut [(A.one (C.d (D.s s32))), (A.one (C.d (D.s by24)))]).bind fun r33 =>
((xtup r33 0).bind fun r34 =>
((xAD r34).bind fun d35 =>
((xDS d35).bind fun s36 =>
((xtup r33 1).bind fun r37 =>
((xAD r37).bind fun d38 =>
((xDS d38).bind fun s39 =>
((hAddr (C.d (D.sl t23)) i27).bind fun p40 =>
((hLoad [] p40).bind fun c41 =>
((hLen c41).bind fun n42 =>
((hSub c41 (0 : Int) k25).bind fun c43 =>
((hAddr (C.d (D.sl t23)) i27).bind fun p44 =>
((hLoad [] p44).bind fun c45 =>
((hLen c45).bind fun n46 =>
((hSub c45 (IntKind.i64.wrap (k25 + (1 : Int))) ((n46 : Nat) : Int)).bind fun c47 =>
(xif (C.hok c43)
((Ψ i_ref08_list [(A.one c43)] H22).bind fun q48 =>
((xone q48.1).bind fun c49 =>
((hLen c49).bind fun n50 =>
((hCells q48.2 (C.full ([[(D.s s36)], [(D.s s39)]] : List (List D)))).bind fun ys51 =>
(xif (decide ((n50 + ys51.length) * 16 ≤ 140737488355328))
((hApp q48.2 c49 ys51).bind fun q52 =>
((hLen q52.1).bind fun n53 =>
((hCells q52.2 c47).bind fun ys54 =>
(xif (decide ((n53 + ys54.length) * 16 ≤ 140737488355328))
((hApp q52.2 q52.1 ys54).bind fun q55 =>
((oneCs [(A.one q55.1)]).bind fun cs56 =>
((hPush q55.2 ⟨cs56, true⟩).bind fun H57 =>
((hLen out26).bind fun n58 =>
((hCells H57 (C.hs q55.2.length 0 1)).bind fun ys59 =>
(xif (decide ((n58 + ys59.length) * 24 ≤ 140737488355328))
((hApp H57 out26 ys59).bind fun q60 =>
(xif (C.hok q60.1)
(k0 q60.2 t23 by24 k25 q60.1 (IntKind.i64.wrap (i27 + (1 : Int))))))))))))))))))))))))))))))))))))))))))
(xif (xokR (A.tup [(A.one out26), (A.one (C.d (D.v (.int .i64 (0 : Int)))))]))
(some ((A.tup [(A.one out26), (A.one (C.d (D.v (.int .i64 (0 : Int)))))]), H22))))
noncomputable def ref08_Split (Φ : Phi) (Ψ : Psi) (fuel : Nat) (t1 : List (List D)) (column2 : Int) (by3 : List UInt8) (H : Hp) : Option (A × Hp) :=
((Φ i_ref08_Check [(A.one (C.d (D.sl t1)))]).bind fun r4 =>
((xAD r4).bind fun d5 =>
((xDI .i64 d5).bind fun n6 =>
(xite (!decide (n6 = (0 : Int)))
(xif (xokR (A.tup [(A.one (C.full [])), (A.one (C.d (D.v (.int .i64 n6))))]))
(some ((A.tup [(A.one (C.full [])), (A.one (C.d (D.v (.int .i64 n6))))]), H)))
((Φ i_ref08_Columns [(A.one (C.d (D.sl t1)))]).bind fun r7 =>
((xAD r7).bind fun d8 =>
((xDI .i64 d8).bind fun n9 =>
((Φ i_ref08_index [(A.one (C.d (D.v (.int .i64 column2)))), (A.one (C.d (D.v (.int .i64 n9))))]).bind fun r10 =>
((xAD r10).bind fun d11 =>
((xDI .i64 d11).bind fun n12 =>
(xite (decide (n12 < (0 : Int)))
(xif (xokR (A.tup [(A.one (C.full [])), (A.one (C.d (D.v (.int .i64 (7 : Int)))))]))
(some ((A.tup [(A.one (C.full [])), (A.one (C.d (D.v (.int .i64 (7 : Int)))))]), H)))
(xite (decide ((by3 : List UInt8) = []))
(xif (xokR (A.tup [(A.one (C.full [])), (A.one (C.d (D.v (.int .i64 (4 : Int)))))]))
(some ((A.tup [(A.one (C.full [])), (A.one (C.d (D.v (.int .i64 (4 : Int)))))]), H)))
((Φ i_ref08_Columns [(A.one (C.d (D.sl t1)))]).bind fun r13 =>
((xAD r13).bind fun d14 =>
((xDI .i64 d14).bind fun n15 =>
(xite (decide (n15 = (8 : Int)))
(xif (xokR (A.tup [(A.one (C.full [])), (A.one (C.d (D.v (.int .i64 (2 : Int)))))]))
(some ((A.tup [(A.one (C.full [])), (A.one (C.d (D.v (.int .i64 (2 : Int)))))]), H)))
(iter (fun (x : Hp × List (List D) × List UInt8 × Int × C × Int × Unit) (rec : (Hp × List (List D) × List UInt8 × Int × C × Int × Unit) → Option (A × Hp)) => ref08_Split_l0 Φ Ψ fuel (fun H22 t23 by24 k25 out26 i27 => rec (H22, t23, by24, k25, out26, i27, ())) x.1 x.2.1 x.2.2.1 x.2.2.2.1 x.2.2.2.2.1 x.2.2.2.2.2.1) fuel (H, t1, by3, n12, (C.full []), (0 : Int), ()))))))))))))))))))
theorem ref08_Split_eq (Φ : Phi) (Ψ : Psi) (fuel : Nat) (t1 : List (List D)) (column2 : Int) (by3 : List UInt8) (H : Hp) : xbodyH TT0 Φ Ψ sel_ref08_Split fuel sp_ref08_Split Try.f19 [(A.one (C.d (D.sl t1))), (A.one (C.d (D.v (.int .i64 column2)))), (A.one (C.d (D.s by3)))] H = ref08_Split Φ Ψ fuel t1 column2 by3 H := by kernel_rfl
/-! tables_Row -/
def sp_tables_Row : List LSpec := []
def tables_Row (Φ : Phi) (fuel : Nat) (t1 : List (List D)) (i2 : Int) : Option A :=
((Φ i_tables_Check [(A.one (C.d (D.sl t1)))]).bind fun r3 =>
((xAD r3).bind fun d4 =>
((xDI .i64 d4).bind fun n5 =>
(xite (!decide (n5 = (0 : Int)))
(some (A.tup [(A.one (C.d (D.sl []))), (A.one (C.d (D.v (.int .i64 n5))))]))
((Φ i_tables_place [(A.one (C.d (D.v (.int .i64 i2)))), (A.one (C.d (D.v (.int .i64 ((t1).length : Int)))))]).bind fun r6 =>
((xAD r6).bind fun d7 =>
((xDI .i64 d7).bind fun n8 =>
(xite (decide (n8 < (0 : Int)))
(some (A.tup [(A.one (C.d (D.sl []))), (A.one (C.d (D.v (.int .i64 (7 : Int)))))]))
((xElem 1 t1 n8).bind fun c9 =>
(xif (decide (1 ≤ (c9).length))
((xDL (List.getD c9 0 (D.s []))).bind fun l10 =>
((Φ i_slices_Clone_string_string [(A.one (C.d (D.sl l10)))]).bind fun r11 =>
((xAD r11).bind fun d12 =>
((xDL d12).bind fun l13 =>
(some (A.tup [(A.one (C.d (D.sl l13))), (A.one (C.d (D.v (.int .i64 (0 : Int)))))]))))))))))))))))
theorem tables_Row_eq (Φ : Phi) (fuel : Nat) (t1 : List (List D)) (i2 : Int) : xbody TT0 Φ fuel sp_tables_Row Try.f20 [(A.one (C.d (D.sl t1))), (A.one (C.d (D.v (.int .i64 i2))))] = tables_Row Φ fuel t1 i2 := by kernel_rfl
/-! ref08_Row -/
def sp_ref08_Row : List LSpec := []
def ref08_Row (Φ : Phi) (fuel : Nat) (t1 : List (List D)) (i2 : Int) : Option A :=
((Φ i_ref08_Check [(A.one (C.d (D.sl t1)))]).bind fun r3 =>
((xAD r3).bind fun d4 =>
((xDI .i64 d4).bind fun n5 =>
(xite (!decide (n5 = (0 : Int)))
(some (A.tup [(A.one (C.d (D.sl []))), (A.one (C.d (D.v (.int .i64 n5))))]))
((Φ i_ref08_index [(A.one (C.d (D.v (.int .i64 i2)))), (A.one (C.d (D.v (.int .i64 ((t1).length : Int)))))]).bind fun r6 =>
((xAD r6).bind fun d7 =>
((xDI .i64 d7).bind fun n8 =>
(xite (decide (n8 < (0 : Int)))
(some (A.tup [(A.one (C.d (D.sl []))), (A.one (C.d (D.v (.int .i64 (7 : Int)))))]))
((Φ i_ref08_index [(A.one (C.d (D.v (.int .i64 i2)))), (A.one (C.d (D.v (.int .i64 ((t1).length : Int)))))]).bind fun r9 =>
((xAD r9).bind fun d10 =>
((xDI .i64 d10).bind fun n11 =>
((xElem 1 t1 n11).bind fun c12 =>
(xif (decide (1 ≤ (c12).length))
((xDL (List.getD c12 0 (D.s []))).bind fun l13 =>
((Φ i_ref08_list [(A.one (C.d (D.sl l13)))]).bind fun r14 =>
((xAD r14).bind fun d15 =>
((xDL d15).bind fun l16 =>
(some (A.tup [(A.one (C.d (D.sl l16))), (A.one (C.d (D.v (.int .i64 (0 : Int)))))])))))))))))))))))))
theorem ref08_Row_eq (Φ : Phi) (fuel : Nat) (t1 : List (List D)) (i2 : Int) : xbody TT0 Φ fuel sp_ref08_Row Try.f21 [(A.one (C.d (D.sl t1))), (A.one (C.d (D.v (.int .i64 i2))))] = ref08_Row Φ fuel t1 i2 := by kernel_rfl
/-! tables_Column -/
def sp_tables_Column : List LSpec := [{ n := 1, m := 36, toks := [(9, .slot 7)], ks := [.slot 1 (.one (.int .i64)), .slot 7 (.one (.app 0 9)), .slot 21 (.one .sl), .slot 22 (.one (.int .i64)), .slot 23 (.one (.int .i64))] }]
def tables_Column_l0 (Φ : Phi) (fuel : Nat) (k0 : Int → List (List D) → List (List D) → Int → Int → Option A) (i17 : Int) (out18 : List (List D)) (l19 : List (List D)) (i20 : Int) (i21 : Int) : Option A :=
(xite (decide (i21 < i20))
((xElem 1 l19 i21).bind fun c22 =>
(xif (decide (1 ≤ (c22).length))
((xDL (List.getD c22 0 (D.s []))).bind fun l23 =>
((xElem 1 l23 i17).bind fun c24 =>
(xif (decide (1 ≤ (c24).length))
((xDS (List.getD c24 0 (D.s []))).bind fun s25 =>
((xApp 1 16 (out18.length) out18 ([[(D.s s25)]] : List (List D))).bind fun l26 =>
(xif (decide (l26.length = (l26 : List (List D)).length))
(k0 i17 l26 l19 i20 (IntKind.i64.wrap (i21 + (1 : Int))))))))))))
(some (A.tup [(A.one (C.d (D.sl out18))), (A.one (C.d (D.v (.int .i64 (0 : Int)))))])))
def tables_Column (Φ : Phi) (fuel : Nat) (t1 : List (List D)) (i2 : Int) : Option A :=
((Φ i_tables_Check [(A.one (C.d (D.sl t1)))]).bind fun r3 =>
((xAD r3).bind fun d4 =>
((xDI .i64 d4).bind fun n5 =>
(xite (!decide (n5 = (0 : Int)))
(some (A.tup [(A.one (C.d (D.sl []))), (A.one (C.d (D.v (.int .i64 n5))))]))
((Φ i_tables_columns [(A.one (C.d (D.sl t1)))]).bind fun r6 =>
((xAD r6).bind fun d7 =>
((xDI .i64 d7).bind fun n8 =>
((Φ i_tables_place [(A.one (C.d (D.v (.int .i64 i2)))), (A.one (C.d (D.v (.int .i64 n8))))]).bind fun r9 =>
((xAD r9).bind fun d10 =>
((xDI .i64 d10).bind fun n11 =>
(xite (decide (n11 < (0 : Int)))
(some (A.tup [(A.one (C.d (D.sl []))), (A.one (C.d (D.v (.int .i64 (7 : Int)))))]))
(xif (decide (([] : List (List D)).length = ([] : List (List D)).length))
(iter (fun (x : Int × List (List D) × List (List D) × Int × Int × Unit) (rec : (Int × List (List D) × List (List D) × Int × Int × Unit) → Option A) => tables_Column_l0 Φ fuel (fun i17 out18 l19 i20 i21 => rec (i17, out18, l19, i20, i21, ())) x.1 x.2.1 x.2.2.1 x.2.2.2.1 x.2.2.2.2.1) fuel (n11, [], t1, ((t1).length : Int), (0 : Int), ()))))))))))))))
theorem tables_Column_eq (Φ : Phi) (fuel : Nat) (t1 : List (List D)) (i2 : Int) : xbody TT0 Φ fuel sp_tables_Column Try.f22 [(A.one (C.d (D.sl t1))), (A.one (C.d (D.v (.int .i64 i2))))] = tables_Column Φ fuel t1 i2 := by kernel_rfl
/-! ref08_Column -/
def sp_ref08_Column : List LSpec := []
def ref08_Column (Φ : Phi) (fuel : Nat) (t1 : List (List D)) (i2 : Int) : Option A :=
((Φ i_ref08_Check [(A.one (C.d (D.sl t1)))]).bind fun r3 =>
((xAD r3).bind fun d4 =>
((xDI .i64 d4).bind fun n5 =>
(xite (!decide (n5 = (0 : Int)))
(some (A.tup [(A.one (C.d (D.sl []))), (A.one (C.d (D.v (.int .i64 n5))))]))
((Φ i_ref08_Columns [(A.one (C.d (D.sl t1)))]).bind fun r6 =>
((xAD r6).bind fun d7 =>
((xDI .i64 d7).bind fun n8 =>
((Φ i_ref08_index [(A.one (C.d (D.v (.int .i64 i2)))), (A.one (C.d (D.v (.int .i64 n8))))]).bind fun r9 =>
((xAD r9).bind fun d10 =>
((xDI .i64 d10).bind fun n11 =>
(xite (decide (n11 < (0 : Int)))
(some (A.tup [(A.one (C.d (D.sl []))), (A.one (C.d (D.v (.int .i64 (7 : Int)))))]))
((Φ i_ref08_column [(A.one (C.d (D.sl t1))), (A.one (C.d (D.v (.int .i64 n11))))]).bind fun r12 =>
((xAD r12).bind fun d13 =>
((xDL d13).bind fun l14 =>
(some (A.tup [(A.one (C.d (D.sl l14))), (A.one (C.d (D.v (.int .i64 (0 : Int)))))]))))))))))))))))
theorem ref08_Column_eq (Φ : Phi) (fuel : Nat) (t1 : List (List D)) (i2 : Int) : xbody TT0 Φ fuel sp_ref08_Column Try.f23 [(A.one (C.d (D.sl t1))), (A.one (C.d (D.v (.int .i64 i2))))] = ref08_Column Φ fuel t1 i2 := by kernel_rfl
/-! tables_Cell -/
def sp_tables_Cell : List LSpec := []
def tables_Cell (Φ : Phi) (fuel : Nat) (t1 : List (List D)) (i2 : Int) (k3 : Int) : Option A :=
((Φ i_tables_Check [(A.one (C.d (D.sl t1)))]).bind fun r4 =>
((xAD r4).bind fun d5 =>
((xDI .i64 d5).bind fun n6 =>
(xite (!decide (n6 = (0 : Int)))
(some (A.tup [(A.one (C.d (D.s []))), (A.one (C.d (D.v (.int .i64 n6))))]))
((Φ i_tables_place [(A.one (C.d (D.v (.int .i64 i2)))), (A.one (C.d (D.v (.int .i64 ((t1).length : Int)))))]).bind fun r7 =>
((xAD r7).bind fun d8 =>
((xDI .i64 d8).bind fun n9 =>
((Φ i_tables_columns [(A.one (C.d (D.sl t1)))]).bind fun r10 =>
((xAD r10).bind fun d11 =>
((xDI .i64 d11).bind fun n12 =>
((Φ i_tables_place [(A.one (C.d (D.v (.int .i64 k3)))), (A.one (C.d (D.v (.int .i64 n12))))]).bind fun r13 =>
((xAD r13).bind fun d14 =>
((xDI .i64 d14).bind fun n15 =>
(xite (decide (n9 < (0 : Int)))
(some (A.tup [(A.one (C.d (D.s []))), (A.one (C.d (D.v (.int .i64 (7 : Int)))))]))
(xite (decide (n15 < (0 : Int)))
(some (A.tup [(A.one (C.d (D.s []))), (A.one (C.d (D.v (.int .i64 (7 : Int)))))]))
((xElem 1 t1 n9).bind fun c16 =>
(xif (decide (1 ≤ (c16).length))
((xDL (List.getD c16 0 (D.s []))).bind fun l17 =>
((xElem 1 l17 n15).bind fun c18 =>
(xif (decide (1 ≤ (c18).length))
((xDS (List.getD c18 0 (D.s []))).bind fun s19 =>
(some (A.tup [(A.one (C.d (D.s s19))), (A.one (C.d (D.v (.int .i64 (0 : Int)))))])))))))))))))))))))))))
theorem tables_Cell_eq (Φ : Phi) (fuel : Nat) (t1 : List (List D)) (i2 : Int) (k3 : Int) : xbody TT0 Φ fuel sp_tables_Cell Try.f24 [(A.one (C.d (D.sl t1))), (A.one (C.d (D.v (.int .i64 i2)))), (A.one (C.d (D.v (.int .i64 k3))))] = tables_Cell Φ fuel t1 i2 k3 := by kernel_rfl
/-! ref08_Cell -/
def sp_ref08_Cell : List LSpec := []
def ref08_Cell (Φ : Phi) (fuel : Nat) (t1 : List (List D)) (i2 : Int) (k3 : Int) : Option A :=
((Φ i_ref08_Row [(A.one (C.d (D.sl t1))), (A.one (C.d (D.v (.int .i64 i2))))]).bind fun r4 =>
((xtup r4 0).bind fun r5 =>
((xAD r5).bind fun d6 =>
((xDL d6).bind fun l7 =>
((xtup r4 1).bind fun r8 =>
((xAD r8).bind fun d9 =>
((xDI .i64 d9).bind fun n10 =>
(xite (!decide (n10 = (0 : Int)))
(some (A.tup [(A.one (C.d (D.s []))), (A.one (C.d (D.v (.int .i64 n10))))]))
((Φ i_ref08_index [(A.one (C.d (D.v (.int .i64 k3)))), (A.one (C.d (D.v (.int .i64 ((l7).length : Int)))))]).bind fun r11 =>
((xAD r11).bind fun d12 =>
((xDI .i64 d12).bind fun n13 =>
(xite (decide (n13 < (0 : Int)))
(some (A.tup [(A.one (C.d (D.s []))), (A.one (C.d (D.v (.int .i64 (7 : Int)))))]))
((Φ i_ref08_index [(A.one (C.d (D.v (.int .i64 k3)))), (A.one (C.d (D.v (.int .i64 ((l7).length : Int)))))]).bind fun r14 =>
((xAD r14).bind fun d15 =>
((xDI .i64 d15).bind fun n16 =>
((xElem 1 l7 n16).bind fun c17 =>
(xif (decide (1 ≤ (c17).length))
((xDS (List.getD c17 0 (D.s []))).bind fun s18 =>
(some (A.tup [(A.one (C.d (D.s s18))), (A.one (C.d (D.v (.int .i64 (0 : Int)))))]))))))))))))))))))))
theorem ref08_Cell_eq (Φ : Phi) (fuel : Nat) (t1 : List (List D)) (i2 : Int) (k3 : Int) : xbody TT0 Φ fuel sp_ref08_Cell Try.f25 [(A.one (C.d (D.sl t1))), (A.one (C.d (D.v (.int .i64 i2)))), (A.one (C.d (D.v (.int .i64 k3))))] = ref08_Cell Φ fuel t1 i2 k3 := by kernel_rfl
end Go.Av

set_option linter.unusedVariables false
set_option maxRecDepth 100000
namespace Go.Av
open Go.Proofs
/-! ref08_Texts -/
def sp_ref08_Texts : List LSpec := [{ n := 0, m := 26, toks := [], ks := [.slot 0 (.one .sl), .slot 1 (.one .sl), .slot 5 (.one (.int .i64))] }]
def ref08_Texts_l0 (Φ : Phi) (fuel : Nat) (k0 : List (List D) → List (List D) → Int → Option A) (a3 : List (List D)) (b4 : List (List D)) (i5 : Int) : Option A :=
(xite (decide (i5 < ((a3).length : Int)))
((xElem 1 a3 i5).bind fun c6 =>
(xif (decide (1 ≤ (c6).length))
((xDS (List.getD c6 0 (D.s []))).bind fun s7 =>
((xElem 1 b4 i5).bind fun c8 =>
(xif (decide (1 ≤ (c8).length))
((xDS (List.getD c8 0 (D.s []))).bind fun s9 =>
(xite (!decide ((s7 : List UInt8) = s9))
(some (A.one (C.d (D.v (.bool false)))))
(k0 a3 b4 (IntKind.i64.wrap (i5 + (1 : Int)))))))))))
(some (A.one (C.d (D.v (.bool true))))))
def ref08_Texts (Φ : Phi) (fuel : Nat) (a1 : List (List D)) (b2 : List (List D)) : Option A :=
(xite (!decide (((a1).length : Int) = ((b2).length : Int)))
(some (A.one (C.d (D.v (.bool false)))))
(iter (fun (x : List (List D) × List (List D) × Int × Unit) (rec : (List (List D) × List (List D) × Int × Unit) → Option A) => ref08_Texts_l0 Φ fuel (fun a3 b4 i5 => rec (a3, b4, i5, ())) x.1 x.2.1 x.2.2.1) fuel (a1, b2, (0 : Int), ())))
theorem ref08_Texts_eq (Φ : Phi) (fuel : Nat) (a1 : List (List D)) (b2 : List (List D)) : xbody TT0 Φ fuel sp_ref08_Texts Try.f26 [(A.one (C.d (D.sl a1))), (A.one (C.d (D.sl b2)))] = ref08_Texts Φ fuel a1 b2 := by kernel_rfl
/-! tables_Check -/
def sp_tables_Check : List LSpec := [{ n := 0, m := 61, toks := [], ks := [.slot 0 (.one .sl), .slot 11 (.one .sl), .slot 12 (.one (.int .i64)), .slot 13 (.one (.int .i64))] }, { n := 0, m := 61, toks := [], ks := [.slot 0 (.one .sl), .slot 11 (.one .sl), .slot 12 (.one (.int .i64)), .slot 13 (.one (.int .i64)), .slot 34 (.one .sl), .slot 35 (.one (.int .i64)), .slot 36 (.one (.int .i64))] }, { n := 0, m := 61, toks := [], ks := [.slot 0 (.one .sl), .slot 6 (.one .str), .slot 11 (.one .sl), .slot 12 (.one (.int .i64)), .slot 13 (.one (.int .i64)), .slot 34 (.one .sl), .slot 35 (.one (.int .i64)), .slot 36 (.one (.int .i64)), .slot 44 (.one (.int .i64)), .slot 45 (.one (.int .i64))] }]
def tables_Check_l2 (Φ : Phi) (fuel : Nat) (k1 : List (List D) → List (List D) → Int → Int → List (List D) → Int → Int → Option A) (k2 : List (List D) → List UInt8 → List (List D) → Int → Int → List (List D) → Int → Int → Int → Int → Option A) (t19 : List (List D)) (s20 : List UInt8) (l21 : List (List D)) (i22 : Int) (i23 : Int) (l24 : List (List D)) (i25 : Int) (i26 : Int) (i27 : Int) (i28 : Int) : Option A :=
(xite (decide (i28 < i27))
((xIdxS s20 i28).bind fun c29 =>
(xite (decide ((c29.toNat : Int) < (32 : Int)))
(some (A.one (C.d (D.v (.int .i64 (4 : Int))))))
((xIdxS s20 i28).bind fun c30 =>
(xite (decide ((126 : Int) < (c30.toNat : Int)))
(some (A.one (C.d (D.v (.int .i64 (4 : Int))))))
(k2 t19 s20 l21 i22 i23 l24 i25 i26 i27 (IntKind.i64.wrap (i28 + (1 : Int))))))))
(k1 t19 l21 i22 i23 l24 i25 (IntKind.i64.wrap (i26 + (1 : Int)))))
def tables_Check_l1 (Φ : Phi) (fuel : Nat) (k0 : List (List D) → List (List D) → Int → Int → Option A) (k1 : List (List D) → List (List D) → Int → Int → List (List D) → Int → Int → Option A) (t10 : List (List D)) (l11 : List (List D)) (i12 : Int) (i13 : Int) (l14 : List (List D)) (i15 : Int) (i16 : Int) : Option A :=
(xite (decide (i16 < i15))
((xElem 1 l14 i16).bind fun c17 =>
(xif (decide (1 ≤ (c17).length))
((xDS (List.getD c17 0 (D.s []))).bind fun s18 =>
(xite (decide ((64 : Int) < ((s18).length : Int)))
(some (A.one (C.d (D.v (.int .i64 (2 : Int))))))
(iter (fun (x : List (List D) × List UInt8 × List (List D) × Int × Int × List (List D) × Int × Int × Int × Int × Unit) (rec : (List (List D) × List UInt8 × List (List D) × Int × Int × List (List D) × Int × Int × Int × Int × Unit) → Option A) => tables_Check_l2 Φ fuel k1 (fun t19 s20 l21 i22 i23 l24 i25 i26 i27 i28 => rec (t19, s20, l21, i22, i23, l24, i25, i26, i27, i28, ())) x.1 x.2.1 x.2.2.1 x.2.2.2.1 x.2.2.2.2.1 x.2.2.2.2.2.1 x.2.2.2.2.2.2.1 x.2.2.2.2.2.2.2.1 x.2.2.2.2.2.2.2.2.1 x.2.2.2.2.2.2.2.2.2.1) fuel (t10, s18, l11, i12, i13, l14, i15, i16, ((s18).length : Int), (0 : Int), ()))))))
(k0 t10 l11 i12 (IntKind.i64.wrap (i13 + (1 : Int)))))
def tables_Check_l0 (Φ : Phi) (fuel : Nat) (k0 : List (List D) → List (List D) → Int → Int → Option A) (t2 : List (List D)) (l3 : List (List D)) (i4 : Int) (i5 : Int) : Option A :=
(xite (decide (i5 < i4))
((xElem 1 l3 i5).bind fun c6 =>
(xif (decide (1 ≤ (c6).length))
((xDL (List.getD c6 0 (D.s []))).bind fun l7 =>
(xite (decide (((l7).length : Int) < (1 : Int)))
(some (A.one (C.d (D.v (.int .i64 (2 : Int))))))
(xite (decide ((8 : Int) < ((l7).length : Int)))
(some (A.one (C.d (D.v (.int .i64 (2 : Int))))))
((xElem 1 t2 (0 : Int)).bind fun c8 =>
(xif (decide (1 ≤ (c8).length))
((xDL (List.getD c8 0 (D.s []))).bind fun l9 =>
(xite (!decide (((l7).length : Int) = ((l9).length : Int)))
(some (A.one (C.d (D.v (.int .i64 (4 : Int))))))
(iter (fun (x : List (List D) × List (List D) × Int × Int × List (List D) × Int × Int × Unit) (rec : (List (List D) × List (List D) × Int × Int × List (List D) × Int × Int × Unit) → Option A) => tables_Check_l1 Φ fuel k0 (fun t10 l11 i12 i13 l14 i15 i16 => rec (t10, l11, i12, i13, l14, i15, i16, ())) x.1 x.2.1 x.2.2.1 x.2.2.2.1 x.2.2.2.2.1 x.2.2.2.2.2.1 x.2.2.2.2.2.2.1) fuel (t2, l3, i4, i5, l7, ((l7).length : Int), (0 : Int), ())))))))))))
(some (A.one (C.d (D.v (.int .i64 (0 : Int)))))))
def tables_Check (Φ : Phi) (fuel : Nat) (t1 : List (List D)) : Option A :=
(xite (decide ((8 : Int) < ((t1).length : Int)))
(some (A.one (C.d (D.v (.int .i64 (2 : Int))))))
(iter (fun (x : List (List D) × List (List D) × Int × Int × Unit) (rec : (List (List D) × List (List D) × Int × Int × Unit) → Option A) => tables_Check_l0 Φ fuel (fun t2 l3 i4 i5 => rec (t2, l3, i4, i5, ())) x.1 x.2.1 x.2.2.1 x.2.2.2.1) fuel (t1, t1, ((t1).length : Int), (0 : Int), ())))
theorem tables_Check_eq (Φ : Phi) (fuel : Nat) (t1 : List (List D)) : xbody TT0 Φ fuel sp_tables_Check Try.f27 [(A.one (C.d (D.sl t1)))] = tables_Check Φ fuel t1 := by kernel_rfl
/-! ref08_Check -/
def sp_ref08_Check : List LSpec := [{ n := 0, m := 91, toks := [], ks := [.slot 0 (.one .sl), .slot 3 (.one (.int .i64))] }, { n := 0, m := 91, toks := [], ks := [.slot 0 (.one .sl), .slot 3 (.one (.int .i64)), .slot 4 (.one (.int .i64))] }, { n := 0, m := 91, toks := [], ks := [.slot 0 (.one .sl), .slot 3 (.one (.int .i64)), .slot 4 (.one (.int .i64)), .slot 5 (.one (.int .i64))] }]
def ref08_Check_l2 (Φ : Phi) (fuel : Nat) (k1 : List (List D) → Int → Int → Option A) (k2 : List (List D) → Int → Int → Int → Option A) (t21 : List (List D)) (i22 : Int) (k23 : Int) (n24 : Int) : Option A :=
((xElem 1 t21 i22).bind fun c25 =>
(xif (decide (1 ≤ (c25).length))
((xDL (List.getD c25 0 (D.s []))).bind fun l26 =>
((xElem 1 l26 k23).bind fun c27 =>
(xif (decide (1 ≤ (c27).length))
((xDS (List.getD c27 0 (D.s []))).bind fun s28 =>
(xite (decide (n24 < ((s28).length : Int)))
((xElem 1 t21 i22).bind fun c29 =>
(xif (decide (1 ≤ (c29).length))
((xDL (List.getD c29 0 (D.s []))).bind fun l30 =>
((xElem 1 l30 k23).bind fun c31 =>
(xif (decide (1 ≤ (c31).length))
((xDS (List.getD c31 0 (D.s []))).bind fun s32 =>
((xIdxS s32 n24).bind fun c33 =>
(xite (decide ((c33.toNat : Int) < (32 : Int)))
(some (A.one (C.d (D.v (.int .i64 (4 : Int))))))
((xElem 1 t21 i22).bind fun c34 =>
(xif (decide (1 ≤ (c34).length))
((xDL (List.getD c34 0 (D.s []))).bind fun l35 =>
((xElem 1 l35 k23).bind fun c36 =>
(xif (decide (1 ≤ (c36).length))
((xDS (List.getD c36 0 (D.s []))).bind fun s37 =>
((xIdxS s37 n24).bind fun c38 =>
(xite (decide ((126 : Int) < (c38.toNat : Int)))
(some (A.one (C.d (D.v (.int .i64 (4 : Int))))))
(k2 t21 i22 k23 (IntKind.i64.wrap (n24 + (1 : Int))))))))))))))))))))
(k1 t21 i22 (IntKind.i64.wrap (k23 + (1 : Int)))))))))))
def ref08_Check_l1 (Φ : Phi) (fuel : Nat) (k0 : List (List D) → Int → Option A) (k1 : List (List D) → Int → Int → Option A) (t12 : List (List D)) (i13 : Int) (k14 : Int) : Option A :=
((xElem 1 t12 i13).bind fun c15 =>
(xif (decide (1 ≤ (c15).length))
((xDL (List.getD c15 0 (D.s []))).bind fun l16 =>
(xite (decide (k14 < ((l16).length : Int)))
((xElem 1 t12 i13).bind fun c17 =>
(xif (decide (1 ≤ (c17).length))
((xDL (List.getD c17 0 (D.s []))).bind fun l18 =>
((xElem 1 l18 k14).bind fun c19 =>
(xif (decide (1 ≤ (c19).length))
((xDS (List.getD c19 0 (D.s []))).bind fun s20 =>
(xite (decide ((64 : Int) < ((s20).length : Int)))
(some (A.one (C.d (D.v (.int .i64 (2 : Int))))))
(iter (fun (x : List (List D) × Int × Int × Int × Unit) (rec : (List (List D) × Int × Int × Int × Unit) → Option A) => ref08_Check_l2 Φ fuel k1 (fun t21 i22 k23 n24 => rec (t21, i22, k23, n24, ())) x.1 x.2.1 x.2.2.1 x.2.2.2.1) fuel (t12, i13, k14, (0 : Int), ())))))))))
(k0 t12 (IntKind.i64.wrap (i13 + (1 : Int))))))))
def ref08_Check_l0 (Φ : Phi) (fuel : Nat) (k0 : List (List D) → Int → Option A) (t2 : List (List D)) (i3 : Int) : Option A :=
(xite (decide (i3 < ((t2).length : Int)))
((xElem 1 t2 i3).bind fun c4 =>
(xif (decide (1 ≤ (c4).length))
((xDL (List.getD c4 0 (D.s []))).bind fun l5 =>
(xite (decide (((l5).length : Int) < (1 : Int)))
(some (A.one (C.d (D.v (.int .i64 (2 : Int))))))
((xElem 1 t2 i3).bind fun c6 =>
(xif (decide (1 ≤ (c6).length))
((xDL (List.getD c6 0 (D.s []))).bind fun l7 =>
(xite (decide ((8 : Int) < ((l7).length : Int)))
(some (A.one (C.d (D.v (.int .i64 (2 : Int))))))
((xElem 1 t2 i3).bind fun c8 =>
(xif (decide (1 ≤ (c8).length))
((xDL (List.getD c8 0 (D.s []))).bind fun l9 =>
((xElem 1 t2 (0 : Int)).bind fun c10 =>
(xif (decide (1 ≤ (c10).length))
((xDL (List.getD c10 0 (D.s []))).bind fun l11 =>
(xite (!decide (((l9).length : Int) = ((l11).length : Int)))
(some (A.one (C.d (D.v (.int .i64 (4 : Int))))))
(iter (fun (x : List (List D) × Int × Int × Unit) (rec : (List (List D) × Int × Int × Unit) → Option A) => ref08_Check_l1 Φ fuel k0 (fun t12 i13 k14 => rec (t12, i13, k14, ())) x.1 x.2.1 x.2.2.1) fuel (t2, i3, (0 : Int), ())))))))))))))))))
(some (A.one (C.d (D.v (.int .i64 (0 : Int)))))))
def ref08_Check (Φ : Phi) (fuel : Nat) (t1 : List (List D)) : Option A :=
(xite (decide ((8 : Int) < ((t1).length : Int)))
(some (A.one (C.d (D.v (.int .i64 (2 : Int))))))
(iter (fun (x : List (List D) × Int × Unit) (rec : (List (List D) × Int × Unit) → Option A) => ref08_Check_l0 Φ fuel (fun t2 i3 => rec (t2, i3, ())) x.1 x.2.1) fuel (t1, (0 : Int), ())))
theorem ref08_Check_eq (Φ : Phi) (fuel : Nat) (t1 : List (List D)) : xbody TT0 Φ fuel sp_ref08_Check Try.f28 [(A.one (C.d (D.sl t1)))] = ref08_Check Φ fuel t1 := by kernel_rfl
/-! tables_Transpose -/
def sp_tables_Transpose : List LSpec := [{ n := 0, m := 40, toks := [], ks := [.hp, .slot 3 (.one .rc), .slot 14 (.one .sl), .slot 15 (.one (.int .i64)), .slot 16 (.one (.int .i64))] }, { n := 0, m := 40, toks := [], ks := [.hp, .slot 3 (.one .rc), .slot 14 (.one .sl), .slot 15 (.one (.int .i64)), .slot 16 (.one (.int .i64)), .slot 20 (.one .rc), .slot 21 (.one (.int .i64)), .slot 22 (.one (.int .i64))] }]
noncomputable def tables_Transpose_l1 (Φ : Phi) (Ψ : Psi) (fuel : Nat) (k0 : Hp → C → List (List D) → Int → Int → Option (A × Hp)) (k1 : Hp → C → List (List D) → Int → Int → C → Int → Int → Option (A × Hp)) (H17 : Hp) (out18 : C) (l19 : List (List D)) (i20 : Int) (i21 : Int) (c22 : C) (i23 : Int) (i24 : Int) : Option (A × Hp) :=
(xite (decide (i24 < i23))
((hAddr c22 i24).bind fun p25 =>
((hLoad H17 p25).bind fun c26 =>
((xS (A.one c26)).bind fun s27 =>
((hAddr out18 i24).bind fun p28 =>
((hLoad H17 p28).bind fun c29 =>
((hLen c29).bind fun n30 =>
((hCells H17 (C.full ([[(D.s s27)]] : List (List D)))).bind fun ys31 =>
(xif (decide ((n30 + ys31.length) * 16 ≤ 140737488355328))
((hApp H17 c29 ys31).bind fun q32 =>
((hAddr out18 i24).bind fun p33 =>
((hStore q32.2 p33 q32.1).bind fun H34 =>
(xif (C.hok out18)
(xif (C.hok c22)
(k1 H34 out18 l19 i20 i21 c22 i23 (IntKind.i64.wrap (i24 + (1 : Int)))))))))))))))))
(xif (C.hok out18)
(k0 H17 out18 l19 i20 (IntKind.i64.wrap (i21 + (1 : Int))))))
noncomputable def tables_Transpose_l0 (Φ : Phi) (Ψ : Psi) (fuel : Nat) (k0 : Hp → C → List (List D) → Int → Int → Option (A × Hp)) (H9 : Hp) (out10 : C) (l11 : List (List D)) (i12 : Int) (i13 : Int) : Option (A × Hp) :=
(xite (decide (i13 < i12))
((hAddr (C.d (D.sl l11)) i13).bind fun p14 =>
((hLoad H9 p14).bind fun c15 =>
((hLen c15).bind fun n16 =>
(xif (C.hok out10)
(xif (C.hok c15)
(iter (fun (x : Hp × C × List (List D) × Int × Int × C × Int × Int × Unit) (rec : (Hp × C × List (List D) × Int × Int × C × Int × Int × Unit) → Option (A × Hp)) => tables_Transpose_l1 Φ Ψ fuel k0 (fun H17 out18 l19 i20 i21 c22 i23 i24 => rec (H17, out18, l19, i20, i21, c22, i23, i24, ())) x.1 x.2.1 x.2.2.1 x.2.2.2.1 x.2.2.2.2.1 x.2.2.2.2.2.1 x.2.2.2.2.2.2.1 x.2.2.2.2.2.2.2.1) fuel (H9, out10, l11, i12, i13, c15, ((n16 : Nat) : Int), (0 : Int), ())))))))
(xif (xokR (A.one out10))
(some ((A.one out10), H9))))
noncomputable def tables_Transpose (Φ : Phi) (Ψ : Psi) (fuel : Nat) (t1 : List (List D)) (H : Hp) : Option (A × Hp) :=
((Φ i_tables_Check [(A.one (C.d (D.sl t1)))]).bind fun r2 =>
((xAD r2).bind fun d3 =>
((xDI .i64 d3).bind fun n4 =>
(xite (!decide (n4 = (0 : Int)))
(xif (xokR (A.one (C.full [])))
(some ((A.one (C.full [])), H)))
((Φ i_tables_columns [(A.one (C.d (D.sl t1)))]).bind fun r5 =>
((xAD r5).bind fun d6 =>
((xDI .i64 d6).bind fun n7 =>
(xif (decide (n7 = n7) && (decide (0 ≤ n7) && (decide (n7 ≤ 9223372036854775807) && decide (24 * n7 ≤ 281474976710656))))
((hPush H ⟨List.replicate (n7).toNat (C.full []), true⟩).bind fun H8 =>
(iter (fun (x : Hp × C × List (List D) × Int × Int × Unit) (rec : (Hp × C × List (List D) × Int × Int × Unit) → Option (A × Hp)) => tables_Transpose_l0 Φ Ψ fuel (fun H9 out10 l11 i12 i13 => rec (H9, out10, l11, i12, i13, ())) x.1 x.2.1 x.2.2.1 x.2.2.2.1 x.2.2.2.2.1) fuel (H8, (C.hs H.length 0 ((n7).toNat)), t1, (((t1 : List (List D)).length : Nat) : Int), (0 : Int), ())))))))))))
theorem tables_Transpose_eq (Φ : Phi) (Ψ : Psi) (fuel : Nat) (t1 : List (List D)) (H : Hp) : xbodyH TT0 Φ Ψ sel_tables_Transpose fuel sp_tables_Transpose Try.f29 [(A.one (C.d (D.sl t1)))] H = tables_Transpose Φ Ψ fuel t1 H := by kernel_rfl
/-! ref08_Transpose -/
def sp_ref08_Transpose : List LSpec := [{ n := 0, m := 21, toks := [], ks := [.hp, .slot 0 (.one .rc), .slot 3 (.one .rc), .slot 4 (.one (.int .i64))] }]
noncomputable def ref08_Transpose_l0 (Φ : Phi) (Ψ : Psi) (fuel : Nat) (k0 : Hp → C → C → Int → Option (A × Hp)) (H10 : Hp) (t11 : C) (out12 : C) (k13 : Int) : Option (A × Hp) :=
((hLow H10 3 t11).bind fun d14 =>
((Φ i_ref08_Columns [(A.one (C.d d14))]).bind fun r15 =>
((xAD r15).bind fun d16 =>
((xDI .i64 d16).bind fun n17 =>
(xite (decide (k13 < n17))
(xif (C.hok t11)
((Ψ i_ref08_column [(A.one t11), (A.one (C.d (D.v (.int .i64 k13))))] H10).bind fun q18 =>
((xone q18.1).bind fun c19 =>
((oneCs [(A.one c19)]).bind fun cs20 =>
((hPush q18.2 ⟨cs20, true⟩).bind fun H21 =>
((hLen out12).bind fun n22 =>
((hCells H21 (C.hs q18.2.length 0 1)).bind fun ys23 =>
(xif (decide ((n22 + ys23.length) * 24 ≤ 140737488355328))
((hApp H21 out12 ys23).bind fun q24 =>
(xif (C.hok t11)
(xif (C.hok q24.1)
(k0 q24.2 t11 q24.1 (IntKind.i64.wrap (k13 + (1 : Int)))))))))))))))
(xif (xokR (A.one out12))
(some ((A.one out12), H10))))))))
noncomputable def ref08_Transpose (Φ : Phi) (Ψ : Psi) (fuel : Nat) (t1 : C) (H : Hp) : Option (A × Hp) :=
((hLow H 3 t1).bind fun d2 =>
((Φ i_ref08_Check [(A.one (C.d d2))]).bind fun r3 =>
((xAD r3).bind fun d4 =>
((xDI .i64 d4).bind fun n5 =>
(xite (!decide (n5 = (0 : Int)))
(xif (xokR (A.one (C.full [])))
(some ((A.one (C.full [])), H)))
(xif (C.hok t1)
(iter (fun (x : Hp × C × C × Int × Unit) (rec : (Hp × C × C × Int × Unit) → Option (A × Hp)) => ref08_Transpose_l0 Φ Ψ fuel (fun H10 t11 out12 k13 => rec (H10, t11, out12, k13, ())) x.1 x.2.1 x.2.2.1 x.2.2.2.1) fuel (H, t1, (C.full []), (0 : Int), ()))))))))
theorem ref08_Transpose_eq (Φ : Phi) (Ψ : Psi) (fuel : Nat) (t1 : C) (H : Hp) : xbodyH TT0 Φ Ψ sel_ref08_Transpose fuel sp_ref08_Transpose Try.f30 [(A.one t1)] H = ref08_Transpose Φ Ψ fuel t1 H := by kernel_rfl
/-! tables_Fill -/
def sp_tables_Fill : List LSpec := [{ n := 0, m := 46, toks := [], ks := [.hp, .slot 3 (.one .rc), .slot 4 (.one (.int .i64))] }, { n := 0, m := 46, toks := [], ks := [.hp, .slot 3 (.one .rc), .slot 4 (.one (.int .i64)), .slot 21 (.one .rc), .slot 22 (.one (.int .i64)), .slot 23 (.one (.int .i64))] }]
noncomputable def tables_Fill_l1 (Φ : Phi) (Ψ : Psi) (fuel : Nat) (k0 : Hp → C → Int → Option (A × Hp)) (k1 : Hp → C → Int → C → Int → Int → Option (A × Hp)) (H14 : Hp) (out15 : C) (i16 : Int) (c17 : C) (i18 : Int) (i19 : Int) : Option (A × Hp) :=
(xite (decide (i19 < i18))
((hAddr c17 i19).bind fun p20 =>
((hLoad H14 p20).bind fun c21 =>
((xS (A.one c21)).bind fun s22 =>
(xite (decide ((s22 : List UInt8) = []))
((hAddr out15 i16).bind fun p23 =>
((hLoad H14 p23).bind fun c24 =>
((hAddr out15 (IntKind.i64.wrap (i16 - (1 : Int)))).bind fun p25 =>
((hLoad H14 p25).bind fun c26 =>
((hAddr c26 i19).bind fun p27 =>
((hLoad H14 p27).bind fun c28 =>
((xS (A.one c28)).bind fun s29 =>
((hAddr c24 i19).bind fun p30 =>
((hStore H14 p30 (C.d (D.s s29))).bind fun H31 =>
(xif (C.hok out15)
(xif (C.hok c17)
(k1 H31 out15 i16 c17 i18 (IntKind.i64.wrap (i19 + (1 : Int)))))))))))))))
(xif (C.hok out15)
(xif (C.hok c17)
(k1 H14 out15 i16 c17 i18 (IntKind.i64.wrap (i19 + (1 : Int))))))))))
(xif (C.hok out15)
(k0 H14 out15 (IntKind.i64.wrap (i16 + (1 : Int))))))
noncomputable def tables_Fill_l0 (Φ : Phi) (Ψ : Psi) (fuel : Nat) (k0 : Hp → C → Int → Option (A × Hp)) (H7 : Hp) (out8 : C) (i9 : Int) : Option (A × Hp) :=
((hLen out8).bind fun n10 =>
(xite (decide (i9 < ((n10 : Nat) : Int)))
((hAddr out8 i9).bind fun p11 =>
((hLoad H7 p11).bind fun c12 =>
((hLen c12).bind fun n13 =>
(xif (C.hok out8)
(xif (C.hok c12)
(iter (fun (x : Hp × C × Int × C × Int × Int × Unit) (rec : (Hp × C × Int × C × Int × Int × Unit) → Option (A × Hp)) => tables_Fill_l1 Φ Ψ fuel k0 (fun H14 out15 i16 c17 i18 i19 => rec (H14, out15, i16, c17, i18, i19, ())) x.1 x.2.1 x.2.2.1 x.2.2.2.1 x.2.2.2.2.1 x.2.2.2.2.2.1) fuel (H7, out8, i9, c12, ((n13 : Nat) : Int), (0 : Int), ())))))))
(xif (xokR (A.one out8))
(some ((A.one out8), H7)))))
noncomputable def tables_Fill (Φ : Phi) (Ψ : Psi) (fuel : Nat) (t1 : List (List D)) (H : Hp) : Option (A × Hp) :=
((Φ i_tables_Check [(A.one (C.d (D.sl t1)))]).bind fun r2 =>
((xAD r2).bind fun d3 =>
((xDI .i64 d3).bind fun n4 =>
(xite (!decide (n4 = (0 : Int)))
(xif (xokR (A.one (C.full [])))
(some ((A.one (C.full [])), H)))
((Ψ i_tables_clone [(A.one (C.d (D.sl t1)))] H).bind fun q5 =>
((xone q5.1).bind fun c6 =>
(xif (C.hok c6)
(iter (fun (x : Hp × C × Int × Unit) (rec : (Hp × C × Int × Unit) → Option (A × Hp)) => tables_Fill_l0 Φ Ψ fuel (fun H7 out8 i9 => rec (H7, out8, i9, ())) x.1 x.2.1 x.2.2.1) fuel (q5.2, c6, (1 : Int), ())))))))))
theorem tables_Fill_eq (Φ : Phi) (Ψ : Psi) (fuel : Nat) (t1 : List (List D)) (H : Hp) : xbodyH TT0 Φ Ψ sel_tables_Fill fuel sp_tables_Fill Try.f31 [(A.one (C.d (D.sl t1)))] H = tables_Fill Φ Ψ fuel t1 H := by kernel_rfl
/-! ref08_Fill -/
def sp_ref08_Fill : List LSpec := [{ n := 0, m := 49, toks := [], ks := [.hp, .slot 3 (.one .rc), .slot 4 (.one (.int .i64))] }, { n := 0, m := 49, toks := [], ks := [.hp, .slot 3 (.one .rc), .slot 4 (.one (.int .i64)), .slot 5 (.one (.int .i64))] }]
noncomputable def ref08_Fill_l1 (Φ : Phi) (Ψ : Psi) (fuel : Nat) (k0 : Hp → C → Int → Option (A × Hp)) (k1 : Hp → C → Int → Int → Option (A × Hp)) (H11 : Hp) (out12 : C) (i13 : Int) (k14 : Int) : Option (A × Hp) :=
((hAddr out12 i13).bind fun p15 =>
((hLoad H11 p15).bind fun c16 =>
((hLen c16).bind fun n17 =>
(xite (decide (k14 < ((n17 : Nat) : Int)))
((hAddr out12 i13).bind fun p18 =>
((hLoad H11 p18).bind fun c19 =>
((hAddr c19 k14).bind fun p20 =>
((hLoad H11 p20).bind fun c21 =>
((xS (A.one c21)).bind fun s22 =>
(xite (decide ((s22 : List UInt8) = []))
((hAddr out12 i13).bind fun p23 =>
((hLoad H11 p23).bind fun c24 =>
((hAddr out12 (IntKind.i64.wrap (i13 - (1 : Int)))).bind fun p25 =>
((hLoad H11 p25).bind fun c26 =>
((hAddr c26 k14).bind fun p27 =>
((hLoad H11 p27).bind fun c28 =>
((xS (A.one c28)).bind fun s29 =>
((hAddr c24 k14).bind fun p30 =>
((hStore H11 p30 (C.d (D.s s29))).bind fun H31 =>
(xif (C.hok out12)
(k1 H31 out12 i13 (IntKind.i64.wrap (k14 + (1 : Int))))))))))))))
(xif (C.hok out12)
(k1 H11 out12 i13 (IntKind.i64.wrap (k14 + (1 : Int)))))))))))
(xif (C.hok out12)
(k0 H11 out12 (IntKind.i64.wrap (i13 + (1 : Int)))))))))
noncomputable def ref08_Fill_l0 (Φ : Phi) (Ψ : Psi) (fuel : Nat) (k0 : Hp → C → Int → Option (A × Hp)) (H7 : Hp) (out8 : C) (i9 : Int) : Option (A × Hp) :=
((hLen out8).bind fun n10 =>
(xite (decide (i9 < ((n10 : Nat) : Int)))
(xif (C.hok out8)
(iter (fun (x : Hp × C × Int × Int × Unit) (rec : (Hp × C × Int × Int × Unit) → Option (A × Hp)) => ref08_Fill_l1 Φ Ψ fuel k0 (fun H11 out12 i13 k14 => rec (H11, out12, i13, k14, ())) x.1 x.2.1 x.2.2.1 x.2.2.2.1) fuel (H7, out8, i9, (0 : Int), ())))
(xif (xokR (A.one out8))
(some ((A.one out8), H7)))))
noncomputable def ref08_Fill (Φ : Phi) (Ψ : Psi) (fuel : Nat) (t1 : List (List D)) (H : Hp) : Option (A × Hp) :=
((Φ i_ref08_Check [(A.one (C.d (D.sl t1)))]).bind fun r2 =>
((xAD r2).bind fun d3 =>
((xDI .i64 d3).bind fun n4 =>
(xite (!decide (n4 = (0 : Int)))
(xif (xokR (A.one (C.full [])))
(some ((A.one (C.full [])), H)))
((Ψ i_ref08_table [(A.one (C.d (D.sl t1)))] H).bind fun q5 =>
((xone q5.1).bind fun c6 =>
(xif (C.hok c6)
(iter (fun (x : Hp × C × Int × Unit) (rec : (Hp × C × Int × Unit) → Option (A × Hp)) => ref08_Fill_l0 Φ Ψ fuel (fun H7 out8 i9 => rec (H7, out8, i9, ())) x.1 x.2.1 x.2.2.1) fuel (q5.2, c6, (1 : Int), ())))))))))
theorem ref08_Fill_eq (Φ : Phi) (Ψ : Psi) (fuel : Nat) (t1 : List (List D)) (H : Hp) : xbodyH TT0 Φ Ψ sel_ref08_Fill fuel sp_ref08_Fill Try.f32 [(A.one (C.d (D.sl t1)))] H = ref08_Fill Φ Ψ fuel t1 H := by kernel_rfl
/-! law08_distinct -/
def sp_law08_distinct : List LSpec := [{ n := 0, m := 25, toks := [], ks := [.slot 0 (.one .sl), .slot 3 (.one (.int .i64))] }, { n := 0, m := 25, toks := [], ks := [.slot 0 (.one .sl), .slot 3 (.one (.int .i64)), .slot 4 (.one (.int .i64))] }]
def law08_distinct_l1 (Φ : Phi) (fuel : Nat) (k0 : List (List D) → Int → Option A) (k1 : List (List D) → Int → Int → Option A) (l4 : List (List D)) (i5 : Int) (k6 : Int) : Option A :=
(xite (decide (k6 < i5))
((xElem 1 l4 i5).bind fun c7 =>
(xif (decide (1 ≤ (c7).length))
((xDS (List.getD c7 0 (D.s []))).bind fun s8 =>
((xElem 1 l4 k6).bind fun c9 =>
(xif (decide (1 ≤ (c9).length))
((xDS (List.getD c9 0 (D.s []))).bind fun s10 =>
(xite (decide ((s8 : List UInt8) = s10))
(some (A.one (C.d (D.v (.bool false)))))
(k1 l4 i5 (IntKind.i64.wrap (k6 + (1 : Int)))))))))))
(k0 l4 (IntKind.i64.wrap (i5 + (1 : Int)))))
def law08_distinct_l0 (Φ : Phi) (fuel : Nat) (k0 : List (List D) → Int → Option A) (l2 : List (List D)) (i3 : Int) : Option A :=
(xite (decide (i3 < ((l2).length : Int)))
(iter (fun (x : List (List D) × Int × Int × Unit) (rec : (List (List D) × Int × Int × Unit) → Option A) => law08_distinct_l1 Φ fuel k0 (fun l4 i5 k6 => rec (l4, i5, k6, ())) x.1 x.2.1 x.2.2.1) fuel (l2, i3, (0 : Int), ()))
(some (A.one (C.d (D.v (.bool true))))))
def law08_distinct (Φ : Phi) (fuel : Nat) (l1 : List (List D)) : Option A :=
(iter (fun (x : List (List D) × Int × Unit) (rec : (List (List D) × Int × Unit) → Option A) => law08_distinct_l0 Φ fuel (fun l2 i3 => rec (l2, i3, ())) x.1 x.2.1) fuel (l1, (0 : Int), ()))
theorem law08_distinct_eq (Φ : Phi) (fuel : Nat) (l1 : List (List D)) : xbody TT0 Φ fuel sp_law08_distinct Try.f33 [(A.one (C.d (D.sl l1)))] = law08_distinct Φ fuel l1 := by kernel_rfl
/-! tables_Stack -/
def sp_tables_Stack : List LSpec := []
noncomputable def tables_Stack (Φ : Phi) (Ψ : Psi) (fuel : Nat) (a1 : List (List D)) (b2 : List (List D)) (H : Hp) : Option (A × Hp) :=
((Φ i_tables_checkAll [(A.one (C.d (D.sl ([[(D.sl a1)], [(D.sl b2)]] : List (List D)))))]).bind fun r3 =>
((xAD r3).bind fun d4 =>
((xDI .i64 d4).bind fun n5 =>
(xite (!decide (n5 = (0 : Int)))
(xif (xokR (A.tup [(A.one (C.full [])), (A.one (C.d (D.v (.int .i64 n5))))]))
(some ((A.tup [(A.one (C.full [])), (A.one (C.d (D.v (.int .i64 n5))))]), H)))
(xite (decide ((0 : Int) < (((a1 : List (List D)).length : Nat) : Int)))
(xite (decide ((0 : Int) < (((b2 : List (List D)).length : Nat) : Int)))
((Φ i_tables_columns [(A.one (C.d (D.sl a1)))]).bind fun r6 =>
((xAD r6).bind fun d7 =>
((xDI .i64 d7).bind fun n8 =>
((Φ i_tables_columns [(A.one (C.d (D.sl b2)))]).bind fun r9 =>
((xAD r9).bind fun d10 =>
((xDI .i64 d10).bind fun n11 =>
(xite (!decide (n8 = n11))
(xif (xokR (A.tup [(A.one (C.full [])), (A.one (C.d (D.v (.int .i64 (4 : Int)))))]))
(some ((A.tup [(A.one (C.full [])), (A.one (C.d (D.v (.int .i64 (4 : Int)))))]), H)))
(xite (decide ((8 : Int) < (IntKind.i64.wrap ((((a1 : List (List D)).length : Nat) : Int) + (((b2 : List (List D)).length : Nat) : Int)))))
(xif (xokR (A.tup [(A.one (C.full [])), (A.one (C.d (D.v (.int .i64 (2 : Int)))))]))
(some ((A.tup [(A.one (C.full [])), (A.one (C.d (D.v (.int .i64 (2 : Int)))))]), H)))
((Ψ i_tables_clone [(A.one (C.d (D.sl a1)))] H).bind fun q12 =>
((xone q12.1).bind fun c13 =>
((Ψ i_tables_clone [(A.one (C.d (D.sl b2)))] q12.2).bind fun q14 =>
((xone q14.1).bind fun c15 =>
((hLen c13).bind fun n16 =>
((hCells q14.2 c15).bind fun ys17 =>
(xif (decide ((n16 + ys17.length) * 24 ≤ 140737488355328))
((hApp q14.2 c13 ys17).bind fun q18 =>
(xif (xokR (A.tup [(A.one q18.1), (A.one (C.d (D.v (.int .i64 (0 : Int)))))]))
(some ((A.tup [(A.one q18.1), (A.one (C.d (D.v (.int .i64 (0 : Int)))))]), q18.2)))))))))))))))))))
(xite (decide ((8 : Int) < (IntKind.i64.wrap ((((a1 : List (List D)).length : Nat) : Int) + (((b2 : List (List D)).length : Nat) : Int)))))
(xif (xokR (A.tup [(A.one (C.full [])), (A.one (C.d (D.v (.int .i64 (2 : Int)))))]))
(some ((A.tup [(A.one (C.full [])), (A.one (C.d (D.v (.int .i64 (2 : Int)))))]), H)))
((Ψ i_tables_clone [(A.one (C.d (D.sl a1)))] H).bind fun q19 =>
((xone q19.1).bind fun c20 =>
((Ψ i_tables_clone [(A.one (C.d (D.sl b2)))] q19.2).bind fun q21 =>
((xone q21.1).bind fun c22 =>
((hLen c20).bind fun n23 =>
((hCells q21.2 c22).bind fun ys24 =>
(xif (decide ((n23 + ys24.length) * 24 ≤ 140737488355328))
((hApp q21.2 c20 ys24).bind fun q25 =>
(xif (xokR (A.tup [(A.one q25.1), (A.one (C.d (D.v (.int .i64 (0 : Int)))))]))
(some ((A.tup [(A.one q25.1), (A.one (C.d (D.v (.int .i64 (0 : Int)))))]), q25.2)))))))))))))
(xite (decide ((8 : Int) < (IntKind.i64.wrap ((((a1 : List (List D)).length : Nat) : Int) + (((b2 : List (List D)).length : Nat) : Int)))))
(xif (xokR (A.tup [(A.one (C.full [])), (A.one (C.d (D.v (.int .i64 (2 : Int)))))]))
(some ((A.tup [(A.one (C.full [])), (A.one (C.d (D.v (.int .i64 (2 : Int)))))]), H)))
((Ψ i_tables_clone [(A.one (C.d (D.sl a1)))] H).bind fun q26 =>
((xone q26.1).bind fun c27 =>
((Ψ i_tables_clone [(A.one (C.d (D.sl b2)))] q26.2).bind fun q28 =>
((xone q28.1).bind fun c29 =>
((hLen c27).bind fun n30 =>
((hCells q28.2 c29).bind fun ys31 =>
(xif (decide ((n30 + ys31.length) * 24 ≤ 140737488355328))
((hApp q28.2 c27 ys31).bind fun q32 =>
(xif (xokR (A.tup [(A.one q32.1), (A.one (C.d (D.v (.int .i64 (0 : Int)))))]))
(some ((A.tup [(A.one q32.1), (A.one (C.d (D.v (.int .i64 (0 : Int)))))]), q32.2)))))))))))))))))
theorem tables_Stack_eq (Φ : Phi) (Ψ : Psi) (fuel : Nat) (a1 : List (List D)) (b2 : List (List D)) (H : Hp) : xbodyH TT0 Φ Ψ sel_tables_Stack fuel sp_tables_Stack Try.f34 [(A.one (C.d (D.sl a1))), (A.one (C.d (D.sl b2)))] H = tables_Stack Φ Ψ fuel a1 b2 H := by kernel_rfl
/-! ref08_Stack -/
def sp_ref08_Stack : List LSpec := []
noncomputable def ref08_Stack (Φ : Phi) (Ψ : Psi) (fuel : Nat) (a1 : List (List D)) (b2 : List (List D)) (H : Hp) : Option (A × Hp) :=
((Φ i_ref08_both [(A.one (C.d (D.sl a1))), (A.one (C.d (D.sl b2)))]).bind fun r3 =>
((xAD r3).bind fun d4 =>
((xDI .i64 d4).bind fun n5 =>
(xite (!decide (n5 = (0 : Int)))
(xif (xokR (A.tup [(A.one (C.full [])), (A.one (C.d (D.v (.int .i64 n5))))]))
(some ((A.tup [(A.one (C.full [])), (A.one (C.d (D.v (.int .i64 n5))))]), H)))
(xite (decide ((0 : Int) < (((a1 : List (List D)).length : Nat) : Int)))
(xite (decide ((0 : Int) < (((b2 : List (List D)).length : Nat) : Int)))
((Φ i_ref08_Columns [(A.one (C.d (D.sl a1)))]).bind fun r6 =>
((xAD r6).bind fun d7 =>
((xDI .i64 d7).bind fun n8 =>
((Φ i_ref08_Columns [(A.one (C.d (D.sl b2)))]).bind fun r9 =>
((xAD r9).bind fun d10 =>
((xDI .i64 d10).bind fun n11 =>
(xite (!decide (n8 = n11))
(xif (xokR (A.tup [(A.one (C.full [])), (A.one (C.d (D.v (.int .i64 (4 : Int)))))]))
(some ((A.tup [(A.one (C.full [])), (A.one (C.d (D.v (.int .i64 (4 : Int)))))]), H)))
(xite (decide ((8 : Int) < (IntKind.i64.wrap ((((a1 : List (List D)).length : Nat) : Int) + (((b2 : List (List D)).length : Nat) : Int)))))
(xif (xokR (A.tup [(A.one (C.full [])), (A.one (C.d (D.v (.int .i64 (2 : Int)))))]))
(some ((A.tup [(A.one (C.full [])), (A.one (C.d (D.v (.int .i64 (2 : Int)))))]), H)))
((Ψ i_ref08_table [(A.one (C.d (D.sl a1)))] H).bind fun q12 =>
((xone q12.1).bind fun c13 =>
((Ψ i_ref08_table [(A.one (C.d (D.sl b2)))] q12.2).bind fun q14 =>
((xone q14.1).bind fun c15 =>
((hLen c13).bind fun n16 =>
((hCells q14.2 c15).bind fun ys17 =>
(xif (decide ((n16 + ys17.length) * 24 ≤ 140737488355328))
((hApp q14.2 c13 ys17).bind fun q18 =>
(xif (xokR (A.tup [(A.one q18.1), (A.one (C.d (D.v (.int .i64 (0 : Int)))))]))
(some ((A.tup [(A.one q18.1), (A.one (C.d (D.v (.int .i64 (0 : Int)))))]), q18.2)))))))))))))))))))
(xite (decide ((8 : Int) < (IntKind.i64.wrap ((((a1 : List (List D)).length : Nat) : Int) + (((b2 : List (List D)).length : Nat) : Int)))))
(xif (xokR (A.tup [(A.one (C.full [])), (A.one (C.d (D.v (.int .i64 (2 : Int)))))]))
(some ((A.tup [(A.one (C.full [])), (A.one (C.d (D.v (.int .i64 (2 : Int)))))]), H)))
((Ψ i_ref08_table [(A.one (C.d (D.sl a1)))] H).bind fun q19 =>
((xone q19.1).bind fun c20 =>
((Ψ i_ref08_table [(A.one (C.d (D.sl b2)))] q19.2).bind fun q21 =>
((xone q21.1).bind fun c22 =>
((hLen c20).bind fun n23 =>
((hCells q21.2 c22).bind fun ys24 =>
(xif (decide ((n23 + ys24.length) * 24 ≤ 140737488355328))
((hApp q21.2 c20 ys24).bind fun q25 =>
(xif (xokR (A.tup [(A.one q25.1), (A.one (C.d (D.v (.int .i64 (0 : Int)))))]))
(some ((A.tup [(A.one q25.1), (A.one (C.d (D.v (.int .i64 (0 : Int)))))]), q25.2)))))))))))))
(xite (decide ((8 : Int) < (IntKind.i64.wrap ((((a1 : List (List D)).length : Nat) : Int) + (((b2 : List (List D)).length : Nat) : Int)))))
(xif (xokR (A.tup [(A.one (C.full [])), (A.one (C.d (D.v (.int .i64 (2 : Int)))))]))
(some ((A.tup [(A.one (C.full [])), (A.one (C.d (D.v (.int .i64 (2 : Int)))))]), H)))
((Ψ i_ref08_table [(A.one (C.d (D.sl a1)))] H).bind fun q26 =>
((xone q26.1).bind fun c27 =>
((Ψ i_ref08_table [(A.one (C.d (D.sl b2)))] q26.2).bind fun q28 =>
((xone q28.1).bind fun c29 =>
((hLen c27).bind fun n30 =>
((hCells q28.2 c29).bind fun ys31 =>
(xif (decide ((n30 + ys31.length) * 24 ≤ 140737488355328))
((hApp q28.2 c27 ys31).bind fun q32 =>
(xif (xokR (A.tup [(A.one q32.1), (A.one (C.d (D.v (.int .i64 (0 : Int)))))]))
(some ((A.tup [(A.one q32.1), (A.one (C.d (D.v (.int .i64 (0 : Int)))))]), q32.2)))))))))))))))))
theorem ref08_Stack_eq (Φ : Phi) (Ψ : Psi) (fuel : Nat) (a1 : List (List D)) (b2 : List (List D)) (H : Hp) : xbodyH TT0 Φ Ψ sel_ref08_Stack fuel sp_ref08_Stack Try.f35 [(A.one (C.d (D.sl a1))), (A.one (C.d (D.sl b2)))] H = ref08_Stack Φ Ψ fuel a1 b2 H := by kernel_rfl
/-! tables_Beside -/
def sp_tables_Beside : List LSpec := [{ n := 0, m := 48, toks := [], ks := [.hp, .slot 1 (.one .sl), .slot 7 (.one .rc), .slot 30 (.one (.int .i64)), .slot 31 (.one (.int .i64))] }]
noncomputable def tables_Beside_l0 (Φ : Phi) (Ψ : Psi) (fuel : Nat) (k0 : Hp → List (List D) → C → Int → Int → Option (A × Hp)) (H15 : Hp) (b16 : List (List D)) (out17 : C) (i18 : Int) (i19 : Int) : Option (A × Hp) :=
(xite (decide (i19 < i18))
((hAddr out17 i19).bind fun p20 =>
((hLoad H15 p20).bind fun c21 =>
((hAddr (C.d (D.sl b16)) i19).bind fun p22 =>
((hLoad [] p22).bind fun c23 =>
((hLen c21).bind fun n24 =>
((hCells H15 c23).bind fun ys25 =>
(xif (decide ((n24 + ys25.length) * 16 ≤ 140737488355328))
((hApp H15 c21 ys25).bind fun q26 =>
((hAddr out17 i19).bind fun p27 =>
((hStore q26.2 p27 q26.1).bind fun H28 =>
(xif (C.hok out17)
(k0 H28 b16 out17 i18 (IntKind.i64.wrap (i19 + (1 : Int)))))))))))))))
(xif (xokR (A.tup [(A.one out17), (A.one (C.d (D.v (.int .i64 (0 : Int)))))]))
(some ((A.tup [(A.one out17), (A.one (C.d (D.v (.int .i64 (0 : Int)))))]), H15))))
noncomputable def tables_Beside (Φ : Phi) (Ψ : Psi) (fuel : Nat) (a1 : List (List D)) (b2 : List (List D)) (H : Hp) : Option (A × Hp) :=
((Φ i_tables_checkAll [(A.one (C.d (D.sl ([[(D.sl a1)], [(D.sl b2)]] : List (List D)))))]).bind fun r3 =>
((xAD r3).bind fun d4 =>
((xDI .i64 d4).bind fun n5 =>
(xite (!decide (n5 = (0 : Int)))
(xif (xokR (A.tup [(A.one (C.full [])), (A.one (C.d (D.v (.int .i64 n5))))]))
(some ((A.tup [(A.one (C.full [])), (A.one (C.d (D.v (.int .i64 n5))))]), H)))
(xite (!decide ((((a1 : List (List D)).length : Nat) : Int) = (((b2 : List (List D)).length : Nat) : Int)))
(xif (xokR (A.tup [(A.one (C.full [])), (A.one (C.d (D.v (.int .i64 (4 : Int)))))]))
(some ((A.tup [(A.one (C.full [])), (A.one (C.d (D.v (.int .i64 (4 : Int)))))]), H)))
((Φ i_tables_columns [(A.one (C.d (D.sl a1)))]).bind fun r6 =>
((xAD r6).bind fun d7 =>
((xDI .i64 d7).bind fun n8 =>
((Φ i_tables_columns [(A.one (C.d (D.sl b2)))]).bind fun r9 =>
((xAD r9).bind fun d10 =>
((xDI .i64 d10).bind fun n11 =>
(xite (decide ((8 : Int) < (IntKind.i64.wrap (n8 + n11))))
(xif (xokR (A.tup [(A.one (C.full [])), (A.one (C.d (D.v (.int .i64 (2 : Int)))))]))
(some ((A.tup [(A.one (C.full [])), (A.one (C.d (D.v (.int .i64 (2 : Int)))))]), H)))
((Ψ i_tables_clone [(A.one (C.d (D.sl a1)))] H).bind fun q12 =>
((xone q12.1).bind fun c13 =>
((hLen c13).bind fun n14 =>
(xif (C.hok c13)
(iter (fun (x : Hp × List (List D) × C × Int × Int × Unit) (rec : (Hp × List (List D) × C × Int × Int × Unit) → Option (A × Hp)) => tables_Beside_l0 Φ Ψ fuel (fun H15 b16 out17 i18 i19 => rec (H15, b16, out17, i18, i19, ())) x.1 x.2.1 x.2.2.1 x.2.2.2.1 x.2.2.2.2.1) fuel (q12.2, b2, c13, ((n14 : Nat) : Int), (0 : Int), ()))))))))))))))))))
theorem tables_Beside_eq (Φ : Phi) (Ψ : Psi) (fuel : Nat) (a1 : List (List D)) (b2 : List (List D)) (H : Hp) : xbodyH TT0 Φ Ψ sel_tables_Beside fuel sp_tables_Beside Try.f36 [(A.one (C.d (D.sl a1))), (A.one (C.d (D.sl b2)))] H = tables_Beside Φ Ψ fuel a1 b2 H := by kernel_rfl
/-! ref08_Beside -/
def sp_ref08_Beside : List LSpec := []
noncomputable def ref08_Beside (Φ : Phi) (Ψ : Psi) (fuel : Nat) (a1 : List (List D)) (b2 : List (List D)) (H : Hp) : Option (A × Hp) :=
((Φ i_ref08_both [(A.one (C.d (D.sl a1))), (A.one (C.d (D.sl b2)))]).bind fun r3 =>
((xAD r3).bind fun d4 =>
((xDI .i64 d4).bind fun n5 =>
(xite (!decide (n5 = (0 : Int)))
(xif (xokR (A.tup [(A.one (C.full [])), (A.one (C.d (D.v (.int .i64 n5))))]))
(some ((A.tup [(A.one (C.full [])), (A.one (C.d (D.v (.int .i64 n5))))]), H)))
(xite (!decide ((((a1 : List (List D)).length : Nat) : Int) = (((b2 : List (List D)).length : Nat) : Int)))
(xif (xokR (A.tup [(A.one (C.full [])), (A.one (C.d (D.v (.int .i64 (4 : Int)))))]))
(some ((A.tup [(A.one (C.full [])), (A.one (C.d (D.v (.int .i64 (4 : Int)))))]), H)))
((Φ i_ref08_Columns [(A.one (C.d (D.sl a1)))]).bind fun r6 =>
((xAD r6).bind fun d7 =>
((xDI .i64 d7).bind fun n8 =>
((Φ i_ref08_Columns [(A.one (C.d (D.sl b2)))]).bind fun r9 =>
((xAD r9).bind fun d10 =>
((xDI .i64 d10).bind fun n11 =>
(xite (decide ((8 : Int) < (IntKind.i64.wrap (n8 + n11))))
(xif (xokR (A.tup [(A.one (C.full [])), (A.one (C.d (D.v (.int .i64 (2 : Int)))))]))
(some ((A.tup [(A.one (C.full [])), (A.one (C.d (D.v (.int .i64 (2 : Int)))))]), H)))
((Ψ i_ref08_Transpose [(A.one (C.d (D.sl a1)))] H).bind fun q12 =>
((xone q12.1).bind fun c13 =>
((Ψ i_ref08_Transpose [(A.one (C.d (D.sl b2)))] q12.2).bind fun q14 =>
((xone q14.1).bind fun c15 =>
((hLen c13).bind fun n16 =>
((hCells q14.2 c15).bind fun ys17 =>
(xif (decide ((n16 + ys17.length) * 24 ≤ 140737488355328))
((hApp q14.2 c13 ys17).bind fun q18 =>
(xif (C.hok q18.1)
((Ψ i_ref08_Transpose [(A.one q18.1)] q18.2).bind fun q19 =>
((xone q19.1).bind fun c20 =>
(xif (xokR (A.tup [(A.one c20), (A.one (C.d (D.v (.int .i64 (0 : Int)))))]))
(some ((A.tup [(A.one c20), (A.one (C.d (D.v (.int .i64 (0 : Int)))))]), q19.2))))))))))))))))))))))))))
theorem ref08_Beside_eq (Φ : Phi) (Ψ : Psi) (fuel : Nat) (a1 : List (List D)) (b2 : List (List D)) (H : Hp) : xbodyH TT0 Φ Ψ sel_ref08_Beside fuel sp_ref08_Beside Try.f37 [(A.one (C.d (D.sl a1))), (A.one (C.d (D.sl b2)))] H = ref08_Beside Φ Ψ fuel a1 b2 H := by kernel_rfl
/-! tables_DropRow -/
def sp_tables_DropRow : List LSpec := []
noncomputable def tables_DropRow (Φ : Phi) (Ψ : Psi) (fuel : Nat) (t1 : List (List D)) (i2 : Int) (H : Hp) : Option (A × Hp) :=
((Φ i_tables_Check [(A.one (C.d (D.sl t1)))]).bind fun r3 =>
((xAD r3).bind fun d4 =>
((xDI .i64 d4).bind fun n5 =>
(xite (!decide (n5 = (0 : Int)))
(xif (xokR (A.tup [(A.one (C.full [])), (A.one (C.d (D.v (.int .i64 n5))))]))
(some ((A.tup [(A.one (C.full [])), (A.one (C.d (D.v (.int .i64 n5))))]), H)))
((Φ i_tables_place [(A.one (C.d (D.v (.int .i64 i2)))), (A.one (C.d (D.v (.int .i64 (((t1 : List (List D)).length : Nat) : Int)))))]).bind fun r6 =>
((xAD r6).bind fun d7 =>
((xDI .i64 d7).bind fun n8 =>
(xite (decide (n8 < (0 : Int)))
(xif (xokR (A.tup [(A.one (C.full [])), (A.one (C.d (D.v (.int .i64 (7 : Int)))))]))
(some ((A.tup [(A.one (C.full [])), (A.one (C.d (D.v (.int .i64 (7 : Int)))))]), H)))
((Ψ i_tables_clone [(A.one (C.d (D.sl t1)))] H).bind fun q9 =>
((xone q9.1).bind fun c10 =>
(xif (C.hok c10)
((Ψ i_slices_Delete_string_string [(A.one c10), (A.one (C.d (D.v (.int .i64 n8)))), (A.one (C.d (D.v (.int .i64 (IntKind.i64.wrap (n8 + (1 : Int)))))))] q9.2).bind fun q11 =>
((xone q11.1).bind fun c12 =>
(xif (xokR (A.tup [(A.one c12), (A.one (C.d (D.v (.int .i64 (0 : Int)))))]))
(some ((A.tup [(A.one c12), (A.one (C.d (D.v (.int .i64 (0 : Int)))))]), q11.2))))))))))))))))
theorem tables_DropRow_eq (Φ : Phi) (Ψ : Psi) (fuel : Nat) (t1 : List (List D)) (i2 : Int) (H : Hp) : xbodyH TT0 Φ Ψ sel_tables_DropRow fuel sp_tables_DropRow Try.f38 [(A.one (C.d (D.sl t1))), (A.one (C.d (D.v (.int .i64 i2))))] H = tables_DropRow Φ Ψ fuel t1 i2 H := by kernel_rfl
/-! ref08_DropRow -/
def sp_ref08_DropRow : List LSpec := []
def ref08_DropRow (Φ : Phi) (fuel : Nat) (t1 : List (List D)) (i2 : Int) : Option A :=
((Φ i_ref08_Row [(A.one (C.d (D.sl t1))), (A.one (C.d (D.v (.int .i64 i2))))]).bind fun r3 =>
((xtup r3 0).bind fun r4 =>
((xAD r4).bind fun d5 =>
((xDL d5).bind fun l6 =>
((xtup r3 1).bind fun r7 =>
((xAD r7).bind fun d8 =>
((xDI .i64 d8).bind fun n9 =>
(xite (!decide (n9 = (0 : Int)))
(some (A.tup [(A.one (C.d (D.sl []))), (A.one (C.d (D.v (.int .i64 n9))))]))
((Φ i_ref08_index [(A.one (C.d (D.v (.int .i64 i2)))), (A.one (C.d (D.v (.int .i64 ((t1).length : Int)))))]).bind fun r10 =>
((xAD r10).bind fun d11 =>
((xDI .i64 d11).bind fun n12 =>
((Φ i_ref08_without [(A.one (C.d (D.sl t1))), (A.one (C.d (D.v (.int .i64 n12))))]).bind fun r13 =>
((xAD r13).bind fun d14 =>
((xDL d14).bind fun l15 =>
(some (A.tup [(A.one (C.d (D.sl l15))), (A.one (C.d (D.v (.int .i64 (0 : Int)))))]))))))))))))))))
theorem ref08_DropRow_eq (Φ : Phi) (fuel : Nat) (t1 : List (List D)) (i2 : Int) : xbody TT0 Φ fuel sp_ref08_DropRow Try.f39 [(A.one (C.d (D.sl t1))), (A.one (C.d (D.v (.int .i64 i2))))] = ref08_DropRow Φ fuel t1 i2 := by kernel_rfl
/-! tables_DropColumn -/
def sp_tables_DropColumn : List LSpec := [{ n := 0, m := 43, toks := [], ks := [.hp, .slot 1 (.one (.int .i64)), .slot 7 (.one .rc), .slot 26 (.one (.int .i64)), .slot 27 (.one (.int .i64))] }]
noncomputable def tables_DropColumn_l0 (Φ : Phi) (Ψ : Psi) (fuel : Nat) (k0 : Hp → Int → C → Int → Int → Option (A × Hp)) (H18 : Hp) (i19 : Int) (out20 : C) (i21 : Int) (i22 : Int) : Option (A × Hp) :=
(xite (decide (i22 < i21))
((hAddr out20 i22).bind fun p23 =>
((hLoad H18 p23).bind fun c24 =>
(xif (C.hok c24)
((Ψ i_slices_Delete_string_string_64 [(A.one c24), (A.one (C.d (D.v (.int .i64 i19)))), (A.one (C.d (D.v (.int .i64 (IntKind.i64.wrap (i19 + (1 : Int)))))))] H18).bind fun q25 =>
((xone q25.1).bind fun c26 =>
((hAddr out20 i22).bind fun p27 =>
((hStore q25.2 p27 c26).bind fun H28 =>
(xif (C.hok out20)
(k0 H28 i19 out20 i21 (IntKind.i64.wrap (i22 + (1 : Int))))))))))))
(xif (xokR (A.tup [(A.one out20), (A.one (C.d (D.v (.int .i64 (0 : Int)))))]))
(some ((A.tup [(A.one out20), (A.one (C.d (D.v (.int .i64 (0 : Int)))))]), H18))))
noncomputable def tables_DropColumn (Φ : Phi) (Ψ : Psi) (fuel : Nat) (t1 : List (List D)) (i2 : Int) (H : Hp) : Option (A × Hp) :=
((Φ i_tables_Check [(A.one (C.d (D.sl t1)))]).bind fun r3 =>
((xAD r3).bind fun d4 =>
((xDI .i64 d4).bind fun n5 =>
(xite (!decide (n5 = (0 : Int)))
(xif (xokR (A.tup [(A.one (C.full [])), (A.one (C.d (D.v (.int .i64 n5))))]))
(some ((A.tup [(A.one (C.full [])), (A.one (C.d (D.v (.int .i64 n5))))]), H)))
((Φ i_tables_columns [(A.one (C.d (D.sl t1)))]).bind fun r6 =>
((xAD r6).bind fun d7 =>
((xDI .i64 d7).bind fun n8 =>
((Φ i_tables_place [(A.one (C.d (D.v (.int .i64 i2)))), (A.one (C.d (D.v (.int .i64 n8))))]).bind fun r9 =>
((xAD r9).bind fun d10 =>
((xDI .i64 d10).bind fun n11 =>
(xite (decide (n11 < (0 : Int)))
(xif (xokR (A.tup [(A.one (C.full [])), (A.one (C.d (D.v (.int .i64 (7 : Int)))))]))
(some ((A.tup [(A.one (C.full [])), (A.one (C.d (D.v (.int .i64 (7 : Int)))))]), H)))
((Φ i_tables_columns [(A.one (C.d (D.sl t1)))]).bind fun r12 =>
((xAD r12).bind fun d13 =>
((xDI .i64 d13).bind fun n14 =>
(xite (decide (n14 = (1 : Int)))
(xif (xokR (A.tup [(A.one (C.full [])), (A.one (C.d (D.v (.int .i64 (2 : Int)))))]))
(some ((A.tup [(A.one (C.full [])), (A.one (C.d (D.v (.int .i64 (2 : Int)))))]), H)))
((Ψ i_tables_clone [(A.one (C.d (D.sl t1)))] H).bind fun q15 =>
((xone q15.1).bind fun c16 =>
((hLen c16).bind fun n17 =>
(xif (C.hok c16)
(iter (fun (x : Hp × Int × C × Int × Int × Unit) (rec : (Hp × Int × C × Int × Int × Unit) → Option (A × Hp)) => tables_DropColumn_l0 Φ Ψ fuel (fun H18 i19 out20 i21 i22 => rec (H18, i19, out20, i21, i22, ())) x.1 x.2.1 x.2.2.1 x.2.2.2.1 x.2.2.2.2.1) fuel (q15.2, n11, c16, ((n17 : Nat) : Int), (0 : Int), ())))))))))))))))))))))
theorem tables_DropColumn_eq (Φ : Phi) (Ψ : Psi) (fuel : Nat) (t1 : List (List D)) (i2 : Int) (H : Hp) : xbodyH TT0 Φ Ψ sel_tables_DropColumn fuel sp_tables_DropColumn Try.f40 [(A.one (C.d (D.sl t1))), (A.one (C.d (D.v (.int .i64 i2))))] H = tables_DropColumn Φ Ψ fuel t1 i2 H := by kernel_rfl
end Go.Av

set_option linter.unusedVariables false
set_option maxRecDepth 100000
namespace Go.Av
open Go.Proofs
/-! ref08_DropColumn -/
def sp_ref08_DropColumn : List LSpec := []
def ref08_DropColumn (Φ : Phi) (fuel : Nat) (t1 : List (List D)) (i2 : Int) : Option A :=
((Φ i_ref08_Check [(A.one (C.d (D.sl t1)))]).bind fun r3 =>
((xAD r3).bind fun d4 =>
((xDI .i64 d4).bind fun n5 =>
(xite (!decide (n5 = (0 : Int)))
(some (A.tup [(A.one (C.d (D.sl []))), (A.one (C.d (D.v (.int .i64 n5))))]))
((Φ i_ref08_Columns [(A.one (C.d (D.sl t1)))]).bind fun r6 =>
((xAD r6).bind fun d7 =>
((xDI .i64 d7).bind fun n8 =>
((Φ i_ref08_index [(A.one (C.d (D.v (.int .i64 i2)))), (A.one (C.d (D.v (.int .i64 n8))))]).bind fun r9 =>
((xAD r9).bind fun d10 =>
((xDI .i64 d10).bind fun n11 =>
(xite (decide (n11 < (0 : Int)))
(some (A.tup [(A.one (C.d (D.sl []))), (A.one (C.d (D.v (.int .i64 (7 : Int)))))]))
((Φ i_ref08_Columns [(A.one (C.d (D.sl t1)))]).bind fun r12 =>
((xAD r12).bind fun d13 =>
((xDI .i64 d13).bind fun n14 =>
(xite (decide (n14 = (1 : Int)))
(some (A.tup [(A.one (C.d (D.sl []))), (A.one (C.d (D.v (.int .i64 (2 : Int)))))]))
((Φ i_ref08_Transpose [(A.one (C.d (D.sl t1)))]).bind fun r15 =>
((xAD r15).bind fun d16 =>
((xDL d16).bind fun l17 =>
((Φ i_ref08_without [(A.one (C.d (D.sl l17))), (A.one (C.d (D.v (.int .i64 n11))))]).bind fun r18 =>
((xAD r18).bind fun d19 =>
((xDL d19).bind fun l20 =>
((Φ i_ref08_Transpose [(A.one (C.d (D.sl l20)))]).bind fun r21 =>
((xAD r21).bind fun d22 =>
((xDL d22).bind fun l23 =>
(some (A.tup [(A.one (C.d (D.sl l23))), (A.one (C.d (D.v (.int .i64 (0 : Int)))))]))))))))))))))))))))))))))
theorem ref08_DropColumn_eq (Φ : Phi) (fuel : Nat) (t1 : List (List D)) (i2 : Int) : xbody TT0 Φ fuel sp_ref08_DropColumn Try.f41 [(A.one (C.d (D.sl t1))), (A.one (C.d (D.v (.int .i64 i2))))] = ref08_DropColumn Φ fuel t1 i2 := by kernel_rfl
/-! tables_Sort -/
def sp_tables_Sort : List LSpec := []
noncomputable def tables_Sort (Φ : Phi) (Ψ : Psi) (fuel : Nat) (t1 : List (List D)) (column2 : Int) (H : Hp) : Option (A × Hp) :=
((hPush H ⟨[(C.d (D.v (.int .i64 column2)))], true⟩).bind fun H3 =>
((Φ i_tables_Check [(A.one (C.d (D.sl t1)))]).bind fun r4 =>
((xAD r4).bind fun d5 =>
((xDI .i64 d5).bind fun n6 =>
(xite (!decide (n6 = (0 : Int)))
(xif (xokR (A.tup [(A.one (C.full [])), (A.one (C.d (D.v (.int .i64 n6))))]))
(some ((A.tup [(A.one (C.full [])), (A.one (C.d (D.v (.int .i64 n6))))]), H3)))
((hLoad H3 (C.hp H.length 0)).bind fun c7 =>
((xI .i64 (A.one c7)).bind fun n8 =>
((Φ i_tables_columns [(A.one (C.d (D.sl t1)))]).bind fun r9 =>
((xAD r9).bind fun d10 =>
((xDI .i64 d10).bind fun n11 =>
((Φ i_tables_place [(A.one (C.d (D.v (.int .i64 n8)))), (A.one (C.d (D.v (.int .i64 n11))))]).bind fun r12 =>
((xAD r12).bind fun d13 =>
((xDI .i64 d13).bind fun n14 =>
((hStore H3 (C.hp H.length 0) (C.d (D.v (.int .i64 n14)))).bind fun H15 =>
((hLoad H15 (C.hp H.length 0)).bind fun c16 =>
((xI .i64 (A.one c16)).bind fun n17 =>
(xite (decide (n17 < (0 : Int)))
(xif (xokR (A.tup [(A.one (C.full [])), (A.one (C.d (D.v (.int .i64 (7 : Int)))))]))
(some ((A.tup [(A.one (C.full [])), (A.one (C.d (D.v (.int .i64 (7 : Int)))))]), H15)))
((Ψ i_tables_clone [(A.one (C.d (D.sl t1)))] H15).bind fun q18 =>
((xone q18.1).bind fun c19 =>
(xif (C.hok c19)
((Ψ i_slices_SortStableFunc_string_string [(A.one c19), (A.one (C.hclo 66 [H.length]))] q18.2).bind fun q20 =>
(xif (xokR (A.tup [(A.one c19), (A.one (C.d (D.v (.int .i64 (0 : Int)))))]))
(some ((A.tup [(A.one c19), (A.one (C.d (D.v (.int .i64 (0 : Int)))))]), q20.2))))))))))))))))))))))))
theorem tables_Sort_eq (Φ : Phi) (Ψ : Psi) (fuel : Nat) (t1 : List (List D)) (column2 : Int) (H : Hp) : xbodyH TT0 Φ Ψ sel_tables_Sort fuel sp_tables_Sort Try.f42 [(A.one (C.d (D.sl t1))), (A.one (C.d (D.v (.int .i64 column2))))] H = tables_Sort Φ Ψ fuel t1 column2 H := by kernel_rfl
/-! ref08_Sort -/
def sp_ref08_Sort : List LSpec := [{ n := 0, m := 69, toks := [], ks := [.hp, .slot 7 (.one (.int .i64)), .slot 8 (.one .rc), .slot 9 (.one (.int .i64))] }, { n := 0, m := 69, toks := [], ks := [.hp, .slot 7 (.one (.int .i64)), .slot 8 (.one .rc), .slot 9 (.one (.int .i64)), .slot 10 (.one (.int .i64))] }]
noncomputable def ref08_Sort_l1 (Φ : Phi) (Ψ : Psi) (fuel : Nat) (k0 : Hp → Int → C → Int → Option (A × Hp)) (k1 : Hp → Int → C → Int → Int → Option (A × Hp)) (H19 : Hp) (k20 : Int) (out21 : C) (n22 : Int) (i23 : Int) : Option (A × Hp) :=
((hLen out21).bind fun n24 =>
(xite (decide (i23 < ((n24 : Nat) : Int)))
((hAddr out21 (IntKind.i64.wrap (i23 - (1 : Int)))).bind fun p25 =>
((hLoad H19 p25).bind fun c26 =>
((hAddr c26 k20).bind fun p27 =>
((hLoad H19 p27).bind fun c28 =>
((xS (A.one c28)).bind fun s29 =>
((hAddr out21 i23).bind fun p30 =>
((hLoad H19 p30).bind fun c31 =>
((hAddr c31 k20).bind fun p32 =>
((hLoad H19 p32).bind fun c33 =>
((xS (A.one c33)).bind fun s34 =>
(xite (!(Op.bytesLess s29 s34 || decide ((s29 : List UInt8) = s34)))
((hAddr out21 i23).bind fun p35 =>
((hLoad H19 p35).bind fun c36 =>
((hAddr out21 (IntKind.i64.wrap (i23 - (1 : Int)))).bind fun p37 =>
((hLoad H19 p37).bind fun c38 =>
((hAddr out21 (IntKind.i64.wrap (i23 - (1 : Int)))).bind fun p39 =>
((hStore H19 p39 c36).bind fun H40 =>
((hAddr out21 i23).bind fun p41 =>
((hStore H40 p41 c38).bind fun H42 =>
(xif (C.hok out21)
(k1 H42 k20 out21 n22 (IntKind.i64.wrap (i23 + (1 : Int)))))))))))))
(xif (C.hok out21)
(k1 H19 k20 out21 n22 (IntKind.i64.wrap (i23 + (1 : Int))))))))))))))))
(xif (C.hok out21)
(k0 H19 k20 out21 (IntKind.i64.wrap (n22 + (1 : Int)))))))
noncomputable def ref08_Sort_l0 (Φ : Phi) (Ψ : Psi) (fuel : Nat) (k0 : Hp → Int → C → Int → Option (A × Hp)) (H14 : Hp) (k15 : Int) (out16 : C) (n17 : Int) : Option (A × Hp) :=
((hLen out16).bind fun n18 =>
(xite (decide (n17 < ((n18 : Nat) : Int)))
(xif (C.hok out16)
(iter (fun (x : Hp × Int × C × Int × Int × Unit) (rec : (Hp × Int × C × Int × Int × Unit) → Option (A × Hp)) => ref08_Sort_l1 Φ Ψ fuel k0 (fun H19 k20 out21 n22 i23 => rec (H19, k20, out21, n22, i23, ())) x.1 x.2.1 x.2.2.1 x.2.2.2.1 x.2.2.2.2.1) fuel (H14, k15, out16, n17, (1 : Int), ())))
(xif (xokR (A.tup [(A.one out16), (A.one (C.d (D.v (.int .i64 (0 : Int)))))]))
(some ((A.tup [(A.one out16), (A.one (C.d (D.v (.int .i64 (0 : Int)))))]), H14)))))
noncomputable def ref08_Sort (Φ : Phi) (Ψ : Psi) (fuel : Nat) (t1 : List (List D)) (column2 : Int) (H : Hp) : Option (A × Hp) :=
((Φ i_ref08_Check [(A.one (C.d (D.sl t1)))]).bind fun r3 =>
((xAD r3).bind fun d4 =>
((xDI .i64 d4).bind fun n5 =>
(xite (!decide (n5 = (0 : Int)))
(xif (xokR (A.tup [(A.one (C.full [])), (A.one (C.d (D.v (.int .i64 n5))))]))
(some ((A.tup [(A.one (C.full [])), (A.one (C.d (D.v (.int .i64 n5))))]), H)))
((Φ i_ref08_Columns [(A.one (C.d (D.sl t1)))]).bind fun r6 =>
((xAD r6).bind fun d7 =>
((xDI .i64 d7).bind fun n8 =>
((Φ i_ref08_index [(A.one (C.d (D.v (.int .i64 column2)))), (A.one (C.d (D.v (.int .i64 n8))))]).bind fun r9 =>
((xAD r9).bind fun d10 =>
((xDI .i64 d10).bind fun n11 =>
(xite (decide (n11 < (0 : Int)))
(xif (xokR (A.tup [(A.one (C.full [])), (A.one (C.d (D.v (.int .i64 (7 : Int)))))]))
(some ((A.tup [(A.one (C.full [])), (A.one (C.d (D.v (.int .i64 (7 : Int)))))]), H)))
((Ψ i_ref08_table [(A.one (C.d (D.sl t1)))] H).bind fun q12 =>
((xone q12.1).bind fun c13 =>
(xif (C.hok c13)
(iter (fun (x : Hp × Int × C × Int × Unit) (rec : (Hp × Int × C × Int × Unit) → Option (A × Hp)) => ref08_Sort_l0 Φ Ψ fuel (fun H14 k15 out16 n17 => rec (H14, k15, out16, n17, ())) x.1 x.2.1 x.2.2.1 x.2.2.2.1) fuel (q12.2, n11, c13, (0 : Int), ()))))))))))))))))
theorem ref08_Sort_eq (Φ : Phi) (Ψ : Psi) (fuel : Nat) (t1 : List (List D)) (column2 : Int) (H : Hp) : xbodyH TT0 Φ Ψ sel_ref08_Sort fuel sp_ref08_Sort Try.f43 [(A.one (C.d (D.sl t1))), (A.one (C.d (D.v (.int .i64 column2))))] H = ref08_Sort Φ Ψ fuel t1 column2 H := by kernel_rfl
/-! law08_count -/
def sp_law08_count : List LSpec := [{ n := 0, m := 22, toks := [], ks := [.slot 0 (.one .sl), .slot 1 (.one .sl), .slot 5 (.one (.int .i64)), .slot 6 (.one (.int .i64))] }]
def law08_count_l0 (Φ : Phi) (fuel : Nat) (k0 : List (List D) → List (List D) → Int → Int → Option A) (t3 : List (List D)) (row4 : List (List D)) (n5 : Int) (i6 : Int) : Option A :=
(xite (decide (i6 < ((t3).length : Int)))
((xElem 1 t3 i6).bind fun c7 =>
(xif (decide (1 ≤ (c7).length))
((xDL (List.getD c7 0 (D.s []))).bind fun l8 =>
((Φ i_ref08_Texts [(A.one (C.d (D.sl l8))), (A.one (C.d (D.sl row4)))]).bind fun r9 =>
((xAD r9).bind fun d10 =>
((xDB d10).bind fun b11 =>
(xite b11
(k0 t3 row4 (IntKind.i64.wrap (n5 + (1 : Int))) (IntKind.i64.wrap (i6 + (1 : Int))))
(k0 t3 row4 n5 (IntKind.i64.wrap (i6 + (1 : Int)))))))))))
(some (A.one (C.d (D.v (.int .i64 n5))))))
def law08_count (Φ : Phi) (fuel : Nat) (t1 : List (List D)) (row2 : List (List D)) : Option A :=
(iter (fun (x : List (List D) × List (List D) × Int × Int × Unit) (rec : (List (List D) × List (List D) × Int × Int × Unit) → Option A) => law08_count_l0 Φ fuel (fun t3 row4 n5 i6 => rec (t3, row4, n5, i6, ())) x.1 x.2.1 x.2.2.1 x.2.2.2.1) fuel (t1, row2, (0 : Int), (0 : Int), ()))
theorem law08_count_eq (Φ : Phi) (fuel : Nat) (t1 : List (List D)) (row2 : List (List D)) : xbody TT0 Φ fuel sp_law08_count Try.f44 [(A.one (C.d (D.sl t1))), (A.one (C.d (D.sl row2)))] = law08_count Φ fuel t1 row2 := by kernel_rfl
/-! tables_columns -/
def sp_tables_columns : List LSpec := []
def tables_columns (Φ : Phi) (fuel : Nat) (t1 : List (List D)) : Option A :=
(xite (decide (((t1).length : Int) = (0 : Int)))
(some (A.one (C.d (D.v (.int .i64 (0 : Int))))))
((xElem 1 t1 (0 : Int)).bind fun c2 =>
(xif (decide (1 ≤ (c2).length))
((xDL (List.getD c2 0 (D.s []))).bind fun l3 =>
(some (A.one (C.d (D.v (.int .i64 ((l3).length : Int))))))))))
theorem tables_columns_eq (Φ : Phi) (fuel : Nat) (t1 : List (List D)) : xbody TT0 Φ fuel sp_tables_columns Try.f45 [(A.one (C.d (D.sl t1)))] = tables_columns Φ fuel t1 := by kernel_rfl
/-! slices_Clone_string_string -/
def sp_slices_Clone_string_string : List LSpec := []
noncomputable def slices_Clone_string_string (Φ : Phi) (Ψ : Psi) (fuel : Nat) (s1 : C) (H : Hp) : Option (A × Hp) :=
((hLen s1).bind fun n2 =>
(xnil n2
(xif (xokR (A.one (C.full [])))
(some ((A.one (C.full [])), H)))
((hCells H s1).bind fun ys3 =>
(xif (decide (((([] : List (List D)) : List (List D)).length + ys3.length) * 16 ≤ 140737488355328))
((hApp H (C.full ([] : List (List D))) ys3).bind fun q4 =>
(xif (xokR (A.one q4.1))
(some ((A.one q4.1), q4.2))))))))
theorem slices_Clone_string_string_eq (Φ : Phi) (Ψ : Psi) (fuel : Nat) (s1 : C) (H : Hp) : xbodyH TT0 Φ Ψ sel_slices_Clone_string_string fuel sp_slices_Clone_string_string Try.f46 [(A.one s1)] H = slices_Clone_string_string Φ Ψ fuel s1 H := by kernel_rfl
/-! ref08_Columns -/
def sp_ref08_Columns : List LSpec := []
def ref08_Columns (Φ : Phi) (fuel : Nat) (t1 : List (List D)) : Option A :=
(xite (decide (((t1).length : Int) = (0 : Int)))
(some (A.one (C.d (D.v (.int .i64 (0 : Int))))))
((xElem 1 t1 (0 : Int)).bind fun c2 =>
(xif (decide (1 ≤ (c2).length))
((xDL (List.getD c2 0 (D.s []))).bind fun l3 =>
(some (A.one (C.d (D.v (.int .i64 ((l3).length : Int))))))))))
theorem ref08_Columns_eq (Φ : Phi) (fuel : Nat) (t1 : List (List D)) : xbody TT0 Φ fuel sp_ref08_Columns Try.f47 [(A.one (C.d (D.sl t1)))] = ref08_Columns Φ fuel t1 := by kernel_rfl
/-! ref08_list -/
def sp_ref08_list : List LSpec := []
noncomputable def ref08_list (Φ : Phi) (Ψ : Psi) (fuel : Nat) (l1 : C) (H : Hp) : Option (A × Hp) :=
((hCells H l1).bind fun ys2 =>
(xif (decide (((([] : List (List D)) : List (List D)).length + ys2.length) * 16 ≤ 140737488355328))
((hApp H (C.full ([] : List (List D))) ys2).bind fun q3 =>
(xif (xokR (A.one q3.1))
(some ((A.one q3.1), q3.2))))))
theorem ref08_list_eq (Φ : Phi) (Ψ : Psi) (fuel : Nat) (l1 : C) (H : Hp) : xbodyH TT0 Φ Ψ sel_ref08_list fuel sp_ref08_list Try.f48 [(A.one l1)] H = ref08_list Φ Ψ fuel l1 H := by kernel_rfl
/-! tables_entry -/
def sp_tables_entry : List LSpec := []
noncomputable def tables_entry (Φ : Phi) (Ψ : Psi) (fuel : Nat) (l1 : C) (s2 : List UInt8) (H : Hp) : Option (A × Hp) :=
((hNilC l1).bind fun p3 =>
((hLoad H p3).bind fun c4 =>
((hLow H 3 c4).bind fun d5 =>
((Φ i_slices_Index_string_string [(A.one (C.d d5)), (A.one (C.d (D.s s2)))]).bind fun r6 =>
((xAD r6).bind fun d7 =>
((xDI .i64 d7).bind fun n8 =>
(xite (decide (n8 < (0 : Int)))
((hNilC l1).bind fun p9 =>
((hLoad H p9).bind fun c10 =>
((hLen c10).bind fun n11 =>
((hNilC l1).bind fun p12 =>
((hLoad H p12).bind fun c13 =>
((hLen c13).bind fun n14 =>
((hCells H (C.full ([[(D.s s2)]] : List (List D)))).bind fun ys15 =>
(xif (decide ((n14 + ys15.length) * 16 ≤ 140737488355328))
((hApp H c13 ys15).bind fun q16 =>
((hNilC l1).bind fun p17 =>
((hStore q16.2 p17 q16.1).bind fun H18 =>
(xif (xokR (A.one (C.d (D.v (.int .i64 ((n11 : Nat) : Int))))))
(some ((A.one (C.d (D.v (.int .i64 ((n11 : Nat) : Int))))), H18))))))))))))))
(xif (xokR (A.one (C.d (D.v (.int .i64 n8)))))
(some ((A.one (C.d (D.v (.int .i64 n8)))), H))))))))))
theorem tables_entry_eq (Φ : Phi) (Ψ : Psi) (fuel : Nat) (l1 : C) (s2 : List UInt8) (H : Hp) : xbodyH TT0 Φ Ψ sel_tables_entry fuel sp_tables_entry Try.f49 [(A.one l1), (A.one (C.d (D.s s2)))] H = tables_entry Φ Ψ fuel l1 s2 H := by kernel_rfl
/-! ref08_distinct -/
def sp_ref08_distinct : List LSpec := [{ n := 1, m := 26, toks := [(9, .slot 3)], ks := [.slot 0 (.one .sl), .slot 3 (.one (.app 0 9)), .slot 4 (.one (.int .i64))] }]
def ref08_distinct_l0 (Φ : Phi) (fuel : Nat) (k0 : List (List D) → List (List D) → Int → Option A) (l5 : List (List D)) (out6 : List (List D)) (i7 : Int) : Option A :=
(xite (decide (i7 < ((l5).length : Int)))
((xElem 1 l5 i7).bind fun c8 =>
(xif (decide (1 ≤ (c8).length))
((xDS (List.getD c8 0 (D.s []))).bind fun s9 =>
((Φ i_ref08_place [(A.one (C.d (D.sl out6))), (A.one (C.d (D.s s9)))]).bind fun r10 =>
((xAD r10).bind fun d11 =>
((xDI .i64 d11).bind fun n12 =>
(xite (decide (n12 < (0 : Int)))
((xElem 1 l5 i7).bind fun c13 =>
(xif (decide (1 ≤ (c13).length))
((xDS (List.getD c13 0 (D.s []))).bind fun s14 =>
((xApp 1 16 (out6.length) out6 ([[(D.s s14)]] : List (List D))).bind fun l15 =>
(xif (decide (l15.length = (l15 : List (List D)).length))
(k0 l5 l15 (IntKind.i64.wrap (i7 + (1 : Int)))))))))
(xif (decide (out6.length = (out6 : List (List D)).length))
(k0 l5 out6 (IntKind.i64.wrap (i7 + (1 : Int))))))))))))
(some (A.one (C.d (D.sl out6)))))
def ref08_distinct (Φ : Phi) (fuel : Nat) (l1 : List (List D)) : Option A :=
(xif (decide (([] : List (List D)).length = ([] : List (List D)).length))
(iter (fun (x : List (List D) × List (List D) × Int × Unit) (rec : (List (List D) × List (List D) × Int × Unit) → Option A) => ref08_distinct_l0 Φ fuel (fun l5 out6 i7 => rec (l5, out6, i7, ())) x.1 x.2.1 x.2.2.1) fuel (l1, [], (0 : Int), ())))
theorem ref08_distinct_eq (Φ : Phi) (fuel : Nat) (l1 : List (List D)) : xbody TT0 Φ fuel sp_ref08_distinct Try.f50 [(A.one (C.d (D.sl l1)))] = ref08_distinct Φ fuel l1 := by kernel_rfl
/-! ref08_column -/
def sp_ref08_column : List LSpec := [{ n := 0, m := 24, toks := [], ks := [.hp, .slot 0 (.one .rc), .slot 1 (.one (.int .i64)), .slot 5 (.one .rc), .slot 6 (.one (.int .i64))] }]
noncomputable def ref08_column_l0 (Φ : Phi) (Ψ : Psi) (fuel : Nat) (k0 : Hp → C → Int → C → Int → Option (A × Hp)) (H8 : Hp) (t9 : C) (k10 : Int) (out11 : C) (i12 : Int) : Option (A × Hp) :=
((hLen t9).bind fun n13 =>
(xite (decide (i12 < ((n13 : Nat) : Int)))
((hAddr t9 i12).bind fun p14 =>
((hLoad H8 p14).bind fun c15 =>
((hAddr c15 k10).bind fun p16 =>
((hLoad H8 p16).bind fun c17 =>
((xS (A.one c17)).bind fun s18 =>
((hLen out11).bind fun n19 =>
((hCells H8 (C.full ([[(D.s s18)]] : List (List D)))).bind fun ys20 =>
(xif (decide ((n19 + ys20.length) * 16 ≤ 140737488355328))
((hApp H8 out11 ys20).bind fun q21 =>
(xif (C.hok t9)
(xif (C.hok q21.1)
(k0 q21.2 t9 k10 q21.1 (IntKind.i64.wrap (i12 + (1 : Int)))))))))))))))
(xif (xokR (A.one out11))
(some ((A.one out11), H8)))))
noncomputable def ref08_column (Φ : Phi) (Ψ : Psi) (fuel : Nat) (t1 : C) (k2 : Int) (H : Hp) : Option (A × Hp) :=
(xif (C.hok t1)
(iter (fun (x : Hp × C × Int × C × Int × Unit) (rec : (Hp × C × Int × C × Int × Unit) → Option (A × Hp)) => ref08_column_l0 Φ Ψ fuel (fun H8 t9 k10 out11 i12 => rec (H8, t9, k10, out11, i12, ())) x.1 x.2.1 x.2.2.1 x.2.2.2.1 x.2.2.2.2.1) fuel (H, t1, k2, (C.full []), (0 : Int), ())))
theorem ref08_column_eq (Φ : Phi) (Ψ : Psi) (fuel : Nat) (t1 : C) (k2 : Int) (H : Hp) : xbodyH TT0 Φ Ψ sel_ref08_column fuel sp_ref08_column Try.f51 [(A.one t1), (A.one (C.d (D.v (.int .i64 k2))))] H = ref08_column Φ Ψ fuel t1 k2 H := by kernel_rfl
/-! ref08_value -/
def sp_ref08_value : List LSpec := [{ n := 0, m := 38, toks := [], ks := [.slot 0 (.one .sl), .slot 1 (.one .str), .slot 2 (.one .str), .slot 7 (.one (.int .i64))] }]
def ref08_value_l0 (Φ : Phi) (fuel : Nat) (k0 : List (List D) → List UInt8 → List UInt8 → Int → Option A) (t4 : List (List D)) (key5 : List UInt8) (name6 : List UInt8) (i7 : Int) : Option A :=
(xite (decide (i7 < ((t4).length : Int)))
((xElem 1 t4 i7).bind fun c8 =>
(xif (decide (1 ≤ (c8).length))
((xDL (List.getD c8 0 (D.s []))).bind fun l9 =>
((xElem 1 l9 (0 : Int)).bind fun c10 =>
(xif (decide (1 ≤ (c10).length))
((xDS (List.getD c10 0 (D.s []))).bind fun s11 =>
(xite (decide ((s11 : List UInt8) = key5))
((xElem 1 t4 i7).bind fun c12 =>
(xif (decide (1 ≤ (c12).length))
((xDL (List.getD c12 0 (D.s []))).bind fun l13 =>
((xElem 1 l13 (1 : Int)).bind fun c14 =>
(xif (decide (1 ≤ (c14).length))
((xDS (List.getD c14 0 (D.s []))).bind fun s15 =>
(xite (decide ((s15 : List UInt8) = name6))
((xElem 1 t4 i7).bind fun c16 =>
(xif (decide (1 ≤ (c16).length))
((xDL (List.getD c16 0 (D.s []))).bind fun l17 =>
((xElem 1 l17 (2 : Int)).bind fun c18 =>
(xif (decide (1 ≤ (c18).length))
((xDS (List.getD c18 0 (D.s []))).bind fun s19 =>
(some (A.one (C.d (D.s s19))))))))))
(k0 t4 key5 name6 (IntKind.i64.wrap (i7 + (1 : Int)))))))))))
(k0 t4 key5 name6 (IntKind.i64.wrap (i7 + (1 : Int)))))))))))
(some (A.one (C.d (D.s [])))))
def ref08_value (Φ : Phi) (fuel : Nat) (t1 : List (List D)) (key2 : List UInt8) (name3 : List UInt8) : Option A :=
(iter (fun (x : List (List D) × List UInt8 × List UInt8 × Int × Unit) (rec : (List (List D) × List UInt8 × List UInt8 × Int × Unit) → Option A) => ref08_value_l0 Φ fuel (fun t4 key5 name6 i7 => rec (t4, key5, name6, i7, ())) x.1 x.2.1 x.2.2.1 x.2.2.2.1) fuel (t1, key2, name3, (0 : Int), ()))
theorem ref08_value_eq (Φ : Phi) (fuel : Nat) (t1 : List (List D)) (key2 : List UInt8) (name3 : List UInt8) : xbody TT0 Φ fuel sp_ref08_value Try.f52 [(A.one (C.d (D.sl t1))), (A.one (C.d (D.s key2))), (A.one (C.d (D.s name3)))] = ref08_value Φ fuel t1 key2 name3 := by kernel_rfl
/-! tables_place -/
def sp_tables_place : List LSpec := []
def tables_place (Φ : Phi) (fuel : Nat) (i1 : Int) (n2 : Int) : Option A :=
(xite (decide ((0 : Int) ≤ i1))
(xite (decide (i1 < n2))
(some (A.one (C.d (D.v (.int .i64 i1)))))
(xite (decide (i1 < (0 : Int)))
(xite (decide ((IntKind.i64.wrap (0 - n2)) ≤ i1))
(some (A.one (C.d (D.v (.int .i64 (IntKind.i64.wrap (n2 + i1)))))))
(some (A.one (C.d (D.v (.int .i64 (-1 : Int)))))))
(some (A.one (C.d (D.v (.int .i64 (-1 : Int))))))))
(xite (decide (i1 < (0 : Int)))
(xite (decide ((IntKind.i64.wrap (0 - n2)) ≤ i1))
(some (A.one (C.d (D.v (.int .i64 (IntKind.i64.wrap (n2 + i1)))))))
(some (A.one (C.d (D.v (.int .i64 (-1 : Int)))))))
(some (A.one (C.d (D.v (.int .i64 (-1 : Int))))))))
theorem tables_place_eq (Φ : Phi) (fuel : Nat) (i1 : Int) (n2 : Int) : xbody TT0 Φ fuel sp_tables_place Try.f53 [(A.one (C.d (D.v (.int .i64 i1)))), (A.one (C.d (D.v (.int .i64 n2))))] = tables_place Φ fuel i1 n2 := by kernel_rfl
/-! tables_clone -/
def sp_tables_clone : List LSpec := [{ n := 0, m := 30, toks := [], ks := [.hp, .slot 3 (.one .rc), .slot 9 (.one .sl), .slot 10 (.one (.int .i64)), .slot 11 (.one (.int .i64))] }]
noncomputable def tables_clone_l0 (Φ : Phi) (Ψ : Psi) (fuel : Nat) (k0 : Hp → C → List (List D) → Int → Int → Option (A × Hp)) (H3 : Hp) (out4 : C) (l5 : List (List D)) (i6 : Int) (i7 : Int) : Option (A × Hp) :=
(xite (decide (i7 < i6))
((hAddr (C.d (D.sl l5)) i7).bind fun p8 =>
((hLoad H3 p8).bind fun c9 =>
((hLen c9).bind fun n10 =>
(xif (decide (((n10 : Nat) : Int) = ((n10 : Nat) : Int)) && (decide (0 ≤ ((n10 : Nat) : Int)) && (decide (((n10 : Nat) : Int) ≤ 9223372036854775807) && decide (16 * ((n10 : Nat) : Int) ≤ 281474976710656))))
((hPush H3 ⟨List.replicate (((n10 : Nat) : Int)).toNat (C.d (D.s [])), true⟩).bind fun H11 =>
((hAddr out4 i7).bind fun p12 =>
((hStore H11 p12 (C.hs H3.length 0 ((((n10 : Nat) : Int)).toNat))).bind fun H13 =>
((hAddr out4 i7).bind fun p14 =>
((hLoad H13 p14).bind fun c15 =>
((hCells H13 c9).bind fun ys16 =>
((hCopy H13 c15 ys16).bind fun q17 =>
(xif (C.hok out4)
(k0 q17.2 out4 l5 i6 (IntKind.i64.wrap (i7 + (1 : Int))))))))))))))))
(xif (xokR (A.one out4))
(some ((A.one out4), H3))))
noncomputable def tables_clone (Φ : Phi) (Ψ : Psi) (fuel : Nat) (t1 : List (List D)) (H : Hp) : Option (A × Hp) :=
(xif (decide ((((t1 : List (List D)).length : Nat) : Int) = (((t1 : List (List D)).length : Nat) : Int)) && (decide (0 ≤ (((t1 : List (List D)).length : Nat) : Int)) && (decide ((((t1 : List (List D)).length : Nat) : Int) ≤ 9223372036854775807) && decide (24 * (((t1 : List (List D)).length : Nat) : Int) ≤ 281474976710656))))
((hPush H ⟨List.replicate ((((t1 : List (List D)).length : Nat) : Int)).toNat (C.full []), true⟩).bind fun H2 =>
(iter (fun (x : Hp × C × List (List D) × Int × Int × Unit) (rec : (Hp × C × List (List D) × Int × Int × Unit) → Option (A × Hp)) => tables_clone_l0 Φ Ψ fuel (fun H3 out4 l5 i6 i7 => rec (H3, out4, l5, i6, i7, ())) x.1 x.2.1 x.2.2.1 x.2.2.2.1 x.2.2.2.2.1) fuel (H2, (C.hs H.length 0 (((((t1 : List (List D)).length : Nat) : Int)).toNat)), t1, (((t1 : List (List D)).length : Nat) : Int), (0 : Int), ()))))
theorem tables_clone_eq (Φ : Phi) (Ψ : Psi) (fuel : Nat) (t1 : List (List D)) (H : Hp) : xbodyH TT0 Φ Ψ sel_tables_clone fuel sp_tables_clone Try.f54 [(A.one (C.d (D.sl t1)))] H = tables_clone Φ Ψ fuel t1 H := by kernel_rfl
/-! strings_Cut -/
def sp_strings_Cut : List LSpec := []
def strings_Cut (Φ : Phi) (fuel : Nat) (s1 : List UInt8) (sep2 : List UInt8) : Option A :=
((Φ i_internal_stringslite_Cut [(A.one (C.d (D.s s1))), (A.one (C.d (D.s sep2)))]).bind fun r3 =>
((xtup r3 0).bind fun r4 =>
((xAD r4).bind fun d5 =>
((xDS d5).bind fun s6 =>
((xtup r3 1).bind fun r7 =>
((xAD r7).bind fun d8 =>
((xDS d8).bind fun s9 =>
((xtup r3 2).bind fun r10 =>
((xAD r10).bind fun d11 =>
((xDB d11).bind fun b12 =>
(some (A.tup [(A.one (C.d (D.s s6))), (A.one (C.d (D.s s9))), (A.one (C.d (D.v (.bool b12))))]))))))))))))
theorem strings_Cut_eq (Φ : Phi) (fuel : Nat) (s1 : List UInt8) (sep2 : List UInt8) : xbody TT0 Φ fuel sp_strings_Cut Try.f55 [(A.one (C.d (D.s s1))), (A.one (C.d (D.s sep2)))] = strings_Cut Φ fuel s1 sep2 := by kernel_rfl
/-! slices_Replace_string_string -/
def sp_slices_Replace_string_string : List LSpec := []
noncomputable def slices_Replace_string_string (Φ : Phi) (Ψ : Psi) (fuel : Nat) (s1 : C) (i2 : Int) (j3 : Int) (v4 : C) (H : Hp) : Option (A × Hp) :=
((hLen s1).bind fun n5 =>
((hSub s1 i2 j3).bind fun c6 =>
(xite (decide (i2 = j3))
 none
((hLen s1).bind fun n7 =>
(xite (decide (j3 = ((n7 : Nat) : Int)))
((hLen s1).bind fun n8 =>
((hSub s1 (0 : Int) i2).bind fun c9 =>
((hLen c9).bind fun n10 =>
((hCells H v4).bind fun ys11 =>
(xif (decide ((n10 + ys11.length) * 16 ≤ 140737488355328))
((hApp H c9 ys11).bind fun q12 =>
((hLen q12.1).bind fun n13 =>
((hLen s1).bind fun n14 =>
(xite (decide (((n13 : Nat) : Int) < ((n14 : Nat) : Int)))
((hLen q12.1).bind fun n15 =>
((hLen s1).bind fun n16 =>
((hSub s1 ((n15 : Nat) : Int) ((n16 : Nat) : Int)).bind fun c17 =>
((hClear q12.2 (C.d (D.s [])) c17).bind fun H18 =>
(xif (xokR (A.one q12.1))
(some ((A.one q12.1), H18)))))))
(xif (xokR (A.one q12.1))
(some ((A.one q12.1), q12.2))))))))))))
((hLen s1).bind fun n19 =>
((hSub s1 (0 : Int) i2).bind fun c20 =>
((hLen c20).bind fun n21 =>
((hLen v4).bind fun n22 =>
((hLen s1).bind fun n23 =>
((hSub s1 j3 ((n23 : Nat) : Int)).bind fun c24 =>
((hLen c24).bind fun n25 =>
((hCap H s1).bind fun n26 =>
(xite (decide (((n26 : Nat) : Int) < (IntKind.i64.wrap ((IntKind.i64.wrap (((n21 : Nat) : Int) + ((n22 : Nat) : Int))) + ((n25 : Nat) : Int)))))
((hLen s1).bind fun n27 =>
((hSub s1 (0 : Int) i2).bind fun c28 =>
((hLen c28).bind fun n29 =>
(xif (decide (0 ≤ (IntKind.i64.wrap ((IntKind.i64.wrap ((IntKind.i64.wrap (((n21 : Nat) : Int) + ((n22 : Nat) : Int))) + ((n25 : Nat) : Int))) - i2))) && decide ((n29 + ((IntKind.i64.wrap ((IntKind.i64.wrap ((IntKind.i64.wrap (((n21 : Nat) : Int) + ((n22 : Nat) : Int))) + ((n25 : Nat) : Int))) - i2))).toNat) * 16 ≤ 140737488355328))
((hAppZ H c28 ((IntKind.i64.wrap ((IntKind.i64.wrap ((IntKind.i64.wrap (((n21 : Nat) : Int) + ((n22 : Nat) : Int))) + ((n25 : Nat) : Int))) - i2))).toNat (C.d (D.s []))).bind fun q30 =>
((hLen q30.1).bind fun n31 =>
((hSub q30.1 i2 ((n31 : Nat) : Int)).bind fun c32 =>
((hCells q30.2 v4).bind fun ys33 =>
((hCopy q30.2 c32 ys33).bind fun q34 =>
((hLen v4).bind fun n35 =>
((hLen q30.1).bind fun n36 =>
((hSub q30.1 (IntKind.i64.wrap (i2 + ((n35 : Nat) : Int))) ((n36 : Nat) : Int)).bind fun c37 =>
((hLen s1).bind fun n38 =>
((hSub s1 j3 ((n38 : Nat) : Int)).bind fun c39 =>
((hCells q34.2 c39).bind fun ys40 =>
((hCopy q34.2 c37 ys40).bind fun q41 =>
(xif (xokR (A.one q30.1))
(some ((A.one q30.1), q41.2)))))))))))))))))))
((hLen s1).bind fun n42 =>
((hSub s1 (0 : Int) (IntKind.i64.wrap ((IntKind.i64.wrap (((n21 : Nat) : Int) + ((n22 : Nat) : Int))) + ((n25 : Nat) : Int)))).bind fun c43 =>
((hLen v4).bind fun n44 =>
(xite (decide ((IntKind.i64.wrap (i2 + ((n44 : Nat) : Int))) ≤ j3))
((hLen c43).bind fun n45 =>
((hSub c43 i2 ((n45 : Nat) : Int)).bind fun c46 =>
((hCells H v4).bind fun ys47 =>
((hCopy H c46 ys47).bind fun q48 =>
((hLen v4).bind fun n49 =>
((hLen c43).bind fun n50 =>
((hSub c43 (IntKind.i64.wrap (i2 + ((n49 : Nat) : Int))) ((n50 : Nat) : Int)).bind fun c51 =>
((hLen s1).bind fun n52 =>
((hSub s1 j3 ((n52 : Nat) : Int)).bind fun c53 =>
((hCells q48.2 c53).bind fun ys54 =>
((hCopy q48.2 c51 ys54).bind fun q55 =>
((hLen s1).bind fun n56 =>
((hSub s1 (IntKind.i64.wrap ((IntKind.i64.wrap (((n21 : Nat) : Int) + ((n22 : Nat) : Int))) + ((n25 : Nat) : Int))) ((n56 : Nat) : Int)).bind fun c57 =>
((hClear q55.2 (C.d (D.s [])) c57).bind fun H58 =>
(xif (xokR (A.one c43))
(some ((A.one c43), H58)))))))))))))))))
((hLen v4).bind fun n59 =>
((hLen c43).bind fun n60 =>
((hSub c43 (IntKind.i64.wrap (i2 + ((n59 : Nat) : Int))) ((n60 : Nat) : Int)).bind fun c61 =>
 none)))))))))))))))))))))
theorem slices_Replace_string_string_eq (Φ : Phi) (Ψ : Psi) (fuel : Nat) (s1 : C) (i2 : Int) (j3 : Int) (v4 : C) (H : Hp) : xbodyH TT0 Φ Ψ sel_slices_Replace_string_string fuel sp_slices_Replace_string_string Try.f56 [(A.one s1), (A.one (C.d (D.v (.int .i64 i2)))), (A.one (C.d (D.v (.int .i64 j3)))), (A.one v4)] H = slices_Replace_string_string Φ Ψ fuel s1 i2 j3 v4 H := by kernel_rfl
/-! ref08_index -/
def sp_ref08_index : List LSpec := []
def ref08_index (Φ : Phi) (fuel : Nat) (i1 : Int) (n2 : Int) : Option A :=
(xite (decide (i1 < (IntKind.i64.wrap (0 - n2))))
(some (A.one (C.d (D.v (.int .i64 (-1 : Int))))))
(xite (decide (n2 ≤ i1))
(some (A.one (C.d (D.v (.int .i64 (-1 : Int))))))
(xif (!decide (n2 = 0))
(some (A.one (C.d (D.v (.int .i64 (Int.tmod (IntKind.i64.wrap (i1 + n2)) n2)))))))))
theorem ref08_index_eq (Φ : Phi) (fuel : Nat) (i1 : Int) (n2 : Int) : xbody TT0 Φ fuel sp_ref08_index Try.f57 [(A.one (C.d (D.v (.int .i64 i1)))), (A.one (C.d (D.v (.int .i64 n2))))] = ref08_index Φ fuel i1 n2 := by kernel_rfl
/-! ref08_cut -/
def sp_ref08_cut : List LSpec := [{ n := 0, m := 35, toks := [], ks := [.slot 0 (.one .str), .slot 1 (.one .str), .slot 6 (.one (.int .i64))] }]
def ref08_cut_l0 (Φ : Phi) (fuel : Nat) (k0 : List UInt8 → List UInt8 → Int → Option A) (s3 : List UInt8) (by4 : List UInt8) (i5 : Int) : Option A :=
(xite (decide ((IntKind.i64.wrap (i5 + ((by4).length : Int))) ≤ ((s3).length : Int)))
((xSubS s3 i5 (IntKind.i64.wrap (i5 + ((by4).length : Int)))).bind fun s6 =>
(xite (decide ((s6 : List UInt8) = by4))
((xSubS s3 (0 : Int) i5).bind fun s7 =>
((xSubS s3 (IntKind.i64.wrap (i5 + ((by4).length : Int))) ((s3).length : Int)).bind fun s8 =>
(some (A.tup [(A.one (C.d (D.s s7))), (A.one (C.d (D.s s8)))]))))
(k0 s3 by4 (IntKind.i64.wrap (i5 + (1 : Int))))))
(some (A.tup [(A.one (C.d (D.s s3))), (A.one (C.d (D.s [])))])))
def ref08_cut (Φ : Phi) (fuel : Nat) (s1 : List UInt8) (by2 : List UInt8) : Option A :=
(iter (fun (x : List UInt8 × List UInt8 × Int × Unit) (rec : (List UInt8 × List UInt8 × Int × Unit) → Option A) => ref08_cut_l0 Φ fuel (fun s3 by4 i5 => rec (s3, by4, i5, ())) x.1 x.2.1 x.2.2.1) fuel (s1, by2, (0 : Int), ()))
theorem ref08_cut_eq (Φ : Phi) (fuel : Nat) (s1 : List UInt8) (by2 : List UInt8) : xbody TT0 Φ fuel sp_ref08_cut Try.f58 [(A.one (C.d (D.s s1))), (A.one (C.d (D.s by2)))] = ref08_cut Φ fuel s1 by2 := by kernel_rfl
/-! ref08_table -/
def sp_ref08_table : List LSpec := [{ n := 0, m := 20, toks := [], ks := [.hp, .slot 0 (.one .rc), .slot 3 (.one .rc), .slot 4 (.one (.int .i64))] }]
noncomputable def ref08_table_l0 (Φ : Phi) (Ψ : Psi) (fuel : Nat) (k0 : Hp → C → C → Int → Option (A × Hp)) (H6 : Hp) (t7 : C) (out8 : C) (i9 : Int) : Option (A × Hp) :=
((hLen t7).bind fun n10 =>
(xite (decide (i9 < ((n10 : Nat) : Int)))
((hAddr t7 i9).bind fun p11 =>
((hLoad H6 p11).bind fun c12 =>
(xif (C.hok c12)
((Ψ i_ref08_list [(A.one c12)] H6).bind fun q13 =>
((xone q13.1).bind fun c14 =>
((oneCs [(A.one c14)]).bind fun cs15 =>
((hPush q13.2 ⟨cs15, true⟩).bind fun H16 =>
((hLen out8).bind fun n17 =>
((hCells H16 (C.hs q13.2.length 0 1)).bind fun ys18 =>
(xif (decide ((n17 + ys18.length) * 24 ≤ 140737488355328))
((hApp H16 out8 ys18).bind fun q19 =>
(xif (C.hok t7)
(xif (C.hok q19.1)
(k0 q19.2 t7 q19.1 (IntKind.i64.wrap (i9 + (1 : Int)))))))))))))))))
(xif (xokR (A.one out8))
(some ((A.one out8), H6)))))
noncomputable def ref08_table (Φ : Phi) (Ψ : Psi) (fuel : Nat) (t1 : C) (H : Hp) : Option (A × Hp) :=
(xif (C.hok t1)
(iter (fun (x : Hp × C × C × Int × Unit) (rec : (Hp × C × C × Int × Unit) → Option (A × Hp)) => ref08_table_l0 Φ Ψ fuel (fun H6 t7 out8 i9 => rec (H6, t7, out8, i9, ())) x.1 x.2.1 x.2.2.1 x.2.2.2.1) fuel (H, t1, (C.full []), (0 : Int), ())))
theorem ref08_table_eq (Φ : Phi) (Ψ : Psi) (fuel : Nat) (t1 : C) (H : Hp) : xbodyH TT0 Φ Ψ sel_ref08_table fuel sp_ref08_table Try.f59 [(A.one t1)] H = ref08_table Φ Ψ fuel t1 H := by kernel_rfl
/-! tables_checkAll -/
def sp_tables_checkAll : List LSpec := [{ n := 0, m := 18, toks := [], ks := [.slot 6 (.one .sl), .slot 7 (.one (.int .i64)), .slot 8 (.one (.int .i64))] }]
def tables_checkAll_l0 (Φ : Phi) (fuel : Nat) (k0 : List (List D) → Int → Int → Option A) (l2 : List (List D)) (i3 : Int) (i4 : Int) : Option A :=
(xite (decide (i4 < i3))
((xElem 1 l2 i4).bind fun c5 =>
(xif (decide (1 ≤ (c5).length))
((xDL (List.getD c5 0 (D.s []))).bind fun l6 =>
((Φ i_tables_Check [(A.one (C.d (D.sl l6)))]).bind fun r7 =>
((xAD r7).bind fun d8 =>
((xDI .i64 d8).bind fun n9 =>
(xite (!decide (n9 = (0 : Int)))
(some (A.one (C.d (D.v (.int .i64 n9)))))
(k0 l2 i3 (IntKind.i64.wrap (i4 + (1 : Int)))))))))))
(some (A.one (C.d (D.v (.int .i64 (0 : Int)))))))
def tables_checkAll (Φ : Phi) (fuel : Nat) (l1 : List (List D)) : Option A :=
(iter (fun (x : List (List D) × Int × Int × Unit) (rec : (List (List D) × Int × Int × Unit) → Option A) => tables_checkAll_l0 Φ fuel (fun l2 i3 i4 => rec (l2, i3, i4, ())) x.1 x.2.1 x.2.2.1) fuel (l1, ((l1).length : Int), (0 : Int), ()))
theorem tables_checkAll_eq (Φ : Phi) (fuel : Nat) (l1 : List (List D)) : xbody TT0 Φ fuel sp_tables_checkAll Try.f60 [(A.one (C.d (D.sl l1)))] = tables_checkAll Φ fuel l1 := by kernel_rfl
/-! ref08_both -/
def sp_ref08_both : List LSpec := []
def ref08_both (Φ : Phi) (fuel : Nat) (a1 : List (List D)) (b2 : List (List D)) : Option A :=
((Φ i_ref08_Check [(A.one (C.d (D.sl a1)))]).bind fun r3 =>
((xAD r3).bind fun d4 =>
((xDI .i64 d4).bind fun n5 =>
(xite (!decide (n5 = (0 : Int)))
(some (A.one (C.d (D.v (.int .i64 n5)))))
((Φ i_ref08_Check [(A.one (C.d (D.sl b2)))]).bind fun r6 =>
((xAD r6).bind fun d7 =>
((xDI .i64 d7).bind fun n8 =>
(some (A.one (C.d (D.v (.int .i64 n8))))))))))))
theorem ref08_both_eq (Φ : Phi) (fuel : Nat) (a1 : List (List D)) (b2 : List (List D)) : xbody TT0 Φ fuel sp_ref08_both Try.f61 [(A.one (C.d (D.sl a1))), (A.one (C.d (D.sl b2)))] = ref08_both Φ fuel a1 b2 := by kernel_rfl
/-! slices_Delete_string_string -/
def sp_slices_Delete_string_string : List LSpec := []
noncomputable def slices_Delete_string_string (Φ : Phi) (Ψ : Psi) (fuel : Nat) (s1 : C) (i2 : Int) (j3 : Int) (H : Hp) : Option (A × Hp) :=
((hLen s1).bind fun n4 =>
((hLen s1).bind fun n5 =>
(xif (true && (decide (0 ≤ i2) && (decide (i2 ≤ j3) && (decide (j3 ≤ ((n4 : Nat) : Int)) && decide (((n4 : Nat) : Int) ≤ (n5 : Int))))))
(xite (decide (i2 = j3))
(xif (xokR (A.one s1))
(some ((A.one s1), H)))
((hLen s1).bind fun n6 =>
((hLen s1).bind fun n7 =>
((hSub s1 (0 : Int) i2).bind fun c8 =>
((hLen s1).bind fun n9 =>
((hSub s1 j3 ((n9 : Nat) : Int)).bind fun c10 =>
((hLen c8).bind fun n11 =>
((hCells H c10).bind fun ys12 =>
(xif (decide ((n11 + ys12.length) * 24 ≤ 140737488355328))
((hApp H c8 ys12).bind fun q13 =>
((hLen q13.1).bind fun n14 =>
((hLen q13.1).bind fun n15 =>
((hSubX q13.2 q13.1 ((n14 : Nat) : Int) ((n6 : Nat) : Int)).bind fun c16 =>
((hClear q13.2 (C.full []) c16).bind fun H17 =>
(xif (xokR (A.one q13.1))
(some ((A.one q13.1), H17))))))))))))))))))))
theorem slices_Delete_string_string_eq (Φ : Phi) (Ψ : Psi) (fuel : Nat) (s1 : C) (i2 : Int) (j3 : Int) (H : Hp) : xbodyH TT0 Φ Ψ sel_slices_Delete_string_string fuel sp_slices_Delete_string_string Try.f62 [(A.one s1), (A.one (C.d (D.v (.int .i64 i2)))), (A.one (C.d (D.v (.int .i64 j3))))] H = slices_Delete_string_string Φ Ψ fuel s1 i2 j3 H := by kernel_rfl
/-! ref08_without -/
def sp_ref08_without : List LSpec := []
noncomputable def ref08_without (Φ : Phi) (Ψ : Psi) (fuel : Nat) (t1 : List (List D)) (i2 : Int) (H : Hp) : Option (A × Hp) :=
((hSub (C.d (D.sl t1)) (0 : Int) i2).bind fun c3 =>
((hSub (C.d (D.sl t1)) (IntKind.i64.wrap (i2 + (1 : Int))) (((t1 : List (List D)).length : Nat) : Int)).bind fun c4 =>
(xif (C.hok c3)
((Ψ i_ref08_table [(A.one c3)] H).bind fun q5 =>
((xone q5.1).bind fun c6 =>
(xif (C.hok c4)
((Ψ i_ref08_table [(A.one c4)] q5.2).bind fun q7 =>
((xone q7.1).bind fun c8 =>
((hLen c6).bind fun n9 =>
((hCells q7.2 c8).bind fun ys10 =>
(xif (decide ((n9 + ys10.length) * 24 ≤ 140737488355328))
((hApp q7.2 c6 ys10).bind fun q11 =>
(xif (xokR (A.one q11.1))
(some ((A.one q11.1), q11.2)))))))))))))))
theorem ref08_without_eq (Φ : Phi) (Ψ : Psi) (fuel : Nat) (t1 : List (List D)) (i2 : Int) (H : Hp) : xbodyH TT0 Φ Ψ sel_ref08_without fuel sp_ref08_without Try.f63 [(A.one (C.d (D.sl t1))), (A.one (C.d (D.v (.int .i64 i2))))] H = ref08_without Φ Ψ fuel t1 i2 H := by kernel_rfl
/-! slices_Delete_string_string_64 -/
def sp_slices_Delete_string_string_64 : List LSpec := []
noncomputable def slices_Delete_string_string_64 (Φ : Phi) (Ψ : Psi) (fuel : Nat) (s1 : C) (i2 : Int) (j3 : Int) (H : Hp) : Option (A × Hp) :=
((hLen s1).bind fun n4 =>
((hLen s1).bind fun n5 =>
(xif (true && (decide (0 ≤ i2) && (decide (i2 ≤ j3) && (decide (j3 ≤ ((n4 : Nat) : Int)) && decide (((n4 : Nat) : Int) ≤ (n5 : Int))))))
(xite (decide (i2 = j3))
(xif (xokR (A.one s1))
(some ((A.one s1), H)))
((hLen s1).bind fun n6 =>
((hLen s1).bind fun n7 =>
((hSub s1 (0 : Int) i2).bind fun c8 =>
((hLen s1).bind fun n9 =>
((hSub s1 j3 ((n9 : Nat) : Int)).bind fun c10 =>
((hLen c8).bind fun n11 =>
((hCells H c10).bind fun ys12 =>
(xif (decide ((n11 + ys12.length) * 16 ≤ 140737488355328))
((hApp H c8 ys12).bind fun q13 =>
((hLen q13.1).bind fun n14 =>
((hLen q13.1).bind fun n15 =>
((hSubX q13.2 q13.1 ((n14 : Nat) : Int) ((n6 : Nat) : Int)).bind fun c16 =>
((hClear q13.2 (C.d (D.s [])) c16).bind fun H17 =>
(xif (xokR (A.one q13.1))
(some ((A.one q13.1), H17))))))))))))))))))))
theorem slices_Delete_string_string_64_eq (Φ : Phi) (Ψ : Psi) (fuel : Nat) (s1 : C) (i2 : Int) (j3 : Int) (H : Hp) : xbodyH TT0 Φ Ψ sel_slices_Delete_string_string_64 fuel sp_slices_Delete_string_string_64 Try.f64 [(A.one s1), (A.one (C.d (D.v (.int .i64 i2)))), (A.one (C.d (D.v (.int .i64 j3))))] H = slices_Delete_string_string_64 Φ Ψ fuel s1 i2 j3 H := by kernel_rfl
/-! slices_SortStableFunc_string_string -/
def sp_slices_SortStableFunc_string_string : List LSpec := []
noncomputable def slices_SortStableFunc_string_string (Φ : Phi) (Ψ : Psi) (fuel : Nat) (x1 : C) (k2 : Nat) (H : Hp) : Option (A × Hp) :=
((hLen x1).bind fun n3 =>
(xif (C.hok x1)
((Ψ i_slices_stableCmpFunc_string [(A.one x1), (A.one (C.d (D.v (.int .i64 ((n3 : Nat) : Int))))), (A.one (C.hclo 66 [k2]))] H).bind fun q4 =>
(xif (xokR (A.tup []))
(some ((A.tup []), q4.2))))))
theorem slices_SortStableFunc_string_string_eq (Φ : Phi) (Ψ : Psi) (fuel : Nat) (x1 : C) (k2 : Nat) (H : Hp) : xbodyH TT0 Φ Ψ sel_slices_SortStableFunc_string_string fuel sp_slices_SortStableFunc_string_string Try.f65 [(A.one x1), (A.one (C.hclo 66 [k2]))] H = slices_SortStableFunc_string_string Φ Ψ fuel x1 k2 H := by kernel_rfl
/-! tables_Sort_1 -/
def sp_tables_Sort_1 : List LSpec := []
noncomputable def tables_Sort_1 (Φ : Phi) (Ψ : Psi) (fuel : Nat) (a1 : C) (b2 : C) (k3 : Nat) (H : Hp) : Option (A × Hp) :=
((hLoad H (C.hp k3 0)).bind fun c4 =>
((xI .i64 (A.one c4)).bind fun n5 =>
((hAddr a1 n5).bind fun p6 =>
((hLoad H p6).bind fun c7 =>
((xS (A.one c7)).bind fun s8 =>
((hLoad H (C.hp k3 0)).bind fun c9 =>
((xI .i64 (A.one c9)).bind fun n10 =>
((hAddr b2 n10).bind fun p11 =>
((hLoad H p11).bind fun c12 =>
((xS (A.one c12)).bind fun s13 =>
((Φ i_strings_Compare [(A.one (C.d (D.s s8))), (A.one (C.d (D.s s13)))]).bind fun r14 =>
((xAD r14).bind fun d15 =>
((xDI .i64 d15).bind fun n16 =>
(xif (xokR (A.one (C.d (D.v (.int .i64 n16)))))
(some ((A.one (C.d (D.v (.int .i64 n16)))), H))))))))))))))))
theorem tables_Sort_1_eq (Φ : Phi) (Ψ : Psi) (fuel : Nat) (a1 : C) (b2 : C) (k3 : Nat) (H : Hp) : xbodyH TT0 Φ Ψ sel_tables_Sort_1 fuel sp_tables_Sort_1 Try.f66 [(A.one a1), (A.one b2), (A.one (C.hp k3 0))] H = tables_Sort_1 Φ Ψ fuel a1 b2 k3 H := by kernel_rfl
/-! strings_Compare -/
def sp_strings_Compare : List LSpec := []
def strings_Compare (Φ : Phi) (fuel : Nat) (a1 : List UInt8) (b2 : List UInt8) : Option A :=
((Φ i_internal_bytealg_CompareString [(A.one (C.d (D.s a1))), (A.one (C.d (D.s b2)))]).bind fun r3 =>
((xAD r3).bind fun d4 =>
((xDI .i64 d4).bind fun n5 =>
(some (A.one (C.d (D.v (.int .i64 n5))))))))
theorem strings_Compare_eq (Φ : Phi) (fuel : Nat) (a1 : List UInt8) (b2 : List UInt8) : xbody TT0 Φ fuel sp_strings_Compare Try.f67 [(A.one (C.d (D.s a1))), (A.one (C.d (D.s b2)))] = strings_Compare Φ fuel a1 b2 := by kernel_rfl
/-! slices_Index_string_string -/
def sp_slices_Index_string_string : List LSpec := [{ n := 0, m := 19, toks := [], ks := [.slot 0 (.one .sl), .slot 1 (.one .str), .slot 7 (.one (.int .i64)), .slot 8 (.one (.int .i64))] }]
def slices_Index_string_string_l0 (Φ : Phi) (fuel : Nat) (k0 : List (List D) → List UInt8 → Int → Int → Option A) (s3 : List (List D)) (v4 : List UInt8) (i5 : Int) (i6 : Int) : Option A :=
(xite (decide (i6 < i5))
((xElem 1 s3 i6).bind fun c7 =>
(xif (decide (1 ≤ (c7).length))
((xDS (List.getD c7 0 (D.s []))).bind fun s8 =>
(xite (decide ((v4 : List UInt8) = s8))
(some (A.one (C.d (D.v (.int .i64 i6)))))
(k0 s3 v4 i5 (IntKind.i64.wrap (i6 + (1 : Int))))))))
(some (A.one (C.d (D.v (.int .i64 (-1 : Int)))))))
def slices_Index_string_string (Φ : Phi) (fuel : Nat) (s1 : List (List D)) (v2 : List UInt8) : Option A :=
(iter (fun (x : List (List D) × List UInt8 × Int × Int × Unit) (rec : (List (List D) × List UInt8 × Int × Int × Unit) → Option A) => slices_Index_string_string_l0 Φ fuel (fun s3 v4 i5 i6 => rec (s3, v4, i5, i6, ())) x.1 x.2.1 x.2.2.1 x.2.2.2.1) fuel (s1, v2, ((s1).length : Int), (0 : Int), ()))
theorem slices_Index_string_string_eq (Φ : Phi) (fuel : Nat) (s1 : List (List D)) (v2 : List UInt8) : xbody TT0 Φ fuel sp_slices_Index_string_string Try.f68 [(A.one (C.d (D.sl s1))), (A.one (C.d (D.s v2)))] = slices_Index_string_string Φ fuel s1 v2 := by kernel_rfl
end Go.Av

set_option linter.unusedVariables false
set_option maxRecDepth 100000
namespace Go.Av
open Go.Proofs
/-! ref08_place -/
def sp_ref08_place : List LSpec := [{ n := 0, m := 19, toks := [], ks := [.slot 0 (.one .sl), .slot 1 (.one .str), .slot 5 (.one (.int .i64))] }]
def ref08_place_l0 (Φ : Phi) (fuel : Nat) (k0 : List (List D) → List UInt8 → Int → Option A) (l3 : List (List D)) (s4 : List UInt8) (i5 : Int) : Option A :=
(xite (decide (i5 < ((l3).length : Int)))
((xElem 1 l3 i5).bind fun c6 =>
(xif (decide (1 ≤ (c6).length))
((xDS (List.getD c6 0 (D.s []))).bind fun s7 =>
(xite (decide ((s7 : List UInt8) = s4))
(some (A.one (C.d (D.v (.int .i64 i5)))))
(k0 l3 s4 (IntKind.i64.wrap (i5 + (1 : Int))))))))
(some (A.one (C.d (D.v (.int .i64 (-1 : Int)))))))
def ref08_place (Φ : Phi) (fuel : Nat) (l1 : List (List D)) (s2 : List UInt8) : Option A :=
(iter (fun (x : List (List D) × List UInt8 × Int × Unit) (rec : (List (List D) × List UInt8 × Int × Unit) → Option A) => ref08_place_l0 Φ fuel (fun l3 s4 i5 => rec (l3, s4, i5, ())) x.1 x.2.1 x.2.2.1) fuel (l1, s2, (0 : Int), ()))
theorem ref08_place_eq (Φ : Phi) (fuel : Nat) (l1 : List (List D)) (s2 : List UInt8) : xbody TT0 Φ fuel sp_ref08_place Try.f69 [(A.one (C.d (D.sl l1))), (A.one (C.d (D.s s2)))] = ref08_place Φ fuel l1 s2 := by kernel_rfl
/-! internal_stringslite_Cut -/
def sp_internal_stringslite_Cut : List LSpec := []
def internal_stringslite_Cut (Φ : Phi) (fuel : Nat) (s1 : List UInt8) (sep2 : List UInt8) : Option A :=
((Φ i_internal_stringslite_Index [(A.one (C.d (D.s s1))), (A.one (C.d (D.s sep2)))]).bind fun r3 =>
((xAD r3).bind fun d4 =>
((xDI .i64 d4).bind fun n5 =>
(xite (decide ((0 : Int) ≤ n5))
((xSubS s1 (0 : Int) n5).bind fun s6 =>
((xSubS s1 (IntKind.i64.wrap (n5 + ((sep2).length : Int))) ((s1).length : Int)).bind fun s7 =>
(some (A.tup [(A.one (C.d (D.s s6))), (A.one (C.d (D.s s7))), (A.one (C.d (D.v (.bool true))))]))))
(some (A.tup [(A.one (C.d (D.s s1))), (A.one (C.d (D.s []))), (A.one (C.d (D.v (.bool false))))]))))))
theorem internal_stringslite_Cut_eq (Φ : Phi) (fuel : Nat) (s1 : List UInt8) (sep2 : List UInt8) : xbody TT0 Φ fuel sp_internal_stringslite_Cut Try.f70 [(A.one (C.d (D.s s1))), (A.one (C.d (D.s sep2)))] = internal_stringslite_Cut Φ fuel s1 sep2 := by kernel_rfl
/-! slices_stableCmpFunc_string -/
def sp_slices_stableCmpFunc_string : List LSpec := [{ n := 0, m := 63, toks := [], ks := [.hp, .slot 0 (.one .rc), .slot 1 (.one (.int .i64)), .slot 2 (.one (.hcl 66)), .slot 6 (.one (.int .i64)), .slot 7 (.one (.int .i64)), .slot 8 (.one (.int .i64))] }, { n := 0, m := 63, toks := [], ks := [.hp, .slot 0 (.one .rc), .slot 1 (.one (.int .i64)), .slot 2 (.one (.hcl 66)), .slot 6 (.one (.int .i64))] }, { n := 0, m := 63, toks := [], ks := [.hp, .slot 0 (.one .rc), .slot 1 (.one (.int .i64)), .slot 2 (.one (.hcl 66)), .slot 6 (.one (.int .i64)), .slot 7 (.one (.int .i64)), .slot 8 (.one (.int .i64))] }]
noncomputable def slices_stableCmpFunc_string_l2 (Φ : Phi) (Ψ : Psi) (fuel : Nat) (k1 : Hp → C → Int → Nat → Int → Option (A × Hp)) (k2 : Hp → C → Int → Nat → Int → Int → Int → Option (A × Hp)) (H18 : Hp) (data19 : C) (n20 : Int) (k21 : Nat) (blockSize22 : Int) (a23 : Int) (b24 : Int) : Option (A × Hp) :=
(xite (decide (b24 ≤ n20))
 none
(xite (decide ((IntKind.i64.wrap (a23 + blockSize22)) < n20))
 none
(xif (C.hok data19)
(k1 H18 data19 n20 k21 (IntKind.i64.wrap (blockSize22 * (2 : Int)))))))
noncomputable def slices_stableCmpFunc_string_l1 (Φ : Phi) (Ψ : Psi) (fuel : Nat) (k1 : Hp → C → Int → Nat → Int → Option (A × Hp)) (H13 : Hp) (data14 : C) (n15 : Int) (k16 : Nat) (blockSize17 : Int) : Option (A × Hp) :=
(xite (decide (blockSize17 < n15))
(xif (C.hok data14)
(iter (fun (x : Hp × C × Int × Nat × Int × Int × Int × Unit) (rec : (Hp × C × Int × Nat × Int × Int × Int × Unit) → Option (A × Hp)) => slices_stableCmpFunc_string_l2 Φ Ψ fuel k1 (fun H18 data19 n20 k21 blockSize22 a23 b24 => rec (H18, data19, n20, k21, blockSize22, a23, b24, ())) x.1 x.2.1 x.2.2.1 x.2.2.2.1 x.2.2.2.2.1 x.2.2.2.2.2.1 x.2.2.2.2.2.2.1) fuel (H13, data14, n15, k16, blockSize17, (0 : Int), (IntKind.i64.wrap ((2 : Int) * blockSize17)), ())))
(xif (xokR (A.tup []))
(some ((A.tup []), H13))))
noncomputable def slices_stableCmpFunc_string_l0 (Φ : Phi) (Ψ : Psi) (fuel : Nat) (k0 : Hp → C → Int → Nat → Int → Int → Int → Option (A × Hp)) (H4 : Hp) (data5 : C) (n6 : Int) (k7 : Nat) (blockSize8 : Int) (a9 : Int) (b10 : Int) : Option (A × Hp) :=
(xite (decide (b10 ≤ n6))
(xif (C.hok data5)
((Ψ i_slices_insertionSortCmpFunc_string [(A.one data5), (A.one (C.d (D.v (.int .i64 a9)))), (A.one (C.d (D.v (.int .i64 b10)))), (A.one (C.hclo 66 [k7]))] H4).bind fun q11 =>
(xif (C.hok data5)
(k0 q11.2 data5 n6 k7 blockSize8 b10 (IntKind.i64.wrap (b10 + blockSize8))))))
(xif (C.hok data5)
((Ψ i_slices_insertionSortCmpFunc_string [(A.one data5), (A.one (C.d (D.v (.int .i64 a9)))), (A.one (C.d (D.v (.int .i64 n6)))), (A.one (C.hclo 66 [k7]))] H4).bind fun q12 =>
(xif (C.hok data5)
(iter (fun (x : Hp × C × Int × Nat × Int × Unit) (rec : (Hp × C × Int × Nat × Int × Unit) → Option (A × Hp)) => slices_stableCmpFunc_string_l1 Φ Ψ fuel (fun H13 data14 n15 k16 blockSize17 => rec (H13, data14, n15, k16, blockSize17, ())) x.1 x.2.1 x.2.2.1 x.2.2.2.1 x.2.2.2.2.1) fuel (q12.2, data5, n6, k7, blockSize8, ()))))))
noncomputable def slices_stableCmpFunc_string (Φ : Phi) (Ψ : Psi) (fuel : Nat) (data1 : C) (n2 : Int) (k3 : Nat) (H : Hp) : Option (A × Hp) :=
(xif (C.hok data1)
(iter (fun (x : Hp × C × Int × Nat × Int × Int × Int × Unit) (rec : (Hp × C × Int × Nat × Int × Int × Int × Unit) → Option (A × Hp)) => slices_stableCmpFunc_string_l0 Φ Ψ fuel (fun H4 data5 n6 k7 blockSize8 a9 b10 => rec (H4, data5, n6, k7, blockSize8, a9, b10, ())) x.1 x.2.1 x.2.2.1 x.2.2.2.1 x.2.2.2.2.1 x.2.2.2.2.2.1 x.2.2.2.2.2.2.1) fuel (H, data1, n2, k3, (20 : Int), (0 : Int), (20 : Int), ())))
theorem slices_stableCmpFunc_string_eq (Φ : Phi) (Ψ : Psi) (fuel : Nat) (data1 : C) (n2 : Int) (k3 : Nat) (H : Hp) : xbodyH TT0 Φ Ψ sel_slices_stableCmpFunc_string fuel sp_slices_stableCmpFunc_string Try.f75 [(A.one data1), (A.one (C.d (D.v (.int .i64 n2)))), (A.one (C.hclo 66 [k3]))] H = slices_stableCmpFunc_string Φ Ψ fuel data1 n2 k3 H := by kernel_rfl
/-! slices_insertionSortCmpFunc_string -/
def sp_slices_insertionSortCmpFunc_string : List LSpec := [{ n := 0, m := 53, toks := [], ks := [.hp, .slot 0 (.one .rc), .slot 1 (.one (.int .i64)), .slot 2 (.one (.int .i64)), .slot 3 (.one (.hcl 66)), .slot 8 (.one (.int .i64))] }, { n := 0, m := 53, toks := [], ks := [.hp, .slot 0 (.one .rc), .slot 1 (.one (.int .i64)), .slot 2 (.one (.int .i64)), .slot 3 (.one (.hcl 66)), .slot 8 (.one (.int .i64)), .slot 9 (.one (.int .i64))] }]
noncomputable def slices_insertionSortCmpFunc_string_l1 (Φ : Phi) (Ψ : Psi) (fuel : Nat) (k0 : Hp → C → Int → Int → Nat → Int → Option (A × Hp)) (k1 : Hp → C → Int → Int → Nat → Int → Int → Option (A × Hp)) (H11 : Hp) (data12 : C) (a13 : Int) (b14 : Int) (k15 : Nat) (i16 : Int) (j17 : Int) : Option (A × Hp) :=
(xite (decide (a13 < j17))
((hAddr data12 j17).bind fun p18 =>
((hLoad H11 p18).bind fun c19 =>
((hAddr data12 (IntKind.i64.wrap (j17 - (1 : Int)))).bind fun p20 =>
((hLoad H11 p20).bind fun c21 =>
(xif (C.hok c19)
(xif (C.hok c21)
((Ψ i_tables_Sort_1 [(A.one c19), (A.one c21), (A.one (C.hp k15 0))] H11).bind fun q22 =>
((xone q22.1).bind fun c23 =>
((xI .i64 (A.one c23)).bind fun n24 =>
(xite (decide (n24 < (0 : Int)))
((hAddr data12 (IntKind.i64.wrap (j17 - (1 : Int)))).bind fun p25 =>
((hLoad q22.2 p25).bind fun c26 =>
((hAddr data12 j17).bind fun p27 =>
((hLoad q22.2 p27).bind fun c28 =>
((hAddr data12 j17).bind fun p29 =>
((hStore q22.2 p29 c26).bind fun H30 =>
((hAddr data12 (IntKind.i64.wrap (j17 - (1 : Int)))).bind fun p31 =>
((hStore H30 p31 c28).bind fun H32 =>
(xif (C.hok data12)
(k1 H32 data12 a13 b14 k15 i16 (IntKind.i64.wrap (j17 - (1 : Int)))))))))))))
(xif (C.hok data12)
(k0 q22.2 data12 a13 b14 k15 (IntKind.i64.wrap (i16 + (1 : Int)))))))))))))))
(xif (C.hok data12)
(k0 H11 data12 a13 b14 k15 (IntKind.i64.wrap (i16 + (1 : Int))))))
noncomputable def slices_insertionSortCmpFunc_string_l0 (Φ : Phi) (Ψ : Psi) (fuel : Nat) (k0 : Hp → C → Int → Int → Nat → Int → Option (A × Hp)) (H5 : Hp) (data6 : C) (a7 : Int) (b8 : Int) (k9 : Nat) (i10 : Int) : Option (A × Hp) :=
(xite (decide (i10 < b8))
(xif (C.hok data6)
(iter (fun (x : Hp × C × Int × Int × Nat × Int × Int × Unit) (rec : (Hp × C × Int × Int × Nat × Int × Int × Unit) → Option (A × Hp)) => slices_insertionSortCmpFunc_string_l1 Φ Ψ fuel k0 (fun H11 data12 a13 b14 k15 i16 j17 => rec (H11, data12, a13, b14, k15, i16, j17, ())) x.1 x.2.1 x.2.2.1 x.2.2.2.1 x.2.2.2.2.1 x.2.2.2.2.2.1 x.2.2.2.2.2.2.1) fuel (H5, data6, a7, b8, k9, i10, i10, ())))
(xif (xokR (A.tup []))
(some ((A.tup []), H5))))
noncomputable def slices_insertionSortCmpFunc_string (Φ : Phi) (Ψ : Psi) (fuel : Nat) (data1 : C) (a2 : Int) (b3 : Int) (k4 : Nat) (H : Hp) : Option (A × Hp) :=
(xif (C.hok data1)
(iter (fun (x : Hp × C × Int × Int × Nat × Int × Unit) (rec : (Hp × C × Int × Int × Nat × Int × Unit) → Option (A × Hp)) => slices_insertionSortCmpFunc_string_l0 Φ Ψ fuel (fun H5 data6 a7 b8 k9 i10 => rec (H5, data6, a7, b8, k9, i10, ())) x.1 x.2.1 x.2.2.1 x.2.2.2.1 x.2.2.2.2.1 x.2.2.2.2.2.1) fuel (H, data1, a2, b3, k4, (IntKind.i64.wrap (a2 + (1 : Int))), ())))
theorem slices_insertionSortCmpFunc_string_eq (Φ : Phi) (Ψ : Psi) (fuel : Nat) (data1 : C) (a2 : Int) (b3 : Int) (k4 : Nat) (H : Hp) : xbodyH TT0 Φ Ψ sel_slices_insertionSortCmpFunc_string fuel sp_slices_insertionSortCmpFunc_string Try.f79 [(A.one data1), (A.one (C.d (D.v (.int .i64 a2)))), (A.one (C.d (D.v (.int .i64 b3)))), (A.one (C.hclo 66 [k4]))] H = slices_insertionSortCmpFunc_string Φ Ψ fuel data1 a2 b3 k4 H := by kernel_rfl
end Go.Av
