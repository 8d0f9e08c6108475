/-
  The types of the translation, as closed facts. Printed by a program of mine (gen.py).
-/
import Derived.Test.YtnfbgleaodkjpaaProg
import Derived.Test.YtnfbgleaodkjpaaHvX7
import Derived.KernelRfl
set_option linter.all false
set_option linter.unusedVariables false
set_option maxRecDepth 100000
namespace Go.Av
open Go.Proofs
def ty1 : TI := ⟨1, false, 8, [(C.d (D.v (.nilFunc)))], [.other], .other⟩
theorem ty1_ok : TFact Try.prog 1 ty1 := TFact.other (by kernel_rfl : tsz Try.prog 1 = some 1) (by kernel_rfl : tagg Try.prog 1 = some false) (by kernel_rfl : tbytes Try.prog 1 = some 8) (by kernel_rfl : tzero Try.prog 1 = some [(C.d (D.v (.nilFunc)))]) (by kernel_rfl : (Try.prog.underlying 1).isSome = true)
def ty2 : TI := ⟨1, false, 8, [(C.d (D.v (.int .i64 0)))], [(.int .i64)], (.int .i64)⟩
theorem ty2_ok : TFact Try.prog 2 ty2 := TFact.int (by kernel_rfl : tsz Try.prog 2 = some 1) (by kernel_rfl : tagg Try.prog 2 = some false) (by kernel_rfl : tbytes Try.prog 2 = some 8) (by kernel_rfl : tzero Try.prog 2 = some [(C.d (D.v (.int .i64 0)))]) (by kernel_rfl : (Try.prog.underlying 2).isSome = true) (by kernel_rfl : tint Try.prog 2 = some .i64) (by kernel_rfl : telem Try.prog 2 = none) (by kernel_rfl : tarr Try.prog 2 = none)
def ty3 : TI := ⟨1, false, 8, [(C.d (D.v (.int .i64 0)))], [(.int .i64)], (.int .i64)⟩
theorem ty3_ok : TFact Try.prog 3 ty3 := TFact.int (by kernel_rfl : tsz Try.prog 3 = some 1) (by kernel_rfl : tagg Try.prog 3 = some false) (by kernel_rfl : tbytes Try.prog 3 = some 8) (by kernel_rfl : tzero Try.prog 3 = some [(C.d (D.v (.int .i64 0)))]) (by kernel_rfl : (Try.prog.underlying 3).isSome = true) (by kernel_rfl : tint Try.prog 3 = some .i64) (by kernel_rfl : telem Try.prog 3 = none) (by kernel_rfl : tarr Try.prog 3 = none)
def ty4 : TI := ⟨1, false, 1, [(C.d (D.v (.bool false)))], [.bool], .bool⟩
theorem ty4_ok : TFact Try.prog 4 ty4 := TFact.bool (by kernel_rfl : tsz Try.prog 4 = some 1) (by kernel_rfl : tagg Try.prog 4 = some false) (by kernel_rfl : tbytes Try.prog 4 = some 1) (by kernel_rfl : tzero Try.prog 4 = some [(C.d (D.v (.bool false)))]) (by kernel_rfl : (Try.prog.underlying 4).isSome = true) (by kernel_rfl : tbool Try.prog 4 = true) (by kernel_rfl : telem Try.prog 4 = none) (by kernel_rfl : tarr Try.prog 4 = none)
def ty5 : TI := ⟨1, false, 1, [(C.d (D.v (.int .u8 0)))], [(.int .u8)], (.int .u8)⟩
theorem ty5_ok : TFact Try.prog 5 ty5 := TFact.int (by kernel_rfl : tsz Try.prog 5 = some 1) (by kernel_rfl : tagg Try.prog 5 = some false) (by kernel_rfl : tbytes Try.prog 5 = some 1) (by kernel_rfl : tzero Try.prog 5 = some [(C.d (D.v (.int .u8 0)))]) (by kernel_rfl : (Try.prog.underlying 5).isSome = true) (by kernel_rfl : tint Try.prog 5 = some .u8) (by kernel_rfl : telem Try.prog 5 = none) (by kernel_rfl : tarr Try.prog 5 = none)
def ty6 : TI := ⟨1, false, 1, [(C.d (D.v (.int .u8 0)))], [(.int .u8)], (.int .u8)⟩
theorem ty6_ok : TFact Try.prog 6 ty6 := TFact.int (by kernel_rfl : tsz Try.prog 6 = some 1) (by kernel_rfl : tagg Try.prog 6 = some false) (by kernel_rfl : tbytes Try.prog 6 = some 1) (by kernel_rfl : tzero Try.prog 6 = some [(C.d (D.v (.int .u8 0)))]) (by kernel_rfl : (Try.prog.underlying 6).isSome = true) (by kernel_rfl : tint Try.prog 6 = some .u8) (by kernel_rfl : telem Try.prog 6 = none) (by kernel_rfl : tarr Try.prog 6 = none)
def ty7 : TI := ⟨4, true, 24, [(C.d (D.v (.int .i64 0))), (C.d (D.v (.int .i64 0))), (C.d (D.v (.bool false))), (C.d (D.v (.int .u8 0)))], [(.int .i64), (.int .i64), .bool, (.int .u8)], (.struct [(0, 2, 1), (1, 3, 1), (2, 4, 1), (3, 6, 1)])⟩
theorem ty7_ok : TFact Try.prog 7 ty7 := TFact.struct (by kernel_rfl : tsz Try.prog 7 = some 4) (by kernel_rfl : tagg Try.prog 7 = some true) (by kernel_rfl : tbytes Try.prog 7 = some 24) (by kernel_rfl : tzero Try.prog 7 = some [(C.d (D.v (.int .i64 0))), (C.d (D.v (.int .i64 0))), (C.d (D.v (.bool false))), (C.d (D.v (.int .u8 0)))]) (by kernel_rfl : (Try.prog.underlying 7).isSome = true) (by kernel_rfl : telem Try.prog 7 = none) (by kernel_rfl : tarr Try.prog 7 = none) (by kernel_rfl : tstruct Try.prog 7 = some [(0, 1), (1, 1), (2, 1), (3, 1)]) (by kernel_rfl : (List.range 4).map (tfield Try.prog 7) = [some (0, 2), some (1, 3), some (2, 4), some (3, 6)])
def ty8 : TI := ⟨4, true, 24, [(C.d (D.v (.int .i64 0))), (C.d (D.v (.int .i64 0))), (C.d (D.v (.bool false))), (C.d (D.v (.int .u8 0)))], [(.int .i64), (.int .i64), .bool, (.int .u8)], (.struct [(0, 2, 1), (1, 3, 1), (2, 4, 1), (3, 6, 1)])⟩
theorem ty8_ok : TFact Try.prog 8 ty8 := TFact.struct (by kernel_rfl : tsz Try.prog 8 = some 4) (by kernel_rfl : tagg Try.prog 8 = some true) (by kernel_rfl : tbytes Try.prog 8 = some 24) (by kernel_rfl : tzero Try.prog 8 = some [(C.d (D.v (.int .i64 0))), (C.d (D.v (.int .i64 0))), (C.d (D.v (.bool false))), (C.d (D.v (.int .u8 0)))]) (by kernel_rfl : (Try.prog.underlying 8).isSome = true) (by kernel_rfl : telem Try.prog 8 = none) (by kernel_rfl : tarr Try.prog 8 = none) (by kernel_rfl : tstruct Try.prog 8 = some [(0, 1), (1, 1), (2, 1), (3, 1)]) (by kernel_rfl : (List.range 4).map (tfield Try.prog 8) = [some (0, 2), some (1, 3), some (2, 4), some (3, 6)])
def ty9 : TI := ⟨1, false, 16, [(C.d (D.s []))], [.str], .str⟩
theorem ty9_ok : TFact Try.prog 9 ty9 := TFact.str (by kernel_rfl : tsz Try.prog 9 = some 1) (by kernel_rfl : tagg Try.prog 9 = some false) (by kernel_rfl : tbytes Try.prog 9 = some 16) (by kernel_rfl : tzero Try.prog 9 = some [(C.d (D.s []))]) (by kernel_rfl : (Try.prog.underlying 9).isSome = true) (by kernel_rfl : tstr Try.prog 9 = true) (by kernel_rfl : telem Try.prog 9 = none) (by kernel_rfl : tarr Try.prog 9 = none)
def ty10 : TI := ⟨1, false, 16, [(C.d (D.s []))], [.str], .str⟩
theorem ty10_ok : TFact Try.prog 10 ty10 := TFact.str (by kernel_rfl : tsz Try.prog 10 = some 1) (by kernel_rfl : tagg Try.prog 10 = some false) (by kernel_rfl : tbytes Try.prog 10 = some 16) (by kernel_rfl : tzero Try.prog 10 = some [(C.d (D.s []))]) (by kernel_rfl : (Try.prog.underlying 10).isSome = true) (by kernel_rfl : tstr Try.prog 10 = true) (by kernel_rfl : telem Try.prog 10 = none) (by kernel_rfl : tarr Try.prog 10 = none)
def ty11 : TI := ⟨1, false, 16, [(C.d (D.s []))], [.str], .str⟩
theorem ty11_ok : TFact Try.prog 11 ty11 := TFact.str (by kernel_rfl : tsz Try.prog 11 = some 1) (by kernel_rfl : tagg Try.prog 11 = some false) (by kernel_rfl : tbytes Try.prog 11 = some 16) (by kernel_rfl : tzero Try.prog 11 = some [(C.d (D.s []))]) (by kernel_rfl : (Try.prog.underlying 11).isSome = true) (by kernel_rfl : tstr Try.prog 11 = true) (by kernel_rfl : telem Try.prog 11 = none) (by kernel_rfl : tarr Try.prog 11 = none)
def ty12 : TI := ⟨1, false, 8, [(C.d (D.v (.int .u64 0)))], [(.int .u64)], (.int .u64)⟩
theorem ty12_ok : TFact Try.prog 12 ty12 := TFact.int (by kernel_rfl : tsz Try.prog 12 = some 1) (by kernel_rfl : tagg Try.prog 12 = some false) (by kernel_rfl : tbytes Try.prog 12 = some 8) (by kernel_rfl : tzero Try.prog 12 = some [(C.d (D.v (.int .u64 0)))]) (by kernel_rfl : (Try.prog.underlying 12).isSome = true) (by kernel_rfl : tint Try.prog 12 = some .u64) (by kernel_rfl : telem Try.prog 12 = none) (by kernel_rfl : tarr Try.prog 12 = none)
def ty13 : TI := ⟨2, true, 24, [(C.d (D.s [])), (C.d (D.v (.int .u64 0)))], [.str, (.int .u64)], (.struct [(0, 9, 1), (1, 12, 1)])⟩
theorem ty13_ok : TFact Try.prog 13 ty13 := TFact.struct (by kernel_rfl : tsz Try.prog 13 = some 2) (by kernel_rfl : tagg Try.prog 13 = some true) (by kernel_rfl : tbytes Try.prog 13 = some 24) (by kernel_rfl : tzero Try.prog 13 = some [(C.d (D.s [])), (C.d (D.v (.int .u64 0)))]) (by kernel_rfl : (Try.prog.underlying 13).isSome = true) (by kernel_rfl : telem Try.prog 13 = none) (by kernel_rfl : tarr Try.prog 13 = none) (by kernel_rfl : tstruct Try.prog 13 = some [(0, 1), (1, 1)]) (by kernel_rfl : (List.range 2).map (tfield Try.prog 13) = [some (0, 9), some (1, 12)])
def ty14 : TI := ⟨2, true, 24, [(C.d (D.s [])), (C.d (D.v (.int .u64 0)))], [.str, (.int .u64)], (.struct [(0, 9, 1), (1, 12, 1)])⟩
theorem ty14_ok : TFact Try.prog 14 ty14 := TFact.struct (by kernel_rfl : tsz Try.prog 14 = some 2) (by kernel_rfl : tagg Try.prog 14 = some true) (by kernel_rfl : tbytes Try.prog 14 = some 24) (by kernel_rfl : tzero Try.prog 14 = some [(C.d (D.s [])), (C.d (D.v (.int .u64 0)))]) (by kernel_rfl : (Try.prog.underlying 14).isSome = true) (by kernel_rfl : telem Try.prog 14 = none) (by kernel_rfl : tarr Try.prog 14 = none) (by kernel_rfl : tstruct Try.prog 14 = some [(0, 1), (1, 1)]) (by kernel_rfl : (List.range 2).map (tfield Try.prog 14) = [some (0, 9), some (1, 12)])
def ty15 : TI := ⟨1, false, 8, [(C.d (D.v (.pointer none)))], [.other], .other⟩
theorem ty15_ok : TFact Try.prog 15 ty15 := TFact.other (by kernel_rfl : tsz Try.prog 15 = some 1) (by kernel_rfl : tagg Try.prog 15 = some false) (by kernel_rfl : tbytes Try.prog 15 = some 8) (by kernel_rfl : tzero Try.prog 15 = some [(C.d (D.v (.pointer none)))]) (by kernel_rfl : (Try.prog.underlying 15).isSome = true)
def ty16 : TI := ⟨1, false, 8, [(C.d (D.v (.pointer none)))], [.other], .other⟩
theorem ty16_ok : TFact Try.prog 16 ty16 := TFact.other (by kernel_rfl : tsz Try.prog 16 = some 1) (by kernel_rfl : tagg Try.prog 16 = some false) (by kernel_rfl : tbytes Try.prog 16 = some 8) (by kernel_rfl : tzero Try.prog 16 = some [(C.d (D.v (.pointer none)))]) (by kernel_rfl : (Try.prog.underlying 16).isSome = true)
def ty17 : TI := ⟨1, false, 8, [(C.d (D.v (.pointer none)))], [.other], .other⟩
theorem ty17_ok : TFact Try.prog 17 ty17 := TFact.other (by kernel_rfl : tsz Try.prog 17 = some 1) (by kernel_rfl : tagg Try.prog 17 = some false) (by kernel_rfl : tbytes Try.prog 17 = some 8) (by kernel_rfl : tzero Try.prog 17 = some [(C.d (D.v (.pointer none)))]) (by kernel_rfl : (Try.prog.underlying 17).isSome = true)
def ty18 : TI := ⟨1, true, 8, [(C.d (D.v (.pointer none)))], [.other], (.struct [(0, 17, 1)])⟩
theorem ty18_ok : TFact Try.prog 18 ty18 := TFact.struct (by kernel_rfl : tsz Try.prog 18 = some 1) (by kernel_rfl : tagg Try.prog 18 = some true) (by kernel_rfl : tbytes Try.prog 18 = some 8) (by kernel_rfl : tzero Try.prog 18 = some [(C.d (D.v (.pointer none)))]) (by kernel_rfl : (Try.prog.underlying 18).isSome = true) (by kernel_rfl : telem Try.prog 18 = none) (by kernel_rfl : tarr Try.prog 18 = none) (by kernel_rfl : tstruct Try.prog 18 = some [(0, 1)]) (by kernel_rfl : (List.range 1).map (tfield Try.prog 18) = [some (0, 17)])
def ty19 : TI := ⟨1, true, 8, [(C.d (D.v (.pointer none)))], [.other], (.struct [(0, 17, 1)])⟩
theorem ty19_ok : TFact Try.prog 19 ty19 := TFact.struct (by kernel_rfl : tsz Try.prog 19 = some 1) (by kernel_rfl : tagg Try.prog 19 = some true) (by kernel_rfl : tbytes Try.prog 19 = some 8) (by kernel_rfl : tzero Try.prog 19 = some [(C.d (D.v (.pointer none)))]) (by kernel_rfl : (Try.prog.underlying 19).isSome = true) (by kernel_rfl : telem Try.prog 19 = none) (by kernel_rfl : tarr Try.prog 19 = none) (by kernel_rfl : tstruct Try.prog 19 = some [(0, 1)]) (by kernel_rfl : (List.range 1).map (tfield Try.prog 19) = [some (0, 17)])
def ty20 : TI := ⟨1, false, 16, [(C.d (D.v (.nilIface)))], [.other], .other⟩
theorem ty20_ok : TFact Try.prog 20 ty20 := TFact.other (by kernel_rfl : tsz Try.prog 20 = some 1) (by kernel_rfl : tagg Try.prog 20 = some false) (by kernel_rfl : tbytes Try.prog 20 = some 16) (by kernel_rfl : tzero Try.prog 20 = some [(C.d (D.v (.nilIface)))]) (by kernel_rfl : (Try.prog.underlying 20).isSome = true)
def ty21 : TI := ⟨1, false, 4, [(C.d (D.v (.int .i32 0)))], [(.int .i32)], (.int .i32)⟩
theorem ty21_ok : TFact Try.prog 21 ty21 := TFact.int (by kernel_rfl : tsz Try.prog 21 = some 1) (by kernel_rfl : tagg Try.prog 21 = some false) (by kernel_rfl : tbytes Try.prog 21 = some 4) (by kernel_rfl : tzero Try.prog 21 = some [(C.d (D.v (.int .i32 0)))]) (by kernel_rfl : (Try.prog.underlying 21).isSome = true) (by kernel_rfl : tint Try.prog 21 = some .i32) (by kernel_rfl : telem Try.prog 21 = none) (by kernel_rfl : tarr Try.prog 21 = none)
def ty22 : TI := ⟨1, false, 24, [(C.full [])], [.sl], (.slice 33)⟩
theorem ty22_ok : TFact Try.prog 22 ty22 := TFact.slice (by kernel_rfl : tsz Try.prog 22 = some 1) (by kernel_rfl : tagg Try.prog 22 = some false) (by kernel_rfl : tbytes Try.prog 22 = some 24) (by kernel_rfl : tzero Try.prog 22 = some [(C.full [])]) (by kernel_rfl : (Try.prog.underlying 22).isSome = true) (by kernel_rfl : telem Try.prog 22 = some 33) (by kernel_rfl : tarr Try.prog 22 = none)
def ty23 : TI := ⟨1, false, 8, [(C.d (D.v (.nilFunc)))], [.other], .other⟩
theorem ty23_ok : TFact Try.prog 23 ty23 := TFact.other (by kernel_rfl : tsz Try.prog 23 = some 1) (by kernel_rfl : tagg Try.prog 23 = some false) (by kernel_rfl : tbytes Try.prog 23 = some 8) (by kernel_rfl : tzero Try.prog 23 = some [(C.d (D.v (.nilFunc)))]) (by kernel_rfl : (Try.prog.underlying 23).isSome = true)
def ty24 : TI := ⟨1, false, 8, [(C.d (D.v (.nilFunc)))], [.other], .other⟩
theorem ty24_ok : TFact Try.prog 24 ty24 := TFact.other (by kernel_rfl : tsz Try.prog 24 = some 1) (by kernel_rfl : tagg Try.prog 24 = some false) (by kernel_rfl : tbytes Try.prog 24 = some 8) (by kernel_rfl : tzero Try.prog 24 = some [(C.d (D.v (.nilFunc)))]) (by kernel_rfl : (Try.prog.underlying 24).isSome = true)
def ty25 : TI := ⟨1, false, 8, [(C.d (D.v (.int .i64 0)))], [(.int .i64)], (.int .i64)⟩
theorem ty25_ok : TFact Try.prog 25 ty25 := TFact.int (by kernel_rfl : tsz Try.prog 25 = some 1) (by kernel_rfl : tagg Try.prog 25 = some false) (by kernel_rfl : tbytes Try.prog 25 = some 8) (by kernel_rfl : tzero Try.prog 25 = some [(C.d (D.v (.int .i64 0)))]) (by kernel_rfl : (Try.prog.underlying 25).isSome = true) (by kernel_rfl : tint Try.prog 25 = some .i64) (by kernel_rfl : telem Try.prog 25 = none) (by kernel_rfl : tarr Try.prog 25 = none)
def ty27 : TI := ⟨1, false, 8, [(C.d (D.v (.nilFunc)))], [.other], .other⟩
theorem ty27_ok : TFact Try.prog 27 ty27 := TFact.other (by kernel_rfl : tsz Try.prog 27 = some 1) (by kernel_rfl : tagg Try.prog 27 = some false) (by kernel_rfl : tbytes Try.prog 27 = some 8) (by kernel_rfl : tzero Try.prog 27 = some [(C.d (D.v (.nilFunc)))]) (by kernel_rfl : (Try.prog.underlying 27).isSome = true)
def ty28 : TI := ⟨1, false, 8, [(C.d (D.v (.nilFunc)))], [.other], .other⟩
theorem ty28_ok : TFact Try.prog 28 ty28 := TFact.other (by kernel_rfl : tsz Try.prog 28 = some 1) (by kernel_rfl : tagg Try.prog 28 = some false) (by kernel_rfl : tbytes Try.prog 28 = some 8) (by kernel_rfl : tzero Try.prog 28 = some [(C.d (D.v (.nilFunc)))]) (by kernel_rfl : (Try.prog.underlying 28).isSome = true)
def ty29 : TI := ⟨1, false, 8, [(C.d (D.v (.nilFunc)))], [.other], .other⟩
theorem ty29_ok : TFact Try.prog 29 ty29 := TFact.other (by kernel_rfl : tsz Try.prog 29 = some 1) (by kernel_rfl : tagg Try.prog 29 = some false) (by kernel_rfl : tbytes Try.prog 29 = some 8) (by kernel_rfl : tzero Try.prog 29 = some [(C.d (D.v (.nilFunc)))]) (by kernel_rfl : (Try.prog.underlying 29).isSome = true)
def ty30 : TI := ⟨1, false, 8, [(C.d (D.v (.nilFunc)))], [.other], .other⟩
theorem ty30_ok : TFact Try.prog 30 ty30 := TFact.other (by kernel_rfl : tsz Try.prog 30 = some 1) (by kernel_rfl : tagg Try.prog 30 = some false) (by kernel_rfl : tbytes Try.prog 30 = some 8) (by kernel_rfl : tzero Try.prog 30 = some [(C.d (D.v (.nilFunc)))]) (by kernel_rfl : (Try.prog.underlying 30).isSome = true)
def ty31 : TI := ⟨1, false, 8, [(C.d (D.v (.nilFunc)))], [.other], .other⟩
theorem ty31_ok : TFact Try.prog 31 ty31 := TFact.other (by kernel_rfl : tsz Try.prog 31 = some 1) (by kernel_rfl : tagg Try.prog 31 = some false) (by kernel_rfl : tbytes Try.prog 31 = some 8) (by kernel_rfl : tzero Try.prog 31 = some [(C.d (D.v (.nilFunc)))]) (by kernel_rfl : (Try.prog.underlying 31).isSome = true)
def ty32 : TI := ⟨1, false, 8, [(C.d (D.v (.nilFunc)))], [.other], .other⟩
theorem ty32_ok : TFact Try.prog 32 ty32 := TFact.other (by kernel_rfl : tsz Try.prog 32 = some 1) (by kernel_rfl : tagg Try.prog 32 = some false) (by kernel_rfl : tbytes Try.prog 32 = some 8) (by kernel_rfl : tzero Try.prog 32 = some [(C.d (D.v (.nilFunc)))]) (by kernel_rfl : (Try.prog.underlying 32).isSome = true)
def ty33 : TI := ⟨1, false, 24, [(C.full [])], [.sl], (.slice 9)⟩
theorem ty33_ok : TFact Try.prog 33 ty33 := TFact.slice (by kernel_rfl : tsz Try.prog 33 = some 1) (by kernel_rfl : tagg Try.prog 33 = some false) (by kernel_rfl : tbytes Try.prog 33 = some 24) (by kernel_rfl : tzero Try.prog 33 = some [(C.full [])]) (by kernel_rfl : (Try.prog.underlying 33).isSome = true) (by kernel_rfl : telem Try.prog 33 = some 9) (by kernel_rfl : tarr Try.prog 33 = none)
def ty35 : TI := ⟨1, false, 8, [(C.d (D.v (.nilFunc)))], [.other], .other⟩
theorem ty35_ok : TFact Try.prog 35 ty35 := TFact.other (by kernel_rfl : tsz Try.prog 35 = some 1) (by kernel_rfl : tagg Try.prog 35 = some false) (by kernel_rfl : tbytes Try.prog 35 = some 8) (by kernel_rfl : tzero Try.prog 35 = some [(C.d (D.v (.nilFunc)))]) (by kernel_rfl : (Try.prog.underlying 35).isSome = true)
def ty37 : TI := ⟨1, false, 8, [(C.d (D.v (.nilFunc)))], [.other], .other⟩
theorem ty37_ok : TFact Try.prog 37 ty37 := TFact.other (by kernel_rfl : tsz Try.prog 37 = some 1) (by kernel_rfl : tagg Try.prog 37 = some false) (by kernel_rfl : tbytes Try.prog 37 = some 8) (by kernel_rfl : tzero Try.prog 37 = some [(C.d (D.v (.nilFunc)))]) (by kernel_rfl : (Try.prog.underlying 37).isSome = true)
def ty38 : TI := ⟨1, false, 8, [(C.d (D.v (.nilFunc)))], [.other], .other⟩
theorem ty38_ok : TFact Try.prog 38 ty38 := TFact.other (by kernel_rfl : tsz Try.prog 38 = some 1) (by kernel_rfl : tagg Try.prog 38 = some false) (by kernel_rfl : tbytes Try.prog 38 = some 8) (by kernel_rfl : tzero Try.prog 38 = some [(C.d (D.v (.nilFunc)))]) (by kernel_rfl : (Try.prog.underlying 38).isSome = true)
def ty39 : TI := ⟨1, false, 8, [(C.d (D.v (.nilFunc)))], [.other], .other⟩
theorem ty39_ok : TFact Try.prog 39 ty39 := TFact.other (by kernel_rfl : tsz Try.prog 39 = some 1) (by kernel_rfl : tagg Try.prog 39 = some false) (by kernel_rfl : tbytes Try.prog 39 = some 8) (by kernel_rfl : tzero Try.prog 39 = some [(C.d (D.v (.nilFunc)))]) (by kernel_rfl : (Try.prog.underlying 39).isSome = true)
def ty40 : TI := ⟨1, false, 8, [(C.d (D.v (.nilFunc)))], [.other], .other⟩
theorem ty40_ok : TFact Try.prog 40 ty40 := TFact.other (by kernel_rfl : tsz Try.prog 40 = some 1) (by kernel_rfl : tagg Try.prog 40 = some false) (by kernel_rfl : tbytes Try.prog 40 = some 8) (by kernel_rfl : tzero Try.prog 40 = some [(C.d (D.v (.nilFunc)))]) (by kernel_rfl : (Try.prog.underlying 40).isSome = true)
def ty41 : TI := ⟨1, false, 8, [(C.d (D.v (.nilFunc)))], [.other], .other⟩
theorem ty41_ok : TFact Try.prog 41 ty41 := TFact.other (by kernel_rfl : tsz Try.prog 41 = some 1) (by kernel_rfl : tagg Try.prog 41 = some false) (by kernel_rfl : tbytes Try.prog 41 = some 8) (by kernel_rfl : tzero Try.prog 41 = some [(C.d (D.v (.nilFunc)))]) (by kernel_rfl : (Try.prog.underlying 41).isSome = true)
def ty42 : TI := ⟨1, false, 8, [(C.d (D.v (.nilFunc)))], [.other], .other⟩
theorem ty42_ok : TFact Try.prog 42 ty42 := TFact.other (by kernel_rfl : tsz Try.prog 42 = some 1) (by kernel_rfl : tagg Try.prog 42 = some false) (by kernel_rfl : tbytes Try.prog 42 = some 8) (by kernel_rfl : tzero Try.prog 42 = some [(C.d (D.v (.nilFunc)))]) (by kernel_rfl : (Try.prog.underlying 42).isSome = true)
def ty43 : TI := ⟨1, false, 8, [(C.d (D.v (.nilFunc)))], [.other], .other⟩
theorem ty43_ok : TFact Try.prog 43 ty43 := TFact.other (by kernel_rfl : tsz Try.prog 43 = some 1) (by kernel_rfl : tagg Try.prog 43 = some false) (by kernel_rfl : tbytes Try.prog 43 = some 8) (by kernel_rfl : tzero Try.prog 43 = some [(C.d (D.v (.nilFunc)))]) (by kernel_rfl : (Try.prog.underlying 43).isSome = true)
def ty44 : TI := ⟨1, false, 8, [(C.d (D.v (.nilFunc)))], [.other], .other⟩
theorem ty44_ok : TFact Try.prog 44 ty44 := TFact.other (by kernel_rfl : tsz Try.prog 44 = some 1) (by kernel_rfl : tagg Try.prog 44 = some false) (by kernel_rfl : tbytes Try.prog 44 = some 8) (by kernel_rfl : tzero Try.prog 44 = some [(C.d (D.v (.nilFunc)))]) (by kernel_rfl : (Try.prog.underlying 44).isSome = true)
def ty45 : TI := ⟨1, false, 8, [(C.d (D.v (.nilFunc)))], [.other], .other⟩
theorem ty45_ok : TFact Try.prog 45 ty45 := TFact.other (by kernel_rfl : tsz Try.prog 45 = some 1) (by kernel_rfl : tagg Try.prog 45 = some false) (by kernel_rfl : tbytes Try.prog 45 = some 8) (by kernel_rfl : tzero Try.prog 45 = some [(C.d (D.v (.nilFunc)))]) (by kernel_rfl : (Try.prog.underlying 45).isSome = true)
def ty46 : TI := ⟨1, false, 8, [(C.d (D.v (.nilFunc)))], [.other], .other⟩
theorem ty46_ok : TFact Try.prog 46 ty46 := TFact.other (by kernel_rfl : tsz Try.prog 46 = some 1) (by kernel_rfl : tagg Try.prog 46 = some false) (by kernel_rfl : tbytes Try.prog 46 = some 8) (by kernel_rfl : tzero Try.prog 46 = some [(C.d (D.v (.nilFunc)))]) (by kernel_rfl : (Try.prog.underlying 46).isSome = true)
def ty47 : TI := ⟨1, false, 8, [(C.d (D.v (.nilFunc)))], [.other], .other⟩
theorem ty47_ok : TFact Try.prog 47 ty47 := TFact.other (by kernel_rfl : tsz Try.prog 47 = some 1) (by kernel_rfl : tagg Try.prog 47 = some false) (by kernel_rfl : tbytes Try.prog 47 = some 8) (by kernel_rfl : tzero Try.prog 47 = some [(C.d (D.v (.nilFunc)))]) (by kernel_rfl : (Try.prog.underlying 47).isSome = true)
def ty48 : TI := ⟨1, false, 8, [(C.d (D.v (.map none)))], [.other], .map⟩
theorem ty48_ok : TFact Try.prog 48 ty48 := TFact.map (by kernel_rfl : tsz Try.prog 48 = some 1) (by kernel_rfl : tagg Try.prog 48 = some false) (by kernel_rfl : tbytes Try.prog 48 = some 8) (by kernel_rfl : tzero Try.prog 48 = some [(C.d (D.v (.map none)))]) (by kernel_rfl : (Try.prog.underlying 48).isSome = true) (by kernel_rfl : tmapB Try.prog 48 = true)
def ty49 : TI := ⟨1, false, 8, [(C.d (D.v (.nilFunc)))], [.other], .other⟩
theorem ty49_ok : TFact Try.prog 49 ty49 := TFact.other (by kernel_rfl : tsz Try.prog 49 = some 1) (by kernel_rfl : tagg Try.prog 49 = some false) (by kernel_rfl : tbytes Try.prog 49 = some 8) (by kernel_rfl : tzero Try.prog 49 = some [(C.d (D.v (.nilFunc)))]) (by kernel_rfl : (Try.prog.underlying 49).isSome = true)
def ty50 : TI := ⟨1, false, 8, [(C.d (D.v (.pointer none)))], [.other], .other⟩
theorem ty50_ok : TFact Try.prog 50 ty50 := TFact.other (by kernel_rfl : tsz Try.prog 50 = some 1) (by kernel_rfl : tagg Try.prog 50 = some false) (by kernel_rfl : tbytes Try.prog 50 = some 8) (by kernel_rfl : tzero Try.prog 50 = some [(C.d (D.v (.pointer none)))]) (by kernel_rfl : (Try.prog.underlying 50).isSome = true)
def ty51 : TI := ⟨2, true, 16, [(C.d (D.v (.int .i64 0))), (C.d (D.v (.int .i64 0)))], [(.int .i64), (.int .i64)], (.arr 2 3)⟩
theorem ty51_ok : TFact Try.prog 51 ty51 := TFact.arr (by kernel_rfl : tsz Try.prog 51 = some 2) (by kernel_rfl : tagg Try.prog 51 = some true) (by kernel_rfl : tbytes Try.prog 51 = some 16) (by kernel_rfl : tzero Try.prog 51 = some [(C.d (D.v (.int .i64 0))), (C.d (D.v (.int .i64 0)))]) (by kernel_rfl : (Try.prog.underlying 51).isSome = true) (by kernel_rfl : telem Try.prog 51 = none) (by kernel_rfl : tarr Try.prog 51 = some (2, 3)) (by kernel_rfl : tstruct Try.prog 51 = none)
def ty53 : TI := ⟨1, false, 8, [(C.d (D.v (.nilFunc)))], [.other], .other⟩
theorem ty53_ok : TFact Try.prog 53 ty53 := TFact.other (by kernel_rfl : tsz Try.prog 53 = some 1) (by kernel_rfl : tagg Try.prog 53 = some false) (by kernel_rfl : tbytes Try.prog 53 = some 8) (by kernel_rfl : tzero Try.prog 53 = some [(C.d (D.v (.nilFunc)))]) (by kernel_rfl : (Try.prog.underlying 53).isSome = true)
def ty54 : TI := ⟨1, false, 8, [(C.d (D.v (.nilFunc)))], [.other], .other⟩
theorem ty54_ok : TFact Try.prog 54 ty54 := TFact.other (by kernel_rfl : tsz Try.prog 54 = some 1) (by kernel_rfl : tagg Try.prog 54 = some false) (by kernel_rfl : tbytes Try.prog 54 = some 8) (by kernel_rfl : tzero Try.prog 54 = some [(C.d (D.v (.nilFunc)))]) (by kernel_rfl : (Try.prog.underlying 54).isSome = true)
def ty55 : TI := ⟨1, false, 8, [(C.d (D.v (.nilFunc)))], [.other], .other⟩
theorem ty55_ok : TFact Try.prog 55 ty55 := TFact.other (by kernel_rfl : tsz Try.prog 55 = some 1) (by kernel_rfl : tagg Try.prog 55 = some false) (by kernel_rfl : tbytes Try.prog 55 = some 8) (by kernel_rfl : tzero Try.prog 55 = some [(C.d (D.v (.nilFunc)))]) (by kernel_rfl : (Try.prog.underlying 55).isSome = true)
def ty57 : TI := ⟨1, false, 8, [(C.d (D.v (.nilFunc)))], [.other], .other⟩
theorem ty57_ok : TFact Try.prog 57 ty57 := TFact.other (by kernel_rfl : tsz Try.prog 57 = some 1) (by kernel_rfl : tagg Try.prog 57 = some false) (by kernel_rfl : tbytes Try.prog 57 = some 8) (by kernel_rfl : tzero Try.prog 57 = some [(C.d (D.v (.nilFunc)))]) (by kernel_rfl : (Try.prog.underlying 57).isSome = true)
def ty58 : TI := ⟨1, false, 8, [(C.d (D.v (.nilFunc)))], [.other], .other⟩
theorem ty58_ok : TFact Try.prog 58 ty58 := TFact.other (by kernel_rfl : tsz Try.prog 58 = some 1) (by kernel_rfl : tagg Try.prog 58 = some false) (by kernel_rfl : tbytes Try.prog 58 = some 8) (by kernel_rfl : tzero Try.prog 58 = some [(C.d (D.v (.nilFunc)))]) (by kernel_rfl : (Try.prog.underlying 58).isSome = true)
def ty60 : TI := ⟨1, false, 8, [(C.d (D.v (.nilFunc)))], [.other], .other⟩
theorem ty60_ok : TFact Try.prog 60 ty60 := TFact.other (by kernel_rfl : tsz Try.prog 60 = some 1) (by kernel_rfl : tagg Try.prog 60 = some false) (by kernel_rfl : tbytes Try.prog 60 = some 8) (by kernel_rfl : tzero Try.prog 60 = some [(C.d (D.v (.nilFunc)))]) (by kernel_rfl : (Try.prog.underlying 60).isSome = true)
def ty61 : TI := ⟨1, false, 8, [(C.d (D.v (.nilFunc)))], [.other], .other⟩
theorem ty61_ok : TFact Try.prog 61 ty61 := TFact.other (by kernel_rfl : tsz Try.prog 61 = some 1) (by kernel_rfl : tagg Try.prog 61 = some false) (by kernel_rfl : tbytes Try.prog 61 = some 8) (by kernel_rfl : tzero Try.prog 61 = some [(C.d (D.v (.nilFunc)))]) (by kernel_rfl : (Try.prog.underlying 61).isSome = true)
def ty62 : TI := ⟨1, false, 8, [(C.d (D.v (.nilFunc)))], [.other], .other⟩
theorem ty62_ok : TFact Try.prog 62 ty62 := TFact.other (by kernel_rfl : tsz Try.prog 62 = some 1) (by kernel_rfl : tagg Try.prog 62 = some false) (by kernel_rfl : tbytes Try.prog 62 = some 8) (by kernel_rfl : tzero Try.prog 62 = some [(C.d (D.v (.nilFunc)))]) (by kernel_rfl : (Try.prog.underlying 62).isSome = true)
def ty63 : TI := ⟨1, false, 8, [(C.d (D.v (.nilFunc)))], [.other], .other⟩
theorem ty63_ok : TFact Try.prog 63 ty63 := TFact.other (by kernel_rfl : tsz Try.prog 63 = some 1) (by kernel_rfl : tagg Try.prog 63 = some false) (by kernel_rfl : tbytes Try.prog 63 = some 8) (by kernel_rfl : tzero Try.prog 63 = some [(C.d (D.v (.nilFunc)))]) (by kernel_rfl : (Try.prog.underlying 63).isSome = true)
def ty64 : TI := ⟨1, false, 8, [(C.d (D.v (.nilFunc)))], [.other], .other⟩
theorem ty64_ok : TFact Try.prog 64 ty64 := TFact.other (by kernel_rfl : tsz Try.prog 64 = some 1) (by kernel_rfl : tagg Try.prog 64 = some false) (by kernel_rfl : tbytes Try.prog 64 = some 8) (by kernel_rfl : tzero Try.prog 64 = some [(C.d (D.v (.nilFunc)))]) (by kernel_rfl : (Try.prog.underlying 64).isSome = true)
def ty65 : TI := ⟨1, false, 8, [(C.d (D.v (.nilFunc)))], [.other], .other⟩
theorem ty65_ok : TFact Try.prog 65 ty65 := TFact.other (by kernel_rfl : tsz Try.prog 65 = some 1) (by kernel_rfl : tagg Try.prog 65 = some false) (by kernel_rfl : tbytes Try.prog 65 = some 8) (by kernel_rfl : tzero Try.prog 65 = some [(C.d (D.v (.nilFunc)))]) (by kernel_rfl : (Try.prog.underlying 65).isSome = true)
def ty66 : TI := ⟨1, false, 8, [(C.d (D.v (.nilFunc)))], [.other], .other⟩
theorem ty66_ok : TFact Try.prog 66 ty66 := TFact.other (by kernel_rfl : tsz Try.prog 66 = some 1) (by kernel_rfl : tagg Try.prog 66 = some false) (by kernel_rfl : tbytes Try.prog 66 = some 8) (by kernel_rfl : tzero Try.prog 66 = some [(C.d (D.v (.nilFunc)))]) (by kernel_rfl : (Try.prog.underlying 66).isSome = true)
def ty67 : TI := ⟨1, false, 8, [(C.d (D.v (.nilFunc)))], [.other], .other⟩
theorem ty67_ok : TFact Try.prog 67 ty67 := TFact.other (by kernel_rfl : tsz Try.prog 67 = some 1) (by kernel_rfl : tagg Try.prog 67 = some false) (by kernel_rfl : tbytes Try.prog 67 = some 8) (by kernel_rfl : tzero Try.prog 67 = some [(C.d (D.v (.nilFunc)))]) (by kernel_rfl : (Try.prog.underlying 67).isSome = true)
def ty68 : TI := ⟨1, false, 8, [(C.d (D.v (.nilFunc)))], [.other], .other⟩
theorem ty68_ok : TFact Try.prog 68 ty68 := TFact.other (by kernel_rfl : tsz Try.prog 68 = some 1) (by kernel_rfl : tagg Try.prog 68 = some false) (by kernel_rfl : tbytes Try.prog 68 = some 8) (by kernel_rfl : tzero Try.prog 68 = some [(C.d (D.v (.nilFunc)))]) (by kernel_rfl : (Try.prog.underlying 68).isSome = true)
def ty69 : TI := ⟨1, false, 8, [(C.d (D.v (.nilFunc)))], [.other], .other⟩
theorem ty69_ok : TFact Try.prog 69 ty69 := TFact.other (by kernel_rfl : tsz Try.prog 69 = some 1) (by kernel_rfl : tagg Try.prog 69 = some false) (by kernel_rfl : tbytes Try.prog 69 = some 8) (by kernel_rfl : tzero Try.prog 69 = some [(C.d (D.v (.nilFunc)))]) (by kernel_rfl : (Try.prog.underlying 69).isSome = true)
def ty70 : TI := ⟨1, false, 8, [(C.d (D.v (.nilFunc)))], [.other], .other⟩
theorem ty70_ok : TFact Try.prog 70 ty70 := TFact.other (by kernel_rfl : tsz Try.prog 70 = some 1) (by kernel_rfl : tagg Try.prog 70 = some false) (by kernel_rfl : tbytes Try.prog 70 = some 8) (by kernel_rfl : tzero Try.prog 70 = some [(C.d (D.v (.nilFunc)))]) (by kernel_rfl : (Try.prog.underlying 70).isSome = true)
def ty71 : TI := ⟨1, false, 8, [(C.d (D.v (.nilFunc)))], [.other], .other⟩
theorem ty71_ok : TFact Try.prog 71 ty71 := TFact.other (by kernel_rfl : tsz Try.prog 71 = some 1) (by kernel_rfl : tagg Try.prog 71 = some false) (by kernel_rfl : tbytes Try.prog 71 = some 8) (by kernel_rfl : tzero Try.prog 71 = some [(C.d (D.v (.nilFunc)))]) (by kernel_rfl : (Try.prog.underlying 71).isSome = true)
def ty72 : TI := ⟨1, false, 24, [(C.full [])], [.sl], (.slice 22)⟩
theorem ty72_ok : TFact Try.prog 72 ty72 := TFact.slice (by kernel_rfl : tsz Try.prog 72 = some 1) (by kernel_rfl : tagg Try.prog 72 = some false) (by kernel_rfl : tbytes Try.prog 72 = some 24) (by kernel_rfl : tzero Try.prog 72 = some [(C.full [])]) (by kernel_rfl : (Try.prog.underlying 72).isSome = true) (by kernel_rfl : telem Try.prog 72 = some 22) (by kernel_rfl : tarr Try.prog 72 = none)
def ty73 : TI := ⟨1, false, 8, [(C.d (D.v (.nilFunc)))], [.other], .other⟩
theorem ty73_ok : TFact Try.prog 73 ty73 := TFact.other (by kernel_rfl : tsz Try.prog 73 = some 1) (by kernel_rfl : tagg Try.prog 73 = some false) (by kernel_rfl : tbytes Try.prog 73 = some 8) (by kernel_rfl : tzero Try.prog 73 = some [(C.d (D.v (.nilFunc)))]) (by kernel_rfl : (Try.prog.underlying 73).isSome = true)
def ty74 : TI := ⟨1, false, 8, [(C.d (D.v (.pointer none)))], [.other], .other⟩
theorem ty74_ok : TFact Try.prog 74 ty74 := TFact.other (by kernel_rfl : tsz Try.prog 74 = some 1) (by kernel_rfl : tagg Try.prog 74 = some false) (by kernel_rfl : tbytes Try.prog 74 = some 8) (by kernel_rfl : tzero Try.prog 74 = some [(C.d (D.v (.pointer none)))]) (by kernel_rfl : (Try.prog.underlying 74).isSome = true)
def ty75 : TI := ⟨1, false, 8, [(C.d (D.v (.nilFunc)))], [.other], .other⟩
theorem ty75_ok : TFact Try.prog 75 ty75 := TFact.other (by kernel_rfl : tsz Try.prog 75 = some 1) (by kernel_rfl : tagg Try.prog 75 = some false) (by kernel_rfl : tbytes Try.prog 75 = some 8) (by kernel_rfl : tzero Try.prog 75 = some [(C.d (D.v (.nilFunc)))]) (by kernel_rfl : (Try.prog.underlying 75).isSome = true)
def ty76 : TI := ⟨1, false, 8, [(C.d (D.v (.nilFunc)))], [.other], .other⟩
theorem ty76_ok : TFact Try.prog 76 ty76 := TFact.other (by kernel_rfl : tsz Try.prog 76 = some 1) (by kernel_rfl : tagg Try.prog 76 = some false) (by kernel_rfl : tbytes Try.prog 76 = some 8) (by kernel_rfl : tzero Try.prog 76 = some [(C.d (D.v (.nilFunc)))]) (by kernel_rfl : (Try.prog.underlying 76).isSome = true)
def ty77 : TI := ⟨1, false, 8, [(C.d (D.v (.nilFunc)))], [.other], .other⟩
theorem ty77_ok : TFact Try.prog 77 ty77 := TFact.other (by kernel_rfl : tsz Try.prog 77 = some 1) (by kernel_rfl : tagg Try.prog 77 = some false) (by kernel_rfl : tbytes Try.prog 77 = some 8) (by kernel_rfl : tzero Try.prog 77 = some [(C.d (D.v (.nilFunc)))]) (by kernel_rfl : (Try.prog.underlying 77).isSome = true)
def ty78 : TI := ⟨1, false, 8, [(C.d (D.v (.nilFunc)))], [.other], .other⟩
theorem ty78_ok : TFact Try.prog 78 ty78 := TFact.other (by kernel_rfl : tsz Try.prog 78 = some 1) (by kernel_rfl : tagg Try.prog 78 = some false) (by kernel_rfl : tbytes Try.prog 78 = some 8) (by kernel_rfl : tzero Try.prog 78 = some [(C.d (D.v (.nilFunc)))]) (by kernel_rfl : (Try.prog.underlying 78).isSome = true)
def ty79 : TI := ⟨1, false, 8, [(C.d (D.v (.int .u64 0)))], [(.int .u64)], (.int .u64)⟩
theorem ty79_ok : TFact Try.prog 79 ty79 := TFact.int (by kernel_rfl : tsz Try.prog 79 = some 1) (by kernel_rfl : tagg Try.prog 79 = some false) (by kernel_rfl : tbytes Try.prog 79 = some 8) (by kernel_rfl : tzero Try.prog 79 = some [(C.d (D.v (.int .u64 0)))]) (by kernel_rfl : (Try.prog.underlying 79).isSome = true) (by kernel_rfl : tint Try.prog 79 = some .u64) (by kernel_rfl : telem Try.prog 79 = none) (by kernel_rfl : tarr Try.prog 79 = none)
def ty80 : TI := ⟨1, false, 8, [(C.d (D.v (.nilFunc)))], [.other], .other⟩
theorem ty80_ok : TFact Try.prog 80 ty80 := TFact.other (by kernel_rfl : tsz Try.prog 80 = some 1) (by kernel_rfl : tagg Try.prog 80 = some false) (by kernel_rfl : tbytes Try.prog 80 = some 8) (by kernel_rfl : tzero Try.prog 80 = some [(C.d (D.v (.nilFunc)))]) (by kernel_rfl : (Try.prog.underlying 80).isSome = true)
def ty81 : TI := ⟨1, false, 4, [(C.d (D.v (.int .u32 0)))], [(.int .u32)], (.int .u32)⟩
theorem ty81_ok : TFact Try.prog 81 ty81 := TFact.int (by kernel_rfl : tsz Try.prog 81 = some 1) (by kernel_rfl : tagg Try.prog 81 = some false) (by kernel_rfl : tbytes Try.prog 81 = some 4) (by kernel_rfl : tzero Try.prog 81 = some [(C.d (D.v (.int .u32 0)))]) (by kernel_rfl : (Try.prog.underlying 81).isSome = true) (by kernel_rfl : tint Try.prog 81 = some .u32) (by kernel_rfl : telem Try.prog 81 = none) (by kernel_rfl : tarr Try.prog 81 = none)
def ty83 : TI := ⟨1, false, 8, [(C.d (D.v (.nilFunc)))], [.other], .other⟩
theorem ty83_ok : TFact Try.prog 83 ty83 := TFact.other (by kernel_rfl : tsz Try.prog 83 = some 1) (by kernel_rfl : tagg Try.prog 83 = some false) (by kernel_rfl : tbytes Try.prog 83 = some 8) (by kernel_rfl : tzero Try.prog 83 = some [(C.d (D.v (.nilFunc)))]) (by kernel_rfl : (Try.prog.underlying 83).isSome = true)
def ty84 : TI := ⟨1, false, 8, [(C.d (D.v (.nilFunc)))], [.other], .other⟩
theorem ty84_ok : TFact Try.prog 84 ty84 := TFact.other (by kernel_rfl : tsz Try.prog 84 = some 1) (by kernel_rfl : tagg Try.prog 84 = some false) (by kernel_rfl : tbytes Try.prog 84 = some 8) (by kernel_rfl : tzero Try.prog 84 = some [(C.d (D.v (.nilFunc)))]) (by kernel_rfl : (Try.prog.underlying 84).isSome = true)
def ty85 : TI := ⟨4, true, 40, [(C.d (D.v (.pointer none))), (C.d (D.v (.pointer none))), (C.d (D.v (.pointer none))), (C.d (D.s []))], [.other, .other, .other, .str], (.struct [(0, 17, 1), (1, 17, 1), (2, 17, 1), (3, 9, 1)])⟩
theorem ty85_ok : TFact Try.prog 85 ty85 := TFact.struct (by kernel_rfl : tsz Try.prog 85 = some 4) (by kernel_rfl : tagg Try.prog 85 = some true) (by kernel_rfl : tbytes Try.prog 85 = some 40) (by kernel_rfl : tzero Try.prog 85 = some [(C.d (D.v (.pointer none))), (C.d (D.v (.pointer none))), (C.d (D.v (.pointer none))), (C.d (D.s []))]) (by kernel_rfl : (Try.prog.underlying 85).isSome = true) (by kernel_rfl : telem Try.prog 85 = none) (by kernel_rfl : tarr Try.prog 85 = none) (by kernel_rfl : tstruct Try.prog 85 = some [(0, 1), (1, 1), (2, 1), (3, 1)]) (by kernel_rfl : (List.range 4).map (tfield Try.prog 85) = [some (0, 17), some (1, 17), some (2, 17), some (3, 9)])
def ty86 : TI := ⟨4, true, 40, [(C.d (D.v (.pointer none))), (C.d (D.v (.pointer none))), (C.d (D.v (.pointer none))), (C.d (D.s []))], [.other, .other, .other, .str], (.struct [(0, 17, 1), (1, 17, 1), (2, 17, 1), (3, 9, 1)])⟩
theorem ty86_ok : TFact Try.prog 86 ty86 := TFact.struct (by kernel_rfl : tsz Try.prog 86 = some 4) (by kernel_rfl : tagg Try.prog 86 = some true) (by kernel_rfl : tbytes Try.prog 86 = some 40) (by kernel_rfl : tzero Try.prog 86 = some [(C.d (D.v (.pointer none))), (C.d (D.v (.pointer none))), (C.d (D.v (.pointer none))), (C.d (D.s []))]) (by kernel_rfl : (Try.prog.underlying 86).isSome = true) (by kernel_rfl : telem Try.prog 86 = none) (by kernel_rfl : tarr Try.prog 86 = none) (by kernel_rfl : tstruct Try.prog 86 = some [(0, 1), (1, 1), (2, 1), (3, 1)]) (by kernel_rfl : (List.range 4).map (tfield Try.prog 86) = [some (0, 17), some (1, 17), some (2, 17), some (3, 9)])
def ty87 : TI := ⟨0, true, 0, [], [], (.arr 0 16)⟩
theorem ty87_ok : TFact Try.prog 87 ty87 := TFact.arr (by kernel_rfl : tsz Try.prog 87 = some 0) (by kernel_rfl : tagg Try.prog 87 = some true) (by kernel_rfl : tbytes Try.prog 87 = some 0) (by kernel_rfl : tzero Try.prog 87 = some []) (by kernel_rfl : (Try.prog.underlying 87).isSome = true) (by kernel_rfl : telem Try.prog 87 = none) (by kernel_rfl : tarr Try.prog 87 = some (0, 16)) (by kernel_rfl : tstruct Try.prog 87 = none)
def ty88 : TI := ⟨0, true, 0, [], [], (.struct [(0, 87, 0)])⟩
theorem ty88_ok : TFact Try.prog 88 ty88 := TFact.struct (by kernel_rfl : tsz Try.prog 88 = some 0) (by kernel_rfl : tagg Try.prog 88 = some true) (by kernel_rfl : tbytes Try.prog 88 = some 0) (by kernel_rfl : tzero Try.prog 88 = some []) (by kernel_rfl : (Try.prog.underlying 88).isSome = true) (by kernel_rfl : telem Try.prog 88 = none) (by kernel_rfl : tarr Try.prog 88 = none) (by kernel_rfl : tstruct Try.prog 88 = some [(0, 0)]) (by kernel_rfl : (List.range 1).map (tfield Try.prog 88) = [some (0, 87)])
def ty89 : TI := ⟨0, true, 0, [], [], (.struct [(0, 87, 0)])⟩
theorem ty89_ok : TFact Try.prog 89 ty89 := TFact.struct (by kernel_rfl : tsz Try.prog 89 = some 0) (by kernel_rfl : tagg Try.prog 89 = some true) (by kernel_rfl : tbytes Try.prog 89 = some 0) (by kernel_rfl : tzero Try.prog 89 = some []) (by kernel_rfl : (Try.prog.underlying 89).isSome = true) (by kernel_rfl : telem Try.prog 89 = none) (by kernel_rfl : tarr Try.prog 89 = none) (by kernel_rfl : tstruct Try.prog 89 = some [(0, 0)]) (by kernel_rfl : (List.range 1).map (tfield Try.prog 89) = [some (0, 87)])
def ty90 : TI := ⟨1, false, 8, [(C.d (D.v (.nilFunc)))], [.other], .other⟩
theorem ty90_ok : TFact Try.prog 90 ty90 := TFact.other (by kernel_rfl : tsz Try.prog 90 = some 1) (by kernel_rfl : tagg Try.prog 90 = some false) (by kernel_rfl : tbytes Try.prog 90 = some 8) (by kernel_rfl : tzero Try.prog 90 = some [(C.d (D.v (.nilFunc)))]) (by kernel_rfl : (Try.prog.underlying 90).isSome = true)
def ty91 : TI := ⟨1, false, 1, [(C.d (D.v (.int .u8 0)))], [(.int .u8)], (.int .u8)⟩
theorem ty91_ok : TFact Try.prog 91 ty91 := TFact.int (by kernel_rfl : tsz Try.prog 91 = some 1) (by kernel_rfl : tagg Try.prog 91 = some false) (by kernel_rfl : tbytes Try.prog 91 = some 1) (by kernel_rfl : tzero Try.prog 91 = some [(C.d (D.v (.int .u8 0)))]) (by kernel_rfl : (Try.prog.underlying 91).isSome = true) (by kernel_rfl : tint Try.prog 91 = some .u8) (by kernel_rfl : telem Try.prog 91 = none) (by kernel_rfl : tarr Try.prog 91 = none)
def ty92 : TI := ⟨1, false, 1, [(C.d (D.v (.int .u8 0)))], [(.int .u8)], (.int .u8)⟩
theorem ty92_ok : TFact Try.prog 92 ty92 := TFact.int (by kernel_rfl : tsz Try.prog 92 = some 1) (by kernel_rfl : tagg Try.prog 92 = some false) (by kernel_rfl : tbytes Try.prog 92 = some 1) (by kernel_rfl : tzero Try.prog 92 = some [(C.d (D.v (.int .u8 0)))]) (by kernel_rfl : (Try.prog.underlying 92).isSome = true) (by kernel_rfl : tint Try.prog 92 = some .u8) (by kernel_rfl : telem Try.prog 92 = none) (by kernel_rfl : tarr Try.prog 92 = none)
def ty93 : TI := ⟨1, false, 8, [(C.d (D.v (.nilFunc)))], [.other], .other⟩
theorem ty93_ok : TFact Try.prog 93 ty93 := TFact.other (by kernel_rfl : tsz Try.prog 93 = some 1) (by kernel_rfl : tagg Try.prog 93 = some false) (by kernel_rfl : tbytes Try.prog 93 = some 8) (by kernel_rfl : tzero Try.prog 93 = some [(C.d (D.v (.nilFunc)))]) (by kernel_rfl : (Try.prog.underlying 93).isSome = true)
def ty94 : TI := ⟨1, false, 8, [(C.d (D.v (.pointer none)))], [.other], .other⟩
theorem ty94_ok : TFact Try.prog 94 ty94 := TFact.other (by kernel_rfl : tsz Try.prog 94 = some 1) (by kernel_rfl : tagg Try.prog 94 = some false) (by kernel_rfl : tbytes Try.prog 94 = some 8) (by kernel_rfl : tzero Try.prog 94 = some [(C.d (D.v (.pointer none)))]) (by kernel_rfl : (Try.prog.underlying 94).isSome = true)
def ty95 : TI := ⟨1, false, 4, [(C.d (D.v (.int .i32 0)))], [(.int .i32)], (.int .i32)⟩
theorem ty95_ok : TFact Try.prog 95 ty95 := TFact.int (by kernel_rfl : tsz Try.prog 95 = some 1) (by kernel_rfl : tagg Try.prog 95 = some false) (by kernel_rfl : tbytes Try.prog 95 = some 4) (by kernel_rfl : tzero Try.prog 95 = some [(C.d (D.v (.int .i32 0)))]) (by kernel_rfl : (Try.prog.underlying 95).isSome = true) (by kernel_rfl : tint Try.prog 95 = some .i32) (by kernel_rfl : telem Try.prog 95 = none) (by kernel_rfl : tarr Try.prog 95 = none)
def ty96 : TI := ⟨1, false, 4, [(C.d (D.v (.int .i32 0)))], [(.int .i32)], (.int .i32)⟩
theorem ty96_ok : TFact Try.prog 96 ty96 := TFact.int (by kernel_rfl : tsz Try.prog 96 = some 1) (by kernel_rfl : tagg Try.prog 96 = some false) (by kernel_rfl : tbytes Try.prog 96 = some 4) (by kernel_rfl : tzero Try.prog 96 = some [(C.d (D.v (.int .i32 0)))]) (by kernel_rfl : (Try.prog.underlying 96).isSome = true) (by kernel_rfl : tint Try.prog 96 = some .i32) (by kernel_rfl : telem Try.prog 96 = none) (by kernel_rfl : tarr Try.prog 96 = none)
def ty97 : TI := ⟨11, true, 48, [(C.d (D.v (.int .u64 0))), (C.d (D.v (.int .u64 0))), (C.d (D.v (.int .u32 0))), (C.d (D.v (.int .u8 0))), (C.d (D.v (.int .u8 0))), (C.d (D.v (.int .u8 0))), (C.d (D.v (.int .u8 0))), (C.d (D.v (.nilFunc))), (C.d (D.v (.pointer none))), (C.d (D.v (.int .i32 0))), (C.d (D.v (.int .i32 0)))], [(.int .u64), (.int .u64), (.int .u32), (.int .u8), (.int .u8), (.int .u8), (.int .u8), .other, .other, (.int .i32), (.int .i32)], (.struct [(0, 12, 1), (1, 12, 1), (2, 81, 1), (3, 91, 1), (4, 5, 1), (5, 5, 1), (6, 92, 1), (7, 93, 1), (8, 94, 1), (9, 95, 1), (10, 96, 1)])⟩
theorem ty97_ok : TFact Try.prog 97 ty97 := TFact.struct (by kernel_rfl : tsz Try.prog 97 = some 11) (by kernel_rfl : tagg Try.prog 97 = some true) (by kernel_rfl : tbytes Try.prog 97 = some 48) (by kernel_rfl : tzero Try.prog 97 = some [(C.d (D.v (.int .u64 0))), (C.d (D.v (.int .u64 0))), (C.d (D.v (.int .u32 0))), (C.d (D.v (.int .u8 0))), (C.d (D.v (.int .u8 0))), (C.d (D.v (.int .u8 0))), (C.d (D.v (.int .u8 0))), (C.d (D.v (.nilFunc))), (C.d (D.v (.pointer none))), (C.d (D.v (.int .i32 0))), (C.d (D.v (.int .i32 0)))]) (by kernel_rfl : (Try.prog.underlying 97).isSome = true) (by kernel_rfl : telem Try.prog 97 = none) (by kernel_rfl : tarr Try.prog 97 = none) (by kernel_rfl : tstruct Try.prog 97 = some [(0, 1), (1, 1), (2, 1), (3, 1), (4, 1), (5, 1), (6, 1), (7, 1), (8, 1), (9, 1), (10, 1)]) (by kernel_rfl : (List.range 11).map (tfield Try.prog 97) = [some (0, 12), some (1, 12), some (2, 81), some (3, 91), some (4, 5), some (5, 5), some (6, 92), some (7, 93), some (8, 94), some (9, 95), some (10, 96)])
def ty98 : TI := ⟨11, true, 48, [(C.d (D.v (.int .u64 0))), (C.d (D.v (.int .u64 0))), (C.d (D.v (.int .u32 0))), (C.d (D.v (.int .u8 0))), (C.d (D.v (.int .u8 0))), (C.d (D.v (.int .u8 0))), (C.d (D.v (.int .u8 0))), (C.d (D.v (.nilFunc))), (C.d (D.v (.pointer none))), (C.d (D.v (.int .i32 0))), (C.d (D.v (.int .i32 0)))], [(.int .u64), (.int .u64), (.int .u32), (.int .u8), (.int .u8), (.int .u8), (.int .u8), .other, .other, (.int .i32), (.int .i32)], (.struct [(0, 12, 1), (1, 12, 1), (2, 81, 1), (3, 91, 1), (4, 5, 1), (5, 5, 1), (6, 92, 1), (7, 93, 1), (8, 94, 1), (9, 95, 1), (10, 96, 1)])⟩
theorem ty98_ok : TFact Try.prog 98 ty98 := TFact.struct (by kernel_rfl : tsz Try.prog 98 = some 11) (by kernel_rfl : tagg Try.prog 98 = some true) (by kernel_rfl : tbytes Try.prog 98 = some 48) (by kernel_rfl : tzero Try.prog 98 = some [(C.d (D.v (.int .u64 0))), (C.d (D.v (.int .u64 0))), (C.d (D.v (.int .u32 0))), (C.d (D.v (.int .u8 0))), (C.d (D.v (.int .u8 0))), (C.d (D.v (.int .u8 0))), (C.d (D.v (.int .u8 0))), (C.d (D.v (.nilFunc))), (C.d (D.v (.pointer none))), (C.d (D.v (.int .i32 0))), (C.d (D.v (.int .i32 0)))]) (by kernel_rfl : (Try.prog.underlying 98).isSome = true) (by kernel_rfl : telem Try.prog 98 = none) (by kernel_rfl : tarr Try.prog 98 = none) (by kernel_rfl : tstruct Try.prog 98 = some [(0, 1), (1, 1), (2, 1), (3, 1), (4, 1), (5, 1), (6, 1), (7, 1), (8, 1), (9, 1), (10, 1)]) (by kernel_rfl : (List.range 11).map (tfield Try.prog 98) = [some (0, 12), some (1, 12), some (2, 81), some (3, 91), some (4, 5), some (5, 5), some (6, 92), some (7, 93), some (8, 94), some (9, 95), some (10, 96)])
def ty99 : TI := ⟨1, false, 8, [(C.d (D.v (.pointer none)))], [.other], .other⟩
theorem ty99_ok : TFact Try.prog 99 ty99 := TFact.other (by kernel_rfl : tsz Try.prog 99 = some 1) (by kernel_rfl : tagg Try.prog 99 = some false) (by kernel_rfl : tbytes Try.prog 99 = some 8) (by kernel_rfl : tzero Try.prog 99 = some [(C.d (D.v (.pointer none)))]) (by kernel_rfl : (Try.prog.underlying 99).isSome = true)
def tyL : List (Option TI) := [none, some ty1, some ty2, some ty3, some ty4, some ty5, some ty6, some ty7, some ty8, some ty9, some ty10, some ty11, some ty12, some ty13, some ty14, some ty15, some ty16, some ty17, some ty18, some ty19, some ty20, some ty21, some ty22, some ty23, some ty24, some ty25, none, some ty27, some ty28, some ty29, some ty30, some ty31, some ty32, some ty33, none, some ty35, none, some ty37, some ty38, some ty39, some ty40, some ty41, some ty42, some ty43, some ty44, some ty45, some ty46, some ty47, some ty48, some ty49, some ty50, some ty51, none, some ty53, some ty54, some ty55, none, some ty57, some ty58, none, some ty60, some ty61, some ty62, some ty63, some ty64, some ty65, some ty66, some ty67, some ty68, some ty69, some ty70, some ty71, some ty72, some ty73, some ty74, some ty75, some ty76, some ty77, some ty78, some ty79, some ty80, some ty81, none, some ty83, some ty84, some ty85, some ty86, some ty87, some ty88, some ty89, some ty90, some ty91, some ty92, some ty93, some ty94, some ty95, some ty96, some ty97, some ty98, some ty99]
def TT0 : TT := ttab tyL
theorem TT0_ok : TOk Try.prog TT0 := TOk.tab (show TAll Try.prog 0 tyL from ⟨ty1_ok, ty2_ok, ty3_ok, ty4_ok, ty5_ok, ty6_ok, ty7_ok, ty8_ok, ty9_ok, ty10_ok, ty11_ok, ty12_ok, ty13_ok, ty14_ok, ty15_ok, ty16_ok, ty17_ok, ty18_ok, ty19_ok, ty20_ok, ty21_ok, ty22_ok, ty23_ok, ty24_ok, ty25_ok, ty27_ok, ty28_ok, ty29_ok, ty30_ok, ty31_ok, ty32_ok, ty33_ok, ty35_ok, ty37_ok, ty38_ok, ty39_ok, ty40_ok, ty41_ok, ty42_ok, ty43_ok, ty44_ok, ty45_ok, ty46_ok, ty47_ok, ty48_ok, ty49_ok, ty50_ok, ty51_ok, ty53_ok, ty54_ok, ty55_ok, ty57_ok, ty58_ok, ty60_ok, ty61_ok, ty62_ok, ty63_ok, ty64_ok, ty65_ok, ty66_ok, ty67_ok, ty68_ok, ty69_ok, ty70_ok, ty71_ok, ty72_ok, ty73_ok, ty74_ok, ty75_ok, ty76_ok, ty77_ok, ty78_ok, ty79_ok, ty80_ok, ty81_ok, ty83_ok, ty84_ok, ty85_ok, ty86_ok, ty87_ok, ty88_ok, ty89_ok, ty90_ok, ty91_ok, ty92_ok, ty93_ok, ty94_ok, ty95_ok, ty96_ok, ty97_ok, ty98_ok, ty99_ok, trivial⟩)
@[reducible] def t_abi_BoundsErrorCode : TypeId := 6
@[reducible] def i_abi_BoundsErrorCode : TI := ty6
@[reducible] def t_runtime_boundsError : TypeId := 8
@[reducible] def i_runtime_boundsError : TI := ty8
@[reducible] def t_runtime_errorString : TypeId := 10
@[reducible] def i_runtime_errorString : TI := ty10
@[reducible] def t_runtime_plainError : TypeId := 11
@[reducible] def i_runtime_plainError : TI := ty11
@[reducible] def t_runtime_errorAddressString : TypeId := 14
@[reducible] def i_runtime_errorAddressString : TI := ty14
@[reducible] def t_maps_unhashableTypeError : TypeId := 19
@[reducible] def i_maps_unhashableTypeError : TI := ty19
@[reducible] def t_Errno : TypeId := 25
@[reducible] def i_Errno : TI := ty25
@[reducible] def t_runtime_TypeAssertionError : TypeId := 86
@[reducible] def i_runtime_TypeAssertionError : TI := ty86
@[reducible] def t_runtime_PanicNilError : TypeId := 89
@[reducible] def i_runtime_PanicNilError : TI := ty89
@[reducible] def t_abi_TFlag : TypeId := 91
@[reducible] def i_abi_TFlag : TI := ty91
@[reducible] def t_abi_Kind : TypeId := 92
@[reducible] def i_abi_Kind : TI := ty92
@[reducible] def t_abi_NameOff : TypeId := 95
@[reducible] def i_abi_NameOff : TI := ty95
@[reducible] def t_abi_TypeOff : TypeId := 96
@[reducible] def i_abi_TypeOff : TI := ty96
@[reducible] def t_abi_Type : TypeId := 98
@[reducible] def i_abi_Type : TI := ty98
@[reducible] def t_int : TypeId := 3
@[reducible] def t_int64 : TypeId := 2
@[reducible] def t_bool : TypeId := 4
@[reducible] def t_string : TypeId := 9
@[reducible] def i_main_main : FuncId := 0
@[reducible] def i_gosem_cut : FuncId := 1
@[reducible] def i_gosem_cut_init : FuncId := 2
@[reducible] def i_law08_TablesPivots : FuncId := 3
@[reducible] def i_law08_TablesSplits : FuncId := 4
@[reducible] def i_law08_TablesParts : FuncId := 5
@[reducible] def i_law08_TablesChecks : FuncId := 6
@[reducible] def i_law08_TablesBack : FuncId := 7
@[reducible] def i_law08_TablesJoins : FuncId := 8
@[reducible] def i_law08_TablesDrops : FuncId := 9
@[reducible] def i_law08_TablesSorts : FuncId := 10
@[reducible] def i_law08_small : FuncId := 11
@[reducible] def i_law08_awake : FuncId := 12
@[reducible] def i_tables_Unpivot : FuncId := 13
@[reducible] def i_ref08_Unpivot : FuncId := 14
@[reducible] def i_tables_Pivot : FuncId := 15
@[reducible] def i_ref08_Pivot : FuncId := 16
@[reducible] def i_ref08_Same : FuncId := 17
@[reducible] def i_tables_Split : FuncId := 18
@[reducible] def i_ref08_Split : FuncId := 19
@[reducible] def i_tables_Row : FuncId := 20
@[reducible] def i_ref08_Row : FuncId := 21
@[reducible] def i_tables_Column : FuncId := 22
@[reducible] def i_ref08_Column : FuncId := 23
@[reducible] def i_tables_Cell : FuncId := 24
@[reducible] def i_ref08_Cell : FuncId := 25
@[reducible] def i_ref08_Texts : FuncId := 26
@[reducible] def i_tables_Check : FuncId := 27
@[reducible] def i_ref08_Check : FuncId := 28
@[reducible] def i_tables_Transpose : FuncId := 29
@[reducible] def i_ref08_Transpose : FuncId := 30
@[reducible] def i_tables_Fill : FuncId := 31
@[reducible] def i_ref08_Fill : FuncId := 32
@[reducible] def i_law08_distinct : FuncId := 33
@[reducible] def i_tables_Stack : FuncId := 34
@[reducible] def i_ref08_Stack : FuncId := 35
@[reducible] def i_tables_Beside : FuncId := 36
@[reducible] def i_ref08_Beside : FuncId := 37
@[reducible] def i_tables_DropRow : FuncId := 38
@[reducible] def i_ref08_DropRow : FuncId := 39
@[reducible] def i_tables_DropColumn : FuncId := 40
@[reducible] def i_ref08_DropColumn : FuncId := 41
@[reducible] def i_tables_Sort : FuncId := 42
@[reducible] def i_ref08_Sort : FuncId := 43
@[reducible] def i_law08_count : FuncId := 44
@[reducible] def i_tables_columns : FuncId := 45
@[reducible] def i_slices_Clone_string_string : FuncId := 46
@[reducible] def i_ref08_Columns : FuncId := 47
@[reducible] def i_ref08_list : FuncId := 48
@[reducible] def i_tables_entry : FuncId := 49
@[reducible] def i_ref08_distinct : FuncId := 50
@[reducible] def i_ref08_column : FuncId := 51
@[reducible] def i_ref08_value : FuncId := 52
@[reducible] def i_tables_place : FuncId := 53
@[reducible] def i_tables_clone : FuncId := 54
@[reducible] def i_strings_Cut : FuncId := 55
@[reducible] def i_slices_Replace_string_string : FuncId := 56
@[reducible] def i_ref08_index : FuncId := 57
@[reducible] def i_ref08_cut : FuncId := 58
@[reducible] def i_ref08_table : FuncId := 59
@[reducible] def i_tables_checkAll : FuncId := 60
@[reducible] def i_ref08_both : FuncId := 61
@[reducible] def i_slices_Delete_string_string : FuncId := 62
@[reducible] def i_ref08_without : FuncId := 63
@[reducible] def i_slices_Delete_string_string_64 : FuncId := 64
@[reducible] def i_slices_SortStableFunc_string_string : FuncId := 65
@[reducible] def i_tables_Sort_1 : FuncId := 66
@[reducible] def i_strings_Compare : FuncId := 67
@[reducible] def i_slices_Index_string_string : FuncId := 68
@[reducible] def i_ref08_place : FuncId := 69
@[reducible] def i_internal_stringslite_Cut : FuncId := 70
@[reducible] def i_slices_Insert_string_string : FuncId := 71
@[reducible] def i_slices_overlaps_string : FuncId := 72
@[reducible] def i_slices_rotateRight_string : FuncId := 73
@[reducible] def i_slices_startIdx_string : FuncId := 74
@[reducible] def i_slices_stableCmpFunc_string : FuncId := 75
@[reducible] def i_internal_bytealg_CompareString : FuncId := 76
@[reducible] def i_internal_stringslite_Index : FuncId := 77
@[reducible] def i_slices_rotateLeft_string : FuncId := 78
@[reducible] def i_slices_insertionSortCmpFunc_string : FuncId := 79
@[reducible] def i_slices_symMergeCmpFunc_string : FuncId := 80
@[reducible] def i_internal_bytealg_abigen_runtime_cmpstring : FuncId := 81
@[reducible] def i_internal_stringslite_IndexByte : FuncId := 82
@[reducible] def i_internal_bytealg_IndexString : FuncId := 83
@[reducible] def i_internal_bytealg_Cutover : FuncId := 84
@[reducible] def i_internal_bytealg_IndexRabinKarp_string : FuncId := 85
@[reducible] def i_slices_Reverse_string_string : FuncId := 86
@[reducible] def i_slices_rotateCmpFunc_string : FuncId := 87
@[reducible] def i_internal_bytealg_IndexByteString : FuncId := 88
@[reducible] def i_internal_bytealg_hashStr_string : FuncId := 89
@[reducible] def i_slices_swapRangeCmpFunc_string : FuncId := 90
/-- How the operations of a function are run that turns blocks under counted names. -/
def selOf (T : TT) (cs : List (FuncId × Sel)) (bh : List TypeId) (dl st sx : List Nat) (o : Op) : Sel :=
  match o with
  | .alloc e => (match T e with | some i => (match i.agg with | true => .st | false => .hp) | none => .st)
  | .box e _ => (match T e with | some i => (match i.agg with | true => .st | false => .hp) | none => .st)
  | .load t y => (match T t with | some i => (match i.agg with
      | true => .st
      | false => (match y with | .tmp n => (match dl.contains n with | true => .dld | false => (match st.contains n with | true => .st | false => .hp)) | _ => .hp)) | none => .st)
  | .store t y _ => (match T t with | some i => (match i.agg with
      | true => .st
      | false => (match y with | .tmp n => (match st.contains n with | true => .st | false => .hp) | _ => .hp)) | none => .st)
  | .makeSlice .. => .hp
  | .buildSlice t _ _ => (match bh.contains t with | true => .hp | false => .st)
  | .slice t _ lo _ _ => (match T t with | some i => (match i.kind with | .slice _ => (match lo with | some (.tmp n) => (match sx.contains n with | true => .sx | false => .hp) | _ => .hp) | _ => .st) | none => .st)
  | .indexAddr t .. => (match T t with | some i => (match i.kind with | .slice _ => .hp | _ => .st) | none => .st)
  | .nilCheck _ => .hp
  | .makeFunc _ _ c => (match c.toList with | [] => .st | _ => .hp)
  | .binOp _ t _ _ _ => (match T t with | some i => (match i.kind with | .slice _ => .nl | _ => .st) | none => .st)
  | .call c => (match c.callee with
    | .builtin b => (match b with
      | .len => (match c.argTypes.toList with | t :: _ => (match T t with | some i => (match i.kind with | .slice _ => .hp | _ => .st) | none => .st) | [] => .st)
      | .append => .hp
      | .copy => .hp
      | .clear => .hp
      | .cap => .hp
      | _ => .st)
    | .value f => (match f with | .func g => (match cs.lookup g with | some x => x | none => .st) | _ => .cH)
    | _ => .st)
  | _ => .st
def sel_tables_Unpivot : Op → Sel := selOf TT0 [(46, .cH)] [22] [61, 64, 68] [] []
def sel_ref08_Unpivot : Op → Sel := selOf TT0 [(48, .cH)] [22] [45, 51, 54, 58, 61] [] []
def sel_tables_Pivot : Op → Sel := selOf TT0 [(49, .cH)] [22] [37, 41] [] []
def sel_tables_Split : Op → Sel := selOf TT0 [(54, .cH), (56, .cH)] [] [] [] []
def sel_ref08_Split : Op → Sel := selOf TT0 [(48, .cH)] [22] [51, 62] [] []
def sel_tables_Transpose : Op → Sel := selOf TT0 [] [] [] [] []
def sel_ref08_Transpose : Op → Sel := selOf TT0 [(28, .cS), (47, .cS), (51, .cH)] [22] [] [] []
def sel_tables_Fill : Op → Sel := selOf TT0 [(54, .cH)] [] [] [] []
def sel_ref08_Fill : Op → Sel := selOf TT0 [(59, .cH)] [] [] [] []
def sel_tables_Stack : Op → Sel := selOf TT0 [(54, .cH)] [] [] [] []
def sel_ref08_Stack : Op → Sel := selOf TT0 [(59, .cH)] [] [] [] []
def sel_tables_Beside : Op → Sel := selOf TT0 [(54, .cH)] [] [42] [] []
def sel_ref08_Beside : Op → Sel := selOf TT0 [(30, .cH)] [] [] [] []
def sel_tables_DropRow : Op → Sel := selOf TT0 [(54, .cH), (62, .cH)] [] [] [] []
def sel_tables_DropColumn : Op → Sel := selOf TT0 [(54, .cH), (64, .cH)] [] [] [] []
def sel_tables_Sort : Op → Sel := selOf TT0 [(54, .cH), (65, .cH)] [] [] [] []
def sel_ref08_Sort : Op → Sel := selOf TT0 [(59, .cH)] [] [] [] []
def sel_slices_Clone_string_string : Op → Sel := selOf TT0 [] [] [] [] []
def sel_ref08_list : Op → Sel := selOf TT0 [] [] [] [] []
def sel_tables_entry : Op → Sel := selOf TT0 [(68, .cS)] [] [] [] []
def sel_ref08_column : Op → Sel := selOf TT0 [] [] [] [] []
def sel_tables_clone : Op → Sel := selOf TT0 [] [] [] [] []
def sel_slices_Replace_string_string : Op → Sel := selOf TT0 [(71, .no), (72, .no), (73, .no), (74, .no)] [] [] [] []
def sel_ref08_table : Op → Sel := selOf TT0 [(48, .cH)] [22] [] [] []
def sel_slices_Delete_string_string : Op → Sel := selOf TT0 [] [] [] [] [29]
def sel_ref08_without : Op → Sel := selOf TT0 [(59, .cH)] [] [] [] []
def sel_slices_Delete_string_string_64 : Op → Sel := selOf TT0 [] [] [] [] [29]
def sel_slices_SortStableFunc_string_string : Op → Sel := selOf TT0 [(75, .cH)] [] [] [] []
def sel_tables_Sort_1 : Op → Sel := selOf TT0 [] [] [] [] []
def sel_slices_stableCmpFunc_string : Op → Sel := selOf TT0 [(79, .cH), (80, .no)] [] [] [] []
def sel_slices_insertionSortCmpFunc_string : Op → Sel := selOf TT0 [] [] [] [] []
theorem mixed0 : Try.prog.follows .mixedOrders = true := by kernel_rfl
end Go.Av
