/- Facts on the types of this seat, each by the kernel. -/
import Derived.Test.YtefokklbhephpaaAvE
import Derived.Test.YtefokklbhephpaaProg
import Derived.KernelRfl
set_option linter.all false
set_option linter.unusedVariables false
set_option linter.unusedSimpArgs false

section
namespace Go.Av
open Go.Proofs
theorem tyS1 : tySize Try.prog 1 = 1 := by kernel_rfl
theorem tyA1 : tyAgg Try.prog 1 = some false := by kernel_rfl
theorem tyS2 : tySize Try.prog 2 = 1 := by kernel_rfl
theorem tyA2 : tyAgg Try.prog 2 = some false := by kernel_rfl
theorem tyI2 : tyInt Try.prog 2 = some .i64 := by kernel_rfl
theorem tyY2 : tyBytes Try.prog 2 = 8 := by kernel_rfl
theorem tyZ2 : tyZero Try.prog 2 = some [.d (.i .i64 0)] := by kernel_rfl
theorem tyW2 : tyZeroT Try.prog 2 = some [.i .i64 0] := by kernel_rfl
theorem tyS3 : tySize Try.prog 3 = 1 := by kernel_rfl
theorem tyA3 : tyAgg Try.prog 3 = some false := by kernel_rfl
theorem tyI3 : tyInt Try.prog 3 = some .i64 := by kernel_rfl
theorem tyY3 : tyBytes Try.prog 3 = 8 := by kernel_rfl
theorem tyZ3 : tyZero Try.prog 3 = some [.d (.i .i64 0)] := by kernel_rfl
theorem tyW3 : tyZeroT Try.prog 3 = some [.i .i64 0] := by kernel_rfl
theorem tyS4 : tySize Try.prog 4 = 1 := by kernel_rfl
theorem tyA4 : tyAgg Try.prog 4 = some false := by kernel_rfl
theorem tyB4 : tyBool Try.prog 4 = true := by kernel_rfl
theorem tyY4 : tyBytes Try.prog 4 = 1 := by kernel_rfl
theorem tyZ4 : tyZero Try.prog 4 = some [.d (.b false)] := by kernel_rfl
theorem tyW4 : tyZeroT Try.prog 4 = some [.b false] := by kernel_rfl
theorem tyS5 : tySize Try.prog 5 = 1 := by kernel_rfl
theorem tyA5 : tyAgg Try.prog 5 = some false := by kernel_rfl
theorem tyI5 : tyInt Try.prog 5 = some .u8 := by kernel_rfl
theorem tyY5 : tyBytes Try.prog 5 = 1 := by kernel_rfl
theorem tyZ5 : tyZero Try.prog 5 = some [.d (.i .u8 0)] := by kernel_rfl
theorem tyW5 : tyZeroT Try.prog 5 = some [.i .u8 0] := by kernel_rfl
theorem tyS6 : tySize Try.prog 6 = 1 := by kernel_rfl
theorem tyA6 : tyAgg Try.prog 6 = some false := by kernel_rfl
theorem tyI6 : tyInt Try.prog 6 = some .u8 := by kernel_rfl
theorem tyY6 : tyBytes Try.prog 6 = 1 := by kernel_rfl
theorem tyZ6 : tyZero Try.prog 6 = some [.d (.i .u8 0)] := by kernel_rfl
theorem tyW6 : tyZeroT Try.prog 6 = some [.i .u8 0] := by kernel_rfl
theorem tyS7 : tySize Try.prog 7 = 4 := by kernel_rfl
theorem tyA7 : tyAgg Try.prog 7 = some true := by kernel_rfl
theorem tyY7 : tyBytes Try.prog 7 = 24 := by kernel_rfl
theorem tyZ7 : tyZero Try.prog 7 = some [.d (.i .i64 0), .d (.i .i64 0), .d (.b false), .d (.i .u8 0)] := by kernel_rfl
theorem tyW7 : tyZeroT Try.prog 7 = some [.i .i64 0, .i .i64 0, .b false, .i .u8 0] := by kernel_rfl
theorem tyO7_0 : tyOff Try.prog 7 0 = some 0 := by kernel_rfl
theorem tyO7_1 : tyOff Try.prog 7 1 = some 1 := by kernel_rfl
theorem tyO7_2 : tyOff Try.prog 7 2 = some 2 := by kernel_rfl
theorem tyO7_3 : tyOff Try.prog 7 3 = some 3 := by kernel_rfl
theorem tyF7 : tyFlds Try.prog 7 = some [(0, 1), (1, 1), (2, 1), (3, 1)] := by kernel_rfl
theorem tyS8 : tySize Try.prog 8 = 4 := by kernel_rfl
theorem tyA8 : tyAgg Try.prog 8 = some true := by kernel_rfl
theorem tyY8 : tyBytes Try.prog 8 = 24 := by kernel_rfl
theorem tyZ8 : tyZero Try.prog 8 = some [.d (.i .i64 0), .d (.i .i64 0), .d (.b false), .d (.i .u8 0)] := by kernel_rfl
theorem tyW8 : tyZeroT Try.prog 8 = some [.i .i64 0, .i .i64 0, .b false, .i .u8 0] := by kernel_rfl
theorem tyO8_0 : tyOff Try.prog 8 0 = some 0 := by kernel_rfl
theorem tyO8_1 : tyOff Try.prog 8 1 = some 1 := by kernel_rfl
theorem tyO8_2 : tyOff Try.prog 8 2 = some 2 := by kernel_rfl
theorem tyO8_3 : tyOff Try.prog 8 3 = some 3 := by kernel_rfl
theorem tyF8 : tyFlds Try.prog 8 = some [(0, 1), (1, 1), (2, 1), (3, 1)] := by kernel_rfl
theorem tyS9 : tySize Try.prog 9 = 1 := by kernel_rfl
theorem tyA9 : tyAgg Try.prog 9 = some false := by kernel_rfl
theorem tyT9 : tyStr Try.prog 9 = true := by kernel_rfl
theorem tyY9 : tyBytes Try.prog 9 = 16 := by kernel_rfl
theorem tyZ9 : tyZero Try.prog 9 = some [.d (.s ⟨#[]⟩)] := by kernel_rfl
theorem tyW9 : tyZeroT Try.prog 9 = some [.s ⟨#[]⟩] := by kernel_rfl
theorem tyS10 : tySize Try.prog 10 = 1 := by kernel_rfl
theorem tyA10 : tyAgg Try.prog 10 = some false := by kernel_rfl
theorem tyT10 : tyStr Try.prog 10 = true := by kernel_rfl
theorem tyY10 : tyBytes Try.prog 10 = 16 := by kernel_rfl
theorem tyZ10 : tyZero Try.prog 10 = some [.d (.s ⟨#[]⟩)] := by kernel_rfl
theorem tyW10 : tyZeroT Try.prog 10 = some [.s ⟨#[]⟩] := by kernel_rfl
theorem tyS11 : tySize Try.prog 11 = 1 := by kernel_rfl
theorem tyA11 : tyAgg Try.prog 11 = some false := by kernel_rfl
theorem tyT11 : tyStr Try.prog 11 = true := by kernel_rfl
theorem tyY11 : tyBytes Try.prog 11 = 16 := by kernel_rfl
theorem tyZ11 : tyZero Try.prog 11 = some [.d (.s ⟨#[]⟩)] := by kernel_rfl
theorem tyW11 : tyZeroT Try.prog 11 = some [.s ⟨#[]⟩] := by kernel_rfl
theorem tyS12 : tySize Try.prog 12 = 1 := by kernel_rfl
theorem tyA12 : tyAgg Try.prog 12 = some false := by kernel_rfl
theorem tyI12 : tyInt Try.prog 12 = some .u64 := by kernel_rfl
theorem tyY12 : tyBytes Try.prog 12 = 8 := by kernel_rfl
theorem tyZ12 : tyZero Try.prog 12 = some [.d (.i .u64 0)] := by kernel_rfl
theorem tyW12 : tyZeroT Try.prog 12 = some [.i .u64 0] := by kernel_rfl
theorem tyS13 : tySize Try.prog 13 = 2 := by kernel_rfl
theorem tyA13 : tyAgg Try.prog 13 = some true := by kernel_rfl
theorem tyY13 : tyBytes Try.prog 13 = 24 := by kernel_rfl
theorem tyZ13 : tyZero Try.prog 13 = some [.d (.s ⟨#[]⟩), .d (.i .u64 0)] := by kernel_rfl
theorem tyW13 : tyZeroT Try.prog 13 = some [.s ⟨#[]⟩, .i .u64 0] := by kernel_rfl
theorem tyO13_0 : tyOff Try.prog 13 0 = some 0 := by kernel_rfl
theorem tyO13_1 : tyOff Try.prog 13 1 = some 1 := by kernel_rfl
theorem tyF13 : tyFlds Try.prog 13 = some [(0, 1), (1, 1)] := by kernel_rfl
theorem tyS14 : tySize Try.prog 14 = 2 := by kernel_rfl
theorem tyA14 : tyAgg Try.prog 14 = some true := by kernel_rfl
theorem tyY14 : tyBytes Try.prog 14 = 24 := by kernel_rfl
theorem tyZ14 : tyZero Try.prog 14 = some [.d (.s ⟨#[]⟩), .d (.i .u64 0)] := by kernel_rfl
theorem tyW14 : tyZeroT Try.prog 14 = some [.s ⟨#[]⟩, .i .u64 0] := by kernel_rfl
theorem tyO14_0 : tyOff Try.prog 14 0 = some 0 := by kernel_rfl
theorem tyO14_1 : tyOff Try.prog 14 1 = some 1 := by kernel_rfl
theorem tyF14 : tyFlds Try.prog 14 = some [(0, 1), (1, 1)] := by kernel_rfl
theorem tyS15 : tySize Try.prog 15 = 1 := by kernel_rfl
theorem tyA15 : tyAgg Try.prog 15 = some false := by kernel_rfl
theorem tyZ15 : tyZero Try.prog 15 = some [.unk] := by kernel_rfl
theorem tyS16 : tySize Try.prog 16 = 1 := by kernel_rfl
theorem tyA16 : tyAgg Try.prog 16 = some false := by kernel_rfl
theorem tyZ16 : tyZero Try.prog 16 = some [.unk] := by kernel_rfl
theorem tyS17 : tySize Try.prog 17 = 1 := by kernel_rfl
theorem tyA17 : tyAgg Try.prog 17 = some false := by kernel_rfl
theorem tyZ17 : tyZero Try.prog 17 = some [.unk] := by kernel_rfl
theorem tyS18 : tySize Try.prog 18 = 1 := by kernel_rfl
theorem tyA18 : tyAgg Try.prog 18 = some true := by kernel_rfl
theorem tyY18 : tyBytes Try.prog 18 = 8 := by kernel_rfl
theorem tyZ18 : tyZero Try.prog 18 = some [.unk] := by kernel_rfl
theorem tyO18_0 : tyOff Try.prog 18 0 = some 0 := by kernel_rfl
theorem tyF18 : tyFlds Try.prog 18 = some [(0, 1)] := by kernel_rfl
theorem tyS19 : tySize Try.prog 19 = 1 := by kernel_rfl
theorem tyA19 : tyAgg Try.prog 19 = some true := by kernel_rfl
theorem tyY19 : tyBytes Try.prog 19 = 8 := by kernel_rfl
theorem tyZ19 : tyZero Try.prog 19 = some [.unk] := by kernel_rfl
theorem tyO19_0 : tyOff Try.prog 19 0 = some 0 := by kernel_rfl
theorem tyF19 : tyFlds Try.prog 19 = some [(0, 1)] := by kernel_rfl
theorem tyS21 : tySize Try.prog 21 = 1 := by kernel_rfl
theorem tyA21 : tyAgg Try.prog 21 = some false := by kernel_rfl
theorem tyI21 : tyInt Try.prog 21 = some .i32 := by kernel_rfl
theorem tyY21 : tyBytes Try.prog 21 = 4 := by kernel_rfl
theorem tyZ21 : tyZero Try.prog 21 = some [.d (.i .i32 0)] := by kernel_rfl
theorem tyW21 : tyZeroT Try.prog 21 = some [.i .i32 0] := by kernel_rfl
theorem tyS22 : tySize Try.prog 22 = 1 := by kernel_rfl
theorem tyA22 : tyAgg Try.prog 22 = some false := by kernel_rfl
theorem tyI22 : tyInt Try.prog 22 = some .u32 := by kernel_rfl
theorem tyY22 : tyBytes Try.prog 22 = 4 := by kernel_rfl
theorem tyZ22 : tyZero Try.prog 22 = some [.d (.i .u32 0)] := by kernel_rfl
theorem tyW22 : tyZeroT Try.prog 22 = some [.i .u32 0] := by kernel_rfl
theorem tyS23 : tySize Try.prog 23 = 1 := by kernel_rfl
theorem tyA23 : tyAgg Try.prog 23 = some false := by kernel_rfl
theorem tyS24 : tySize Try.prog 24 = 1 := by kernel_rfl
theorem tyA24 : tyAgg Try.prog 24 = some false := by kernel_rfl
theorem tyS25 : tySize Try.prog 25 = 3 := by kernel_rfl
theorem tyA25 : tyAgg Try.prog 25 = some true := by kernel_rfl
theorem tyY25 : tyBytes Try.prog 25 = 32 := by kernel_rfl
theorem tyZ25 : tyZero Try.prog 25 = some [.d (.i .i64 0), .d (.i .i64 0), .d (.s ⟨#[]⟩)] := by kernel_rfl
theorem tyW25 : tyZeroT Try.prog 25 = some [.i .i64 0, .i .i64 0, .s ⟨#[]⟩] := by kernel_rfl
theorem tyO25_0 : tyOff Try.prog 25 0 = some 0 := by kernel_rfl
theorem tyO25_1 : tyOff Try.prog 25 1 = some 1 := by kernel_rfl
theorem tyO25_2 : tyOff Try.prog 25 2 = some 2 := by kernel_rfl
theorem tyF25 : tyFlds Try.prog 25 = some [(0, 1), (1, 1), (2, 1)] := by kernel_rfl
theorem tyS26 : tySize Try.prog 26 = 3 := by kernel_rfl
theorem tyA26 : tyAgg Try.prog 26 = some true := by kernel_rfl
theorem tyY26 : tyBytes Try.prog 26 = 32 := by kernel_rfl
theorem tyZ26 : tyZero Try.prog 26 = some [.d (.i .i64 0), .d (.i .i64 0), .d (.s ⟨#[]⟩)] := by kernel_rfl
theorem tyW26 : tyZeroT Try.prog 26 = some [.i .i64 0, .i .i64 0, .s ⟨#[]⟩] := by kernel_rfl
theorem tyO26_0 : tyOff Try.prog 26 0 = some 0 := by kernel_rfl
theorem tyO26_1 : tyOff Try.prog 26 1 = some 1 := by kernel_rfl
theorem tyO26_2 : tyOff Try.prog 26 2 = some 2 := by kernel_rfl
theorem tyF26 : tyFlds Try.prog 26 = some [(0, 1), (1, 1), (2, 1)] := by kernel_rfl
theorem tyP26 : tyPlain Try.prog 26 = some [.i, .i, .s] := by kernel_rfl
theorem tyS27 : tySize Try.prog 27 = 1 := by kernel_rfl
theorem tyA27 : tyAgg Try.prog 27 = some false := by kernel_rfl
theorem tyE27 : tyElem Try.prog 27 = some 29 := by kernel_rfl
theorem tyI27 : tyInt Try.prog 27 = none := by kernel_rfl
theorem tyT27 : tyStr Try.prog 27 = false := by kernel_rfl
theorem tyY27 : tyBytes Try.prog 27 = 24 := by kernel_rfl
theorem tyZ27 : tyZero Try.prog 27 = some [.nl] := by kernel_rfl
theorem tyW27 : tyZeroT Try.prog 27 = some [.sl .any []] := by kernel_rfl
theorem tyS28 : tySize Try.prog 28 = 7 := by kernel_rfl
theorem tyA28 : tyAgg Try.prog 28 = some true := by kernel_rfl
theorem tyY28 : tyBytes Try.prog 28 = 88 := by kernel_rfl
theorem tyZ28 : tyZero Try.prog 28 = some [.d (.i .i64 0), .d (.i .i64 0), .d (.i .i64 0), .d (.i .i64 0), .d (.s ⟨#[]⟩), .d (.s ⟨#[]⟩), .nl] := by kernel_rfl
theorem tyW28 : tyZeroT Try.prog 28 = some [.i .i64 0, .i .i64 0, .i .i64 0, .i .i64 0, .s ⟨#[]⟩, .s ⟨#[]⟩, .sl .any []] := by kernel_rfl
theorem tyO28_0 : tyOff Try.prog 28 0 = some 0 := by kernel_rfl
theorem tyO28_1 : tyOff Try.prog 28 1 = some 1 := by kernel_rfl
theorem tyO28_2 : tyOff Try.prog 28 2 = some 2 := by kernel_rfl
theorem tyO28_3 : tyOff Try.prog 28 3 = some 5 := by kernel_rfl
theorem tyO28_4 : tyOff Try.prog 28 4 = some 6 := by kernel_rfl
theorem tyF28 : tyFlds Try.prog 28 = some [(0, 1), (1, 1), (2, 3), (5, 1), (6, 1)] := by kernel_rfl
theorem tyS29 : tySize Try.prog 29 = 7 := by kernel_rfl
theorem tyA29 : tyAgg Try.prog 29 = some true := by kernel_rfl
theorem tyY29 : tyBytes Try.prog 29 = 88 := by kernel_rfl
theorem tyZ29 : tyZero Try.prog 29 = some [.d (.i .i64 0), .d (.i .i64 0), .d (.i .i64 0), .d (.i .i64 0), .d (.s ⟨#[]⟩), .d (.s ⟨#[]⟩), .nl] := by kernel_rfl
theorem tyW29 : tyZeroT Try.prog 29 = some [.i .i64 0, .i .i64 0, .i .i64 0, .i .i64 0, .s ⟨#[]⟩, .s ⟨#[]⟩, .sl .any []] := by kernel_rfl
theorem tyO29_0 : tyOff Try.prog 29 0 = some 0 := by kernel_rfl
theorem tyO29_1 : tyOff Try.prog 29 1 = some 1 := by kernel_rfl
theorem tyO29_2 : tyOff Try.prog 29 2 = some 2 := by kernel_rfl
theorem tyO29_3 : tyOff Try.prog 29 3 = some 5 := by kernel_rfl
theorem tyO29_4 : tyOff Try.prog 29 4 = some 6 := by kernel_rfl
theorem tyF29 : tyFlds Try.prog 29 = some [(0, 1), (1, 1), (2, 3), (5, 1), (6, 1)] := by kernel_rfl
theorem tyS30 : tySize Try.prog 30 = 1 := by kernel_rfl
theorem tyA30 : tyAgg Try.prog 30 = some false := by kernel_rfl
theorem tyS31 : tySize Try.prog 31 = 1 := by kernel_rfl
theorem tyA31 : tyAgg Try.prog 31 = some false := by kernel_rfl
theorem tyS32 : tySize Try.prog 32 = 3 := by kernel_rfl
theorem tyA32 : tyAgg Try.prog 32 = some true := by kernel_rfl
theorem tyY32 : tyBytes Try.prog 32 = 32 := by kernel_rfl
theorem tyZ32 : tyZero Try.prog 32 = some [.d (.i .i64 0), .d (.i .i64 0), .d (.s ⟨#[]⟩)] := by kernel_rfl
theorem tyW32 : tyZeroT Try.prog 32 = some [.i .i64 0, .i .i64 0, .s ⟨#[]⟩] := by kernel_rfl
theorem tyO32_0 : tyOff Try.prog 32 0 = some 0 := by kernel_rfl
theorem tyO32_1 : tyOff Try.prog 32 1 = some 1 := by kernel_rfl
theorem tyO32_2 : tyOff Try.prog 32 2 = some 2 := by kernel_rfl
theorem tyF32 : tyFlds Try.prog 32 = some [(0, 1), (1, 1), (2, 1)] := by kernel_rfl
theorem tyP32 : tyPlain Try.prog 32 = some [.i, .i, .s] := by kernel_rfl
theorem tyS33 : tySize Try.prog 33 = 1 := by kernel_rfl
theorem tyA33 : tyAgg Try.prog 33 = some false := by kernel_rfl
theorem tyE33 : tyElem Try.prog 33 = some 35 := by kernel_rfl
theorem tyI33 : tyInt Try.prog 33 = none := by kernel_rfl
theorem tyT33 : tyStr Try.prog 33 = false := by kernel_rfl
theorem tyY33 : tyBytes Try.prog 33 = 24 := by kernel_rfl
theorem tyZ33 : tyZero Try.prog 33 = some [.nl] := by kernel_rfl
theorem tyW33 : tyZeroT Try.prog 33 = some [.sl .any []] := by kernel_rfl
theorem tyS34 : tySize Try.prog 34 = 7 := by kernel_rfl
theorem tyA34 : tyAgg Try.prog 34 = some true := by kernel_rfl
theorem tyY34 : tyBytes Try.prog 34 = 88 := by kernel_rfl
theorem tyZ34 : tyZero Try.prog 34 = some [.d (.i .i64 0), .d (.i .i64 0), .d (.i .i64 0), .d (.i .i64 0), .d (.s ⟨#[]⟩), .d (.s ⟨#[]⟩), .nl] := by kernel_rfl
theorem tyW34 : tyZeroT Try.prog 34 = some [.i .i64 0, .i .i64 0, .i .i64 0, .i .i64 0, .s ⟨#[]⟩, .s ⟨#[]⟩, .sl .any []] := by kernel_rfl
theorem tyO34_0 : tyOff Try.prog 34 0 = some 0 := by kernel_rfl
theorem tyO34_1 : tyOff Try.prog 34 1 = some 1 := by kernel_rfl
theorem tyO34_2 : tyOff Try.prog 34 2 = some 2 := by kernel_rfl
theorem tyO34_3 : tyOff Try.prog 34 3 = some 5 := by kernel_rfl
theorem tyO34_4 : tyOff Try.prog 34 4 = some 6 := by kernel_rfl
theorem tyF34 : tyFlds Try.prog 34 = some [(0, 1), (1, 1), (2, 3), (5, 1), (6, 1)] := by kernel_rfl
theorem tyS35 : tySize Try.prog 35 = 7 := by kernel_rfl
theorem tyA35 : tyAgg Try.prog 35 = some true := by kernel_rfl
theorem tyY35 : tyBytes Try.prog 35 = 88 := by kernel_rfl
theorem tyZ35 : tyZero Try.prog 35 = some [.d (.i .i64 0), .d (.i .i64 0), .d (.i .i64 0), .d (.i .i64 0), .d (.s ⟨#[]⟩), .d (.s ⟨#[]⟩), .nl] := by kernel_rfl
theorem tyW35 : tyZeroT Try.prog 35 = some [.i .i64 0, .i .i64 0, .i .i64 0, .i .i64 0, .s ⟨#[]⟩, .s ⟨#[]⟩, .sl .any []] := by kernel_rfl
theorem tyO35_0 : tyOff Try.prog 35 0 = some 0 := by kernel_rfl
theorem tyO35_1 : tyOff Try.prog 35 1 = some 1 := by kernel_rfl
theorem tyO35_2 : tyOff Try.prog 35 2 = some 2 := by kernel_rfl
theorem tyO35_3 : tyOff Try.prog 35 3 = some 5 := by kernel_rfl
theorem tyO35_4 : tyOff Try.prog 35 4 = some 6 := by kernel_rfl
theorem tyF35 : tyFlds Try.prog 35 = some [(0, 1), (1, 1), (2, 3), (5, 1), (6, 1)] := by kernel_rfl
theorem tyS36 : tySize Try.prog 36 = 1 := by kernel_rfl
theorem tyA36 : tyAgg Try.prog 36 = some false := by kernel_rfl
theorem tyS37 : tySize Try.prog 37 = 1 := by kernel_rfl
theorem tyA37 : tyAgg Try.prog 37 = some false := by kernel_rfl
theorem tyS38 : tySize Try.prog 38 = 1 := by kernel_rfl
theorem tyA38 : tyAgg Try.prog 38 = some false := by kernel_rfl
theorem tyS39 : tySize Try.prog 39 = 1 := by kernel_rfl
theorem tyA39 : tyAgg Try.prog 39 = some false := by kernel_rfl
theorem tyS40 : tySize Try.prog 40 = 1 := by kernel_rfl
theorem tyA40 : tyAgg Try.prog 40 = some false := by kernel_rfl
theorem tyS41 : tySize Try.prog 41 = 1 := by kernel_rfl
theorem tyA41 : tyAgg Try.prog 41 = some false := by kernel_rfl
theorem tyS42 : tySize Try.prog 42 = 1 := by kernel_rfl
theorem tyA42 : tyAgg Try.prog 42 = some false := by kernel_rfl
theorem tyS43 : tySize Try.prog 43 = 1 := by kernel_rfl
theorem tyA43 : tyAgg Try.prog 43 = some false := by kernel_rfl
theorem tyS44 : tySize Try.prog 44 = 1 := by kernel_rfl
theorem tyA44 : tyAgg Try.prog 44 = some false := by kernel_rfl
theorem tyE44 : tyElem Try.prog 44 = some 116 := by kernel_rfl
theorem tyI44 : tyInt Try.prog 44 = none := by kernel_rfl
theorem tyT44 : tyStr Try.prog 44 = false := by kernel_rfl
theorem tyY44 : tyBytes Try.prog 44 = 24 := by kernel_rfl
theorem tyZ44 : tyZero Try.prog 44 = some [.nl] := by kernel_rfl
theorem tyW44 : tyZeroT Try.prog 44 = some [.sl .any []] := by kernel_rfl
theorem tyS45 : tySize Try.prog 45 = 2 := by kernel_rfl
theorem tyA45 : tyAgg Try.prog 45 = some true := by kernel_rfl
theorem tyY45 : tyBytes Try.prog 45 = 32 := by kernel_rfl
theorem tyZ45 : tyZero Try.prog 45 = some [.d (.i .i64 0), .nl] := by kernel_rfl
theorem tyW45 : tyZeroT Try.prog 45 = some [.i .i64 0, .sl .any []] := by kernel_rfl
theorem tyO45_0 : tyOff Try.prog 45 0 = some 0 := by kernel_rfl
theorem tyO45_1 : tyOff Try.prog 45 1 = some 1 := by kernel_rfl
theorem tyF45 : tyFlds Try.prog 45 = some [(0, 1), (1, 1)] := by kernel_rfl
theorem tyS46 : tySize Try.prog 46 = 2 := by kernel_rfl
theorem tyA46 : tyAgg Try.prog 46 = some true := by kernel_rfl
theorem tyY46 : tyBytes Try.prog 46 = 32 := by kernel_rfl
theorem tyZ46 : tyZero Try.prog 46 = some [.d (.i .i64 0), .nl] := by kernel_rfl
theorem tyW46 : tyZeroT Try.prog 46 = some [.i .i64 0, .sl .any []] := by kernel_rfl
theorem tyO46_0 : tyOff Try.prog 46 0 = some 0 := by kernel_rfl
theorem tyO46_1 : tyOff Try.prog 46 1 = some 1 := by kernel_rfl
theorem tyF46 : tyFlds Try.prog 46 = some [(0, 1), (1, 1)] := by kernel_rfl
theorem tyS47 : tySize Try.prog 47 = 1 := by kernel_rfl
theorem tyA47 : tyAgg Try.prog 47 = some false := by kernel_rfl
theorem tyS48 : tySize Try.prog 48 = 1 := by kernel_rfl
theorem tyA48 : tyAgg Try.prog 48 = some false := by kernel_rfl
theorem tyE48 : tyElem Try.prog 48 = some 86 := by kernel_rfl
theorem tyI48 : tyInt Try.prog 48 = none := by kernel_rfl
theorem tyT48 : tyStr Try.prog 48 = false := by kernel_rfl
theorem tyY48 : tyBytes Try.prog 48 = 24 := by kernel_rfl
theorem tyZ48 : tyZero Try.prog 48 = some [.nl] := by kernel_rfl
theorem tyW48 : tyZeroT Try.prog 48 = some [.sl .any []] := by kernel_rfl
theorem tyS49 : tySize Try.prog 49 = 2 := by kernel_rfl
theorem tyA49 : tyAgg Try.prog 49 = some true := by kernel_rfl
theorem tyY49 : tyBytes Try.prog 49 = 32 := by kernel_rfl
theorem tyZ49 : tyZero Try.prog 49 = some [.d (.i .i64 0), .nl] := by kernel_rfl
theorem tyW49 : tyZeroT Try.prog 49 = some [.i .i64 0, .sl .any []] := by kernel_rfl
theorem tyO49_0 : tyOff Try.prog 49 0 = some 0 := by kernel_rfl
theorem tyO49_1 : tyOff Try.prog 49 1 = some 1 := by kernel_rfl
theorem tyF49 : tyFlds Try.prog 49 = some [(0, 1), (1, 1)] := by kernel_rfl
theorem tyS50 : tySize Try.prog 50 = 2 := by kernel_rfl
theorem tyA50 : tyAgg Try.prog 50 = some true := by kernel_rfl
theorem tyY50 : tyBytes Try.prog 50 = 32 := by kernel_rfl
theorem tyZ50 : tyZero Try.prog 50 = some [.d (.i .i64 0), .nl] := by kernel_rfl
theorem tyW50 : tyZeroT Try.prog 50 = some [.i .i64 0, .sl .any []] := by kernel_rfl
theorem tyO50_0 : tyOff Try.prog 50 0 = some 0 := by kernel_rfl
theorem tyO50_1 : tyOff Try.prog 50 1 = some 1 := by kernel_rfl
theorem tyF50 : tyFlds Try.prog 50 = some [(0, 1), (1, 1)] := by kernel_rfl
theorem tyS51 : tySize Try.prog 51 = 1 := by kernel_rfl
theorem tyA51 : tyAgg Try.prog 51 = some false := by kernel_rfl
theorem tyS52 : tySize Try.prog 52 = 1 := by kernel_rfl
theorem tyA52 : tyAgg Try.prog 52 = some false := by kernel_rfl
theorem tyS53 : tySize Try.prog 53 = 1 := by kernel_rfl
theorem tyA53 : tyAgg Try.prog 53 = some false := by kernel_rfl
theorem tyS54 : tySize Try.prog 54 = 1 := by kernel_rfl
theorem tyA54 : tyAgg Try.prog 54 = some false := by kernel_rfl
theorem tyS55 : tySize Try.prog 55 = 1 := by kernel_rfl
theorem tyA55 : tyAgg Try.prog 55 = some false := by kernel_rfl
theorem tyS56 : tySize Try.prog 56 = 1 := by kernel_rfl
theorem tyA56 : tyAgg Try.prog 56 = some false := by kernel_rfl
theorem tyE56 : tyElem Try.prog 56 = some 94 := by kernel_rfl
theorem tyI56 : tyInt Try.prog 56 = none := by kernel_rfl
theorem tyT56 : tyStr Try.prog 56 = false := by kernel_rfl
theorem tyY56 : tyBytes Try.prog 56 = 24 := by kernel_rfl
theorem tyZ56 : tyZero Try.prog 56 = some [.nl] := by kernel_rfl
theorem tyW56 : tyZeroT Try.prog 56 = some [.sl .any []] := by kernel_rfl
theorem tyS57 : tySize Try.prog 57 = 1 := by kernel_rfl
theorem tyA57 : tyAgg Try.prog 57 = some false := by kernel_rfl
theorem tyS58 : tySize Try.prog 58 = 1 := by kernel_rfl
theorem tyA58 : tyAgg Try.prog 58 = some false := by kernel_rfl
theorem tyE58 : tyElem Try.prog 58 = some 96 := by kernel_rfl
theorem tyI58 : tyInt Try.prog 58 = none := by kernel_rfl
theorem tyT58 : tyStr Try.prog 58 = false := by kernel_rfl
theorem tyY58 : tyBytes Try.prog 58 = 24 := by kernel_rfl
theorem tyZ58 : tyZero Try.prog 58 = some [.nl] := by kernel_rfl
theorem tyW58 : tyZeroT Try.prog 58 = some [.sl .any []] := by kernel_rfl
theorem tyS59 : tySize Try.prog 59 = 1 := by kernel_rfl
theorem tyA59 : tyAgg Try.prog 59 = some false := by kernel_rfl
theorem tyS60 : tySize Try.prog 60 = 1 := by kernel_rfl
theorem tyA60 : tyAgg Try.prog 60 = some false := by kernel_rfl
theorem tyS61 : tySize Try.prog 61 = 1 := by kernel_rfl
theorem tyA61 : tyAgg Try.prog 61 = some false := by kernel_rfl
theorem tyS62 : tySize Try.prog 62 = 1 := by kernel_rfl
theorem tyA62 : tyAgg Try.prog 62 = some false := by kernel_rfl
theorem tyS63 : tySize Try.prog 63 = 1 := by kernel_rfl
theorem tyA63 : tyAgg Try.prog 63 = some false := by kernel_rfl
theorem tyS64 : tySize Try.prog 64 = 1 := by kernel_rfl
theorem tyA64 : tyAgg Try.prog 64 = some false := by kernel_rfl
theorem tyE64 : tyElem Try.prog 64 = some 102 := by kernel_rfl
theorem tyI64 : tyInt Try.prog 64 = none := by kernel_rfl
theorem tyT64 : tyStr Try.prog 64 = false := by kernel_rfl
theorem tyY64 : tyBytes Try.prog 64 = 24 := by kernel_rfl
theorem tyZ64 : tyZero Try.prog 64 = some [.nl] := by kernel_rfl
theorem tyW64 : tyZeroT Try.prog 64 = some [.sl .any []] := by kernel_rfl
theorem tyS65 : tySize Try.prog 65 = 1 := by kernel_rfl
theorem tyA65 : tyAgg Try.prog 65 = some false := by kernel_rfl
theorem tyS66 : tySize Try.prog 66 = 1 := by kernel_rfl
theorem tyA66 : tyAgg Try.prog 66 = some false := by kernel_rfl
theorem tyS67 : tySize Try.prog 67 = 1 := by kernel_rfl
theorem tyA67 : tyAgg Try.prog 67 = some false := by kernel_rfl
theorem tyE67 : tyElem Try.prog 67 = some 103 := by kernel_rfl
theorem tyI67 : tyInt Try.prog 67 = none := by kernel_rfl
theorem tyT67 : tyStr Try.prog 67 = false := by kernel_rfl
theorem tyY67 : tyBytes Try.prog 67 = 24 := by kernel_rfl
theorem tyZ67 : tyZero Try.prog 67 = some [.nl] := by kernel_rfl
theorem tyW67 : tyZeroT Try.prog 67 = some [.sl .any []] := by kernel_rfl
theorem tyS68 : tySize Try.prog 68 = 1 := by kernel_rfl
theorem tyA68 : tyAgg Try.prog 68 = some false := by kernel_rfl
theorem tyS69 : tySize Try.prog 69 = 1 := by kernel_rfl
theorem tyA69 : tyAgg Try.prog 69 = some false := by kernel_rfl
theorem tyS70 : tySize Try.prog 70 = 1 := by kernel_rfl
theorem tyA70 : tyAgg Try.prog 70 = some false := by kernel_rfl
theorem tyS71 : tySize Try.prog 71 = 1 := by kernel_rfl
theorem tyA71 : tyAgg Try.prog 71 = some false := by kernel_rfl
theorem tyE71 : tyElem Try.prog 71 = some 5 := by kernel_rfl
theorem tyI71 : tyInt Try.prog 71 = none := by kernel_rfl
theorem tyT71 : tyStr Try.prog 71 = false := by kernel_rfl
theorem tyY71 : tyBytes Try.prog 71 = 24 := by kernel_rfl
theorem tyZ71 : tyZero Try.prog 71 = some [.nl] := by kernel_rfl
theorem tyW71 : tyZeroT Try.prog 71 = some [.sl .any []] := by kernel_rfl
theorem tyS72 : tySize Try.prog 72 = 1 := by kernel_rfl
theorem tyA72 : tyAgg Try.prog 72 = some false := by kernel_rfl
theorem tyS74 : tySize Try.prog 74 = 1 := by kernel_rfl
theorem tyA74 : tyAgg Try.prog 74 = some false := by kernel_rfl
theorem tyS75 : tySize Try.prog 75 = 1 := by kernel_rfl
theorem tyA75 : tyAgg Try.prog 75 = some false := by kernel_rfl
theorem tyS76 : tySize Try.prog 76 = 1 := by kernel_rfl
theorem tyA76 : tyAgg Try.prog 76 = some false := by kernel_rfl
theorem tyS77 : tySize Try.prog 77 = 1 := by kernel_rfl
theorem tyA77 : tyAgg Try.prog 77 = some false := by kernel_rfl
theorem tyS78 : tySize Try.prog 78 = 1 := by kernel_rfl
theorem tyA78 : tyAgg Try.prog 78 = some false := by kernel_rfl
theorem tyS79 : tySize Try.prog 79 = 1 := by kernel_rfl
theorem tyA79 : tyAgg Try.prog 79 = some false := by kernel_rfl
theorem tyS80 : tySize Try.prog 80 = 1 := by kernel_rfl
theorem tyA80 : tyAgg Try.prog 80 = some false := by kernel_rfl
theorem tyS81 : tySize Try.prog 81 = 1 := by kernel_rfl
theorem tyA81 : tyAgg Try.prog 81 = some false := by kernel_rfl
theorem tyS82 : tySize Try.prog 82 = 1 := by kernel_rfl
theorem tyA82 : tyAgg Try.prog 82 = some false := by kernel_rfl
theorem tyS83 : tySize Try.prog 83 = 1 := by kernel_rfl
theorem tyA83 : tyAgg Try.prog 83 = some false := by kernel_rfl
theorem tyE83 : tyElem Try.prog 83 = some 32 := by kernel_rfl
theorem tyI83 : tyInt Try.prog 83 = none := by kernel_rfl
theorem tyT83 : tyStr Try.prog 83 = false := by kernel_rfl
theorem tyY83 : tyBytes Try.prog 83 = 24 := by kernel_rfl
theorem tyZ83 : tyZero Try.prog 83 = some [.nl] := by kernel_rfl
theorem tyW83 : tyZeroT Try.prog 83 = some [.sl .any []] := by kernel_rfl
theorem tyS84 : tySize Try.prog 84 = 1 := by kernel_rfl
theorem tyA84 : tyAgg Try.prog 84 = some false := by kernel_rfl
theorem tyS85 : tySize Try.prog 85 = 2 := by kernel_rfl
theorem tyA85 : tyAgg Try.prog 85 = some true := by kernel_rfl
theorem tyY85 : tyBytes Try.prog 85 = 32 := by kernel_rfl
theorem tyZ85 : tyZero Try.prog 85 = some [.nl, .d (.i .i64 0)] := by kernel_rfl
theorem tyW85 : tyZeroT Try.prog 85 = some [.sl .any [], .i .i64 0] := by kernel_rfl
theorem tyO85_0 : tyOff Try.prog 85 0 = some 0 := by kernel_rfl
theorem tyO85_1 : tyOff Try.prog 85 1 = some 1 := by kernel_rfl
theorem tyF85 : tyFlds Try.prog 85 = some [(0, 1), (1, 1)] := by kernel_rfl
theorem tyS86 : tySize Try.prog 86 = 2 := by kernel_rfl
theorem tyA86 : tyAgg Try.prog 86 = some true := by kernel_rfl
theorem tyY86 : tyBytes Try.prog 86 = 32 := by kernel_rfl
theorem tyZ86 : tyZero Try.prog 86 = some [.nl, .d (.i .i64 0)] := by kernel_rfl
theorem tyW86 : tyZeroT Try.prog 86 = some [.sl .any [], .i .i64 0] := by kernel_rfl
theorem tyO86_0 : tyOff Try.prog 86 0 = some 0 := by kernel_rfl
theorem tyO86_1 : tyOff Try.prog 86 1 = some 1 := by kernel_rfl
theorem tyF86 : tyFlds Try.prog 86 = some [(0, 1), (1, 1)] := by kernel_rfl
theorem tyS87 : tySize Try.prog 87 = 1 := by kernel_rfl
theorem tyA87 : tyAgg Try.prog 87 = some false := by kernel_rfl
theorem tyS88 : tySize Try.prog 88 = 1 := by kernel_rfl
theorem tyA88 : tyAgg Try.prog 88 = some false := by kernel_rfl
theorem tyS89 : tySize Try.prog 89 = 1 := by kernel_rfl
theorem tyA89 : tyAgg Try.prog 89 = some false := by kernel_rfl
theorem tyS90 : tySize Try.prog 90 = 1 := by kernel_rfl
theorem tyA90 : tyAgg Try.prog 90 = some false := by kernel_rfl
theorem tyS91 : tySize Try.prog 91 = 1 := by kernel_rfl
theorem tyA91 : tyAgg Try.prog 91 = some false := by kernel_rfl
theorem tyS92 : tySize Try.prog 92 = 1 := by kernel_rfl
theorem tyA92 : tyAgg Try.prog 92 = some false := by kernel_rfl
theorem tyS93 : tySize Try.prog 93 = 3 := by kernel_rfl
theorem tyA93 : tyAgg Try.prog 93 = some true := by kernel_rfl
theorem tyY93 : tyBytes Try.prog 93 = 48 := by kernel_rfl
theorem tyZ93 : tyZero Try.prog 93 = some [.d (.s ⟨#[]⟩), .d (.i .i64 0), .nl] := by kernel_rfl
theorem tyW93 : tyZeroT Try.prog 93 = some [.s ⟨#[]⟩, .i .i64 0, .sl .any []] := by kernel_rfl
theorem tyO93_0 : tyOff Try.prog 93 0 = some 0 := by kernel_rfl
theorem tyO93_1 : tyOff Try.prog 93 1 = some 1 := by kernel_rfl
theorem tyF93 : tyFlds Try.prog 93 = some [(0, 1), (1, 2)] := by kernel_rfl
theorem tyS94 : tySize Try.prog 94 = 3 := by kernel_rfl
theorem tyA94 : tyAgg Try.prog 94 = some true := by kernel_rfl
theorem tyY94 : tyBytes Try.prog 94 = 48 := by kernel_rfl
theorem tyZ94 : tyZero Try.prog 94 = some [.d (.s ⟨#[]⟩), .d (.i .i64 0), .nl] := by kernel_rfl
theorem tyW94 : tyZeroT Try.prog 94 = some [.s ⟨#[]⟩, .i .i64 0, .sl .any []] := by kernel_rfl
theorem tyO94_0 : tyOff Try.prog 94 0 = some 0 := by kernel_rfl
theorem tyO94_1 : tyOff Try.prog 94 1 = some 1 := by kernel_rfl
theorem tyF94 : tyFlds Try.prog 94 = some [(0, 1), (1, 2)] := by kernel_rfl
theorem tyS95 : tySize Try.prog 95 = 3 := by kernel_rfl
theorem tyA95 : tyAgg Try.prog 95 = some true := by kernel_rfl
theorem tyY95 : tyBytes Try.prog 95 = 48 := by kernel_rfl
theorem tyZ95 : tyZero Try.prog 95 = some [.d (.s ⟨#[]⟩), .d (.i .i64 0), .nl] := by kernel_rfl
theorem tyW95 : tyZeroT Try.prog 95 = some [.s ⟨#[]⟩, .i .i64 0, .sl .any []] := by kernel_rfl
theorem tyO95_0 : tyOff Try.prog 95 0 = some 0 := by kernel_rfl
theorem tyO95_1 : tyOff Try.prog 95 1 = some 1 := by kernel_rfl
theorem tyF95 : tyFlds Try.prog 95 = some [(0, 1), (1, 2)] := by kernel_rfl
theorem tyS96 : tySize Try.prog 96 = 3 := by kernel_rfl
theorem tyA96 : tyAgg Try.prog 96 = some true := by kernel_rfl
theorem tyY96 : tyBytes Try.prog 96 = 48 := by kernel_rfl
theorem tyZ96 : tyZero Try.prog 96 = some [.d (.s ⟨#[]⟩), .d (.i .i64 0), .nl] := by kernel_rfl
theorem tyW96 : tyZeroT Try.prog 96 = some [.s ⟨#[]⟩, .i .i64 0, .sl .any []] := by kernel_rfl
theorem tyO96_0 : tyOff Try.prog 96 0 = some 0 := by kernel_rfl
theorem tyO96_1 : tyOff Try.prog 96 1 = some 1 := by kernel_rfl
theorem tyF96 : tyFlds Try.prog 96 = some [(0, 1), (1, 2)] := by kernel_rfl
theorem tyS97 : tySize Try.prog 97 = 1 := by kernel_rfl
theorem tyA97 : tyAgg Try.prog 97 = some false := by kernel_rfl
theorem tyS98 : tySize Try.prog 98 = 1 := by kernel_rfl
theorem tyA98 : tyAgg Try.prog 98 = some false := by kernel_rfl
theorem tyS99 : tySize Try.prog 99 = 1 := by kernel_rfl
theorem tyA99 : tyAgg Try.prog 99 = some false := by kernel_rfl
theorem tyS100 : tySize Try.prog 100 = 1 := by kernel_rfl
theorem tyA100 : tyAgg Try.prog 100 = some false := by kernel_rfl
theorem tyE100 : tyElem Try.prog 100 = some 9 := by kernel_rfl
theorem tyI100 : tyInt Try.prog 100 = none := by kernel_rfl
theorem tyT100 : tyStr Try.prog 100 = false := by kernel_rfl
theorem tyY100 : tyBytes Try.prog 100 = 24 := by kernel_rfl
theorem tyZ100 : tyZero Try.prog 100 = some [.nl] := by kernel_rfl
theorem tyW100 : tyZeroT Try.prog 100 = some [.sl .any []] := by kernel_rfl
theorem tyS101 : tySize Try.prog 101 = 2 := by kernel_rfl
theorem tyA101 : tyAgg Try.prog 101 = some true := by kernel_rfl
theorem tyY101 : tyBytes Try.prog 101 = 40 := by kernel_rfl
theorem tyZ101 : tyZero Try.prog 101 = some [.d (.s ⟨#[]⟩), .nl] := by kernel_rfl
theorem tyW101 : tyZeroT Try.prog 101 = some [.s ⟨#[]⟩, .sl .any []] := by kernel_rfl
theorem tyO101_0 : tyOff Try.prog 101 0 = some 0 := by kernel_rfl
theorem tyO101_1 : tyOff Try.prog 101 1 = some 1 := by kernel_rfl
theorem tyF101 : tyFlds Try.prog 101 = some [(0, 1), (1, 1)] := by kernel_rfl
theorem tyS102 : tySize Try.prog 102 = 2 := by kernel_rfl
theorem tyA102 : tyAgg Try.prog 102 = some true := by kernel_rfl
theorem tyY102 : tyBytes Try.prog 102 = 40 := by kernel_rfl
theorem tyZ102 : tyZero Try.prog 102 = some [.d (.s ⟨#[]⟩), .nl] := by kernel_rfl
theorem tyW102 : tyZeroT Try.prog 102 = some [.s ⟨#[]⟩, .sl .any []] := by kernel_rfl
theorem tyO102_0 : tyOff Try.prog 102 0 = some 0 := by kernel_rfl
theorem tyO102_1 : tyOff Try.prog 102 1 = some 1 := by kernel_rfl
theorem tyF102 : tyFlds Try.prog 102 = some [(0, 1), (1, 1)] := by kernel_rfl
theorem tyS103 : tySize Try.prog 103 = 2 := by kernel_rfl
theorem tyA103 : tyAgg Try.prog 103 = some true := by kernel_rfl
theorem tyY103 : tyBytes Try.prog 103 = 40 := by kernel_rfl
theorem tyZ103 : tyZero Try.prog 103 = some [.d (.s ⟨#[]⟩), .nl] := by kernel_rfl
theorem tyW103 : tyZeroT Try.prog 103 = some [.s ⟨#[]⟩, .sl .any []] := by kernel_rfl
theorem tyO103_0 : tyOff Try.prog 103 0 = some 0 := by kernel_rfl
theorem tyO103_1 : tyOff Try.prog 103 1 = some 1 := by kernel_rfl
theorem tyF103 : tyFlds Try.prog 103 = some [(0, 1), (1, 1)] := by kernel_rfl
theorem tyS104 : tySize Try.prog 104 = 1 := by kernel_rfl
theorem tyA104 : tyAgg Try.prog 104 = some false := by kernel_rfl
theorem tyS105 : tySize Try.prog 105 = 1 := by kernel_rfl
theorem tyA105 : tyAgg Try.prog 105 = some false := by kernel_rfl
theorem tyS106 : tySize Try.prog 106 = 1 := by kernel_rfl
theorem tyA106 : tyAgg Try.prog 106 = some false := by kernel_rfl
theorem tyS107 : tySize Try.prog 107 = 1 := by kernel_rfl
theorem tyA107 : tyAgg Try.prog 107 = some false := by kernel_rfl
theorem tyS108 : tySize Try.prog 108 = 1 := by kernel_rfl
theorem tyA108 : tyAgg Try.prog 108 = some false := by kernel_rfl
theorem tyS109 : tySize Try.prog 109 = 1 := by kernel_rfl
theorem tyA109 : tyAgg Try.prog 109 = some false := by kernel_rfl
theorem tyS110 : tySize Try.prog 110 = 1 := by kernel_rfl
theorem tyA110 : tyAgg Try.prog 110 = some false := by kernel_rfl
theorem tyS111 : tySize Try.prog 111 = 1 := by kernel_rfl
theorem tyA111 : tyAgg Try.prog 111 = some false := by kernel_rfl
theorem tyS112 : tySize Try.prog 112 = 1 := by kernel_rfl
theorem tyA112 : tyAgg Try.prog 112 = some false := by kernel_rfl
theorem tyS113 : tySize Try.prog 113 = 1 := by kernel_rfl
theorem tyA113 : tyAgg Try.prog 113 = some false := by kernel_rfl
theorem tyS114 : tySize Try.prog 114 = 1 := by kernel_rfl
theorem tyA114 : tyAgg Try.prog 114 = some false := by kernel_rfl
theorem tyE114 : tyElem Try.prog 114 = some 26 := by kernel_rfl
theorem tyI114 : tyInt Try.prog 114 = none := by kernel_rfl
theorem tyT114 : tyStr Try.prog 114 = false := by kernel_rfl
theorem tyY114 : tyBytes Try.prog 114 = 24 := by kernel_rfl
theorem tyZ114 : tyZero Try.prog 114 = some [.nl] := by kernel_rfl
theorem tyW114 : tyZeroT Try.prog 114 = some [.sl .any []] := by kernel_rfl
theorem tyS115 : tySize Try.prog 115 = 2 := by kernel_rfl
theorem tyA115 : tyAgg Try.prog 115 = some true := by kernel_rfl
theorem tyY115 : tyBytes Try.prog 115 = 32 := by kernel_rfl
theorem tyZ115 : tyZero Try.prog 115 = some [.nl, .d (.i .i64 0)] := by kernel_rfl
theorem tyW115 : tyZeroT Try.prog 115 = some [.sl .any [], .i .i64 0] := by kernel_rfl
theorem tyO115_0 : tyOff Try.prog 115 0 = some 0 := by kernel_rfl
theorem tyO115_1 : tyOff Try.prog 115 1 = some 1 := by kernel_rfl
theorem tyF115 : tyFlds Try.prog 115 = some [(0, 1), (1, 1)] := by kernel_rfl
theorem tyS116 : tySize Try.prog 116 = 2 := by kernel_rfl
theorem tyA116 : tyAgg Try.prog 116 = some true := by kernel_rfl
theorem tyY116 : tyBytes Try.prog 116 = 32 := by kernel_rfl
theorem tyZ116 : tyZero Try.prog 116 = some [.nl, .d (.i .i64 0)] := by kernel_rfl
theorem tyW116 : tyZeroT Try.prog 116 = some [.sl .any [], .i .i64 0] := by kernel_rfl
theorem tyO116_0 : tyOff Try.prog 116 0 = some 0 := by kernel_rfl
theorem tyO116_1 : tyOff Try.prog 116 1 = some 1 := by kernel_rfl
theorem tyF116 : tyFlds Try.prog 116 = some [(0, 1), (1, 1)] := by kernel_rfl
theorem tyS117 : tySize Try.prog 117 = 1 := by kernel_rfl
theorem tyA117 : tyAgg Try.prog 117 = some false := by kernel_rfl
theorem tyS118 : tySize Try.prog 118 = 1 := by kernel_rfl
theorem tyA118 : tyAgg Try.prog 118 = some false := by kernel_rfl
theorem tyS119 : tySize Try.prog 119 = 1 := by kernel_rfl
theorem tyA119 : tyAgg Try.prog 119 = some false := by kernel_rfl
theorem tyS120 : tySize Try.prog 120 = 1 := by kernel_rfl
theorem tyA120 : tyAgg Try.prog 120 = some false := by kernel_rfl
theorem tyS121 : tySize Try.prog 121 = 1 := by kernel_rfl
theorem tyA121 : tyAgg Try.prog 121 = some false := by kernel_rfl
theorem tyS122 : tySize Try.prog 122 = 1 := by kernel_rfl
theorem tyA122 : tyAgg Try.prog 122 = some false := by kernel_rfl
theorem tyS123 : tySize Try.prog 123 = 1 := by kernel_rfl
theorem tyA123 : tyAgg Try.prog 123 = some false := by kernel_rfl
theorem tyS124 : tySize Try.prog 124 = 1 := by kernel_rfl
theorem tyA124 : tyAgg Try.prog 124 = some false := by kernel_rfl
theorem tyS125 : tySize Try.prog 125 = 1 := by kernel_rfl
theorem tyA125 : tyAgg Try.prog 125 = some false := by kernel_rfl
theorem tyS126 : tySize Try.prog 126 = 1 := by kernel_rfl
theorem tyA126 : tyAgg Try.prog 126 = some false := by kernel_rfl
theorem tyS127 : tySize Try.prog 127 = 1 := by kernel_rfl
theorem tyA127 : tyAgg Try.prog 127 = some false := by kernel_rfl
theorem tyS128 : tySize Try.prog 128 = 1 := by kernel_rfl
theorem tyA128 : tyAgg Try.prog 128 = some false := by kernel_rfl
theorem tyS129 : tySize Try.prog 129 = 1 := by kernel_rfl
theorem tyA129 : tyAgg Try.prog 129 = some false := by kernel_rfl
theorem tyS130 : tySize Try.prog 130 = 1 := by kernel_rfl
theorem tyA130 : tyAgg Try.prog 130 = some false := by kernel_rfl
theorem tyS131 : tySize Try.prog 131 = 1 := by kernel_rfl
theorem tyA131 : tyAgg Try.prog 131 = some false := by kernel_rfl
theorem tyS132 : tySize Try.prog 132 = 1 := by kernel_rfl
theorem tyA132 : tyAgg Try.prog 132 = some false := by kernel_rfl
theorem tyS133 : tySize Try.prog 133 = 1 := by kernel_rfl
theorem tyA133 : tyAgg Try.prog 133 = some false := by kernel_rfl
theorem tyS134 : tySize Try.prog 134 = 1 := by kernel_rfl
theorem tyA134 : tyAgg Try.prog 134 = some false := by kernel_rfl
theorem tyS135 : tySize Try.prog 135 = 1 := by kernel_rfl
theorem tyA135 : tyAgg Try.prog 135 = some false := by kernel_rfl
theorem tyS136 : tySize Try.prog 136 = 1 := by kernel_rfl
theorem tyA136 : tyAgg Try.prog 136 = some false := by kernel_rfl
theorem tyS137 : tySize Try.prog 137 = 1 := by kernel_rfl
theorem tyA137 : tyAgg Try.prog 137 = some false := by kernel_rfl
theorem tyS138 : tySize Try.prog 138 = 1 := by kernel_rfl
theorem tyA138 : tyAgg Try.prog 138 = some false := by kernel_rfl
theorem tyS139 : tySize Try.prog 139 = 1 := by kernel_rfl
theorem tyA139 : tyAgg Try.prog 139 = some false := by kernel_rfl
theorem tyS140 : tySize Try.prog 140 = 1 := by kernel_rfl
theorem tyA140 : tyAgg Try.prog 140 = some false := by kernel_rfl
theorem tyS141 : tySize Try.prog 141 = 1 := by kernel_rfl
theorem tyA141 : tyAgg Try.prog 141 = some false := by kernel_rfl
theorem tyS142 : tySize Try.prog 142 = 1 := by kernel_rfl
theorem tyA142 : tyAgg Try.prog 142 = some false := by kernel_rfl
theorem tyS143 : tySize Try.prog 143 = 1 := by kernel_rfl
theorem tyA143 : tyAgg Try.prog 143 = some false := by kernel_rfl
theorem tyS144 : tySize Try.prog 144 = 1 := by kernel_rfl
theorem tyA144 : tyAgg Try.prog 144 = some false := by kernel_rfl
theorem tyS145 : tySize Try.prog 145 = 1 := by kernel_rfl
theorem tyA145 : tyAgg Try.prog 145 = some false := by kernel_rfl
theorem tyS146 : tySize Try.prog 146 = 1 := by kernel_rfl
theorem tyA146 : tyAgg Try.prog 146 = some false := by kernel_rfl
theorem tyS147 : tySize Try.prog 147 = 1 := by kernel_rfl
theorem tyA147 : tyAgg Try.prog 147 = some false := by kernel_rfl
theorem tyS148 : tySize Try.prog 148 = 1 := by kernel_rfl
theorem tyA148 : tyAgg Try.prog 148 = some false := by kernel_rfl
theorem tyS149 : tySize Try.prog 149 = 1 := by kernel_rfl
theorem tyA149 : tyAgg Try.prog 149 = some false := by kernel_rfl
theorem tyI149 : tyInt Try.prog 149 = some .u64 := by kernel_rfl
theorem tyY149 : tyBytes Try.prog 149 = 8 := by kernel_rfl
theorem tyZ149 : tyZero Try.prog 149 = some [.d (.i .u64 0)] := by kernel_rfl
theorem tyW149 : tyZeroT Try.prog 149 = some [.i .u64 0] := by kernel_rfl
theorem tyS150 : tySize Try.prog 150 = 1 := by kernel_rfl
theorem tyA150 : tyAgg Try.prog 150 = some false := by kernel_rfl
theorem tyS151 : tySize Try.prog 151 = 1 := by kernel_rfl
theorem tyA151 : tyAgg Try.prog 151 = some false := by kernel_rfl
theorem tyE151 : tyElem Try.prog 151 = some 3 := by kernel_rfl
theorem tyI151 : tyInt Try.prog 151 = none := by kernel_rfl
theorem tyT151 : tyStr Try.prog 151 = false := by kernel_rfl
theorem tyY151 : tyBytes Try.prog 151 = 24 := by kernel_rfl
theorem tyZ151 : tyZero Try.prog 151 = some [.nl] := by kernel_rfl
theorem tyW151 : tyZeroT Try.prog 151 = some [.sl .any []] := by kernel_rfl
theorem tyS152 : tySize Try.prog 152 = 1 := by kernel_rfl
theorem tyA152 : tyAgg Try.prog 152 = some false := by kernel_rfl
theorem tyS153 : tySize Try.prog 153 = 1 := by kernel_rfl
theorem tyA153 : tyAgg Try.prog 153 = some false := by kernel_rfl
theorem tyS154 : tySize Try.prog 154 = 1 := by kernel_rfl
theorem tyA154 : tyAgg Try.prog 154 = some false := by kernel_rfl
theorem tyI154 : tyInt Try.prog 154 = some .i64 := by kernel_rfl
theorem tyY154 : tyBytes Try.prog 154 = 8 := by kernel_rfl
theorem tyZ154 : tyZero Try.prog 154 = some [.d (.i .i64 0)] := by kernel_rfl
theorem tyW154 : tyZeroT Try.prog 154 = some [.i .i64 0] := by kernel_rfl
theorem tyS156 : tySize Try.prog 156 = 1 := by kernel_rfl
theorem tyA156 : tyAgg Try.prog 156 = some false := by kernel_rfl
theorem tyS157 : tySize Try.prog 157 = 1 := by kernel_rfl
theorem tyA157 : tyAgg Try.prog 157 = some false := by kernel_rfl
theorem tyS158 : tySize Try.prog 158 = 1 := by kernel_rfl
theorem tyA158 : tyAgg Try.prog 158 = some false := by kernel_rfl
theorem tyS159 : tySize Try.prog 159 = 1 := by kernel_rfl
theorem tyA159 : tyAgg Try.prog 159 = some false := by kernel_rfl
theorem tyS161 : tySize Try.prog 161 = 1 := by kernel_rfl
theorem tyA161 : tyAgg Try.prog 161 = some false := by kernel_rfl
theorem tyS162 : tySize Try.prog 162 = 1 := by kernel_rfl
theorem tyA162 : tyAgg Try.prog 162 = some false := by kernel_rfl
theorem tyS163 : tySize Try.prog 163 = 1 := by kernel_rfl
theorem tyA163 : tyAgg Try.prog 163 = some false := by kernel_rfl
theorem tyS164 : tySize Try.prog 164 = 1 := by kernel_rfl
theorem tyA164 : tyAgg Try.prog 164 = some false := by kernel_rfl
theorem tyI164 : tyInt Try.prog 164 = some .u64 := by kernel_rfl
theorem tyY164 : tyBytes Try.prog 164 = 8 := by kernel_rfl
theorem tyZ164 : tyZero Try.prog 164 = some [.d (.i .u64 0)] := by kernel_rfl
theorem tyW164 : tyZeroT Try.prog 164 = some [.i .u64 0] := by kernel_rfl
theorem tyS165 : tySize Try.prog 165 = 1 := by kernel_rfl
theorem tyA165 : tyAgg Try.prog 165 = some false := by kernel_rfl
theorem tyS166 : tySize Try.prog 166 = 1 := by kernel_rfl
theorem tyA166 : tyAgg Try.prog 166 = some false := by kernel_rfl
theorem tyS167 : tySize Try.prog 167 = 1 := by kernel_rfl
theorem tyA167 : tyAgg Try.prog 167 = some false := by kernel_rfl
theorem tyI167 : tyInt Try.prog 167 = some .u64 := by kernel_rfl
theorem tyY167 : tyBytes Try.prog 167 = 8 := by kernel_rfl
theorem tyZ167 : tyZero Try.prog 167 = some [.d (.i .u64 0)] := by kernel_rfl
theorem tyW167 : tyZeroT Try.prog 167 = some [.i .u64 0] := by kernel_rfl
theorem tyS168 : tySize Try.prog 168 = 1 := by kernel_rfl
theorem tyA168 : tyAgg Try.prog 168 = some false := by kernel_rfl
theorem tyS169 : tySize Try.prog 169 = 1 := by kernel_rfl
theorem tyA169 : tyAgg Try.prog 169 = some false := by kernel_rfl
theorem tyS170 : tySize Try.prog 170 = 1 := by kernel_rfl
theorem tyA170 : tyAgg Try.prog 170 = some false := by kernel_rfl
theorem tyS171 : tySize Try.prog 171 = 1 := by kernel_rfl
theorem tyA171 : tyAgg Try.prog 171 = some false := by kernel_rfl
theorem tyZ171 : tyZero Try.prog 171 = some [.unk] := by kernel_rfl
theorem tyS172 : tySize Try.prog 172 = 1 := by kernel_rfl
theorem tyA172 : tyAgg Try.prog 172 = some false := by kernel_rfl
theorem tyS173 : tySize Try.prog 173 = 1 := by kernel_rfl
theorem tyA173 : tyAgg Try.prog 173 = some false := by kernel_rfl
theorem tyZ173 : tyZero Try.prog 173 = some [.unk] := by kernel_rfl
theorem tyS175 : tySize Try.prog 175 = 1 := by kernel_rfl
theorem tyA175 : tyAgg Try.prog 175 = some false := by kernel_rfl
theorem tyS176 : tySize Try.prog 176 = 1 := by kernel_rfl
theorem tyA176 : tyAgg Try.prog 176 = some false := by kernel_rfl
theorem tyS177 : tySize Try.prog 177 = 4 := by kernel_rfl
theorem tyA177 : tyAgg Try.prog 177 = some true := by kernel_rfl
theorem tyY177 : tyBytes Try.prog 177 = 40 := by kernel_rfl
theorem tyZ177 : tyZero Try.prog 177 = some [.unk, .unk, .unk, .d (.s ⟨#[]⟩)] := by kernel_rfl
theorem tyO177_0 : tyOff Try.prog 177 0 = some 0 := by kernel_rfl
theorem tyO177_1 : tyOff Try.prog 177 1 = some 1 := by kernel_rfl
theorem tyO177_2 : tyOff Try.prog 177 2 = some 2 := by kernel_rfl
theorem tyO177_3 : tyOff Try.prog 177 3 = some 3 := by kernel_rfl
theorem tyF177 : tyFlds Try.prog 177 = some [(0, 1), (1, 1), (2, 1), (3, 1)] := by kernel_rfl
theorem tyS178 : tySize Try.prog 178 = 4 := by kernel_rfl
theorem tyA178 : tyAgg Try.prog 178 = some true := by kernel_rfl
theorem tyY178 : tyBytes Try.prog 178 = 40 := by kernel_rfl
theorem tyZ178 : tyZero Try.prog 178 = some [.unk, .unk, .unk, .d (.s ⟨#[]⟩)] := by kernel_rfl
theorem tyO178_0 : tyOff Try.prog 178 0 = some 0 := by kernel_rfl
theorem tyO178_1 : tyOff Try.prog 178 1 = some 1 := by kernel_rfl
theorem tyO178_2 : tyOff Try.prog 178 2 = some 2 := by kernel_rfl
theorem tyO178_3 : tyOff Try.prog 178 3 = some 3 := by kernel_rfl
theorem tyF178 : tyFlds Try.prog 178 = some [(0, 1), (1, 1), (2, 1), (3, 1)] := by kernel_rfl
theorem tyS179 : tySize Try.prog 179 = 0 := by kernel_rfl
theorem tyA179 : tyAgg Try.prog 179 = some true := by kernel_rfl
theorem tyZ179 : tyZero Try.prog 179 = some [] := by kernel_rfl
theorem tyW179 : tyZeroT Try.prog 179 = some [] := by kernel_rfl
theorem tyS180 : tySize Try.prog 180 = 0 := by kernel_rfl
theorem tyA180 : tyAgg Try.prog 180 = some true := by kernel_rfl
theorem tyY180 : tyBytes Try.prog 180 = 0 := by kernel_rfl
theorem tyZ180 : tyZero Try.prog 180 = some [] := by kernel_rfl
theorem tyW180 : tyZeroT Try.prog 180 = some [] := by kernel_rfl
theorem tyF180 : tyFlds Try.prog 180 = some [(0, 0)] := by kernel_rfl
theorem tyS181 : tySize Try.prog 181 = 0 := by kernel_rfl
theorem tyA181 : tyAgg Try.prog 181 = some true := by kernel_rfl
theorem tyY181 : tyBytes Try.prog 181 = 0 := by kernel_rfl
theorem tyZ181 : tyZero Try.prog 181 = some [] := by kernel_rfl
theorem tyW181 : tyZeroT Try.prog 181 = some [] := by kernel_rfl
theorem tyF181 : tyFlds Try.prog 181 = some [(0, 0)] := by kernel_rfl
theorem tyS182 : tySize Try.prog 182 = 1 := by kernel_rfl
theorem tyA182 : tyAgg Try.prog 182 = some false := by kernel_rfl
theorem tyS183 : tySize Try.prog 183 = 1 := by kernel_rfl
theorem tyA183 : tyAgg Try.prog 183 = some false := by kernel_rfl
theorem tyI183 : tyInt Try.prog 183 = some .u8 := by kernel_rfl
theorem tyY183 : tyBytes Try.prog 183 = 1 := by kernel_rfl
theorem tyZ183 : tyZero Try.prog 183 = some [.d (.i .u8 0)] := by kernel_rfl
theorem tyW183 : tyZeroT Try.prog 183 = some [.i .u8 0] := by kernel_rfl
theorem tyS184 : tySize Try.prog 184 = 1 := by kernel_rfl
theorem tyA184 : tyAgg Try.prog 184 = some false := by kernel_rfl
theorem tyI184 : tyInt Try.prog 184 = some .u8 := by kernel_rfl
theorem tyY184 : tyBytes Try.prog 184 = 1 := by kernel_rfl
theorem tyZ184 : tyZero Try.prog 184 = some [.d (.i .u8 0)] := by kernel_rfl
theorem tyW184 : tyZeroT Try.prog 184 = some [.i .u8 0] := by kernel_rfl
theorem tyS185 : tySize Try.prog 185 = 1 := by kernel_rfl
theorem tyA185 : tyAgg Try.prog 185 = some false := by kernel_rfl
theorem tyS186 : tySize Try.prog 186 = 1 := by kernel_rfl
theorem tyA186 : tyAgg Try.prog 186 = some false := by kernel_rfl
theorem tyZ186 : tyZero Try.prog 186 = some [.unk] := by kernel_rfl
theorem tyS187 : tySize Try.prog 187 = 1 := by kernel_rfl
theorem tyA187 : tyAgg Try.prog 187 = some false := by kernel_rfl
theorem tyI187 : tyInt Try.prog 187 = some .i32 := by kernel_rfl
theorem tyY187 : tyBytes Try.prog 187 = 4 := by kernel_rfl
theorem tyZ187 : tyZero Try.prog 187 = some [.d (.i .i32 0)] := by kernel_rfl
theorem tyW187 : tyZeroT Try.prog 187 = some [.i .i32 0] := by kernel_rfl
theorem tyS188 : tySize Try.prog 188 = 1 := by kernel_rfl
theorem tyA188 : tyAgg Try.prog 188 = some false := by kernel_rfl
theorem tyI188 : tyInt Try.prog 188 = some .i32 := by kernel_rfl
theorem tyY188 : tyBytes Try.prog 188 = 4 := by kernel_rfl
theorem tyZ188 : tyZero Try.prog 188 = some [.d (.i .i32 0)] := by kernel_rfl
theorem tyW188 : tyZeroT Try.prog 188 = some [.i .i32 0] := by kernel_rfl
theorem tyS189 : tySize Try.prog 189 = 11 := by kernel_rfl
theorem tyA189 : tyAgg Try.prog 189 = some true := by kernel_rfl
theorem tyY189 : tyBytes Try.prog 189 = 48 := by kernel_rfl
theorem tyZ189 : tyZero Try.prog 189 = some [.d (.i .u64 0), .d (.i .u64 0), .d (.i .u32 0), .d (.i .u8 0), .d (.i .u8 0), .d (.i .u8 0), .d (.i .u8 0), .unk, .unk, .d (.i .i32 0), .d (.i .i32 0)] := by kernel_rfl
theorem tyO189_0 : tyOff Try.prog 189 0 = some 0 := by kernel_rfl
theorem tyO189_1 : tyOff Try.prog 189 1 = some 1 := by kernel_rfl
theorem tyO189_2 : tyOff Try.prog 189 2 = some 2 := by kernel_rfl
theorem tyO189_3 : tyOff Try.prog 189 3 = some 3 := by kernel_rfl
theorem tyO189_4 : tyOff Try.prog 189 4 = some 4 := by kernel_rfl
theorem tyO189_5 : tyOff Try.prog 189 5 = some 5 := by kernel_rfl
theorem tyO189_6 : tyOff Try.prog 189 6 = some 6 := by kernel_rfl
theorem tyO189_7 : tyOff Try.prog 189 7 = some 7 := by kernel_rfl
theorem tyO189_8 : tyOff Try.prog 189 8 = some 8 := by kernel_rfl
theorem tyO189_9 : tyOff Try.prog 189 9 = some 9 := by kernel_rfl
theorem tyO189_10 : tyOff Try.prog 189 10 = some 10 := by kernel_rfl
theorem tyF189 : tyFlds Try.prog 189 = some [(0, 1), (1, 1), (2, 1), (3, 1), (4, 1), (5, 1), (6, 1), (7, 1), (8, 1), (9, 1), (10, 1)] := by kernel_rfl
theorem tyS190 : tySize Try.prog 190 = 11 := by kernel_rfl
theorem tyA190 : tyAgg Try.prog 190 = some true := by kernel_rfl
theorem tyY190 : tyBytes Try.prog 190 = 48 := by kernel_rfl
theorem tyZ190 : tyZero Try.prog 190 = some [.d (.i .u64 0), .d (.i .u64 0), .d (.i .u32 0), .d (.i .u8 0), .d (.i .u8 0), .d (.i .u8 0), .d (.i .u8 0), .unk, .unk, .d (.i .i32 0), .d (.i .i32 0)] := by kernel_rfl
theorem tyO190_0 : tyOff Try.prog 190 0 = some 0 := by kernel_rfl
theorem tyO190_1 : tyOff Try.prog 190 1 = some 1 := by kernel_rfl
theorem tyO190_2 : tyOff Try.prog 190 2 = some 2 := by kernel_rfl
theorem tyO190_3 : tyOff Try.prog 190 3 = some 3 := by kernel_rfl
theorem tyO190_4 : tyOff Try.prog 190 4 = some 4 := by kernel_rfl
theorem tyO190_5 : tyOff Try.prog 190 5 = some 5 := by kernel_rfl
theorem tyO190_6 : tyOff Try.prog 190 6 = some 6 := by kernel_rfl
theorem tyO190_7 : tyOff Try.prog 190 7 = some 7 := by kernel_rfl
theorem tyO190_8 : tyOff Try.prog 190 8 = some 8 := by kernel_rfl
theorem tyO190_9 : tyOff Try.prog 190 9 = some 9 := by kernel_rfl
theorem tyO190_10 : tyOff Try.prog 190 10 = some 10 := by kernel_rfl
theorem tyF190 : tyFlds Try.prog 190 = some [(0, 1), (1, 1), (2, 1), (3, 1), (4, 1), (5, 1), (6, 1), (7, 1), (8, 1), (9, 1), (10, 1)] := by kernel_rfl
attribute [push_cast] tyS1 tyA1 tyS2 tyA2 tyI2 tyY2 tyZ2 tyW2 tyS3 tyA3 tyI3 tyY3 tyZ3 tyW3 tyS4 tyA4 tyB4 tyY4 tyZ4 tyW4 tyS5 tyA5 tyI5 tyY5 tyZ5 tyW5 tyS6 tyA6 tyI6 tyY6 tyZ6 tyW6 tyS7 tyA7 tyY7 tyZ7 tyW7 tyO7_0 tyO7_1 tyO7_2 tyO7_3 tyF7 tyS8 tyA8 tyY8 tyZ8 tyW8 tyO8_0 tyO8_1 tyO8_2 tyO8_3 tyF8 tyS9 tyA9 tyT9 tyY9 tyZ9 tyW9 tyS10 tyA10 tyT10 tyY10 tyZ10 tyW10 tyS11 tyA11 tyT11 tyY11 tyZ11 tyW11 tyS12 tyA12 tyI12 tyY12 tyZ12 tyW12 tyS13 tyA13 tyY13 tyZ13 tyW13 tyO13_0 tyO13_1 tyF13 tyS14 tyA14 tyY14 tyZ14 tyW14 tyO14_0 tyO14_1 tyF14 tyS15 tyA15 tyZ15 tyS16 tyA16 tyZ16 tyS17 tyA17 tyZ17 tyS18 tyA18 tyY18 tyZ18 tyO18_0 tyF18 tyS19 tyA19 tyY19 tyZ19 tyO19_0 tyF19 tyS21 tyA21 tyI21 tyY21 tyZ21 tyW21 tyS22 tyA22 tyI22 tyY22 tyZ22 tyW22 tyS23 tyA23 tyS24 tyA24 tyS25 tyA25 tyY25 tyZ25 tyW25 tyO25_0 tyO25_1 tyO25_2 tyF25 tyS26 tyA26 tyY26 tyZ26 tyW26 tyO26_0 tyO26_1 tyO26_2 tyF26 tyP26 tyS27 tyA27 tyE27 tyI27 tyT27 tyY27 tyZ27 tyW27 tyS28 tyA28 tyY28 tyZ28 tyW28 tyO28_0 tyO28_1 tyO28_2 tyO28_3 tyO28_4 tyF28 tyS29 tyA29 tyY29 tyZ29 tyW29 tyO29_0 tyO29_1 tyO29_2 tyO29_3 tyO29_4 tyF29 tyS30 tyA30 tyS31 tyA31 tyS32 tyA32 tyY32 tyZ32 tyW32 tyO32_0 tyO32_1 tyO32_2 tyF32 tyP32 tyS33 tyA33 tyE33 tyI33 tyT33 tyY33 tyZ33 tyW33 tyS34 tyA34 tyY34 tyZ34 tyW34 tyO34_0 tyO34_1 tyO34_2 tyO34_3 tyO34_4 tyF34 tyS35 tyA35 tyY35 tyZ35 tyW35 tyO35_0 tyO35_1 tyO35_2 tyO35_3 tyO35_4 tyF35 tyS36 tyA36 tyS37 tyA37 tyS38 tyA38 tyS39 tyA39 tyS40 tyA40 tyS41 tyA41 tyS42 tyA42 tyS43 tyA43 tyS44 tyA44 tyE44 tyI44 tyT44 tyY44 tyZ44 tyW44 tyS45 tyA45 tyY45 tyZ45 tyW45 tyO45_0 tyO45_1 tyF45 tyS46 tyA46 tyY46 tyZ46 tyW46 tyO46_0 tyO46_1 tyF46 tyS47 tyA47 tyS48 tyA48 tyE48 tyI48 tyT48 tyY48 tyZ48 tyW48 tyS49 tyA49 tyY49 tyZ49 tyW49 tyO49_0 tyO49_1 tyF49 tyS50 tyA50 tyY50 tyZ50 tyW50 tyO50_0 tyO50_1 tyF50 tyS51 tyA51 tyS52 tyA52 tyS53 tyA53 tyS54 tyA54 tyS55 tyA55 tyS56 tyA56 tyE56 tyI56 tyT56 tyY56 tyZ56 tyW56 tyS57 tyA57 tyS58 tyA58 tyE58 tyI58 tyT58 tyY58 tyZ58 tyW58 tyS59 tyA59 tyS60 tyA60 tyS61 tyA61 tyS62 tyA62 tyS63 tyA63 tyS64 tyA64 tyE64 tyI64 tyT64 tyY64 tyZ64 tyW64 tyS65 tyA65 tyS66 tyA66 tyS67 tyA67 tyE67 tyI67 tyT67 tyY67 tyZ67 tyW67 tyS68 tyA68 tyS69 tyA69 tyS70 tyA70 tyS71 tyA71 tyE71 tyI71 tyT71 tyY71 tyZ71 tyW71 tyS72 tyA72 tyS74 tyA74 tyS75 tyA75 tyS76 tyA76 tyS77 tyA77 tyS78 tyA78 tyS79 tyA79 tyS80 tyA80 tyS81 tyA81 tyS82 tyA82 tyS83 tyA83 tyE83 tyI83 tyT83 tyY83 tyZ83 tyW83 tyS84 tyA84 tyS85 tyA85 tyY85 tyZ85 tyW85 tyO85_0 tyO85_1 tyF85 tyS86 tyA86 tyY86 tyZ86 tyW86 tyO86_0 tyO86_1 tyF86 tyS87 tyA87 tyS88 tyA88 tyS89 tyA89 tyS90 tyA90 tyS91 tyA91 tyS92 tyA92 tyS93 tyA93 tyY93 tyZ93 tyW93 tyO93_0 tyO93_1 tyF93 tyS94 tyA94 tyY94 tyZ94 tyW94 tyO94_0 tyO94_1 tyF94 tyS95 tyA95 tyY95 tyZ95 tyW95 tyO95_0 tyO95_1 tyF95 tyS96 tyA96 tyY96 tyZ96 tyW96 tyO96_0 tyO96_1 tyF96 tyS97 tyA97 tyS98 tyA98 tyS99 tyA99 tyS100 tyA100 tyE100 tyI100 tyT100 tyY100 tyZ100 tyW100 tyS101 tyA101 tyY101 tyZ101 tyW101 tyO101_0 tyO101_1 tyF101 tyS102 tyA102 tyY102 tyZ102 tyW102 tyO102_0 tyO102_1 tyF102 tyS103 tyA103 tyY103 tyZ103 tyW103 tyO103_0 tyO103_1 tyF103 tyS104 tyA104 tyS105 tyA105 tyS106 tyA106 tyS107 tyA107 tyS108 tyA108 tyS109 tyA109 tyS110 tyA110 tyS111 tyA111 tyS112 tyA112 tyS113 tyA113 tyS114 tyA114 tyE114 tyI114 tyT114 tyY114 tyZ114 tyW114 tyS115 tyA115 tyY115 tyZ115 tyW115 tyO115_0 tyO115_1 tyF115 tyS116 tyA116 tyY116 tyZ116 tyW116 tyO116_0 tyO116_1 tyF116 tyS117 tyA117 tyS118 tyA118 tyS119 tyA119 tyS120 tyA120 tyS121 tyA121 tyS122 tyA122 tyS123 tyA123 tyS124 tyA124 tyS125 tyA125 tyS126 tyA126 tyS127 tyA127 tyS128 tyA128 tyS129 tyA129 tyS130 tyA130 tyS131 tyA131 tyS132 tyA132 tyS133 tyA133 tyS134 tyA134 tyS135 tyA135 tyS136 tyA136 tyS137 tyA137 tyS138 tyA138 tyS139 tyA139 tyS140 tyA140 tyS141 tyA141 tyS142 tyA142 tyS143 tyA143 tyS144 tyA144 tyS145 tyA145 tyS146 tyA146 tyS147 tyA147 tyS148 tyA148 tyS149 tyA149 tyI149 tyY149 tyZ149 tyW149 tyS150 tyA150 tyS151 tyA151 tyE151 tyI151 tyT151 tyY151 tyZ151 tyW151 tyS152 tyA152 tyS153 tyA153 tyS154 tyA154 tyI154 tyY154 tyZ154 tyW154 tyS156 tyA156 tyS157 tyA157 tyS158 tyA158 tyS159 tyA159 tyS161 tyA161 tyS162 tyA162 tyS163 tyA163 tyS164 tyA164 tyI164 tyY164 tyZ164 tyW164 tyS165 tyA165 tyS166 tyA166 tyS167 tyA167 tyI167 tyY167 tyZ167 tyW167 tyS168 tyA168 tyS169 tyA169 tyS170 tyA170 tyS171 tyA171 tyZ171 tyS172 tyA172 tyS173 tyA173 tyZ173 tyS175 tyA175 tyS176 tyA176 tyS177 tyA177 tyY177 tyZ177 tyO177_0 tyO177_1 tyO177_2 tyO177_3 tyF177 tyS178 tyA178 tyY178 tyZ178 tyO178_0 tyO178_1 tyO178_2 tyO178_3 tyF178 tyS179 tyA179 tyZ179 tyW179 tyS180 tyA180 tyY180 tyZ180 tyW180 tyF180 tyS181 tyA181 tyY181 tyZ181 tyW181 tyF181 tyS182 tyA182 tyS183 tyA183 tyI183 tyY183 tyZ183 tyW183 tyS184 tyA184 tyI184 tyY184 tyZ184 tyW184 tyS185 tyA185 tyS186 tyA186 tyZ186 tyS187 tyA187 tyI187 tyY187 tyZ187 tyW187 tyS188 tyA188 tyI188 tyY188 tyZ188 tyW188 tyS189 tyA189 tyY189 tyZ189 tyO189_0 tyO189_1 tyO189_2 tyO189_3 tyO189_4 tyO189_5 tyO189_6 tyO189_7 tyO189_8 tyO189_9 tyO189_10 tyF189 tyS190 tyA190 tyY190 tyZ190 tyO190_0 tyO190_1 tyO190_2 tyO190_3 tyO190_4 tyO190_5 tyO190_6 tyO190_7 tyO190_8 tyO190_9 tyO190_10 tyF190
end Go.Av
end
