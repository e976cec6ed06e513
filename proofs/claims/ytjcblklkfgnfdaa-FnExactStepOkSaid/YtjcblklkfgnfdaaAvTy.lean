/- Facts on the types of this seat, each by the kernel. -/
import Derived.Test.YtjcblklkfgnfdaaAvE
import Derived.Test.YtjcblklkfgnfdaaProg
import Derived.KernelRfl
set_option linter.all false
set_option linter.unusedVariables false
set_option linter.unusedSimpArgs false

section
namespace Go.Av
open Go.Proofs
theorem tyS1 : tySize Try.prog 1 = 1 := by kernel_rfl
theorem tyA1 : tyAgg Try.prog 1 = some false := by kernel_rfl
theorem tyS2 : tySize Try.prog 2 = 1 := by kernel_rfl
theorem tyA2 : tyAgg Try.prog 2 = some false := by kernel_rfl
theorem tyI2 : tyInt Try.prog 2 = some .i64 := by kernel_rfl
theorem tyY2 : tyBytes Try.prog 2 = 8 := by kernel_rfl
theorem tyZ2 : tyZero Try.prog 2 = some [.d (.i .i64 0)] := by kernel_rfl
theorem tyW2 : tyZeroT Try.prog 2 = some [.i .i64 0] := by kernel_rfl
theorem tyS3 : tySize Try.prog 3 = 1 := by kernel_rfl
theorem tyA3 : tyAgg Try.prog 3 = some false := by kernel_rfl
theorem tyI3 : tyInt Try.prog 3 = some .i64 := by kernel_rfl
theorem tyY3 : tyBytes Try.prog 3 = 8 := by kernel_rfl
theorem tyZ3 : tyZero Try.prog 3 = some [.d (.i .i64 0)] := by kernel_rfl
theorem tyW3 : tyZeroT Try.prog 3 = some [.i .i64 0] := by kernel_rfl
theorem tyS4 : tySize Try.prog 4 = 1 := by kernel_rfl
theorem tyA4 : tyAgg Try.prog 4 = some false := by kernel_rfl
theorem tyB4 : tyBool Try.prog 4 = true := by kernel_rfl
theorem tyY4 : tyBytes Try.prog 4 = 1 := by kernel_rfl
theorem tyZ4 : tyZero Try.prog 4 = some [.d (.b false)] := by kernel_rfl
theorem tyW4 : tyZeroT Try.prog 4 = some [.b false] := by kernel_rfl
theorem tyS5 : tySize Try.prog 5 = 1 := by kernel_rfl
theorem tyA5 : tyAgg Try.prog 5 = some false := by kernel_rfl
theorem tyI5 : tyInt Try.prog 5 = some .u8 := by kernel_rfl
theorem tyY5 : tyBytes Try.prog 5 = 1 := by kernel_rfl
theorem tyZ5 : tyZero Try.prog 5 = some [.d (.i .u8 0)] := by kernel_rfl
theorem tyW5 : tyZeroT Try.prog 5 = some [.i .u8 0] := by kernel_rfl
theorem tyS6 : tySize Try.prog 6 = 1 := by kernel_rfl
theorem tyA6 : tyAgg Try.prog 6 = some false := by kernel_rfl
theorem tyI6 : tyInt Try.prog 6 = some .u8 := by kernel_rfl
theorem tyY6 : tyBytes Try.prog 6 = 1 := by kernel_rfl
theorem tyZ6 : tyZero Try.prog 6 = some [.d (.i .u8 0)] := by kernel_rfl
theorem tyW6 : tyZeroT Try.prog 6 = some [.i .u8 0] := by kernel_rfl
theorem tyS7 : tySize Try.prog 7 = 4 := by kernel_rfl
theorem tyA7 : tyAgg Try.prog 7 = some true := by kernel_rfl
theorem tyY7 : tyBytes Try.prog 7 = 24 := by kernel_rfl
theorem tyZ7 : tyZero Try.prog 7 = some [.d (.i .i64 0), .d (.i .i64 0), .d (.b false), .d (.i .u8 0)] := by kernel_rfl
theorem tyW7 : tyZeroT Try.prog 7 = some [.i .i64 0, .i .i64 0, .b false, .i .u8 0] := by kernel_rfl
theorem tyO7_0 : tyOff Try.prog 7 0 = some 0 := by kernel_rfl
theorem tyO7_1 : tyOff Try.prog 7 1 = some 1 := by kernel_rfl
theorem tyO7_2 : tyOff Try.prog 7 2 = some 2 := by kernel_rfl
theorem tyO7_3 : tyOff Try.prog 7 3 = some 3 := by kernel_rfl
theorem tyF7 : tyFlds Try.prog 7 = some [(0, 1), (1, 1), (2, 1), (3, 1)] := by kernel_rfl
theorem tyS8 : tySize Try.prog 8 = 4 := by kernel_rfl
theorem tyA8 : tyAgg Try.prog 8 = some true := by kernel_rfl
theorem tyY8 : tyBytes Try.prog 8 = 24 := by kernel_rfl
theorem tyZ8 : tyZero Try.prog 8 = some [.d (.i .i64 0), .d (.i .i64 0), .d (.b false), .d (.i .u8 0)] := by kernel_rfl
theorem tyW8 : tyZeroT Try.prog 8 = some [.i .i64 0, .i .i64 0, .b false, .i .u8 0] := by kernel_rfl
theorem tyO8_0 : tyOff Try.prog 8 0 = some 0 := by kernel_rfl
theorem tyO8_1 : tyOff Try.prog 8 1 = some 1 := by kernel_rfl
theorem tyO8_2 : tyOff Try.prog 8 2 = some 2 := by kernel_rfl
theorem tyO8_3 : tyOff Try.prog 8 3 = some 3 := by kernel_rfl
theorem tyF8 : tyFlds Try.prog 8 = some [(0, 1), (1, 1), (2, 1), (3, 1)] := by kernel_rfl
theorem tyS9 : tySize Try.prog 9 = 1 := by kernel_rfl
theorem tyA9 : tyAgg Try.prog 9 = some false := by kernel_rfl
theorem tyT9 : tyStr Try.prog 9 = true := by kernel_rfl
theorem tyY9 : tyBytes Try.prog 9 = 16 := by kernel_rfl
theorem tyZ9 : tyZero Try.prog 9 = some [.d (.s ⟨#[]⟩)] := by kernel_rfl
theorem tyW9 : tyZeroT Try.prog 9 = some [.s ⟨#[]⟩] := by kernel_rfl
theorem tyS10 : tySize Try.prog 10 = 1 := by kernel_rfl
theorem tyA10 : tyAgg Try.prog 10 = some false := by kernel_rfl
theorem tyT10 : tyStr Try.prog 10 = true := by kernel_rfl
theorem tyY10 : tyBytes Try.prog 10 = 16 := by kernel_rfl
theorem tyZ10 : tyZero Try.prog 10 = some [.d (.s ⟨#[]⟩)] := by kernel_rfl
theorem tyW10 : tyZeroT Try.prog 10 = some [.s ⟨#[]⟩] := by kernel_rfl
theorem tyS11 : tySize Try.prog 11 = 1 := by kernel_rfl
theorem tyA11 : tyAgg Try.prog 11 = some false := by kernel_rfl
theorem tyT11 : tyStr Try.prog 11 = true := by kernel_rfl
theorem tyY11 : tyBytes Try.prog 11 = 16 := by kernel_rfl
theorem tyZ11 : tyZero Try.prog 11 = some [.d (.s ⟨#[]⟩)] := by kernel_rfl
theorem tyW11 : tyZeroT Try.prog 11 = some [.s ⟨#[]⟩] := by kernel_rfl
theorem tyS12 : tySize Try.prog 12 = 1 := by kernel_rfl
theorem tyA12 : tyAgg Try.prog 12 = some false := by kernel_rfl
theorem tyI12 : tyInt Try.prog 12 = some .u64 := by kernel_rfl
theorem tyY12 : tyBytes Try.prog 12 = 8 := by kernel_rfl
theorem tyZ12 : tyZero Try.prog 12 = some [.d (.i .u64 0)] := by kernel_rfl
theorem tyW12 : tyZeroT Try.prog 12 = some [.i .u64 0] := by kernel_rfl
theorem tyS13 : tySize Try.prog 13 = 2 := by kernel_rfl
theorem tyA13 : tyAgg Try.prog 13 = some true := by kernel_rfl
theorem tyY13 : tyBytes Try.prog 13 = 24 := by kernel_rfl
theorem tyZ13 : tyZero Try.prog 13 = some [.d (.s ⟨#[]⟩), .d (.i .u64 0)] := by kernel_rfl
theorem tyW13 : tyZeroT Try.prog 13 = some [.s ⟨#[]⟩, .i .u64 0] := by kernel_rfl
theorem tyO13_0 : tyOff Try.prog 13 0 = some 0 := by kernel_rfl
theorem tyO13_1 : tyOff Try.prog 13 1 = some 1 := by kernel_rfl
theorem tyF13 : tyFlds Try.prog 13 = some [(0, 1), (1, 1)] := by kernel_rfl
theorem tyS14 : tySize Try.prog 14 = 2 := by kernel_rfl
theorem tyA14 : tyAgg Try.prog 14 = some true := by kernel_rfl
theorem tyY14 : tyBytes Try.prog 14 = 24 := by kernel_rfl
theorem tyZ14 : tyZero Try.prog 14 = some [.d (.s ⟨#[]⟩), .d (.i .u64 0)] := by kernel_rfl
theorem tyW14 : tyZeroT Try.prog 14 = some [.s ⟨#[]⟩, .i .u64 0] := by kernel_rfl
theorem tyO14_0 : tyOff Try.prog 14 0 = some 0 := by kernel_rfl
theorem tyO14_1 : tyOff Try.prog 14 1 = some 1 := by kernel_rfl
theorem tyF14 : tyFlds Try.prog 14 = some [(0, 1), (1, 1)] := by kernel_rfl
theorem tyS15 : tySize Try.prog 15 = 1 := by kernel_rfl
theorem tyA15 : tyAgg Try.prog 15 = some false := by kernel_rfl
theorem tyZ15 : tyZero Try.prog 15 = some [.unk] := by kernel_rfl
theorem tyS16 : tySize Try.prog 16 = 1 := by kernel_rfl
theorem tyA16 : tyAgg Try.prog 16 = some false := by kernel_rfl
theorem tyZ16 : tyZero Try.prog 16 = some [.unk] := by kernel_rfl
theorem tyS17 : tySize Try.prog 17 = 1 := by kernel_rfl
theorem tyA17 : tyAgg Try.prog 17 = some false := by kernel_rfl
theorem tyZ17 : tyZero Try.prog 17 = some [.unk] := by kernel_rfl
theorem tyS18 : tySize Try.prog 18 = 1 := by kernel_rfl
theorem tyA18 : tyAgg Try.prog 18 = some true := by kernel_rfl
theorem tyY18 : tyBytes Try.prog 18 = 8 := by kernel_rfl
theorem tyZ18 : tyZero Try.prog 18 = some [.unk] := by kernel_rfl
theorem tyO18_0 : tyOff Try.prog 18 0 = some 0 := by kernel_rfl
theorem tyF18 : tyFlds Try.prog 18 = some [(0, 1)] := by kernel_rfl
theorem tyS19 : tySize Try.prog 19 = 1 := by kernel_rfl
theorem tyA19 : tyAgg Try.prog 19 = some true := by kernel_rfl
theorem tyY19 : tyBytes Try.prog 19 = 8 := by kernel_rfl
theorem tyZ19 : tyZero Try.prog 19 = some [.unk] := by kernel_rfl
theorem tyO19_0 : tyOff Try.prog 19 0 = some 0 := by kernel_rfl
theorem tyF19 : tyFlds Try.prog 19 = some [(0, 1)] := by kernel_rfl
theorem tyS21 : tySize Try.prog 21 = 1 := by kernel_rfl
theorem tyA21 : tyAgg Try.prog 21 = some false := by kernel_rfl
theorem tyI21 : tyInt Try.prog 21 = some .i32 := by kernel_rfl
theorem tyY21 : tyBytes Try.prog 21 = 4 := by kernel_rfl
theorem tyZ21 : tyZero Try.prog 21 = some [.d (.i .i32 0)] := by kernel_rfl
theorem tyW21 : tyZeroT Try.prog 21 = some [.i .i32 0] := by kernel_rfl
theorem tyS22 : tySize Try.prog 22 = 1 := by kernel_rfl
theorem tyA22 : tyAgg Try.prog 22 = some false := by kernel_rfl
theorem tyE22 : tyElem Try.prog 22 = some 9 := by kernel_rfl
theorem tyI22 : tyInt Try.prog 22 = none := by kernel_rfl
theorem tyT22 : tyStr Try.prog 22 = false := by kernel_rfl
theorem tyY22 : tyBytes Try.prog 22 = 24 := by kernel_rfl
theorem tyZ22 : tyZero Try.prog 22 = some [.nl] := by kernel_rfl
theorem tyW22 : tyZeroT Try.prog 22 = some [.sl .any []] := by kernel_rfl
theorem tyS23 : tySize Try.prog 23 = 1 := by kernel_rfl
theorem tyA23 : tyAgg Try.prog 23 = some false := by kernel_rfl
theorem tyE23 : tyElem Try.prog 23 = some 61 := by kernel_rfl
theorem tyI23 : tyInt Try.prog 23 = none := by kernel_rfl
theorem tyT23 : tyStr Try.prog 23 = false := by kernel_rfl
theorem tyY23 : tyBytes Try.prog 23 = 24 := by kernel_rfl
theorem tyZ23 : tyZero Try.prog 23 = some [.nl] := by kernel_rfl
theorem tyW23 : tyZeroT Try.prog 23 = some [.sl .any []] := by kernel_rfl
theorem tyS24 : tySize Try.prog 24 = 5 := by kernel_rfl
theorem tyA24 : tyAgg Try.prog 24 = some true := by kernel_rfl
theorem tyY24 : tyBytes Try.prog 24 = 88 := by kernel_rfl
theorem tyZ24 : tyZero Try.prog 24 = some [.d (.i .i64 0), .d (.s ⟨#[]⟩), .nl, .d (.s ⟨#[]⟩), .nl] := by kernel_rfl
theorem tyW24 : tyZeroT Try.prog 24 = some [.i .i64 0, .s ⟨#[]⟩, .sl .any [], .s ⟨#[]⟩, .sl .any []] := by kernel_rfl
theorem tyO24_0 : tyOff Try.prog 24 0 = some 0 := by kernel_rfl
theorem tyO24_1 : tyOff Try.prog 24 1 = some 1 := by kernel_rfl
theorem tyO24_2 : tyOff Try.prog 24 2 = some 2 := by kernel_rfl
theorem tyO24_3 : tyOff Try.prog 24 3 = some 3 := by kernel_rfl
theorem tyO24_4 : tyOff Try.prog 24 4 = some 4 := by kernel_rfl
theorem tyF24 : tyFlds Try.prog 24 = some [(0, 1), (1, 1), (2, 1), (3, 1), (4, 1)] := by kernel_rfl
theorem tyS25 : tySize Try.prog 25 = 5 := by kernel_rfl
theorem tyA25 : tyAgg Try.prog 25 = some true := by kernel_rfl
theorem tyY25 : tyBytes Try.prog 25 = 88 := by kernel_rfl
theorem tyZ25 : tyZero Try.prog 25 = some [.d (.i .i64 0), .d (.s ⟨#[]⟩), .nl, .d (.s ⟨#[]⟩), .nl] := by kernel_rfl
theorem tyW25 : tyZeroT Try.prog 25 = some [.i .i64 0, .s ⟨#[]⟩, .sl .any [], .s ⟨#[]⟩, .sl .any []] := by kernel_rfl
theorem tyO25_0 : tyOff Try.prog 25 0 = some 0 := by kernel_rfl
theorem tyO25_1 : tyOff Try.prog 25 1 = some 1 := by kernel_rfl
theorem tyO25_2 : tyOff Try.prog 25 2 = some 2 := by kernel_rfl
theorem tyO25_3 : tyOff Try.prog 25 3 = some 3 := by kernel_rfl
theorem tyO25_4 : tyOff Try.prog 25 4 = some 4 := by kernel_rfl
theorem tyF25 : tyFlds Try.prog 25 = some [(0, 1), (1, 1), (2, 1), (3, 1), (4, 1)] := by kernel_rfl
theorem tyS26 : tySize Try.prog 26 = 1 := by kernel_rfl
theorem tyA26 : tyAgg Try.prog 26 = some false := by kernel_rfl
theorem tyS27 : tySize Try.prog 27 = 1 := by kernel_rfl
theorem tyA27 : tyAgg Try.prog 27 = some false := by kernel_rfl
theorem tyS28 : tySize Try.prog 28 = 1 := by kernel_rfl
theorem tyA28 : tyAgg Try.prog 28 = some false := by kernel_rfl
theorem tyE28 : tyElem Try.prog 28 = some 45 := by kernel_rfl
theorem tyI28 : tyInt Try.prog 28 = none := by kernel_rfl
theorem tyT28 : tyStr Try.prog 28 = false := by kernel_rfl
theorem tyY28 : tyBytes Try.prog 28 = 24 := by kernel_rfl
theorem tyZ28 : tyZero Try.prog 28 = some [.nl] := by kernel_rfl
theorem tyW28 : tyZeroT Try.prog 28 = some [.sl .any []] := by kernel_rfl
theorem tyS29 : tySize Try.prog 29 = 5 := by kernel_rfl
theorem tyA29 : tyAgg Try.prog 29 = some true := by kernel_rfl
theorem tyY29 : tyBytes Try.prog 29 = 88 := by kernel_rfl
theorem tyZ29 : tyZero Try.prog 29 = some [.d (.i .i64 0), .d (.s ⟨#[]⟩), .nl, .d (.s ⟨#[]⟩), .nl] := by kernel_rfl
theorem tyW29 : tyZeroT Try.prog 29 = some [.i .i64 0, .s ⟨#[]⟩, .sl .any [], .s ⟨#[]⟩, .sl .any []] := by kernel_rfl
theorem tyO29_0 : tyOff Try.prog 29 0 = some 0 := by kernel_rfl
theorem tyO29_1 : tyOff Try.prog 29 1 = some 1 := by kernel_rfl
theorem tyO29_2 : tyOff Try.prog 29 2 = some 2 := by kernel_rfl
theorem tyO29_3 : tyOff Try.prog 29 3 = some 3 := by kernel_rfl
theorem tyO29_4 : tyOff Try.prog 29 4 = some 4 := by kernel_rfl
theorem tyF29 : tyFlds Try.prog 29 = some [(0, 1), (1, 1), (2, 1), (3, 1), (4, 1)] := by kernel_rfl
theorem tyS30 : tySize Try.prog 30 = 5 := by kernel_rfl
theorem tyA30 : tyAgg Try.prog 30 = some true := by kernel_rfl
theorem tyY30 : tyBytes Try.prog 30 = 88 := by kernel_rfl
theorem tyZ30 : tyZero Try.prog 30 = some [.d (.i .i64 0), .d (.s ⟨#[]⟩), .nl, .d (.s ⟨#[]⟩), .nl] := by kernel_rfl
theorem tyW30 : tyZeroT Try.prog 30 = some [.i .i64 0, .s ⟨#[]⟩, .sl .any [], .s ⟨#[]⟩, .sl .any []] := by kernel_rfl
theorem tyO30_0 : tyOff Try.prog 30 0 = some 0 := by kernel_rfl
theorem tyO30_1 : tyOff Try.prog 30 1 = some 1 := by kernel_rfl
theorem tyO30_2 : tyOff Try.prog 30 2 = some 2 := by kernel_rfl
theorem tyO30_3 : tyOff Try.prog 30 3 = some 3 := by kernel_rfl
theorem tyO30_4 : tyOff Try.prog 30 4 = some 4 := by kernel_rfl
theorem tyF30 : tyFlds Try.prog 30 = some [(0, 1), (1, 1), (2, 1), (3, 1), (4, 1)] := by kernel_rfl
theorem tyS31 : tySize Try.prog 31 = 1 := by kernel_rfl
theorem tyA31 : tyAgg Try.prog 31 = some false := by kernel_rfl
theorem tyS32 : tySize Try.prog 32 = 1 := by kernel_rfl
theorem tyA32 : tyAgg Try.prog 32 = some false := by kernel_rfl
theorem tyS33 : tySize Try.prog 33 = 1 := by kernel_rfl
theorem tyA33 : tyAgg Try.prog 33 = some false := by kernel_rfl
theorem tyS34 : tySize Try.prog 34 = 1 := by kernel_rfl
theorem tyA34 : tyAgg Try.prog 34 = some false := by kernel_rfl
theorem tyS35 : tySize Try.prog 35 = 1 := by kernel_rfl
theorem tyA35 : tyAgg Try.prog 35 = some false := by kernel_rfl
theorem tyS36 : tySize Try.prog 36 = 1 := by kernel_rfl
theorem tyA36 : tyAgg Try.prog 36 = some false := by kernel_rfl
theorem tyS37 : tySize Try.prog 37 = 2 := by kernel_rfl
theorem tyA37 : tyAgg Try.prog 37 = some true := by kernel_rfl
theorem tyY37 : tyBytes Try.prog 37 = 40 := by kernel_rfl
theorem tyZ37 : tyZero Try.prog 37 = some [.d (.s ⟨#[]⟩), .nl] := by kernel_rfl
theorem tyW37 : tyZeroT Try.prog 37 = some [.s ⟨#[]⟩, .sl .any []] := by kernel_rfl
theorem tyO37_0 : tyOff Try.prog 37 0 = some 0 := by kernel_rfl
theorem tyO37_1 : tyOff Try.prog 37 1 = some 1 := by kernel_rfl
theorem tyF37 : tyFlds Try.prog 37 = some [(0, 1), (1, 1)] := by kernel_rfl
theorem tyS38 : tySize Try.prog 38 = 2 := by kernel_rfl
theorem tyA38 : tyAgg Try.prog 38 = some true := by kernel_rfl
theorem tyY38 : tyBytes Try.prog 38 = 40 := by kernel_rfl
theorem tyZ38 : tyZero Try.prog 38 = some [.d (.s ⟨#[]⟩), .nl] := by kernel_rfl
theorem tyW38 : tyZeroT Try.prog 38 = some [.s ⟨#[]⟩, .sl .any []] := by kernel_rfl
theorem tyO38_0 : tyOff Try.prog 38 0 = some 0 := by kernel_rfl
theorem tyO38_1 : tyOff Try.prog 38 1 = some 1 := by kernel_rfl
theorem tyF38 : tyFlds Try.prog 38 = some [(0, 1), (1, 1)] := by kernel_rfl
theorem tyS39 : tySize Try.prog 39 = 1 := by kernel_rfl
theorem tyA39 : tyAgg Try.prog 39 = some false := by kernel_rfl
theorem tyE39 : tyElem Try.prog 39 = some 38 := by kernel_rfl
theorem tyI39 : tyInt Try.prog 39 = none := by kernel_rfl
theorem tyT39 : tyStr Try.prog 39 = false := by kernel_rfl
theorem tyY39 : tyBytes Try.prog 39 = 24 := by kernel_rfl
theorem tyZ39 : tyZero Try.prog 39 = some [.nl] := by kernel_rfl
theorem tyW39 : tyZeroT Try.prog 39 = some [.sl .any []] := by kernel_rfl
theorem tyS40 : tySize Try.prog 40 = 1 := by kernel_rfl
theorem tyA40 : tyAgg Try.prog 40 = some false := by kernel_rfl
theorem tyS41 : tySize Try.prog 41 = 1 := by kernel_rfl
theorem tyA41 : tyAgg Try.prog 41 = some false := by kernel_rfl
theorem tyE41 : tyElem Try.prog 41 = some 65 := by kernel_rfl
theorem tyI41 : tyInt Try.prog 41 = none := by kernel_rfl
theorem tyT41 : tyStr Try.prog 41 = false := by kernel_rfl
theorem tyY41 : tyBytes Try.prog 41 = 24 := by kernel_rfl
theorem tyZ41 : tyZero Try.prog 41 = some [.nl] := by kernel_rfl
theorem tyW41 : tyZeroT Try.prog 41 = some [.sl .any []] := by kernel_rfl
theorem tyS42 : tySize Try.prog 42 = 2 := by kernel_rfl
theorem tyA42 : tyAgg Try.prog 42 = some true := by kernel_rfl
theorem tyY42 : tyBytes Try.prog 42 = 32 := by kernel_rfl
theorem tyZ42 : tyZero Try.prog 42 = some [.d (.i .i64 0), .nl] := by kernel_rfl
theorem tyW42 : tyZeroT Try.prog 42 = some [.i .i64 0, .sl .any []] := by kernel_rfl
theorem tyO42_0 : tyOff Try.prog 42 0 = some 0 := by kernel_rfl
theorem tyO42_1 : tyOff Try.prog 42 1 = some 1 := by kernel_rfl
theorem tyF42 : tyFlds Try.prog 42 = some [(0, 1), (1, 1)] := by kernel_rfl
theorem tyS43 : tySize Try.prog 43 = 2 := by kernel_rfl
theorem tyA43 : tyAgg Try.prog 43 = some true := by kernel_rfl
theorem tyY43 : tyBytes Try.prog 43 = 32 := by kernel_rfl
theorem tyZ43 : tyZero Try.prog 43 = some [.d (.i .i64 0), .nl] := by kernel_rfl
theorem tyW43 : tyZeroT Try.prog 43 = some [.i .i64 0, .sl .any []] := by kernel_rfl
theorem tyO43_0 : tyOff Try.prog 43 0 = some 0 := by kernel_rfl
theorem tyO43_1 : tyOff Try.prog 43 1 = some 1 := by kernel_rfl
theorem tyF43 : tyFlds Try.prog 43 = some [(0, 1), (1, 1)] := by kernel_rfl
theorem tyS44 : tySize Try.prog 44 = 3 := by kernel_rfl
theorem tyA44 : tyAgg Try.prog 44 = some true := by kernel_rfl
theorem tyY44 : tyBytes Try.prog 44 = 48 := by kernel_rfl
theorem tyZ44 : tyZero Try.prog 44 = some [.d (.s ⟨#[]⟩), .d (.i .i64 0), .nl] := by kernel_rfl
theorem tyW44 : tyZeroT Try.prog 44 = some [.s ⟨#[]⟩, .i .i64 0, .sl .any []] := by kernel_rfl
theorem tyO44_0 : tyOff Try.prog 44 0 = some 0 := by kernel_rfl
theorem tyO44_1 : tyOff Try.prog 44 1 = some 1 := by kernel_rfl
theorem tyF44 : tyFlds Try.prog 44 = some [(0, 1), (1, 2)] := by kernel_rfl
theorem tyS45 : tySize Try.prog 45 = 3 := by kernel_rfl
theorem tyA45 : tyAgg Try.prog 45 = some true := by kernel_rfl
theorem tyY45 : tyBytes Try.prog 45 = 48 := by kernel_rfl
theorem tyZ45 : tyZero Try.prog 45 = some [.d (.s ⟨#[]⟩), .d (.i .i64 0), .nl] := by kernel_rfl
theorem tyW45 : tyZeroT Try.prog 45 = some [.s ⟨#[]⟩, .i .i64 0, .sl .any []] := by kernel_rfl
theorem tyO45_0 : tyOff Try.prog 45 0 = some 0 := by kernel_rfl
theorem tyO45_1 : tyOff Try.prog 45 1 = some 1 := by kernel_rfl
theorem tyF45 : tyFlds Try.prog 45 = some [(0, 1), (1, 2)] := by kernel_rfl
theorem tyS46 : tySize Try.prog 46 = 1 := by kernel_rfl
theorem tyA46 : tyAgg Try.prog 46 = some false := by kernel_rfl
theorem tyS47 : tySize Try.prog 47 = 1 := by kernel_rfl
theorem tyA47 : tyAgg Try.prog 47 = some false := by kernel_rfl
theorem tyS48 : tySize Try.prog 48 = 1 := by kernel_rfl
theorem tyA48 : tyAgg Try.prog 48 = some false := by kernel_rfl
theorem tyS49 : tySize Try.prog 49 = 1 := by kernel_rfl
theorem tyA49 : tyAgg Try.prog 49 = some false := by kernel_rfl
theorem tyS50 : tySize Try.prog 50 = 1 := by kernel_rfl
theorem tyA50 : tyAgg Try.prog 50 = some false := by kernel_rfl
theorem tyS51 : tySize Try.prog 51 = 1 := by kernel_rfl
theorem tyA51 : tyAgg Try.prog 51 = some false := by kernel_rfl
theorem tyS52 : tySize Try.prog 52 = 1 := by kernel_rfl
theorem tyA52 : tyAgg Try.prog 52 = some false := by kernel_rfl
theorem tyS53 : tySize Try.prog 53 = 1 := by kernel_rfl
theorem tyA53 : tyAgg Try.prog 53 = some false := by kernel_rfl
theorem tyS54 : tySize Try.prog 54 = 1 := by kernel_rfl
theorem tyA54 : tyAgg Try.prog 54 = some false := by kernel_rfl
theorem tyS55 : tySize Try.prog 55 = 1 := by kernel_rfl
theorem tyA55 : tyAgg Try.prog 55 = some false := by kernel_rfl
theorem tyS56 : tySize Try.prog 56 = 1 := by kernel_rfl
theorem tyA56 : tyAgg Try.prog 56 = some false := by kernel_rfl
theorem tyS57 : tySize Try.prog 57 = 1 := by kernel_rfl
theorem tyA57 : tyAgg Try.prog 57 = some false := by kernel_rfl
theorem tyE57 : tyElem Try.prog 57 = some 102 := by kernel_rfl
theorem tyI57 : tyInt Try.prog 57 = none := by kernel_rfl
theorem tyT57 : tyStr Try.prog 57 = false := by kernel_rfl
theorem tyY57 : tyBytes Try.prog 57 = 24 := by kernel_rfl
theorem tyZ57 : tyZero Try.prog 57 = some [.nl] := by kernel_rfl
theorem tyW57 : tyZeroT Try.prog 57 = some [.sl .any []] := by kernel_rfl
theorem tyS58 : tySize Try.prog 58 = 2 := by kernel_rfl
theorem tyA58 : tyAgg Try.prog 58 = some true := by kernel_rfl
theorem tyY58 : tyBytes Try.prog 58 = 32 := by kernel_rfl
theorem tyZ58 : tyZero Try.prog 58 = some [.d (.i .i64 0), .nl] := by kernel_rfl
theorem tyW58 : tyZeroT Try.prog 58 = some [.i .i64 0, .sl .any []] := by kernel_rfl
theorem tyO58_0 : tyOff Try.prog 58 0 = some 0 := by kernel_rfl
theorem tyO58_1 : tyOff Try.prog 58 1 = some 1 := by kernel_rfl
theorem tyF58 : tyFlds Try.prog 58 = some [(0, 1), (1, 1)] := by kernel_rfl
theorem tyS59 : tySize Try.prog 59 = 2 := by kernel_rfl
theorem tyA59 : tyAgg Try.prog 59 = some true := by kernel_rfl
theorem tyY59 : tyBytes Try.prog 59 = 32 := by kernel_rfl
theorem tyZ59 : tyZero Try.prog 59 = some [.d (.i .i64 0), .nl] := by kernel_rfl
theorem tyW59 : tyZeroT Try.prog 59 = some [.i .i64 0, .sl .any []] := by kernel_rfl
theorem tyO59_0 : tyOff Try.prog 59 0 = some 0 := by kernel_rfl
theorem tyO59_1 : tyOff Try.prog 59 1 = some 1 := by kernel_rfl
theorem tyF59 : tyFlds Try.prog 59 = some [(0, 1), (1, 1)] := by kernel_rfl
theorem tyS60 : tySize Try.prog 60 = 3 := by kernel_rfl
theorem tyA60 : tyAgg Try.prog 60 = some true := by kernel_rfl
theorem tyY60 : tyBytes Try.prog 60 = 48 := by kernel_rfl
theorem tyZ60 : tyZero Try.prog 60 = some [.d (.s ⟨#[]⟩), .d (.i .i64 0), .nl] := by kernel_rfl
theorem tyW60 : tyZeroT Try.prog 60 = some [.s ⟨#[]⟩, .i .i64 0, .sl .any []] := by kernel_rfl
theorem tyO60_0 : tyOff Try.prog 60 0 = some 0 := by kernel_rfl
theorem tyO60_1 : tyOff Try.prog 60 1 = some 1 := by kernel_rfl
theorem tyF60 : tyFlds Try.prog 60 = some [(0, 1), (1, 2)] := by kernel_rfl
theorem tyS61 : tySize Try.prog 61 = 3 := by kernel_rfl
theorem tyA61 : tyAgg Try.prog 61 = some true := by kernel_rfl
theorem tyY61 : tyBytes Try.prog 61 = 48 := by kernel_rfl
theorem tyZ61 : tyZero Try.prog 61 = some [.d (.s ⟨#[]⟩), .d (.i .i64 0), .nl] := by kernel_rfl
theorem tyW61 : tyZeroT Try.prog 61 = some [.s ⟨#[]⟩, .i .i64 0, .sl .any []] := by kernel_rfl
theorem tyO61_0 : tyOff Try.prog 61 0 = some 0 := by kernel_rfl
theorem tyO61_1 : tyOff Try.prog 61 1 = some 1 := by kernel_rfl
theorem tyF61 : tyFlds Try.prog 61 = some [(0, 1), (1, 2)] := by kernel_rfl
theorem tyS62 : tySize Try.prog 62 = 1 := by kernel_rfl
theorem tyA62 : tyAgg Try.prog 62 = some false := by kernel_rfl
theorem tyS63 : tySize Try.prog 63 = 1 := by kernel_rfl
theorem tyA63 : tyAgg Try.prog 63 = some false := by kernel_rfl
theorem tyE63 : tyElem Try.prog 63 = some 80 := by kernel_rfl
theorem tyI63 : tyInt Try.prog 63 = none := by kernel_rfl
theorem tyT63 : tyStr Try.prog 63 = false := by kernel_rfl
theorem tyY63 : tyBytes Try.prog 63 = 24 := by kernel_rfl
theorem tyZ63 : tyZero Try.prog 63 = some [.nl] := by kernel_rfl
theorem tyW63 : tyZeroT Try.prog 63 = some [.sl .any []] := by kernel_rfl
theorem tyS64 : tySize Try.prog 64 = 2 := by kernel_rfl
theorem tyA64 : tyAgg Try.prog 64 = some true := by kernel_rfl
theorem tyY64 : tyBytes Try.prog 64 = 32 := by kernel_rfl
theorem tyZ64 : tyZero Try.prog 64 = some [.nl, .d (.i .i64 0)] := by kernel_rfl
theorem tyW64 : tyZeroT Try.prog 64 = some [.sl .any [], .i .i64 0] := by kernel_rfl
theorem tyO64_0 : tyOff Try.prog 64 0 = some 0 := by kernel_rfl
theorem tyO64_1 : tyOff Try.prog 64 1 = some 1 := by kernel_rfl
theorem tyF64 : tyFlds Try.prog 64 = some [(0, 1), (1, 1)] := by kernel_rfl
theorem tyS65 : tySize Try.prog 65 = 2 := by kernel_rfl
theorem tyA65 : tyAgg Try.prog 65 = some true := by kernel_rfl
theorem tyY65 : tyBytes Try.prog 65 = 32 := by kernel_rfl
theorem tyZ65 : tyZero Try.prog 65 = some [.nl, .d (.i .i64 0)] := by kernel_rfl
theorem tyW65 : tyZeroT Try.prog 65 = some [.sl .any [], .i .i64 0] := by kernel_rfl
theorem tyO65_0 : tyOff Try.prog 65 0 = some 0 := by kernel_rfl
theorem tyO65_1 : tyOff Try.prog 65 1 = some 1 := by kernel_rfl
theorem tyF65 : tyFlds Try.prog 65 = some [(0, 1), (1, 1)] := by kernel_rfl
theorem tyS66 : tySize Try.prog 66 = 1 := by kernel_rfl
theorem tyA66 : tyAgg Try.prog 66 = some false := by kernel_rfl
theorem tyS67 : tySize Try.prog 67 = 1 := by kernel_rfl
theorem tyA67 : tyAgg Try.prog 67 = some false := by kernel_rfl
theorem tyS68 : tySize Try.prog 68 = 1 := by kernel_rfl
theorem tyA68 : tyAgg Try.prog 68 = some false := by kernel_rfl
theorem tyS69 : tySize Try.prog 69 = 1 := by kernel_rfl
theorem tyA69 : tyAgg Try.prog 69 = some false := by kernel_rfl
theorem tyS70 : tySize Try.prog 70 = 1 := by kernel_rfl
theorem tyA70 : tyAgg Try.prog 70 = some false := by kernel_rfl
theorem tyS71 : tySize Try.prog 71 = 1 := by kernel_rfl
theorem tyA71 : tyAgg Try.prog 71 = some false := by kernel_rfl
theorem tyE71 : tyElem Try.prog 71 = some 5 := by kernel_rfl
theorem tyI71 : tyInt Try.prog 71 = none := by kernel_rfl
theorem tyT71 : tyStr Try.prog 71 = false := by kernel_rfl
theorem tyY71 : tyBytes Try.prog 71 = 24 := by kernel_rfl
theorem tyZ71 : tyZero Try.prog 71 = some [.nl] := by kernel_rfl
theorem tyW71 : tyZeroT Try.prog 71 = some [.sl .any []] := by kernel_rfl
theorem tyS72 : tySize Try.prog 72 = 1 := by kernel_rfl
theorem tyA72 : tyAgg Try.prog 72 = some false := by kernel_rfl
theorem tyS73 : tySize Try.prog 73 = 1 := by kernel_rfl
theorem tyA73 : tyAgg Try.prog 73 = some false := by kernel_rfl
theorem tyS74 : tySize Try.prog 74 = 1 := by kernel_rfl
theorem tyA74 : tyAgg Try.prog 74 = some false := by kernel_rfl
theorem tyS75 : tySize Try.prog 75 = 1 := by kernel_rfl
theorem tyA75 : tyAgg Try.prog 75 = some false := by kernel_rfl
theorem tyS76 : tySize Try.prog 76 = 1 := by kernel_rfl
theorem tyA76 : tyAgg Try.prog 76 = some false := by kernel_rfl
theorem tyS77 : tySize Try.prog 77 = 1 := by kernel_rfl
theorem tyA77 : tyAgg Try.prog 77 = some false := by kernel_rfl
theorem tyS78 : tySize Try.prog 78 = 1 := by kernel_rfl
theorem tyA78 : tyAgg Try.prog 78 = some false := by kernel_rfl
theorem tyS79 : tySize Try.prog 79 = 3 := by kernel_rfl
theorem tyA79 : tyAgg Try.prog 79 = some true := by kernel_rfl
theorem tyY79 : tyBytes Try.prog 79 = 32 := by kernel_rfl
theorem tyZ79 : tyZero Try.prog 79 = some [.d (.i .i64 0), .d (.i .i64 0), .d (.s ⟨#[]⟩)] := by kernel_rfl
theorem tyW79 : tyZeroT Try.prog 79 = some [.i .i64 0, .i .i64 0, .s ⟨#[]⟩] := by kernel_rfl
theorem tyO79_0 : tyOff Try.prog 79 0 = some 0 := by kernel_rfl
theorem tyO79_1 : tyOff Try.prog 79 1 = some 1 := by kernel_rfl
theorem tyO79_2 : tyOff Try.prog 79 2 = some 2 := by kernel_rfl
theorem tyF79 : tyFlds Try.prog 79 = some [(0, 1), (1, 1), (2, 1)] := by kernel_rfl
theorem tyS80 : tySize Try.prog 80 = 3 := by kernel_rfl
theorem tyA80 : tyAgg Try.prog 80 = some true := by kernel_rfl
theorem tyY80 : tyBytes Try.prog 80 = 32 := by kernel_rfl
theorem tyZ80 : tyZero Try.prog 80 = some [.d (.i .i64 0), .d (.i .i64 0), .d (.s ⟨#[]⟩)] := by kernel_rfl
theorem tyW80 : tyZeroT Try.prog 80 = some [.i .i64 0, .i .i64 0, .s ⟨#[]⟩] := by kernel_rfl
theorem tyO80_0 : tyOff Try.prog 80 0 = some 0 := by kernel_rfl
theorem tyO80_1 : tyOff Try.prog 80 1 = some 1 := by kernel_rfl
theorem tyO80_2 : tyOff Try.prog 80 2 = some 2 := by kernel_rfl
theorem tyF80 : tyFlds Try.prog 80 = some [(0, 1), (1, 1), (2, 1)] := by kernel_rfl
theorem tyP80 : tyPlain Try.prog 80 = some [.i, .i, .s] := by kernel_rfl
theorem tyS81 : tySize Try.prog 81 = 1 := by kernel_rfl
theorem tyA81 : tyAgg Try.prog 81 = some false := by kernel_rfl
theorem tyS82 : tySize Try.prog 82 = 1 := by kernel_rfl
theorem tyA82 : tyAgg Try.prog 82 = some false := by kernel_rfl
theorem tyS83 : tySize Try.prog 83 = 1 := by kernel_rfl
theorem tyA83 : tyAgg Try.prog 83 = some false := by kernel_rfl
theorem tyS84 : tySize Try.prog 84 = 1 := by kernel_rfl
theorem tyA84 : tyAgg Try.prog 84 = some false := by kernel_rfl
theorem tyS85 : tySize Try.prog 85 = 1 := by kernel_rfl
theorem tyA85 : tyAgg Try.prog 85 = some false := by kernel_rfl
theorem tyS86 : tySize Try.prog 86 = 1 := by kernel_rfl
theorem tyA86 : tyAgg Try.prog 86 = some false := by kernel_rfl
theorem tyS87 : tySize Try.prog 87 = 1 := by kernel_rfl
theorem tyA87 : tyAgg Try.prog 87 = some false := by kernel_rfl
theorem tyS88 : tySize Try.prog 88 = 1 := by kernel_rfl
theorem tyA88 : tyAgg Try.prog 88 = some false := by kernel_rfl
theorem tyS89 : tySize Try.prog 89 = 1 := by kernel_rfl
theorem tyA89 : tyAgg Try.prog 89 = some false := by kernel_rfl
theorem tyS90 : tySize Try.prog 90 = 1 := by kernel_rfl
theorem tyA90 : tyAgg Try.prog 90 = some false := by kernel_rfl
theorem tyS91 : tySize Try.prog 91 = 1 := by kernel_rfl
theorem tyA91 : tyAgg Try.prog 91 = some false := by kernel_rfl
theorem tyS92 : tySize Try.prog 92 = 1 := by kernel_rfl
theorem tyA92 : tyAgg Try.prog 92 = some false := by kernel_rfl
theorem tyS93 : tySize Try.prog 93 = 1 := by kernel_rfl
theorem tyA93 : tyAgg Try.prog 93 = some false := by kernel_rfl
theorem tyS94 : tySize Try.prog 94 = 1 := by kernel_rfl
theorem tyA94 : tyAgg Try.prog 94 = some false := by kernel_rfl
theorem tyI94 : tyInt Try.prog 94 = some .u64 := by kernel_rfl
theorem tyY94 : tyBytes Try.prog 94 = 8 := by kernel_rfl
theorem tyZ94 : tyZero Try.prog 94 = some [.d (.i .u64 0)] := by kernel_rfl
theorem tyW94 : tyZeroT Try.prog 94 = some [.i .u64 0] := by kernel_rfl
theorem tyS95 : tySize Try.prog 95 = 1 := by kernel_rfl
theorem tyA95 : tyAgg Try.prog 95 = some false := by kernel_rfl
theorem tyS96 : tySize Try.prog 96 = 1 := by kernel_rfl
theorem tyA96 : tyAgg Try.prog 96 = some false := by kernel_rfl
theorem tyS97 : tySize Try.prog 97 = 1 := by kernel_rfl
theorem tyA97 : tyAgg Try.prog 97 = some false := by kernel_rfl
theorem tyS98 : tySize Try.prog 98 = 1 := by kernel_rfl
theorem tyA98 : tyAgg Try.prog 98 = some false := by kernel_rfl
theorem tyS99 : tySize Try.prog 99 = 1 := by kernel_rfl
theorem tyA99 : tyAgg Try.prog 99 = some false := by kernel_rfl
theorem tyS100 : tySize Try.prog 100 = 1 := by kernel_rfl
theorem tyA100 : tyAgg Try.prog 100 = some false := by kernel_rfl
theorem tyE100 : tyElem Try.prog 100 = some 131 := by kernel_rfl
theorem tyI100 : tyInt Try.prog 100 = none := by kernel_rfl
theorem tyT100 : tyStr Try.prog 100 = false := by kernel_rfl
theorem tyY100 : tyBytes Try.prog 100 = 24 := by kernel_rfl
theorem tyZ100 : tyZero Try.prog 100 = some [.nl] := by kernel_rfl
theorem tyW100 : tyZeroT Try.prog 100 = some [.sl .any []] := by kernel_rfl
theorem tyS101 : tySize Try.prog 101 = 2 := by kernel_rfl
theorem tyA101 : tyAgg Try.prog 101 = some true := by kernel_rfl
theorem tyY101 : tyBytes Try.prog 101 = 32 := by kernel_rfl
theorem tyZ101 : tyZero Try.prog 101 = some [.nl, .d (.i .i64 0)] := by kernel_rfl
theorem tyW101 : tyZeroT Try.prog 101 = some [.sl .any [], .i .i64 0] := by kernel_rfl
theorem tyO101_0 : tyOff Try.prog 101 0 = some 0 := by kernel_rfl
theorem tyO101_1 : tyOff Try.prog 101 1 = some 1 := by kernel_rfl
theorem tyF101 : tyFlds Try.prog 101 = some [(0, 1), (1, 1)] := by kernel_rfl
theorem tyS102 : tySize Try.prog 102 = 2 := by kernel_rfl
theorem tyA102 : tyAgg Try.prog 102 = some true := by kernel_rfl
theorem tyY102 : tyBytes Try.prog 102 = 32 := by kernel_rfl
theorem tyZ102 : tyZero Try.prog 102 = some [.nl, .d (.i .i64 0)] := by kernel_rfl
theorem tyW102 : tyZeroT Try.prog 102 = some [.sl .any [], .i .i64 0] := by kernel_rfl
theorem tyO102_0 : tyOff Try.prog 102 0 = some 0 := by kernel_rfl
theorem tyO102_1 : tyOff Try.prog 102 1 = some 1 := by kernel_rfl
theorem tyF102 : tyFlds Try.prog 102 = some [(0, 1), (1, 1)] := by kernel_rfl
theorem tyS103 : tySize Try.prog 103 = 1 := by kernel_rfl
theorem tyA103 : tyAgg Try.prog 103 = some false := by kernel_rfl
theorem tyS104 : tySize Try.prog 104 = 1 := by kernel_rfl
theorem tyA104 : tyAgg Try.prog 104 = some false := by kernel_rfl
theorem tyS105 : tySize Try.prog 105 = 1 := by kernel_rfl
theorem tyA105 : tyAgg Try.prog 105 = some false := by kernel_rfl
theorem tyI105 : tyInt Try.prog 105 = some .i64 := by kernel_rfl
theorem tyY105 : tyBytes Try.prog 105 = 8 := by kernel_rfl
theorem tyZ105 : tyZero Try.prog 105 = some [.d (.i .i64 0)] := by kernel_rfl
theorem tyW105 : tyZeroT Try.prog 105 = some [.i .i64 0] := by kernel_rfl
theorem tyS107 : tySize Try.prog 107 = 1 := by kernel_rfl
theorem tyA107 : tyAgg Try.prog 107 = some false := by kernel_rfl
theorem tyS108 : tySize Try.prog 108 = 1 := by kernel_rfl
theorem tyA108 : tyAgg Try.prog 108 = some false := by kernel_rfl
theorem tyS109 : tySize Try.prog 109 = 1 := by kernel_rfl
theorem tyA109 : tyAgg Try.prog 109 = some false := by kernel_rfl
theorem tyS110 : tySize Try.prog 110 = 1 := by kernel_rfl
theorem tyA110 : tyAgg Try.prog 110 = some false := by kernel_rfl
theorem tyS112 : tySize Try.prog 112 = 1 := by kernel_rfl
theorem tyA112 : tyAgg Try.prog 112 = some false := by kernel_rfl
theorem tyS113 : tySize Try.prog 113 = 1 := by kernel_rfl
theorem tyA113 : tyAgg Try.prog 113 = some false := by kernel_rfl
theorem tyS114 : tySize Try.prog 114 = 1 := by kernel_rfl
theorem tyA114 : tyAgg Try.prog 114 = some false := by kernel_rfl
theorem tyI114 : tyInt Try.prog 114 = some .u32 := by kernel_rfl
theorem tyY114 : tyBytes Try.prog 114 = 4 := by kernel_rfl
theorem tyZ114 : tyZero Try.prog 114 = some [.d (.i .u32 0)] := by kernel_rfl
theorem tyW114 : tyZeroT Try.prog 114 = some [.i .u32 0] := by kernel_rfl
theorem tyS115 : tySize Try.prog 115 = 1 := by kernel_rfl
theorem tyA115 : tyAgg Try.prog 115 = some false := by kernel_rfl
theorem tyS116 : tySize Try.prog 116 = 1 := by kernel_rfl
theorem tyA116 : tyAgg Try.prog 116 = some false := by kernel_rfl
theorem tyI116 : tyInt Try.prog 116 = some .u64 := by kernel_rfl
theorem tyY116 : tyBytes Try.prog 116 = 8 := by kernel_rfl
theorem tyZ116 : tyZero Try.prog 116 = some [.d (.i .u64 0)] := by kernel_rfl
theorem tyW116 : tyZeroT Try.prog 116 = some [.i .u64 0] := by kernel_rfl
theorem tyS117 : tySize Try.prog 117 = 1 := by kernel_rfl
theorem tyA117 : tyAgg Try.prog 117 = some false := by kernel_rfl
theorem tyS118 : tySize Try.prog 118 = 1 := by kernel_rfl
theorem tyA118 : tyAgg Try.prog 118 = some false := by kernel_rfl
theorem tyE118 : tyElem Try.prog 118 = some 3 := by kernel_rfl
theorem tyI118 : tyInt Try.prog 118 = none := by kernel_rfl
theorem tyT118 : tyStr Try.prog 118 = false := by kernel_rfl
theorem tyY118 : tyBytes Try.prog 118 = 24 := by kernel_rfl
theorem tyZ118 : tyZero Try.prog 118 = some [.nl] := by kernel_rfl
theorem tyW118 : tyZeroT Try.prog 118 = some [.sl .any []] := by kernel_rfl
theorem tyS119 : tySize Try.prog 119 = 1 := by kernel_rfl
theorem tyA119 : tyAgg Try.prog 119 = some false := by kernel_rfl
theorem tyS120 : tySize Try.prog 120 = 1 := by kernel_rfl
theorem tyA120 : tyAgg Try.prog 120 = some false := by kernel_rfl
theorem tyS121 : tySize Try.prog 121 = 1 := by kernel_rfl
theorem tyA121 : tyAgg Try.prog 121 = some false := by kernel_rfl
theorem tyS122 : tySize Try.prog 122 = 1 := by kernel_rfl
theorem tyA122 : tyAgg Try.prog 122 = some false := by kernel_rfl
theorem tyS123 : tySize Try.prog 123 = 1 := by kernel_rfl
theorem tyA123 : tyAgg Try.prog 123 = some false := by kernel_rfl
theorem tyI123 : tyInt Try.prog 123 = some .u64 := by kernel_rfl
theorem tyY123 : tyBytes Try.prog 123 = 8 := by kernel_rfl
theorem tyZ123 : tyZero Try.prog 123 = some [.d (.i .u64 0)] := by kernel_rfl
theorem tyW123 : tyZeroT Try.prog 123 = some [.i .u64 0] := by kernel_rfl
theorem tyS124 : tySize Try.prog 124 = 1 := by kernel_rfl
theorem tyA124 : tyAgg Try.prog 124 = some false := by kernel_rfl
theorem tyS125 : tySize Try.prog 125 = 1 := by kernel_rfl
theorem tyA125 : tyAgg Try.prog 125 = some false := by kernel_rfl
theorem tyS126 : tySize Try.prog 126 = 1 := by kernel_rfl
theorem tyA126 : tyAgg Try.prog 126 = some false := by kernel_rfl
theorem tyS127 : tySize Try.prog 127 = 1 := by kernel_rfl
theorem tyA127 : tyAgg Try.prog 127 = some false := by kernel_rfl
theorem tyZ127 : tyZero Try.prog 127 = some [.unk] := by kernel_rfl
theorem tyS128 : tySize Try.prog 128 = 1 := by kernel_rfl
theorem tyA128 : tyAgg Try.prog 128 = some false := by kernel_rfl
theorem tyS129 : tySize Try.prog 129 = 1 := by kernel_rfl
theorem tyA129 : tyAgg Try.prog 129 = some false := by kernel_rfl
theorem tyS130 : tySize Try.prog 130 = 1 := by kernel_rfl
theorem tyA130 : tyAgg Try.prog 130 = some false := by kernel_rfl
theorem tyS131 : tySize Try.prog 131 = 3 := by kernel_rfl
theorem tyA131 : tyAgg Try.prog 131 = some true := by kernel_rfl
theorem tyY131 : tyBytes Try.prog 131 = 32 := by kernel_rfl
theorem tyZ131 : tyZero Try.prog 131 = some [.d (.i .i64 0), .d (.i .i64 0), .d (.s ⟨#[]⟩)] := by kernel_rfl
theorem tyW131 : tyZeroT Try.prog 131 = some [.i .i64 0, .i .i64 0, .s ⟨#[]⟩] := by kernel_rfl
theorem tyO131_0 : tyOff Try.prog 131 0 = some 0 := by kernel_rfl
theorem tyO131_1 : tyOff Try.prog 131 1 = some 1 := by kernel_rfl
theorem tyO131_2 : tyOff Try.prog 131 2 = some 2 := by kernel_rfl
theorem tyF131 : tyFlds Try.prog 131 = some [(0, 1), (1, 1), (2, 1)] := by kernel_rfl
theorem tyP131 : tyPlain Try.prog 131 = some [.i, .i, .s] := by kernel_rfl
theorem tyS132 : tySize Try.prog 132 = 1 := by kernel_rfl
theorem tyA132 : tyAgg Try.prog 132 = some false := by kernel_rfl
theorem tyS133 : tySize Try.prog 133 = 1 := by kernel_rfl
theorem tyA133 : tyAgg Try.prog 133 = some false := by kernel_rfl
theorem tyZ133 : tyZero Try.prog 133 = some [.unk] := by kernel_rfl
theorem tyS135 : tySize Try.prog 135 = 1 := by kernel_rfl
theorem tyA135 : tyAgg Try.prog 135 = some false := by kernel_rfl
theorem tyS136 : tySize Try.prog 136 = 1 := by kernel_rfl
theorem tyA136 : tyAgg Try.prog 136 = some false := by kernel_rfl
theorem tyS137 : tySize Try.prog 137 = 1 := by kernel_rfl
theorem tyA137 : tyAgg Try.prog 137 = some false := by kernel_rfl
theorem tyS138 : tySize Try.prog 138 = 4 := by kernel_rfl
theorem tyA138 : tyAgg Try.prog 138 = some true := by kernel_rfl
theorem tyY138 : tyBytes Try.prog 138 = 40 := by kernel_rfl
theorem tyZ138 : tyZero Try.prog 138 = some [.unk, .unk, .unk, .d (.s ⟨#[]⟩)] := by kernel_rfl
theorem tyO138_0 : tyOff Try.prog 138 0 = some 0 := by kernel_rfl
theorem tyO138_1 : tyOff Try.prog 138 1 = some 1 := by kernel_rfl
theorem tyO138_2 : tyOff Try.prog 138 2 = some 2 := by kernel_rfl
theorem tyO138_3 : tyOff Try.prog 138 3 = some 3 := by kernel_rfl
theorem tyF138 : tyFlds Try.prog 138 = some [(0, 1), (1, 1), (2, 1), (3, 1)] := by kernel_rfl
theorem tyS139 : tySize Try.prog 139 = 4 := by kernel_rfl
theorem tyA139 : tyAgg Try.prog 139 = some true := by kernel_rfl
theorem tyY139 : tyBytes Try.prog 139 = 40 := by kernel_rfl
theorem tyZ139 : tyZero Try.prog 139 = some [.unk, .unk, .unk, .d (.s ⟨#[]⟩)] := by kernel_rfl
theorem tyO139_0 : tyOff Try.prog 139 0 = some 0 := by kernel_rfl
theorem tyO139_1 : tyOff Try.prog 139 1 = some 1 := by kernel_rfl
theorem tyO139_2 : tyOff Try.prog 139 2 = some 2 := by kernel_rfl
theorem tyO139_3 : tyOff Try.prog 139 3 = some 3 := by kernel_rfl
theorem tyF139 : tyFlds Try.prog 139 = some [(0, 1), (1, 1), (2, 1), (3, 1)] := by kernel_rfl
theorem tyS140 : tySize Try.prog 140 = 0 := by kernel_rfl
theorem tyA140 : tyAgg Try.prog 140 = some true := by kernel_rfl
theorem tyZ140 : tyZero Try.prog 140 = some [] := by kernel_rfl
theorem tyW140 : tyZeroT Try.prog 140 = some [] := by kernel_rfl
theorem tyS141 : tySize Try.prog 141 = 0 := by kernel_rfl
theorem tyA141 : tyAgg Try.prog 141 = some true := by kernel_rfl
theorem tyY141 : tyBytes Try.prog 141 = 0 := by kernel_rfl
theorem tyZ141 : tyZero Try.prog 141 = some [] := by kernel_rfl
theorem tyW141 : tyZeroT Try.prog 141 = some [] := by kernel_rfl
theorem tyF141 : tyFlds Try.prog 141 = some [(0, 0)] := by kernel_rfl
theorem tyS142 : tySize Try.prog 142 = 0 := by kernel_rfl
theorem tyA142 : tyAgg Try.prog 142 = some true := by kernel_rfl
theorem tyY142 : tyBytes Try.prog 142 = 0 := by kernel_rfl
theorem tyZ142 : tyZero Try.prog 142 = some [] := by kernel_rfl
theorem tyW142 : tyZeroT Try.prog 142 = some [] := by kernel_rfl
theorem tyF142 : tyFlds Try.prog 142 = some [(0, 0)] := by kernel_rfl
theorem tyS143 : tySize Try.prog 143 = 1 := by kernel_rfl
theorem tyA143 : tyAgg Try.prog 143 = some false := by kernel_rfl
theorem tyS144 : tySize Try.prog 144 = 1 := by kernel_rfl
theorem tyA144 : tyAgg Try.prog 144 = some false := by kernel_rfl
theorem tyI144 : tyInt Try.prog 144 = some .u8 := by kernel_rfl
theorem tyY144 : tyBytes Try.prog 144 = 1 := by kernel_rfl
theorem tyZ144 : tyZero Try.prog 144 = some [.d (.i .u8 0)] := by kernel_rfl
theorem tyW144 : tyZeroT Try.prog 144 = some [.i .u8 0] := by kernel_rfl
theorem tyS145 : tySize Try.prog 145 = 1 := by kernel_rfl
theorem tyA145 : tyAgg Try.prog 145 = some false := by kernel_rfl
theorem tyI145 : tyInt Try.prog 145 = some .u8 := by kernel_rfl
theorem tyY145 : tyBytes Try.prog 145 = 1 := by kernel_rfl
theorem tyZ145 : tyZero Try.prog 145 = some [.d (.i .u8 0)] := by kernel_rfl
theorem tyW145 : tyZeroT Try.prog 145 = some [.i .u8 0] := by kernel_rfl
theorem tyS146 : tySize Try.prog 146 = 1 := by kernel_rfl
theorem tyA146 : tyAgg Try.prog 146 = some false := by kernel_rfl
theorem tyS147 : tySize Try.prog 147 = 1 := by kernel_rfl
theorem tyA147 : tyAgg Try.prog 147 = some false := by kernel_rfl
theorem tyZ147 : tyZero Try.prog 147 = some [.unk] := by kernel_rfl
theorem tyS148 : tySize Try.prog 148 = 1 := by kernel_rfl
theorem tyA148 : tyAgg Try.prog 148 = some false := by kernel_rfl
theorem tyI148 : tyInt Try.prog 148 = some .i32 := by kernel_rfl
theorem tyY148 : tyBytes Try.prog 148 = 4 := by kernel_rfl
theorem tyZ148 : tyZero Try.prog 148 = some [.d (.i .i32 0)] := by kernel_rfl
theorem tyW148 : tyZeroT Try.prog 148 = some [.i .i32 0] := by kernel_rfl
theorem tyS149 : tySize Try.prog 149 = 1 := by kernel_rfl
theorem tyA149 : tyAgg Try.prog 149 = some false := by kernel_rfl
theorem tyI149 : tyInt Try.prog 149 = some .i32 := by kernel_rfl
theorem tyY149 : tyBytes Try.prog 149 = 4 := by kernel_rfl
theorem tyZ149 : tyZero Try.prog 149 = some [.d (.i .i32 0)] := by kernel_rfl
theorem tyW149 : tyZeroT Try.prog 149 = some [.i .i32 0] := by kernel_rfl
theorem tyS150 : tySize Try.prog 150 = 11 := by kernel_rfl
theorem tyA150 : tyAgg Try.prog 150 = some true := by kernel_rfl
theorem tyY150 : tyBytes Try.prog 150 = 48 := by kernel_rfl
theorem tyZ150 : tyZero Try.prog 150 = some [.d (.i .u64 0), .d (.i .u64 0), .d (.i .u32 0), .d (.i .u8 0), .d (.i .u8 0), .d (.i .u8 0), .d (.i .u8 0), .unk, .unk, .d (.i .i32 0), .d (.i .i32 0)] := by kernel_rfl
theorem tyO150_0 : tyOff Try.prog 150 0 = some 0 := by kernel_rfl
theorem tyO150_1 : tyOff Try.prog 150 1 = some 1 := by kernel_rfl
theorem tyO150_2 : tyOff Try.prog 150 2 = some 2 := by kernel_rfl
theorem tyO150_3 : tyOff Try.prog 150 3 = some 3 := by kernel_rfl
theorem tyO150_4 : tyOff Try.prog 150 4 = some 4 := by kernel_rfl
theorem tyO150_5 : tyOff Try.prog 150 5 = some 5 := by kernel_rfl
theorem tyO150_6 : tyOff Try.prog 150 6 = some 6 := by kernel_rfl
theorem tyO150_7 : tyOff Try.prog 150 7 = some 7 := by kernel_rfl
theorem tyO150_8 : tyOff Try.prog 150 8 = some 8 := by kernel_rfl
theorem tyO150_9 : tyOff Try.prog 150 9 = some 9 := by kernel_rfl
theorem tyO150_10 : tyOff Try.prog 150 10 = some 10 := by kernel_rfl
theorem tyF150 : tyFlds Try.prog 150 = some [(0, 1), (1, 1), (2, 1), (3, 1), (4, 1), (5, 1), (6, 1), (7, 1), (8, 1), (9, 1), (10, 1)] := by kernel_rfl
theorem tyS151 : tySize Try.prog 151 = 11 := by kernel_rfl
theorem tyA151 : tyAgg Try.prog 151 = some true := by kernel_rfl
theorem tyY151 : tyBytes Try.prog 151 = 48 := by kernel_rfl
theorem tyZ151 : tyZero Try.prog 151 = some [.d (.i .u64 0), .d (.i .u64 0), .d (.i .u32 0), .d (.i .u8 0), .d (.i .u8 0), .d (.i .u8 0), .d (.i .u8 0), .unk, .unk, .d (.i .i32 0), .d (.i .i32 0)] := by kernel_rfl
theorem tyO151_0 : tyOff Try.prog 151 0 = some 0 := by kernel_rfl
theorem tyO151_1 : tyOff Try.prog 151 1 = some 1 := by kernel_rfl
theorem tyO151_2 : tyOff Try.prog 151 2 = some 2 := by kernel_rfl
theorem tyO151_3 : tyOff Try.prog 151 3 = some 3 := by kernel_rfl
theorem tyO151_4 : tyOff Try.prog 151 4 = some 4 := by kernel_rfl
theorem tyO151_5 : tyOff Try.prog 151 5 = some 5 := by kernel_rfl
theorem tyO151_6 : tyOff Try.prog 151 6 = some 6 := by kernel_rfl
theorem tyO151_7 : tyOff Try.prog 151 7 = some 7 := by kernel_rfl
theorem tyO151_8 : tyOff Try.prog 151 8 = some 8 := by kernel_rfl
theorem tyO151_9 : tyOff Try.prog 151 9 = some 9 := by kernel_rfl
theorem tyO151_10 : tyOff Try.prog 151 10 = some 10 := by kernel_rfl
theorem tyF151 : tyFlds Try.prog 151 = some [(0, 1), (1, 1), (2, 1), (3, 1), (4, 1), (5, 1), (6, 1), (7, 1), (8, 1), (9, 1), (10, 1)] := by kernel_rfl
theorem tyS152 : tySize Try.prog 152 = 1 := by kernel_rfl
theorem tyA152 : tyAgg Try.prog 152 = some false := by kernel_rfl
attribute [push_cast] tyS1 tyA1 tyS2 tyA2 tyI2 tyY2 tyZ2 tyW2 tyS3 tyA3 tyI3 tyY3 tyZ3 tyW3 tyS4 tyA4 tyB4 tyY4 tyZ4 tyW4 tyS5 tyA5 tyI5 tyY5 tyZ5 tyW5 tyS6 tyA6 tyI6 tyY6 tyZ6 tyW6 tyS7 tyA7 tyY7 tyZ7 tyW7 tyO7_0 tyO7_1 tyO7_2 tyO7_3 tyF7 tyS8 tyA8 tyY8 tyZ8 tyW8 tyO8_0 tyO8_1 tyO8_2 tyO8_3 tyF8 tyS9 tyA9 tyT9 tyY9 tyZ9 tyW9 tyS10 tyA10 tyT10 tyY10 tyZ10 tyW10 tyS11 tyA11 tyT11 tyY11 tyZ11 tyW11 tyS12 tyA12 tyI12 tyY12 tyZ12 tyW12 tyS13 tyA13 tyY13 tyZ13 tyW13 tyO13_0 tyO13_1 tyF13 tyS14 tyA14 tyY14 tyZ14 tyW14 tyO14_0 tyO14_1 tyF14 tyS15 tyA15 tyZ15 tyS16 tyA16 tyZ16 tyS17 tyA17 tyZ17 tyS18 tyA18 tyY18 tyZ18 tyO18_0 tyF18 tyS19 tyA19 tyY19 tyZ19 tyO19_0 tyF19 tyS21 tyA21 tyI21 tyY21 tyZ21 tyW21 tyS22 tyA22 tyE22 tyI22 tyT22 tyY22 tyZ22 tyW22 tyS23 tyA23 tyE23 tyI23 tyT23 tyY23 tyZ23 tyW23 tyS24 tyA24 tyY24 tyZ24 tyW24 tyO24_0 tyO24_1 tyO24_2 tyO24_3 tyO24_4 tyF24 tyS25 tyA25 tyY25 tyZ25 tyW25 tyO25_0 tyO25_1 tyO25_2 tyO25_3 tyO25_4 tyF25 tyS26 tyA26 tyS27 tyA27 tyS28 tyA28 tyE28 tyI28 tyT28 tyY28 tyZ28 tyW28 tyS29 tyA29 tyY29 tyZ29 tyW29 tyO29_0 tyO29_1 tyO29_2 tyO29_3 tyO29_4 tyF29 tyS30 tyA30 tyY30 tyZ30 tyW30 tyO30_0 tyO30_1 tyO30_2 tyO30_3 tyO30_4 tyF30 tyS31 tyA31 tyS32 tyA32 tyS33 tyA33 tyS34 tyA34 tyS35 tyA35 tyS36 tyA36 tyS37 tyA37 tyY37 tyZ37 tyW37 tyO37_0 tyO37_1 tyF37 tyS38 tyA38 tyY38 tyZ38 tyW38 tyO38_0 tyO38_1 tyF38 tyS39 tyA39 tyE39 tyI39 tyT39 tyY39 tyZ39 tyW39 tyS40 tyA40 tyS41 tyA41 tyE41 tyI41 tyT41 tyY41 tyZ41 tyW41 tyS42 tyA42 tyY42 tyZ42 tyW42 tyO42_0 tyO42_1 tyF42 tyS43 tyA43 tyY43 tyZ43 tyW43 tyO43_0 tyO43_1 tyF43 tyS44 tyA44 tyY44 tyZ44 tyW44 tyO44_0 tyO44_1 tyF44 tyS45 tyA45 tyY45 tyZ45 tyW45 tyO45_0 tyO45_1 tyF45 tyS46 tyA46 tyS47 tyA47 tyS48 tyA48 tyS49 tyA49 tyS50 tyA50 tyS51 tyA51 tyS52 tyA52 tyS53 tyA53 tyS54 tyA54 tyS55 tyA55 tyS56 tyA56 tyS57 tyA57 tyE57 tyI57 tyT57 tyY57 tyZ57 tyW57 tyS58 tyA58 tyY58 tyZ58 tyW58 tyO58_0 tyO58_1 tyF58 tyS59 tyA59 tyY59 tyZ59 tyW59 tyO59_0 tyO59_1 tyF59 tyS60 tyA60 tyY60 tyZ60 tyW60 tyO60_0 tyO60_1 tyF60 tyS61 tyA61 tyY61 tyZ61 tyW61 tyO61_0 tyO61_1 tyF61 tyS62 tyA62 tyS63 tyA63 tyE63 tyI63 tyT63 tyY63 tyZ63 tyW63 tyS64 tyA64 tyY64 tyZ64 tyW64 tyO64_0 tyO64_1 tyF64 tyS65 tyA65 tyY65 tyZ65 tyW65 tyO65_0 tyO65_1 tyF65 tyS66 tyA66 tyS67 tyA67 tyS68 tyA68 tyS69 tyA69 tyS70 tyA70 tyS71 tyA71 tyE71 tyI71 tyT71 tyY71 tyZ71 tyW71 tyS72 tyA72 tyS73 tyA73 tyS74 tyA74 tyS75 tyA75 tyS76 tyA76 tyS77 tyA77 tyS78 tyA78 tyS79 tyA79 tyY79 tyZ79 tyW79 tyO79_0 tyO79_1 tyO79_2 tyF79 tyS80 tyA80 tyY80 tyZ80 tyW80 tyO80_0 tyO80_1 tyO80_2 tyF80 tyP80 tyS81 tyA81 tyS82 tyA82 tyS83 tyA83 tyS84 tyA84 tyS85 tyA85 tyS86 tyA86 tyS87 tyA87 tyS88 tyA88 tyS89 tyA89 tyS90 tyA90 tyS91 tyA91 tyS92 tyA92 tyS93 tyA93 tyS94 tyA94 tyI94 tyY94 tyZ94 tyW94 tyS95 tyA95 tyS96 tyA96 tyS97 tyA97 tyS98 tyA98 tyS99 tyA99 tyS100 tyA100 tyE100 tyI100 tyT100 tyY100 tyZ100 tyW100 tyS101 tyA101 tyY101 tyZ101 tyW101 tyO101_0 tyO101_1 tyF101 tyS102 tyA102 tyY102 tyZ102 tyW102 tyO102_0 tyO102_1 tyF102 tyS103 tyA103 tyS104 tyA104 tyS105 tyA105 tyI105 tyY105 tyZ105 tyW105 tyS107 tyA107 tyS108 tyA108 tyS109 tyA109 tyS110 tyA110 tyS112 tyA112 tyS113 tyA113 tyS114 tyA114 tyI114 tyY114 tyZ114 tyW114 tyS115 tyA115 tyS116 tyA116 tyI116 tyY116 tyZ116 tyW116 tyS117 tyA117 tyS118 tyA118 tyE118 tyI118 tyT118 tyY118 tyZ118 tyW118 tyS119 tyA119 tyS120 tyA120 tyS121 tyA121 tyS122 tyA122 tyS123 tyA123 tyI123 tyY123 tyZ123 tyW123 tyS124 tyA124 tyS125 tyA125 tyS126 tyA126 tyS127 tyA127 tyZ127 tyS128 tyA128 tyS129 tyA129 tyS130 tyA130 tyS131 tyA131 tyY131 tyZ131 tyW131 tyO131_0 tyO131_1 tyO131_2 tyF131 tyP131 tyS132 tyA132 tyS133 tyA133 tyZ133 tyS135 tyA135 tyS136 tyA136 tyS137 tyA137 tyS138 tyA138 tyY138 tyZ138 tyO138_0 tyO138_1 tyO138_2 tyO138_3 tyF138 tyS139 tyA139 tyY139 tyZ139 tyO139_0 tyO139_1 tyO139_2 tyO139_3 tyF139 tyS140 tyA140 tyZ140 tyW140 tyS141 tyA141 tyY141 tyZ141 tyW141 tyF141 tyS142 tyA142 tyY142 tyZ142 tyW142 tyF142 tyS143 tyA143 tyS144 tyA144 tyI144 tyY144 tyZ144 tyW144 tyS145 tyA145 tyI145 tyY145 tyZ145 tyW145 tyS146 tyA146 tyS147 tyA147 tyZ147 tyS148 tyA148 tyI148 tyY148 tyZ148 tyW148 tyS149 tyA149 tyI149 tyY149 tyZ149 tyW149 tyS150 tyA150 tyY150 tyZ150 tyO150_0 tyO150_1 tyO150_2 tyO150_3 tyO150_4 tyO150_5 tyO150_6 tyO150_7 tyO150_8 tyO150_9 tyO150_10 tyF150 tyS151 tyA151 tyY151 tyZ151 tyO151_0 tyO151_1 tyO151_2 tyO151_3 tyO151_4 tyO151_5 tyO151_6 tyO151_7 tyO151_8 tyO151_9 tyO151_10 tyF151 tyS152 tyA152
end Go.Av
end
