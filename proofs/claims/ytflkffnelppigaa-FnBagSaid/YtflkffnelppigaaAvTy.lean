/- Facts on the types of this seat, each by the kernel. -/
import Derived.Test.YtflkffnelppigaaAvE
import Derived.Test.YtflkffnelppigaaProg
import Derived.KernelRfl
set_option linter.all false
set_option linter.unusedVariables false
set_option linter.unusedSimpArgs false

section
namespace Go.Av
open Go.Proofs
theorem tyS1 : tySize Try.prog 1 = 1 := by kernel_rfl
theorem tyA1 : tyAgg Try.prog 1 = some false := by kernel_rfl
theorem tyS2 : tySize Try.prog 2 = 1 := by kernel_rfl
theorem tyA2 : tyAgg Try.prog 2 = some false := by kernel_rfl
theorem tyG2 : tyTag Try.prog 2 = none := by kernel_rfl
theorem tyI2 : tyInt Try.prog 2 = some .i64 := by kernel_rfl
theorem tyY2 : tyBytes Try.prog 2 = 8 := by kernel_rfl
theorem tyZ2 : tyZero Try.prog 2 = some [.d (.i .i64 0)] := by kernel_rfl
theorem tyW2 : tyZeroT Try.prog 2 = some [.i .i64 0] := by kernel_rfl
theorem tyS3 : tySize Try.prog 3 = 1 := by kernel_rfl
theorem tyA3 : tyAgg Try.prog 3 = some false := by kernel_rfl
theorem tyL3 : elAnn Try.prog 3 = .any := by kernel_rfl
theorem tyG3 : tyTag Try.prog 3 = none := by kernel_rfl
theorem tyI3 : tyInt Try.prog 3 = some .i64 := by kernel_rfl
theorem tyY3 : tyBytes Try.prog 3 = 8 := by kernel_rfl
theorem tyZ3 : tyZero Try.prog 3 = some [.d (.i .i64 0)] := by kernel_rfl
theorem tyW3 : tyZeroT Try.prog 3 = some [.i .i64 0] := by kernel_rfl
theorem tyS4 : tySize Try.prog 4 = 1 := by kernel_rfl
theorem tyA4 : tyAgg Try.prog 4 = some false := by kernel_rfl
theorem tyG4 : tyTag Try.prog 4 = none := by kernel_rfl
theorem tyB4 : tyBool Try.prog 4 = true := by kernel_rfl
theorem tyY4 : tyBytes Try.prog 4 = 1 := by kernel_rfl
theorem tyZ4 : tyZero Try.prog 4 = some [.d (.b false)] := by kernel_rfl
theorem tyW4 : tyZeroT Try.prog 4 = some [.b false] := by kernel_rfl
theorem tyS5 : tySize Try.prog 5 = 1 := by kernel_rfl
theorem tyA5 : tyAgg Try.prog 5 = some false := by kernel_rfl
theorem tyL5 : elAnn Try.prog 5 = .u8 5 := by kernel_rfl
theorem tyG5 : tyTag Try.prog 5 = none := by kernel_rfl
theorem tyI5 : tyInt Try.prog 5 = some .u8 := by kernel_rfl
theorem tyY5 : tyBytes Try.prog 5 = 1 := by kernel_rfl
theorem tyZ5 : tyZero Try.prog 5 = some [.d (.i .u8 0)] := by kernel_rfl
theorem tyW5 : tyZeroT Try.prog 5 = some [.i .u8 0] := by kernel_rfl
theorem tyS6 : tySize Try.prog 6 = 1 := by kernel_rfl
theorem tyA6 : tyAgg Try.prog 6 = some false := by kernel_rfl
theorem tyG6 : tyTag Try.prog 6 = none := by kernel_rfl
theorem tyI6 : tyInt Try.prog 6 = some .u8 := by kernel_rfl
theorem tyY6 : tyBytes Try.prog 6 = 1 := by kernel_rfl
theorem tyZ6 : tyZero Try.prog 6 = some [.d (.i .u8 0)] := by kernel_rfl
theorem tyW6 : tyZeroT Try.prog 6 = some [.i .u8 0] := by kernel_rfl
theorem tyS7 : tySize Try.prog 7 = 4 := by kernel_rfl
theorem tyA7 : tyAgg Try.prog 7 = some true := by kernel_rfl
theorem tyG7 : tyTag Try.prog 7 = none := by kernel_rfl
theorem tyY7 : tyBytes Try.prog 7 = 24 := by kernel_rfl
theorem tyZ7 : tyZero Try.prog 7 = some [.d (.i .i64 0), .d (.i .i64 0), .d (.b false), .d (.i .u8 0)] := by kernel_rfl
theorem tyW7 : tyZeroT Try.prog 7 = some [.i .i64 0, .i .i64 0, .b false, .i .u8 0] := by kernel_rfl
theorem tyO7_0 : tyOff Try.prog 7 0 = some 0 := by kernel_rfl
theorem tyO7_1 : tyOff Try.prog 7 1 = some 1 := by kernel_rfl
theorem tyO7_2 : tyOff Try.prog 7 2 = some 2 := by kernel_rfl
theorem tyO7_3 : tyOff Try.prog 7 3 = some 3 := by kernel_rfl
theorem tyF7 : tyFlds Try.prog 7 = some [(0, 1), (1, 1), (2, 1), (3, 1)] := by kernel_rfl
theorem tyS8 : tySize Try.prog 8 = 4 := by kernel_rfl
theorem tyA8 : tyAgg Try.prog 8 = some true := by kernel_rfl
theorem tyG8 : tyTag Try.prog 8 = none := by kernel_rfl
theorem tyY8 : tyBytes Try.prog 8 = 24 := by kernel_rfl
theorem tyZ8 : tyZero Try.prog 8 = some [.d (.i .i64 0), .d (.i .i64 0), .d (.b false), .d (.i .u8 0)] := by kernel_rfl
theorem tyW8 : tyZeroT Try.prog 8 = some [.i .i64 0, .i .i64 0, .b false, .i .u8 0] := by kernel_rfl
theorem tyO8_0 : tyOff Try.prog 8 0 = some 0 := by kernel_rfl
theorem tyO8_1 : tyOff Try.prog 8 1 = some 1 := by kernel_rfl
theorem tyO8_2 : tyOff Try.prog 8 2 = some 2 := by kernel_rfl
theorem tyO8_3 : tyOff Try.prog 8 3 = some 3 := by kernel_rfl
theorem tyF8 : tyFlds Try.prog 8 = some [(0, 1), (1, 1), (2, 1), (3, 1)] := by kernel_rfl
theorem tyS9 : tySize Try.prog 9 = 1 := by kernel_rfl
theorem tyA9 : tyAgg Try.prog 9 = some false := by kernel_rfl
theorem tyL9 : elAnn Try.prog 9 = .any := by kernel_rfl
theorem tyG9 : tyTag Try.prog 9 = none := by kernel_rfl
theorem tyT9 : tyStr Try.prog 9 = true := by kernel_rfl
theorem tyI9 : tyInt Try.prog 9 = none := by kernel_rfl
theorem tyY9 : tyBytes Try.prog 9 = 16 := by kernel_rfl
theorem tyZ9 : tyZero Try.prog 9 = some [.d (.s ⟨#[]⟩)] := by kernel_rfl
theorem tyW9 : tyZeroT Try.prog 9 = some [.s ⟨#[]⟩] := by kernel_rfl
theorem tyS10 : tySize Try.prog 10 = 1 := by kernel_rfl
theorem tyA10 : tyAgg Try.prog 10 = some false := by kernel_rfl
theorem tyG10 : tyTag Try.prog 10 = none := by kernel_rfl
theorem tyT10 : tyStr Try.prog 10 = true := by kernel_rfl
theorem tyI10 : tyInt Try.prog 10 = none := by kernel_rfl
theorem tyY10 : tyBytes Try.prog 10 = 16 := by kernel_rfl
theorem tyZ10 : tyZero Try.prog 10 = some [.d (.s ⟨#[]⟩)] := by kernel_rfl
theorem tyW10 : tyZeroT Try.prog 10 = some [.s ⟨#[]⟩] := by kernel_rfl
theorem tyS11 : tySize Try.prog 11 = 1 := by kernel_rfl
theorem tyA11 : tyAgg Try.prog 11 = some false := by kernel_rfl
theorem tyG11 : tyTag Try.prog 11 = none := by kernel_rfl
theorem tyT11 : tyStr Try.prog 11 = true := by kernel_rfl
theorem tyI11 : tyInt Try.prog 11 = none := by kernel_rfl
theorem tyY11 : tyBytes Try.prog 11 = 16 := by kernel_rfl
theorem tyZ11 : tyZero Try.prog 11 = some [.d (.s ⟨#[]⟩)] := by kernel_rfl
theorem tyW11 : tyZeroT Try.prog 11 = some [.s ⟨#[]⟩] := by kernel_rfl
theorem tyS12 : tySize Try.prog 12 = 1 := by kernel_rfl
theorem tyA12 : tyAgg Try.prog 12 = some false := by kernel_rfl
theorem tyG12 : tyTag Try.prog 12 = none := by kernel_rfl
theorem tyI12 : tyInt Try.prog 12 = some .u64 := by kernel_rfl
theorem tyY12 : tyBytes Try.prog 12 = 8 := by kernel_rfl
theorem tyZ12 : tyZero Try.prog 12 = some [.d (.i .u64 0)] := by kernel_rfl
theorem tyW12 : tyZeroT Try.prog 12 = some [.i .u64 0] := by kernel_rfl
theorem tyS13 : tySize Try.prog 13 = 2 := by kernel_rfl
theorem tyA13 : tyAgg Try.prog 13 = some true := by kernel_rfl
theorem tyG13 : tyTag Try.prog 13 = none := by kernel_rfl
theorem tyY13 : tyBytes Try.prog 13 = 24 := by kernel_rfl
theorem tyZ13 : tyZero Try.prog 13 = some [.d (.s ⟨#[]⟩), .d (.i .u64 0)] := by kernel_rfl
theorem tyW13 : tyZeroT Try.prog 13 = some [.s ⟨#[]⟩, .i .u64 0] := by kernel_rfl
theorem tyO13_0 : tyOff Try.prog 13 0 = some 0 := by kernel_rfl
theorem tyO13_1 : tyOff Try.prog 13 1 = some 1 := by kernel_rfl
theorem tyF13 : tyFlds Try.prog 13 = some [(0, 1), (1, 1)] := by kernel_rfl
theorem tyS14 : tySize Try.prog 14 = 2 := by kernel_rfl
theorem tyA14 : tyAgg Try.prog 14 = some true := by kernel_rfl
theorem tyG14 : tyTag Try.prog 14 = none := by kernel_rfl
theorem tyY14 : tyBytes Try.prog 14 = 24 := by kernel_rfl
theorem tyZ14 : tyZero Try.prog 14 = some [.d (.s ⟨#[]⟩), .d (.i .u64 0)] := by kernel_rfl
theorem tyW14 : tyZeroT Try.prog 14 = some [.s ⟨#[]⟩, .i .u64 0] := by kernel_rfl
theorem tyO14_0 : tyOff Try.prog 14 0 = some 0 := by kernel_rfl
theorem tyO14_1 : tyOff Try.prog 14 1 = some 1 := by kernel_rfl
theorem tyF14 : tyFlds Try.prog 14 = some [(0, 1), (1, 1)] := by kernel_rfl
theorem tyS15 : tySize Try.prog 15 = 1 := by kernel_rfl
theorem tyA15 : tyAgg Try.prog 15 = some false := by kernel_rfl
theorem tyG15 : tyTag Try.prog 15 = none := by kernel_rfl
theorem tyQ15 : tyPtr Try.prog 15 = some 152 := by kernel_rfl
theorem tyI15 : tyInt Try.prog 15 = none := by kernel_rfl
theorem tyT15 : tyStr Try.prog 15 = false := by kernel_rfl
theorem tyU15 : tyUns Try.prog 15 = false := by kernel_rfl
theorem tyZ15 : tyZero Try.prog 15 = some [.d (.raw (.pointer none))] := by kernel_rfl
theorem tyS16 : tySize Try.prog 16 = 1 := by kernel_rfl
theorem tyA16 : tyAgg Try.prog 16 = some false := by kernel_rfl
theorem tyG16 : tyTag Try.prog 16 = none := by kernel_rfl
theorem tyQ16 : tyPtr Try.prog 16 = some 155 := by kernel_rfl
theorem tyI16 : tyInt Try.prog 16 = none := by kernel_rfl
theorem tyT16 : tyStr Try.prog 16 = false := by kernel_rfl
theorem tyU16 : tyUns Try.prog 16 = false := by kernel_rfl
theorem tyZ16 : tyZero Try.prog 16 = some [.d (.raw (.pointer none))] := by kernel_rfl
theorem tyS17 : tySize Try.prog 17 = 1 := by kernel_rfl
theorem tyA17 : tyAgg Try.prog 17 = some false := by kernel_rfl
theorem tyG17 : tyTag Try.prog 17 = none := by kernel_rfl
theorem tyQ17 : tyPtr Try.prog 17 = some 165 := by kernel_rfl
theorem tyI17 : tyInt Try.prog 17 = none := by kernel_rfl
theorem tyT17 : tyStr Try.prog 17 = false := by kernel_rfl
theorem tyU17 : tyUns Try.prog 17 = false := by kernel_rfl
theorem tyZ17 : tyZero Try.prog 17 = some [.d (.raw (.pointer none))] := by kernel_rfl
theorem tyS18 : tySize Try.prog 18 = 1 := by kernel_rfl
theorem tyA18 : tyAgg Try.prog 18 = some true := by kernel_rfl
theorem tyG18 : tyTag Try.prog 18 = none := by kernel_rfl
theorem tyY18 : tyBytes Try.prog 18 = 8 := by kernel_rfl
theorem tyZ18 : tyZero Try.prog 18 = some [.d (.raw (.pointer none))] := by kernel_rfl
theorem tyO18_0 : tyOff Try.prog 18 0 = some 0 := by kernel_rfl
theorem tyF18 : tyFlds Try.prog 18 = some [(0, 1)] := by kernel_rfl
theorem tyS19 : tySize Try.prog 19 = 1 := by kernel_rfl
theorem tyA19 : tyAgg Try.prog 19 = some true := by kernel_rfl
theorem tyG19 : tyTag Try.prog 19 = none := by kernel_rfl
theorem tyY19 : tyBytes Try.prog 19 = 8 := by kernel_rfl
theorem tyZ19 : tyZero Try.prog 19 = some [.d (.raw (.pointer none))] := by kernel_rfl
theorem tyO19_0 : tyOff Try.prog 19 0 = some 0 := by kernel_rfl
theorem tyF19 : tyFlds Try.prog 19 = some [(0, 1)] := by kernel_rfl
theorem tyS21 : tySize Try.prog 21 = 1 := by kernel_rfl
theorem tyA21 : tyAgg Try.prog 21 = some false := by kernel_rfl
theorem tyG21 : tyTag Try.prog 21 = none := by kernel_rfl
theorem tyI21 : tyInt Try.prog 21 = some .i32 := by kernel_rfl
theorem tyY21 : tyBytes Try.prog 21 = 4 := by kernel_rfl
theorem tyZ21 : tyZero Try.prog 21 = some [.d (.i .i32 0)] := by kernel_rfl
theorem tyW21 : tyZeroT Try.prog 21 = some [.i .i32 0] := by kernel_rfl
theorem tyS22 : tySize Try.prog 22 = 1 := by kernel_rfl
theorem tyA22 : tyAgg Try.prog 22 = some false := by kernel_rfl
theorem tyE22 : tyElem Try.prog 22 = some 111 := by kernel_rfl
theorem tyI22 : tyInt Try.prog 22 = none := by kernel_rfl
theorem tyT22 : tyStr Try.prog 22 = false := by kernel_rfl
theorem tyG22 : tyTag Try.prog 22 = none := by kernel_rfl
theorem tyY22 : tyBytes Try.prog 22 = 24 := by kernel_rfl
theorem tyZ22 : tyZero Try.prog 22 = some [.nl] := by kernel_rfl
theorem tyW22 : tyZeroT Try.prog 22 = some [.sl .any []] := by kernel_rfl
theorem tyS23 : tySize Try.prog 23 = 2 := by kernel_rfl
theorem tyA23 : tyAgg Try.prog 23 = some true := by kernel_rfl
theorem tyG23 : tyTag Try.prog 23 = none := by kernel_rfl
theorem tyY23 : tyBytes Try.prog 23 = 32 := by kernel_rfl
theorem tyZ23 : tyZero Try.prog 23 = some [.d (.i .i64 0), .nl] := by kernel_rfl
theorem tyW23 : tyZeroT Try.prog 23 = some [.i .i64 0, .sl .any []] := by kernel_rfl
theorem tyO23_0 : tyOff Try.prog 23 0 = some 0 := by kernel_rfl
theorem tyO23_1 : tyOff Try.prog 23 1 = some 1 := by kernel_rfl
theorem tyF23 : tyFlds Try.prog 23 = some [(0, 1), (1, 1)] := by kernel_rfl
theorem tyS24 : tySize Try.prog 24 = 2 := by kernel_rfl
theorem tyA24 : tyAgg Try.prog 24 = some true := by kernel_rfl
theorem tyG24 : tyTag Try.prog 24 = none := by kernel_rfl
theorem tyY24 : tyBytes Try.prog 24 = 32 := by kernel_rfl
theorem tyZ24 : tyZero Try.prog 24 = some [.d (.i .i64 0), .nl] := by kernel_rfl
theorem tyW24 : tyZeroT Try.prog 24 = some [.i .i64 0, .sl .any []] := by kernel_rfl
theorem tyO24_0 : tyOff Try.prog 24 0 = some 0 := by kernel_rfl
theorem tyO24_1 : tyOff Try.prog 24 1 = some 1 := by kernel_rfl
theorem tyF24 : tyFlds Try.prog 24 = some [(0, 1), (1, 1)] := by kernel_rfl
theorem tyS25 : tySize Try.prog 25 = 1 := by kernel_rfl
theorem tyA25 : tyAgg Try.prog 25 = some false := by kernel_rfl
theorem tyS26 : tySize Try.prog 26 = 1 := by kernel_rfl
theorem tyA26 : tyAgg Try.prog 26 = some false := by kernel_rfl
theorem tyE26 : tyElem Try.prog 26 = some 64 := by kernel_rfl
theorem tyI26 : tyInt Try.prog 26 = none := by kernel_rfl
theorem tyT26 : tyStr Try.prog 26 = false := by kernel_rfl
theorem tyL26 : elAnn Try.prog 26 = .any := by kernel_rfl
theorem tyG26 : tyTag Try.prog 26 = none := by kernel_rfl
theorem tyY26 : tyBytes Try.prog 26 = 24 := by kernel_rfl
theorem tyZ26 : tyZero Try.prog 26 = some [.nl] := by kernel_rfl
theorem tyW26 : tyZeroT Try.prog 26 = some [.sl .any []] := by kernel_rfl
theorem tyS27 : tySize Try.prog 27 = 2 := by kernel_rfl
theorem tyA27 : tyAgg Try.prog 27 = some true := by kernel_rfl
theorem tyG27 : tyTag Try.prog 27 = none := by kernel_rfl
theorem tyY27 : tyBytes Try.prog 27 = 32 := by kernel_rfl
theorem tyZ27 : tyZero Try.prog 27 = some [.d (.i .i64 0), .nl] := by kernel_rfl
theorem tyW27 : tyZeroT Try.prog 27 = some [.i .i64 0, .sl .any []] := by kernel_rfl
theorem tyO27_0 : tyOff Try.prog 27 0 = some 0 := by kernel_rfl
theorem tyO27_1 : tyOff Try.prog 27 1 = some 1 := by kernel_rfl
theorem tyF27 : tyFlds Try.prog 27 = some [(0, 1), (1, 1)] := by kernel_rfl
theorem tyS28 : tySize Try.prog 28 = 2 := by kernel_rfl
theorem tyA28 : tyAgg Try.prog 28 = some true := by kernel_rfl
theorem tyG28 : tyTag Try.prog 28 = none := by kernel_rfl
theorem tyY28 : tyBytes Try.prog 28 = 32 := by kernel_rfl
theorem tyZ28 : tyZero Try.prog 28 = some [.d (.i .i64 0), .nl] := by kernel_rfl
theorem tyW28 : tyZeroT Try.prog 28 = some [.i .i64 0, .sl .any []] := by kernel_rfl
theorem tyO28_0 : tyOff Try.prog 28 0 = some 0 := by kernel_rfl
theorem tyO28_1 : tyOff Try.prog 28 1 = some 1 := by kernel_rfl
theorem tyF28 : tyFlds Try.prog 28 = some [(0, 1), (1, 1)] := by kernel_rfl
theorem tyS29 : tySize Try.prog 29 = 1 := by kernel_rfl
theorem tyA29 : tyAgg Try.prog 29 = some false := by kernel_rfl
theorem tyS30 : tySize Try.prog 30 = 1 := by kernel_rfl
theorem tyA30 : tyAgg Try.prog 30 = some false := by kernel_rfl
theorem tyS31 : tySize Try.prog 31 = 1 := by kernel_rfl
theorem tyA31 : tyAgg Try.prog 31 = some false := by kernel_rfl
theorem tyS32 : tySize Try.prog 32 = 1 := by kernel_rfl
theorem tyA32 : tyAgg Try.prog 32 = some false := by kernel_rfl
theorem tyS33 : tySize Try.prog 33 = 1 := by kernel_rfl
theorem tyA33 : tyAgg Try.prog 33 = some false := by kernel_rfl
theorem tyS34 : tySize Try.prog 34 = 1 := by kernel_rfl
theorem tyA34 : tyAgg Try.prog 34 = some false := by kernel_rfl
theorem tyE34 : tyElem Try.prog 34 = some 77 := by kernel_rfl
theorem tyI34 : tyInt Try.prog 34 = none := by kernel_rfl
theorem tyT34 : tyStr Try.prog 34 = false := by kernel_rfl
theorem tyG34 : tyTag Try.prog 34 = none := by kernel_rfl
theorem tyY34 : tyBytes Try.prog 34 = 24 := by kernel_rfl
theorem tyZ34 : tyZero Try.prog 34 = some [.nl] := by kernel_rfl
theorem tyW34 : tyZeroT Try.prog 34 = some [.sl .any []] := by kernel_rfl
theorem tyS35 : tySize Try.prog 35 = 1 := by kernel_rfl
theorem tyA35 : tyAgg Try.prog 35 = some false := by kernel_rfl
theorem tyS36 : tySize Try.prog 36 = 1 := by kernel_rfl
theorem tyA36 : tyAgg Try.prog 36 = some false := by kernel_rfl
theorem tyE36 : tyElem Try.prog 36 = some 79 := by kernel_rfl
theorem tyI36 : tyInt Try.prog 36 = none := by kernel_rfl
theorem tyT36 : tyStr Try.prog 36 = false := by kernel_rfl
theorem tyG36 : tyTag Try.prog 36 = none := by kernel_rfl
theorem tyY36 : tyBytes Try.prog 36 = 24 := by kernel_rfl
theorem tyZ36 : tyZero Try.prog 36 = some [.nl] := by kernel_rfl
theorem tyW36 : tyZeroT Try.prog 36 = some [.sl .any []] := by kernel_rfl
theorem tyS37 : tySize Try.prog 37 = 1 := by kernel_rfl
theorem tyA37 : tyAgg Try.prog 37 = some false := by kernel_rfl
theorem tyS38 : tySize Try.prog 38 = 1 := by kernel_rfl
theorem tyA38 : tyAgg Try.prog 38 = some false := by kernel_rfl
theorem tyS39 : tySize Try.prog 39 = 1 := by kernel_rfl
theorem tyA39 : tyAgg Try.prog 39 = some false := by kernel_rfl
theorem tyS40 : tySize Try.prog 40 = 1 := by kernel_rfl
theorem tyA40 : tyAgg Try.prog 40 = some false := by kernel_rfl
theorem tyS41 : tySize Try.prog 41 = 1 := by kernel_rfl
theorem tyA41 : tyAgg Try.prog 41 = some false := by kernel_rfl
theorem tyS42 : tySize Try.prog 42 = 1 := by kernel_rfl
theorem tyA42 : tyAgg Try.prog 42 = some false := by kernel_rfl
theorem tyS43 : tySize Try.prog 43 = 1 := by kernel_rfl
theorem tyA43 : tyAgg Try.prog 43 = some false := by kernel_rfl
theorem tyS44 : tySize Try.prog 44 = 1 := by kernel_rfl
theorem tyA44 : tyAgg Try.prog 44 = some false := by kernel_rfl
theorem tyE44 : tyElem Try.prog 44 = some 5 := by kernel_rfl
theorem tyI44 : tyInt Try.prog 44 = none := by kernel_rfl
theorem tyT44 : tyStr Try.prog 44 = false := by kernel_rfl
theorem tyG44 : tyTag Try.prog 44 = none := by kernel_rfl
theorem tyY44 : tyBytes Try.prog 44 = 24 := by kernel_rfl
theorem tyZ44 : tyZero Try.prog 44 = some [.nl] := by kernel_rfl
theorem tyW44 : tyZeroT Try.prog 44 = some [.sl .any []] := by kernel_rfl
theorem tyS45 : tySize Try.prog 45 = 1 := by kernel_rfl
theorem tyA45 : tyAgg Try.prog 45 = some false := by kernel_rfl
theorem tyS47 : tySize Try.prog 47 = 1 := by kernel_rfl
theorem tyA47 : tyAgg Try.prog 47 = some false := by kernel_rfl
theorem tyS48 : tySize Try.prog 48 = 1 := by kernel_rfl
theorem tyA48 : tyAgg Try.prog 48 = some false := by kernel_rfl
theorem tyE48 : tyElem Try.prog 48 = some 92 := by kernel_rfl
theorem tyI48 : tyInt Try.prog 48 = none := by kernel_rfl
theorem tyT48 : tyStr Try.prog 48 = false := by kernel_rfl
theorem tyL48 : elAnn Try.prog 48 = .any := by kernel_rfl
theorem tyG48 : tyTag Try.prog 48 = none := by kernel_rfl
theorem tyY48 : tyBytes Try.prog 48 = 24 := by kernel_rfl
theorem tyZ48 : tyZero Try.prog 48 = some [.nl] := by kernel_rfl
theorem tyW48 : tyZeroT Try.prog 48 = some [.sl .any []] := by kernel_rfl
theorem tyS50 : tySize Try.prog 50 = 1 := by kernel_rfl
theorem tyA50 : tyAgg Try.prog 50 = some false := by kernel_rfl
theorem tyS51 : tySize Try.prog 51 = 1 := by kernel_rfl
theorem tyA51 : tyAgg Try.prog 51 = some false := by kernel_rfl
theorem tyE51 : tyElem Try.prog 51 = some 48 := by kernel_rfl
theorem tyI51 : tyInt Try.prog 51 = none := by kernel_rfl
theorem tyT51 : tyStr Try.prog 51 = false := by kernel_rfl
theorem tyG51 : tyTag Try.prog 51 = none := by kernel_rfl
theorem tyY51 : tyBytes Try.prog 51 = 24 := by kernel_rfl
theorem tyZ51 : tyZero Try.prog 51 = some [.nl] := by kernel_rfl
theorem tyW51 : tyZeroT Try.prog 51 = some [.sl .any []] := by kernel_rfl
theorem tyS53 : tySize Try.prog 53 = 1 := by kernel_rfl
theorem tyA53 : tyAgg Try.prog 53 = some false := by kernel_rfl
theorem tyS54 : tySize Try.prog 54 = 1 := by kernel_rfl
theorem tyA54 : tyAgg Try.prog 54 = some false := by kernel_rfl
theorem tyS56 : tySize Try.prog 56 = 1 := by kernel_rfl
theorem tyA56 : tyAgg Try.prog 56 = some false := by kernel_rfl
theorem tyS58 : tySize Try.prog 58 = 1 := by kernel_rfl
theorem tyA58 : tyAgg Try.prog 58 = some false := by kernel_rfl
theorem tyS59 : tySize Try.prog 59 = 1 := by kernel_rfl
theorem tyA59 : tyAgg Try.prog 59 = some false := by kernel_rfl
theorem tyS60 : tySize Try.prog 60 = 1 := by kernel_rfl
theorem tyA60 : tyAgg Try.prog 60 = some false := by kernel_rfl
theorem tyS61 : tySize Try.prog 61 = 1 := by kernel_rfl
theorem tyA61 : tyAgg Try.prog 61 = some false := by kernel_rfl
theorem tyS62 : tySize Try.prog 62 = 1 := by kernel_rfl
theorem tyA62 : tyAgg Try.prog 62 = some false := by kernel_rfl
theorem tyS63 : tySize Try.prog 63 = 2 := by kernel_rfl
theorem tyA63 : tyAgg Try.prog 63 = some true := by kernel_rfl
theorem tyG63 : tyTag Try.prog 63 = none := by kernel_rfl
theorem tyY63 : tyBytes Try.prog 63 = 32 := by kernel_rfl
theorem tyZ63 : tyZero Try.prog 63 = some [.nl, .d (.i .i64 0)] := by kernel_rfl
theorem tyW63 : tyZeroT Try.prog 63 = some [.sl .any [], .i .i64 0] := by kernel_rfl
theorem tyO63_0 : tyOff Try.prog 63 0 = some 0 := by kernel_rfl
theorem tyO63_1 : tyOff Try.prog 63 1 = some 1 := by kernel_rfl
theorem tyF63 : tyFlds Try.prog 63 = some [(0, 1), (1, 1)] := by kernel_rfl
theorem tyS64 : tySize Try.prog 64 = 2 := by kernel_rfl
theorem tyA64 : tyAgg Try.prog 64 = some true := by kernel_rfl
theorem tyL64 : elAnn Try.prog 64 = .any := by kernel_rfl
theorem tyG64 : tyTag Try.prog 64 = none := by kernel_rfl
theorem tyY64 : tyBytes Try.prog 64 = 32 := by kernel_rfl
theorem tyZ64 : tyZero Try.prog 64 = some [.nl, .d (.i .i64 0)] := by kernel_rfl
theorem tyW64 : tyZeroT Try.prog 64 = some [.sl .any [], .i .i64 0] := by kernel_rfl
theorem tyO64_0 : tyOff Try.prog 64 0 = some 0 := by kernel_rfl
theorem tyO64_1 : tyOff Try.prog 64 1 = some 1 := by kernel_rfl
theorem tyF64 : tyFlds Try.prog 64 = some [(0, 1), (1, 1)] := by kernel_rfl
theorem tyS65 : tySize Try.prog 65 = 1 := by kernel_rfl
theorem tyA65 : tyAgg Try.prog 65 = some false := by kernel_rfl
theorem tyS66 : tySize Try.prog 66 = 1 := by kernel_rfl
theorem tyA66 : tyAgg Try.prog 66 = some false := by kernel_rfl
theorem tyS67 : tySize Try.prog 67 = 1 := by kernel_rfl
theorem tyA67 : tyAgg Try.prog 67 = some false := by kernel_rfl
theorem tyS68 : tySize Try.prog 68 = 1 := by kernel_rfl
theorem tyA68 : tyAgg Try.prog 68 = some false := by kernel_rfl
theorem tyS69 : tySize Try.prog 69 = 1 := by kernel_rfl
theorem tyA69 : tyAgg Try.prog 69 = some false := by kernel_rfl
theorem tyS70 : tySize Try.prog 70 = 1 := by kernel_rfl
theorem tyA70 : tyAgg Try.prog 70 = some false := by kernel_rfl
theorem tyS71 : tySize Try.prog 71 = 1 := by kernel_rfl
theorem tyA71 : tyAgg Try.prog 71 = some false := by kernel_rfl
theorem tyS72 : tySize Try.prog 72 = 1 := by kernel_rfl
theorem tyA72 : tyAgg Try.prog 72 = some false := by kernel_rfl
theorem tyS73 : tySize Try.prog 73 = 1 := by kernel_rfl
theorem tyA73 : tyAgg Try.prog 73 = some false := by kernel_rfl
theorem tyS74 : tySize Try.prog 74 = 1 := by kernel_rfl
theorem tyA74 : tyAgg Try.prog 74 = some false := by kernel_rfl
theorem tyS75 : tySize Try.prog 75 = 1 := by kernel_rfl
theorem tyA75 : tyAgg Try.prog 75 = some false := by kernel_rfl
theorem tyS76 : tySize Try.prog 76 = 3 := by kernel_rfl
theorem tyA76 : tyAgg Try.prog 76 = some true := by kernel_rfl
theorem tyG76 : tyTag Try.prog 76 = none := by kernel_rfl
theorem tyY76 : tyBytes Try.prog 76 = 48 := by kernel_rfl
theorem tyZ76 : tyZero Try.prog 76 = some [.d (.s ⟨#[]⟩), .d (.i .i64 0), .nl] := by kernel_rfl
theorem tyW76 : tyZeroT Try.prog 76 = some [.s ⟨#[]⟩, .i .i64 0, .sl .any []] := by kernel_rfl
theorem tyO76_0 : tyOff Try.prog 76 0 = some 0 := by kernel_rfl
theorem tyO76_1 : tyOff Try.prog 76 1 = some 1 := by kernel_rfl
theorem tyF76 : tyFlds Try.prog 76 = some [(0, 1), (1, 2)] := by kernel_rfl
theorem tyS77 : tySize Try.prog 77 = 3 := by kernel_rfl
theorem tyA77 : tyAgg Try.prog 77 = some true := by kernel_rfl
theorem tyL77 : elAnn Try.prog 77 = .any := by kernel_rfl
theorem tyG77 : tyTag Try.prog 77 = none := by kernel_rfl
theorem tyY77 : tyBytes Try.prog 77 = 48 := by kernel_rfl
theorem tyZ77 : tyZero Try.prog 77 = some [.d (.s ⟨#[]⟩), .d (.i .i64 0), .nl] := by kernel_rfl
theorem tyW77 : tyZeroT Try.prog 77 = some [.s ⟨#[]⟩, .i .i64 0, .sl .any []] := by kernel_rfl
theorem tyO77_0 : tyOff Try.prog 77 0 = some 0 := by kernel_rfl
theorem tyO77_1 : tyOff Try.prog 77 1 = some 1 := by kernel_rfl
theorem tyF77 : tyFlds Try.prog 77 = some [(0, 1), (1, 2)] := by kernel_rfl
theorem tyS78 : tySize Try.prog 78 = 3 := by kernel_rfl
theorem tyA78 : tyAgg Try.prog 78 = some true := by kernel_rfl
theorem tyG78 : tyTag Try.prog 78 = none := by kernel_rfl
theorem tyY78 : tyBytes Try.prog 78 = 48 := by kernel_rfl
theorem tyZ78 : tyZero Try.prog 78 = some [.d (.s ⟨#[]⟩), .d (.i .i64 0), .nl] := by kernel_rfl
theorem tyW78 : tyZeroT Try.prog 78 = some [.s ⟨#[]⟩, .i .i64 0, .sl .any []] := by kernel_rfl
theorem tyO78_0 : tyOff Try.prog 78 0 = some 0 := by kernel_rfl
theorem tyO78_1 : tyOff Try.prog 78 1 = some 1 := by kernel_rfl
theorem tyF78 : tyFlds Try.prog 78 = some [(0, 1), (1, 2)] := by kernel_rfl
theorem tyS79 : tySize Try.prog 79 = 3 := by kernel_rfl
theorem tyA79 : tyAgg Try.prog 79 = some true := by kernel_rfl
theorem tyL79 : elAnn Try.prog 79 = .any := by kernel_rfl
theorem tyG79 : tyTag Try.prog 79 = none := by kernel_rfl
theorem tyY79 : tyBytes Try.prog 79 = 48 := by kernel_rfl
theorem tyZ79 : tyZero Try.prog 79 = some [.d (.s ⟨#[]⟩), .d (.i .i64 0), .nl] := by kernel_rfl
theorem tyW79 : tyZeroT Try.prog 79 = some [.s ⟨#[]⟩, .i .i64 0, .sl .any []] := by kernel_rfl
theorem tyO79_0 : tyOff Try.prog 79 0 = some 0 := by kernel_rfl
theorem tyO79_1 : tyOff Try.prog 79 1 = some 1 := by kernel_rfl
theorem tyF79 : tyFlds Try.prog 79 = some [(0, 1), (1, 2)] := by kernel_rfl
theorem tyS80 : tySize Try.prog 80 = 1 := by kernel_rfl
theorem tyA80 : tyAgg Try.prog 80 = some false := by kernel_rfl
theorem tyS81 : tySize Try.prog 81 = 1 := by kernel_rfl
theorem tyA81 : tyAgg Try.prog 81 = some false := by kernel_rfl
theorem tyS82 : tySize Try.prog 82 = 1 := by kernel_rfl
theorem tyA82 : tyAgg Try.prog 82 = some false := by kernel_rfl
theorem tyS83 : tySize Try.prog 83 = 1 := by kernel_rfl
theorem tyA83 : tyAgg Try.prog 83 = some false := by kernel_rfl
theorem tyS84 : tySize Try.prog 84 = 1 := by kernel_rfl
theorem tyA84 : tyAgg Try.prog 84 = some false := by kernel_rfl
theorem tyS85 : tySize Try.prog 85 = 1 := by kernel_rfl
theorem tyA85 : tyAgg Try.prog 85 = some false := by kernel_rfl
theorem tyG85 : tyTag Try.prog 85 = none := by kernel_rfl
theorem tyQ85 : tyPtr Try.prog 85 = some 118 := by kernel_rfl
theorem tyI85 : tyInt Try.prog 85 = none := by kernel_rfl
theorem tyT85 : tyStr Try.prog 85 = false := by kernel_rfl
theorem tyU85 : tyUns Try.prog 85 = false := by kernel_rfl
theorem tyZ85 : tyZero Try.prog 85 = some [.d (.raw (.pointer none))] := by kernel_rfl
theorem tyS86 : tySize Try.prog 86 = 1 := by kernel_rfl
theorem tyA86 : tyAgg Try.prog 86 = some false := by kernel_rfl
theorem tyS87 : tySize Try.prog 87 = 1 := by kernel_rfl
theorem tyA87 : tyAgg Try.prog 87 = some false := by kernel_rfl
theorem tyS88 : tySize Try.prog 88 = 1 := by kernel_rfl
theorem tyA88 : tyAgg Try.prog 88 = some false := by kernel_rfl
theorem tyS89 : tySize Try.prog 89 = 1 := by kernel_rfl
theorem tyA89 : tyAgg Try.prog 89 = some false := by kernel_rfl
theorem tyS90 : tySize Try.prog 90 = 1 := by kernel_rfl
theorem tyA90 : tyAgg Try.prog 90 = some false := by kernel_rfl
theorem tyS91 : tySize Try.prog 91 = 3 := by kernel_rfl
theorem tyA91 : tyAgg Try.prog 91 = some true := by kernel_rfl
theorem tyG91 : tyTag Try.prog 91 = none := by kernel_rfl
theorem tyY91 : tyBytes Try.prog 91 = 32 := by kernel_rfl
theorem tyZ91 : tyZero Try.prog 91 = some [.d (.i .i64 0), .d (.i .i64 0), .d (.s ⟨#[]⟩)] := by kernel_rfl
theorem tyW91 : tyZeroT Try.prog 91 = some [.i .i64 0, .i .i64 0, .s ⟨#[]⟩] := by kernel_rfl
theorem tyO91_0 : tyOff Try.prog 91 0 = some 0 := by kernel_rfl
theorem tyO91_1 : tyOff Try.prog 91 1 = some 1 := by kernel_rfl
theorem tyO91_2 : tyOff Try.prog 91 2 = some 2 := by kernel_rfl
theorem tyF91 : tyFlds Try.prog 91 = some [(0, 1), (1, 1), (2, 1)] := by kernel_rfl
theorem tyS92 : tySize Try.prog 92 = 3 := by kernel_rfl
theorem tyA92 : tyAgg Try.prog 92 = some true := by kernel_rfl
theorem tyL92 : elAnn Try.prog 92 = .any := by kernel_rfl
theorem tyG92 : tyTag Try.prog 92 = none := by kernel_rfl
theorem tyY92 : tyBytes Try.prog 92 = 32 := by kernel_rfl
theorem tyZ92 : tyZero Try.prog 92 = some [.d (.i .i64 0), .d (.i .i64 0), .d (.s ⟨#[]⟩)] := by kernel_rfl
theorem tyW92 : tyZeroT Try.prog 92 = some [.i .i64 0, .i .i64 0, .s ⟨#[]⟩] := by kernel_rfl
theorem tyO92_0 : tyOff Try.prog 92 0 = some 0 := by kernel_rfl
theorem tyO92_1 : tyOff Try.prog 92 1 = some 1 := by kernel_rfl
theorem tyO92_2 : tyOff Try.prog 92 2 = some 2 := by kernel_rfl
theorem tyF92 : tyFlds Try.prog 92 = some [(0, 1), (1, 1), (2, 1)] := by kernel_rfl
theorem tyP92 : tyPlain Try.prog 92 = some [.i, .i, .s] := by kernel_rfl
theorem tyS93 : tySize Try.prog 93 = 1 := by kernel_rfl
theorem tyA93 : tyAgg Try.prog 93 = some false := by kernel_rfl
theorem tyS94 : tySize Try.prog 94 = 1 := by kernel_rfl
theorem tyA94 : tyAgg Try.prog 94 = some false := by kernel_rfl
theorem tyS95 : tySize Try.prog 95 = 1 := by kernel_rfl
theorem tyA95 : tyAgg Try.prog 95 = some false := by kernel_rfl
theorem tyE95 : tyElem Try.prog 95 = some 3 := by kernel_rfl
theorem tyI95 : tyInt Try.prog 95 = none := by kernel_rfl
theorem tyT95 : tyStr Try.prog 95 = false := by kernel_rfl
theorem tyG95 : tyTag Try.prog 95 = none := by kernel_rfl
theorem tyY95 : tyBytes Try.prog 95 = 24 := by kernel_rfl
theorem tyZ95 : tyZero Try.prog 95 = some [.nl] := by kernel_rfl
theorem tyW95 : tyZeroT Try.prog 95 = some [.sl .any []] := by kernel_rfl
theorem tyS96 : tySize Try.prog 96 = 1 := by kernel_rfl
theorem tyA96 : tyAgg Try.prog 96 = some false := by kernel_rfl
theorem tyS97 : tySize Try.prog 97 = 1 := by kernel_rfl
theorem tyA97 : tyAgg Try.prog 97 = some false := by kernel_rfl
theorem tyS98 : tySize Try.prog 98 = 1 := by kernel_rfl
theorem tyA98 : tyAgg Try.prog 98 = some false := by kernel_rfl
theorem tyS99 : tySize Try.prog 99 = 1 := by kernel_rfl
theorem tyA99 : tyAgg Try.prog 99 = some false := by kernel_rfl
theorem tyS100 : tySize Try.prog 100 = 1 := by kernel_rfl
theorem tyA100 : tyAgg Try.prog 100 = some false := by kernel_rfl
theorem tyS101 : tySize Try.prog 101 = 1 := by kernel_rfl
theorem tyA101 : tyAgg Try.prog 101 = some false := by kernel_rfl
theorem tyS102 : tySize Try.prog 102 = 1 := by kernel_rfl
theorem tyA102 : tyAgg Try.prog 102 = some false := by kernel_rfl
theorem tyS103 : tySize Try.prog 103 = 1 := by kernel_rfl
theorem tyA103 : tyAgg Try.prog 103 = some false := by kernel_rfl
theorem tyS104 : tySize Try.prog 104 = 1 := by kernel_rfl
theorem tyA104 : tyAgg Try.prog 104 = some false := by kernel_rfl
theorem tyS106 : tySize Try.prog 106 = 1 := by kernel_rfl
theorem tyA106 : tyAgg Try.prog 106 = some false := by kernel_rfl
theorem tyS107 : tySize Try.prog 107 = 1 := by kernel_rfl
theorem tyA107 : tyAgg Try.prog 107 = some false := by kernel_rfl
theorem tyS108 : tySize Try.prog 108 = 1 := by kernel_rfl
theorem tyA108 : tyAgg Try.prog 108 = some false := by kernel_rfl
theorem tyS109 : tySize Try.prog 109 = 1 := by kernel_rfl
theorem tyA109 : tyAgg Try.prog 109 = some false := by kernel_rfl
theorem tyE109 : tyElem Try.prog 109 = some 144 := by kernel_rfl
theorem tyI109 : tyInt Try.prog 109 = none := by kernel_rfl
theorem tyT109 : tyStr Try.prog 109 = false := by kernel_rfl
theorem tyG109 : tyTag Try.prog 109 = none := by kernel_rfl
theorem tyY109 : tyBytes Try.prog 109 = 24 := by kernel_rfl
theorem tyZ109 : tyZero Try.prog 109 = some [.nl] := by kernel_rfl
theorem tyW109 : tyZeroT Try.prog 109 = some [.sl .any []] := by kernel_rfl
theorem tyS110 : tySize Try.prog 110 = 2 := by kernel_rfl
theorem tyA110 : tyAgg Try.prog 110 = some true := by kernel_rfl
theorem tyG110 : tyTag Try.prog 110 = none := by kernel_rfl
theorem tyY110 : tyBytes Try.prog 110 = 32 := by kernel_rfl
theorem tyZ110 : tyZero Try.prog 110 = some [.nl, .d (.i .i64 0)] := by kernel_rfl
theorem tyW110 : tyZeroT Try.prog 110 = some [.sl .any [], .i .i64 0] := by kernel_rfl
theorem tyO110_0 : tyOff Try.prog 110 0 = some 0 := by kernel_rfl
theorem tyO110_1 : tyOff Try.prog 110 1 = some 1 := by kernel_rfl
theorem tyF110 : tyFlds Try.prog 110 = some [(0, 1), (1, 1)] := by kernel_rfl
theorem tyS111 : tySize Try.prog 111 = 2 := by kernel_rfl
theorem tyA111 : tyAgg Try.prog 111 = some true := by kernel_rfl
theorem tyL111 : elAnn Try.prog 111 = .any := by kernel_rfl
theorem tyG111 : tyTag Try.prog 111 = none := by kernel_rfl
theorem tyY111 : tyBytes Try.prog 111 = 32 := by kernel_rfl
theorem tyZ111 : tyZero Try.prog 111 = some [.nl, .d (.i .i64 0)] := by kernel_rfl
theorem tyW111 : tyZeroT Try.prog 111 = some [.sl .any [], .i .i64 0] := by kernel_rfl
theorem tyO111_0 : tyOff Try.prog 111 0 = some 0 := by kernel_rfl
theorem tyO111_1 : tyOff Try.prog 111 1 = some 1 := by kernel_rfl
theorem tyF111 : tyFlds Try.prog 111 = some [(0, 1), (1, 1)] := by kernel_rfl
theorem tyS112 : tySize Try.prog 112 = 1 := by kernel_rfl
theorem tyA112 : tyAgg Try.prog 112 = some false := by kernel_rfl
theorem tyS113 : tySize Try.prog 113 = 1 := by kernel_rfl
theorem tyA113 : tyAgg Try.prog 113 = some false := by kernel_rfl
theorem tyS114 : tySize Try.prog 114 = 1 := by kernel_rfl
theorem tyA114 : tyAgg Try.prog 114 = some false := by kernel_rfl
theorem tyS115 : tySize Try.prog 115 = 1 := by kernel_rfl
theorem tyA115 : tyAgg Try.prog 115 = some false := by kernel_rfl
theorem tyS116 : tySize Try.prog 116 = 1 := by kernel_rfl
theorem tyA116 : tyAgg Try.prog 116 = some false := by kernel_rfl
theorem tyS117 : tySize Try.prog 117 = 3 := by kernel_rfl
theorem tyA117 : tyAgg Try.prog 117 = some true := by kernel_rfl
theorem tyG117 : tyTag Try.prog 117 = none := by kernel_rfl
theorem tyY117 : tyBytes Try.prog 117 = 40 := by kernel_rfl
theorem tyZ117 : tyZero Try.prog 117 = some [.nl, .d (.i .i64 0), .d (.i .i64 0)] := by kernel_rfl
theorem tyW117 : tyZeroT Try.prog 117 = some [.sl .any [], .i .i64 0, .i .i64 0] := by kernel_rfl
theorem tyO117_0 : tyOff Try.prog 117 0 = some 0 := by kernel_rfl
theorem tyO117_1 : tyOff Try.prog 117 1 = some 1 := by kernel_rfl
theorem tyO117_2 : tyOff Try.prog 117 2 = some 2 := by kernel_rfl
theorem tyF117 : tyFlds Try.prog 117 = some [(0, 1), (1, 1), (2, 1)] := by kernel_rfl
theorem tyS118 : tySize Try.prog 118 = 3 := by kernel_rfl
theorem tyA118 : tyAgg Try.prog 118 = some true := by kernel_rfl
theorem tyG118 : tyTag Try.prog 118 = none := by kernel_rfl
theorem tyY118 : tyBytes Try.prog 118 = 40 := by kernel_rfl
theorem tyZ118 : tyZero Try.prog 118 = some [.nl, .d (.i .i64 0), .d (.i .i64 0)] := by kernel_rfl
theorem tyW118 : tyZeroT Try.prog 118 = some [.sl .any [], .i .i64 0, .i .i64 0] := by kernel_rfl
theorem tyO118_0 : tyOff Try.prog 118 0 = some 0 := by kernel_rfl
theorem tyO118_1 : tyOff Try.prog 118 1 = some 1 := by kernel_rfl
theorem tyO118_2 : tyOff Try.prog 118 2 = some 2 := by kernel_rfl
theorem tyF118 : tyFlds Try.prog 118 = some [(0, 1), (1, 1), (2, 1)] := by kernel_rfl
theorem tyS119 : tySize Try.prog 119 = 1 := by kernel_rfl
theorem tyA119 : tyAgg Try.prog 119 = some false := by kernel_rfl
theorem tyS120 : tySize Try.prog 120 = 1 := by kernel_rfl
theorem tyA120 : tyAgg Try.prog 120 = some false := by kernel_rfl
theorem tyS121 : tySize Try.prog 121 = 1 := by kernel_rfl
theorem tyA121 : tyAgg Try.prog 121 = some false := by kernel_rfl
theorem tyS122 : tySize Try.prog 122 = 1 := by kernel_rfl
theorem tyA122 : tyAgg Try.prog 122 = some false := by kernel_rfl
theorem tyS123 : tySize Try.prog 123 = 1 := by kernel_rfl
theorem tyA123 : tyAgg Try.prog 123 = some false := by kernel_rfl
theorem tyS124 : tySize Try.prog 124 = 1 := by kernel_rfl
theorem tyA124 : tyAgg Try.prog 124 = some false := by kernel_rfl
theorem tyS125 : tySize Try.prog 125 = 1 := by kernel_rfl
theorem tyA125 : tyAgg Try.prog 125 = some false := by kernel_rfl
theorem tyS126 : tySize Try.prog 126 = 1 := by kernel_rfl
theorem tyA126 : tyAgg Try.prog 126 = some false := by kernel_rfl
theorem tyS127 : tySize Try.prog 127 = 1 := by kernel_rfl
theorem tyA127 : tyAgg Try.prog 127 = some false := by kernel_rfl
theorem tyS129 : tySize Try.prog 129 = 1 := by kernel_rfl
theorem tyA129 : tyAgg Try.prog 129 = some false := by kernel_rfl
theorem tyS130 : tySize Try.prog 130 = 1 := by kernel_rfl
theorem tyA130 : tyAgg Try.prog 130 = some false := by kernel_rfl
theorem tyS131 : tySize Try.prog 131 = 1 := by kernel_rfl
theorem tyA131 : tyAgg Try.prog 131 = some false := by kernel_rfl
theorem tyS132 : tySize Try.prog 132 = 1 := by kernel_rfl
theorem tyA132 : tyAgg Try.prog 132 = some false := by kernel_rfl
theorem tyE132 : tyElem Try.prog 132 = some 26 := by kernel_rfl
theorem tyI132 : tyInt Try.prog 132 = none := by kernel_rfl
theorem tyT132 : tyStr Try.prog 132 = false := by kernel_rfl
theorem tyG132 : tyTag Try.prog 132 = none := by kernel_rfl
theorem tyY132 : tyBytes Try.prog 132 = 24 := by kernel_rfl
theorem tyZ132 : tyZero Try.prog 132 = some [.nl] := by kernel_rfl
theorem tyW132 : tyZeroT Try.prog 132 = some [.sl .any []] := by kernel_rfl
theorem tyS133 : tySize Try.prog 133 = 1 := by kernel_rfl
theorem tyA133 : tyAgg Try.prog 133 = some false := by kernel_rfl
theorem tyS134 : tySize Try.prog 134 = 1 := by kernel_rfl
theorem tyA134 : tyAgg Try.prog 134 = some false := by kernel_rfl
theorem tyG134 : tyTag Try.prog 134 = none := by kernel_rfl
theorem tyI134 : tyInt Try.prog 134 = some .u64 := by kernel_rfl
theorem tyY134 : tyBytes Try.prog 134 = 8 := by kernel_rfl
theorem tyZ134 : tyZero Try.prog 134 = some [.d (.i .u64 0)] := by kernel_rfl
theorem tyW134 : tyZeroT Try.prog 134 = some [.i .u64 0] := by kernel_rfl
theorem tyS135 : tySize Try.prog 135 = 1 := by kernel_rfl
theorem tyA135 : tyAgg Try.prog 135 = some false := by kernel_rfl
theorem tyS136 : tySize Try.prog 136 = 1 := by kernel_rfl
theorem tyA136 : tyAgg Try.prog 136 = some false := by kernel_rfl
theorem tyS137 : tySize Try.prog 137 = 1 := by kernel_rfl
theorem tyA137 : tyAgg Try.prog 137 = some false := by kernel_rfl
theorem tyS138 : tySize Try.prog 138 = 1 := by kernel_rfl
theorem tyA138 : tyAgg Try.prog 138 = some false := by kernel_rfl
theorem tyE138 : tyElem Try.prog 138 = some 9 := by kernel_rfl
theorem tyI138 : tyInt Try.prog 138 = none := by kernel_rfl
theorem tyT138 : tyStr Try.prog 138 = false := by kernel_rfl
theorem tyG138 : tyTag Try.prog 138 = none := by kernel_rfl
theorem tyY138 : tyBytes Try.prog 138 = 24 := by kernel_rfl
theorem tyZ138 : tyZero Try.prog 138 = some [.nl] := by kernel_rfl
theorem tyW138 : tyZeroT Try.prog 138 = some [.sl .any []] := by kernel_rfl
theorem tyS139 : tySize Try.prog 139 = 1 := by kernel_rfl
theorem tyA139 : tyAgg Try.prog 139 = some false := by kernel_rfl
theorem tyS140 : tySize Try.prog 140 = 1 := by kernel_rfl
theorem tyA140 : tyAgg Try.prog 140 = some false := by kernel_rfl
theorem tyS141 : tySize Try.prog 141 = 1 := by kernel_rfl
theorem tyA141 : tyAgg Try.prog 141 = some false := by kernel_rfl
theorem tyS142 : tySize Try.prog 142 = 1 := by kernel_rfl
theorem tyA142 : tyAgg Try.prog 142 = some false := by kernel_rfl
theorem tyS143 : tySize Try.prog 143 = 1 := by kernel_rfl
theorem tyA143 : tyAgg Try.prog 143 = some false := by kernel_rfl
theorem tyS144 : tySize Try.prog 144 = 3 := by kernel_rfl
theorem tyA144 : tyAgg Try.prog 144 = some true := by kernel_rfl
theorem tyL144 : elAnn Try.prog 144 = .any := by kernel_rfl
theorem tyG144 : tyTag Try.prog 144 = none := by kernel_rfl
theorem tyY144 : tyBytes Try.prog 144 = 32 := by kernel_rfl
theorem tyZ144 : tyZero Try.prog 144 = some [.d (.i .i64 0), .d (.i .i64 0), .d (.s ⟨#[]⟩)] := by kernel_rfl
theorem tyW144 : tyZeroT Try.prog 144 = some [.i .i64 0, .i .i64 0, .s ⟨#[]⟩] := by kernel_rfl
theorem tyO144_0 : tyOff Try.prog 144 0 = some 0 := by kernel_rfl
theorem tyO144_1 : tyOff Try.prog 144 1 = some 1 := by kernel_rfl
theorem tyO144_2 : tyOff Try.prog 144 2 = some 2 := by kernel_rfl
theorem tyF144 : tyFlds Try.prog 144 = some [(0, 1), (1, 1), (2, 1)] := by kernel_rfl
theorem tyP144 : tyPlain Try.prog 144 = some [.i, .i, .s] := by kernel_rfl
theorem tyS145 : tySize Try.prog 145 = 1 := by kernel_rfl
theorem tyA145 : tyAgg Try.prog 145 = some false := by kernel_rfl
theorem tyS146 : tySize Try.prog 146 = 1 := by kernel_rfl
theorem tyA146 : tyAgg Try.prog 146 = some false := by kernel_rfl
theorem tyS147 : tySize Try.prog 147 = 1 := by kernel_rfl
theorem tyA147 : tyAgg Try.prog 147 = some false := by kernel_rfl
theorem tyS148 : tySize Try.prog 148 = 1 := by kernel_rfl
theorem tyA148 : tyAgg Try.prog 148 = some false := by kernel_rfl
theorem tyS149 : tySize Try.prog 149 = 1 := by kernel_rfl
theorem tyA149 : tyAgg Try.prog 149 = some false := by kernel_rfl
theorem tyS150 : tySize Try.prog 150 = 1 := by kernel_rfl
theorem tyA150 : tyAgg Try.prog 150 = some false := by kernel_rfl
theorem tyS151 : tySize Try.prog 151 = 4 := by kernel_rfl
theorem tyA151 : tyAgg Try.prog 151 = some true := by kernel_rfl
theorem tyG151 : tyTag Try.prog 151 = none := by kernel_rfl
theorem tyY151 : tyBytes Try.prog 151 = 40 := by kernel_rfl
theorem tyZ151 : tyZero Try.prog 151 = some [.d (.raw (.pointer none)), .d (.raw (.pointer none)), .d (.raw (.pointer none)), .d (.s ⟨#[]⟩)] := by kernel_rfl
theorem tyO151_0 : tyOff Try.prog 151 0 = some 0 := by kernel_rfl
theorem tyO151_1 : tyOff Try.prog 151 1 = some 1 := by kernel_rfl
theorem tyO151_2 : tyOff Try.prog 151 2 = some 2 := by kernel_rfl
theorem tyO151_3 : tyOff Try.prog 151 3 = some 3 := by kernel_rfl
theorem tyF151 : tyFlds Try.prog 151 = some [(0, 1), (1, 1), (2, 1), (3, 1)] := by kernel_rfl
theorem tyS152 : tySize Try.prog 152 = 4 := by kernel_rfl
theorem tyA152 : tyAgg Try.prog 152 = some true := by kernel_rfl
theorem tyG152 : tyTag Try.prog 152 = none := by kernel_rfl
theorem tyY152 : tyBytes Try.prog 152 = 40 := by kernel_rfl
theorem tyZ152 : tyZero Try.prog 152 = some [.d (.raw (.pointer none)), .d (.raw (.pointer none)), .d (.raw (.pointer none)), .d (.s ⟨#[]⟩)] := by kernel_rfl
theorem tyO152_0 : tyOff Try.prog 152 0 = some 0 := by kernel_rfl
theorem tyO152_1 : tyOff Try.prog 152 1 = some 1 := by kernel_rfl
theorem tyO152_2 : tyOff Try.prog 152 2 = some 2 := by kernel_rfl
theorem tyO152_3 : tyOff Try.prog 152 3 = some 3 := by kernel_rfl
theorem tyF152 : tyFlds Try.prog 152 = some [(0, 1), (1, 1), (2, 1), (3, 1)] := by kernel_rfl
theorem tyS153 : tySize Try.prog 153 = 0 := by kernel_rfl
theorem tyA153 : tyAgg Try.prog 153 = some true := by kernel_rfl
theorem tyG153 : tyTag Try.prog 153 = none := by kernel_rfl
theorem tyZ153 : tyZero Try.prog 153 = some [] := by kernel_rfl
theorem tyW153 : tyZeroT Try.prog 153 = some [] := by kernel_rfl
theorem tyS154 : tySize Try.prog 154 = 0 := by kernel_rfl
theorem tyA154 : tyAgg Try.prog 154 = some true := by kernel_rfl
theorem tyG154 : tyTag Try.prog 154 = none := by kernel_rfl
theorem tyY154 : tyBytes Try.prog 154 = 0 := by kernel_rfl
theorem tyZ154 : tyZero Try.prog 154 = some [] := by kernel_rfl
theorem tyW154 : tyZeroT Try.prog 154 = some [] := by kernel_rfl
theorem tyF154 : tyFlds Try.prog 154 = some [(0, 0)] := by kernel_rfl
theorem tyS155 : tySize Try.prog 155 = 0 := by kernel_rfl
theorem tyA155 : tyAgg Try.prog 155 = some true := by kernel_rfl
theorem tyG155 : tyTag Try.prog 155 = none := by kernel_rfl
theorem tyY155 : tyBytes Try.prog 155 = 0 := by kernel_rfl
theorem tyZ155 : tyZero Try.prog 155 = some [] := by kernel_rfl
theorem tyW155 : tyZeroT Try.prog 155 = some [] := by kernel_rfl
theorem tyF155 : tyFlds Try.prog 155 = some [(0, 0)] := by kernel_rfl
theorem tyS156 : tySize Try.prog 156 = 1 := by kernel_rfl
theorem tyA156 : tyAgg Try.prog 156 = some false := by kernel_rfl
theorem tyS157 : tySize Try.prog 157 = 1 := by kernel_rfl
theorem tyA157 : tyAgg Try.prog 157 = some false := by kernel_rfl
theorem tyG157 : tyTag Try.prog 157 = none := by kernel_rfl
theorem tyI157 : tyInt Try.prog 157 = some .u32 := by kernel_rfl
theorem tyY157 : tyBytes Try.prog 157 = 4 := by kernel_rfl
theorem tyZ157 : tyZero Try.prog 157 = some [.d (.i .u32 0)] := by kernel_rfl
theorem tyW157 : tyZeroT Try.prog 157 = some [.i .u32 0] := by kernel_rfl
theorem tyS158 : tySize Try.prog 158 = 1 := by kernel_rfl
theorem tyA158 : tyAgg Try.prog 158 = some false := by kernel_rfl
theorem tyG158 : tyTag Try.prog 158 = none := by kernel_rfl
theorem tyI158 : tyInt Try.prog 158 = some .u8 := by kernel_rfl
theorem tyY158 : tyBytes Try.prog 158 = 1 := by kernel_rfl
theorem tyZ158 : tyZero Try.prog 158 = some [.d (.i .u8 0)] := by kernel_rfl
theorem tyW158 : tyZeroT Try.prog 158 = some [.i .u8 0] := by kernel_rfl
theorem tyS159 : tySize Try.prog 159 = 1 := by kernel_rfl
theorem tyA159 : tyAgg Try.prog 159 = some false := by kernel_rfl
theorem tyG159 : tyTag Try.prog 159 = none := by kernel_rfl
theorem tyI159 : tyInt Try.prog 159 = some .u8 := by kernel_rfl
theorem tyY159 : tyBytes Try.prog 159 = 1 := by kernel_rfl
theorem tyZ159 : tyZero Try.prog 159 = some [.d (.i .u8 0)] := by kernel_rfl
theorem tyW159 : tyZeroT Try.prog 159 = some [.i .u8 0] := by kernel_rfl
theorem tyS160 : tySize Try.prog 160 = 1 := by kernel_rfl
theorem tyA160 : tyAgg Try.prog 160 = some false := by kernel_rfl
theorem tyS161 : tySize Try.prog 161 = 1 := by kernel_rfl
theorem tyA161 : tyAgg Try.prog 161 = some false := by kernel_rfl
theorem tyG161 : tyTag Try.prog 161 = none := by kernel_rfl
theorem tyQ161 : tyPtr Try.prog 161 = some 5 := by kernel_rfl
theorem tyI161 : tyInt Try.prog 161 = none := by kernel_rfl
theorem tyT161 : tyStr Try.prog 161 = false := by kernel_rfl
theorem tyU161 : tyUns Try.prog 161 = false := by kernel_rfl
theorem tyZ161 : tyZero Try.prog 161 = some [.d (.raw (.pointer none))] := by kernel_rfl
theorem tyS162 : tySize Try.prog 162 = 1 := by kernel_rfl
theorem tyA162 : tyAgg Try.prog 162 = some false := by kernel_rfl
theorem tyG162 : tyTag Try.prog 162 = none := by kernel_rfl
theorem tyI162 : tyInt Try.prog 162 = some .i32 := by kernel_rfl
theorem tyY162 : tyBytes Try.prog 162 = 4 := by kernel_rfl
theorem tyZ162 : tyZero Try.prog 162 = some [.d (.i .i32 0)] := by kernel_rfl
theorem tyW162 : tyZeroT Try.prog 162 = some [.i .i32 0] := by kernel_rfl
theorem tyS163 : tySize Try.prog 163 = 1 := by kernel_rfl
theorem tyA163 : tyAgg Try.prog 163 = some false := by kernel_rfl
theorem tyG163 : tyTag Try.prog 163 = none := by kernel_rfl
theorem tyI163 : tyInt Try.prog 163 = some .i32 := by kernel_rfl
theorem tyY163 : tyBytes Try.prog 163 = 4 := by kernel_rfl
theorem tyZ163 : tyZero Try.prog 163 = some [.d (.i .i32 0)] := by kernel_rfl
theorem tyW163 : tyZeroT Try.prog 163 = some [.i .i32 0] := by kernel_rfl
theorem tyS164 : tySize Try.prog 164 = 11 := by kernel_rfl
theorem tyA164 : tyAgg Try.prog 164 = some true := by kernel_rfl
theorem tyG164 : tyTag Try.prog 164 = none := by kernel_rfl
theorem tyY164 : tyBytes Try.prog 164 = 48 := by kernel_rfl
theorem tyZ164 : tyZero Try.prog 164 = some [.d (.i .u64 0), .d (.i .u64 0), .d (.i .u32 0), .d (.i .u8 0), .d (.i .u8 0), .d (.i .u8 0), .d (.i .u8 0), .unk, .d (.raw (.pointer none)), .d (.i .i32 0), .d (.i .i32 0)] := by kernel_rfl
theorem tyO164_0 : tyOff Try.prog 164 0 = some 0 := by kernel_rfl
theorem tyO164_1 : tyOff Try.prog 164 1 = some 1 := by kernel_rfl
theorem tyO164_2 : tyOff Try.prog 164 2 = some 2 := by kernel_rfl
theorem tyO164_3 : tyOff Try.prog 164 3 = some 3 := by kernel_rfl
theorem tyO164_4 : tyOff Try.prog 164 4 = some 4 := by kernel_rfl
theorem tyO164_5 : tyOff Try.prog 164 5 = some 5 := by kernel_rfl
theorem tyO164_6 : tyOff Try.prog 164 6 = some 6 := by kernel_rfl
theorem tyO164_7 : tyOff Try.prog 164 7 = some 7 := by kernel_rfl
theorem tyO164_8 : tyOff Try.prog 164 8 = some 8 := by kernel_rfl
theorem tyO164_9 : tyOff Try.prog 164 9 = some 9 := by kernel_rfl
theorem tyO164_10 : tyOff Try.prog 164 10 = some 10 := by kernel_rfl
theorem tyF164 : tyFlds Try.prog 164 = some [(0, 1), (1, 1), (2, 1), (3, 1), (4, 1), (5, 1), (6, 1), (7, 1), (8, 1), (9, 1), (10, 1)] := by kernel_rfl
theorem tyS165 : tySize Try.prog 165 = 11 := by kernel_rfl
theorem tyA165 : tyAgg Try.prog 165 = some true := by kernel_rfl
theorem tyG165 : tyTag Try.prog 165 = none := by kernel_rfl
theorem tyY165 : tyBytes Try.prog 165 = 48 := by kernel_rfl
theorem tyZ165 : tyZero Try.prog 165 = some [.d (.i .u64 0), .d (.i .u64 0), .d (.i .u32 0), .d (.i .u8 0), .d (.i .u8 0), .d (.i .u8 0), .d (.i .u8 0), .unk, .d (.raw (.pointer none)), .d (.i .i32 0), .d (.i .i32 0)] := by kernel_rfl
theorem tyO165_0 : tyOff Try.prog 165 0 = some 0 := by kernel_rfl
theorem tyO165_1 : tyOff Try.prog 165 1 = some 1 := by kernel_rfl
theorem tyO165_2 : tyOff Try.prog 165 2 = some 2 := by kernel_rfl
theorem tyO165_3 : tyOff Try.prog 165 3 = some 3 := by kernel_rfl
theorem tyO165_4 : tyOff Try.prog 165 4 = some 4 := by kernel_rfl
theorem tyO165_5 : tyOff Try.prog 165 5 = some 5 := by kernel_rfl
theorem tyO165_6 : tyOff Try.prog 165 6 = some 6 := by kernel_rfl
theorem tyO165_7 : tyOff Try.prog 165 7 = some 7 := by kernel_rfl
theorem tyO165_8 : tyOff Try.prog 165 8 = some 8 := by kernel_rfl
theorem tyO165_9 : tyOff Try.prog 165 9 = some 9 := by kernel_rfl
theorem tyO165_10 : tyOff Try.prog 165 10 = some 10 := by kernel_rfl
theorem tyF165 : tyFlds Try.prog 165 = some [(0, 1), (1, 1), (2, 1), (3, 1), (4, 1), (5, 1), (6, 1), (7, 1), (8, 1), (9, 1), (10, 1)] := by kernel_rfl
theorem tyS166 : tySize Try.prog 166 = 1 := by kernel_rfl
theorem tyA166 : tyAgg Try.prog 166 = some false := by kernel_rfl
theorem tyU166 : tyUns Try.prog 166 = true := by kernel_rfl
theorem tyI166 : tyInt Try.prog 166 = none := by kernel_rfl
theorem tyT166 : tyStr Try.prog 166 = false := by kernel_rfl
theorem tyQ166 : tyPtr Try.prog 166 = none := by kernel_rfl
attribute [push_cast] tyS1 tyA1 tyS2 tyA2 tyG2 tyI2 tyY2 tyZ2 tyW2 tyS3 tyA3 tyL3 tyG3 tyI3 tyY3 tyZ3 tyW3 tyS4 tyA4 tyG4 tyB4 tyY4 tyZ4 tyW4 tyS5 tyA5 tyL5 tyG5 tyI5 tyY5 tyZ5 tyW5 tyS6 tyA6 tyG6 tyI6 tyY6 tyZ6 tyW6 tyS7 tyA7 tyG7 tyY7 tyZ7 tyW7 tyO7_0 tyO7_1 tyO7_2 tyO7_3 tyF7 tyS8 tyA8 tyG8 tyY8 tyZ8 tyW8 tyO8_0 tyO8_1 tyO8_2 tyO8_3 tyF8 tyS9 tyA9 tyL9 tyG9 tyT9 tyI9 tyY9 tyZ9 tyW9 tyS10 tyA10 tyG10 tyT10 tyI10 tyY10 tyZ10 tyW10 tyS11 tyA11 tyG11 tyT11 tyI11 tyY11 tyZ11 tyW11 tyS12 tyA12 tyG12 tyI12 tyY12 tyZ12 tyW12 tyS13 tyA13 tyG13 tyY13 tyZ13 tyW13 tyO13_0 tyO13_1 tyF13 tyS14 tyA14 tyG14 tyY14 tyZ14 tyW14 tyO14_0 tyO14_1 tyF14 tyS15 tyA15 tyG15 tyQ15 tyI15 tyT15 tyU15 tyZ15 tyS16 tyA16 tyG16 tyQ16 tyI16 tyT16 tyU16 tyZ16 tyS17 tyA17 tyG17 tyQ17 tyI17 tyT17 tyU17 tyZ17 tyS18 tyA18 tyG18 tyY18 tyZ18 tyO18_0 tyF18 tyS19 tyA19 tyG19 tyY19 tyZ19 tyO19_0 tyF19 tyS21 tyA21 tyG21 tyI21 tyY21 tyZ21 tyW21 tyS22 tyA22 tyE22 tyI22 tyT22 tyG22 tyY22 tyZ22 tyW22 tyS23 tyA23 tyG23 tyY23 tyZ23 tyW23 tyO23_0 tyO23_1 tyF23 tyS24 tyA24 tyG24 tyY24 tyZ24 tyW24 tyO24_0 tyO24_1 tyF24 tyS25 tyA25 tyS26 tyA26 tyE26 tyI26 tyT26 tyL26 tyG26 tyY26 tyZ26 tyW26 tyS27 tyA27 tyG27 tyY27 tyZ27 tyW27 tyO27_0 tyO27_1 tyF27 tyS28 tyA28 tyG28 tyY28 tyZ28 tyW28 tyO28_0 tyO28_1 tyF28 tyS29 tyA29 tyS30 tyA30 tyS31 tyA31 tyS32 tyA32 tyS33 tyA33 tyS34 tyA34 tyE34 tyI34 tyT34 tyG34 tyY34 tyZ34 tyW34 tyS35 tyA35 tyS36 tyA36 tyE36 tyI36 tyT36 tyG36 tyY36 tyZ36 tyW36 tyS37 tyA37 tyS38 tyA38 tyS39 tyA39 tyS40 tyA40 tyS41 tyA41 tyS42 tyA42 tyS43 tyA43 tyS44 tyA44 tyE44 tyI44 tyT44 tyG44 tyY44 tyZ44 tyW44 tyS45 tyA45 tyS47 tyA47 tyS48 tyA48 tyE48 tyI48 tyT48 tyL48 tyG48 tyY48 tyZ48 tyW48 tyS50 tyA50 tyS51 tyA51 tyE51 tyI51 tyT51 tyG51 tyY51 tyZ51 tyW51 tyS53 tyA53 tyS54 tyA54 tyS56 tyA56 tyS58 tyA58 tyS59 tyA59 tyS60 tyA60 tyS61 tyA61 tyS62 tyA62 tyS63 tyA63 tyG63 tyY63 tyZ63 tyW63 tyO63_0 tyO63_1 tyF63 tyS64 tyA64 tyL64 tyG64 tyY64 tyZ64 tyW64 tyO64_0 tyO64_1 tyF64 tyS65 tyA65 tyS66 tyA66 tyS67 tyA67 tyS68 tyA68 tyS69 tyA69 tyS70 tyA70 tyS71 tyA71 tyS72 tyA72 tyS73 tyA73 tyS74 tyA74 tyS75 tyA75 tyS76 tyA76 tyG76 tyY76 tyZ76 tyW76 tyO76_0 tyO76_1 tyF76 tyS77 tyA77 tyL77 tyG77 tyY77 tyZ77 tyW77 tyO77_0 tyO77_1 tyF77 tyS78 tyA78 tyG78 tyY78 tyZ78 tyW78 tyO78_0 tyO78_1 tyF78 tyS79 tyA79 tyL79 tyG79 tyY79 tyZ79 tyW79 tyO79_0 tyO79_1 tyF79 tyS80 tyA80 tyS81 tyA81 tyS82 tyA82 tyS83 tyA83 tyS84 tyA84 tyS85 tyA85 tyG85 tyQ85 tyI85 tyT85 tyU85 tyZ85 tyS86 tyA86 tyS87 tyA87 tyS88 tyA88 tyS89 tyA89 tyS90 tyA90 tyS91 tyA91 tyG91 tyY91 tyZ91 tyW91 tyO91_0 tyO91_1 tyO91_2 tyF91 tyS92 tyA92 tyL92 tyG92 tyY92 tyZ92 tyW92 tyO92_0 tyO92_1 tyO92_2 tyF92 tyP92 tyS93 tyA93 tyS94 tyA94 tyS95 tyA95 tyE95 tyI95 tyT95 tyG95 tyY95 tyZ95 tyW95 tyS96 tyA96 tyS97 tyA97 tyS98 tyA98 tyS99 tyA99 tyS100 tyA100 tyS101 tyA101 tyS102 tyA102 tyS103 tyA103 tyS104 tyA104 tyS106 tyA106 tyS107 tyA107 tyS108 tyA108 tyS109 tyA109 tyE109 tyI109 tyT109 tyG109 tyY109 tyZ109 tyW109 tyS110 tyA110 tyG110 tyY110 tyZ110 tyW110 tyO110_0 tyO110_1 tyF110 tyS111 tyA111 tyL111 tyG111 tyY111 tyZ111 tyW111 tyO111_0 tyO111_1 tyF111 tyS112 tyA112 tyS113 tyA113 tyS114 tyA114 tyS115 tyA115 tyS116 tyA116 tyS117 tyA117 tyG117 tyY117 tyZ117 tyW117 tyO117_0 tyO117_1 tyO117_2 tyF117 tyS118 tyA118 tyG118 tyY118 tyZ118 tyW118 tyO118_0 tyO118_1 tyO118_2 tyF118 tyS119 tyA119 tyS120 tyA120 tyS121 tyA121 tyS122 tyA122 tyS123 tyA123 tyS124 tyA124 tyS125 tyA125 tyS126 tyA126 tyS127 tyA127 tyS129 tyA129 tyS130 tyA130 tyS131 tyA131 tyS132 tyA132 tyE132 tyI132 tyT132 tyG132 tyY132 tyZ132 tyW132 tyS133 tyA133 tyS134 tyA134 tyG134 tyI134 tyY134 tyZ134 tyW134 tyS135 tyA135 tyS136 tyA136 tyS137 tyA137 tyS138 tyA138 tyE138 tyI138 tyT138 tyG138 tyY138 tyZ138 tyW138 tyS139 tyA139 tyS140 tyA140 tyS141 tyA141 tyS142 tyA142 tyS143 tyA143 tyS144 tyA144 tyL144 tyG144 tyY144 tyZ144 tyW144 tyO144_0 tyO144_1 tyO144_2 tyF144 tyP144 tyS145 tyA145 tyS146 tyA146 tyS147 tyA147 tyS148 tyA148 tyS149 tyA149 tyS150 tyA150 tyS151 tyA151 tyG151 tyY151 tyZ151 tyO151_0 tyO151_1 tyO151_2 tyO151_3 tyF151 tyS152 tyA152 tyG152 tyY152 tyZ152 tyO152_0 tyO152_1 tyO152_2 tyO152_3 tyF152 tyS153 tyA153 tyG153 tyZ153 tyW153 tyS154 tyA154 tyG154 tyY154 tyZ154 tyW154 tyF154 tyS155 tyA155 tyG155 tyY155 tyZ155 tyW155 tyF155 tyS156 tyA156 tyS157 tyA157 tyG157 tyI157 tyY157 tyZ157 tyW157 tyS158 tyA158 tyG158 tyI158 tyY158 tyZ158 tyW158 tyS159 tyA159 tyG159 tyI159 tyY159 tyZ159 tyW159 tyS160 tyA160 tyS161 tyA161 tyG161 tyQ161 tyI161 tyT161 tyU161 tyZ161 tyS162 tyA162 tyG162 tyI162 tyY162 tyZ162 tyW162 tyS163 tyA163 tyG163 tyI163 tyY163 tyZ163 tyW163 tyS164 tyA164 tyG164 tyY164 tyZ164 tyO164_0 tyO164_1 tyO164_2 tyO164_3 tyO164_4 tyO164_5 tyO164_6 tyO164_7 tyO164_8 tyO164_9 tyO164_10 tyF164 tyS165 tyA165 tyG165 tyY165 tyZ165 tyO165_0 tyO165_1 tyO165_2 tyO165_3 tyO165_4 tyO165_5 tyO165_6 tyO165_7 tyO165_8 tyO165_9 tyO165_10 tyF165 tyS166 tyA166 tyU166 tyI166 tyT166 tyQ166
end Go.Av
end
